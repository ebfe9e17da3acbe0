/- parbreak.Total, of ways that may be. -/
import Derived.Test.YtiaaiihdamkeaaaK7
set_option maxRecDepth 100000
set_option linter.unusedVariables false
namespace Go.Proofs.Ytiaaiihdamkeaaa
open Go Go.Eng Go.RowKit Go.Ar

/-- a way, from a place on -/
def WayOk (must : List Bool) (n : Nat) : Nat → List Nat → Prop
  | last, [] => last = n
  | last, j :: r => last < j ∧ j ≤ n ∧ (∀ q, last < q → q < j → nth must q = false) ∧ WayOk must n j r
def totF (p : Par) : Nat → Nat → List Nat → Int
  | _, _, [] => 0
  | last, k, j :: r => costF p last j k + totF p j (k + 1) r
theorem nthN {l : List Nat} {i : Nat} (h : i < l.length) : l.drop i = nth l i :: l.drop (i + 1) := by
  rw [List.drop_eq_getElem_cons h]
  unfold nth
  rw [List.getD_eq_getElem?_getD, List.getElem?_eq_getElem h]
  rfl
theorem way_len (must : List Bool) (n : Nat) : ∀ (l : List Nat) (last : Nat), WayOk must n last l → last + l.length ≤ n
  | [], last, h => by unfold WayOk at h; simp; omega
  | j :: r, last, h => by
    obtain ⟨h1, h2, _, h4⟩ := h
    have := way_len must n r j h4
    rw [List.length_cons]; omega
theorem way_last (must : List Bool) (n : Nat) : ∀ (l : List Nat) (last : Nat), WayOk must n last l → l ≠ [] → nth l (l.length - 1) = n
  | [], last, h, hne => absurd rfl hne
  | [j], last, h, _ => by
    obtain ⟨h1, h2, _, h4⟩ := h
    exact h4
  | j :: i :: r, last, h, _ => by
    obtain ⟨h1, h2, _, h4⟩ := h
    have := way_last must n (i :: r) j h4 (by simp)
    rw [← this]
    show nth (j :: i :: r) (r.length + 1) = nth (i :: r) r.length
    simp [nth]
structure St (p : Par) (br : List Nat) where
  i : Nat
  sum : Int
  last : Nat
  hi : i ≤ br.length
  hl : i ≤ last
  hw : WayOk p.must p.n last (br.drop i)
  h0 : 0 ≤ sum ∧ sum ≤ (i : Int) * 2200000000000
  e : sum + totF p last i (br.drop i) = totF p 0 0 br
theorem total_p (p : Par) (hMay : May p.must p.lines p.ws) (hp : hMay.par = p) (br : List Nat) (hbr : WayOk p.must p.n 0 br) (mv lv wv bv : Value) (w : World)
    (hm : Rd w mv 1 bE p.must) (hl : Rd w lv 3 lE p.lines) (hw : Rd w wv 1 iE p.ws) (hb : Rd w bv 1 nE br) :
    Calls Try.prog 9 #[mv, lv, wv, bv] w fun e w' => e = .returned (.tuple #[.int .i64 (totF p 0 0 br), .int .i64 0]) ∧ Below w.heap.size w w' := by
  refine calls_exec (cf := cf) cfok (fn := Try.f9) Try.func9 rfl [.sl 0, .sl 1, .sl 2, .sl 3] [.rd Bool inferInstance 1 bE p.must, .rd Ln inferInstance 3 lE p.lines, .rd Int inferInstance 1 iE p.ws, .rd Nat inferInstance 1 nE br] (ρ := fun i => match i with | 0 => mv | 1 => lv | 2 => wv | _ => bv) (· < w.heap.size) rfl rfl rfl (by simp [svOkL, svOk]) (memRd (fun _ h => h) ⟨hm, hl, hw, hb, trivial⟩) ?_
  have hn := p.hn
  have hsq := sq_le p.hn.2 (i := 0) (j := 0) (by omega) (by omega)
  have hlen := way_len p.must p.n br 0 hbr
  have hne : br ≠ [] := fun h => by rw [h] at hbr; have : 0 = p.n := hbr; omega
  have hpos : 0 < br.length := by cases br with | nil => exact absurd rfl hne | cons => simp
  have hlast := way_last p.must p.n br 0 hbr hne
  refine Or.inr (lcall_reps [.ptr (parD p), .v (.bool true)] (fun ρ S w hm => (made_c p.must p.lines p.ws (by rw [p.hm]; omega) (by rw [p.hl]; omega) (by have := p.hw; omega) _ _ _ w S hm.lt (hm.rdS 0 rfl rfl) (hm.rdS 1 rfl rfl) (hm.rdS 2 rfl rfl)).mono fun e w' hh => by
    obtain ⟨_, v, he, hd⟩ := hh.2.resolve_left fun h => h.1 hMay
    rw [hp] at hd
    exact ⟨[v, .bool true], he, hh.1, hd, rfl, trivial⟩) ?_)
  refine Or.inl ⟨by kernel_rfl, ?_⟩
  have e1 : IntKind.i64.wrap ((br.length : Int) - 1) = ((br.length - 1 : Nat) : Int) := by rw [i64_id _ (by omega) (by omega)]; omega
  refine And.intro (fun _ => ⟨by rw [e1]; omega, by rw [e1]; omega⟩) ?_
  refine And.intro (fun hbad => ?_) (fun _ => ?_)
  · exfalso
    have hbad : ((!true || decide ((br.length : Int) = 0)) || !decide (((nth br (IntKind.i64.wrap ((br.length : Int) - 1)).toNat : Nat) : Int) = ((p.n : Nat) : Int))) = true := hbad
    rw [e1, Int.toNat_natCast, hlast, decide_eq_false (show ¬ (br.length : Int) = 0 by omega)] at hbad
    simp at hbad
  refine ⟨St p br, fun s => ⟨79, [⟨0, [], .sl 0⟩, ⟨10, [], .bx 4 0⟩, ⟨12, [], .v (.int .i64 s.sum)⟩, ⟨13, [], .v (.int .i64 (s.last : Nat))⟩, ⟨43, [], .sl 3⟩, ⟨44, [], .v (.int .i64 (br.length : Nat))⟩, ⟨45, [], .v (.int .i64 (s.i : Nat))⟩],
    [.rd Bool inferInstance 1 bE p.must, .rd Ln inferInstance 3 lE p.lines, .rd Int inferInstance 1 iE p.ws, .rd Nat inferInstance 1 nE br, .rp [] (parD p)], [], dropL nats 5⟩, fun s => br.length - s.i, ⟨[0, 1, 2, 3, 4], ⟨0, 0, 0, by omega, by omega, hbr, ⟨by omega, by omega⟩, by rw [Int.zero_add]; rfl⟩, ?_⟩, fun s => ?_⟩
  · exact And.intro (And.intro rfl (And.intro rfl (And.intro rfl (And.intro rfl (And.intro rfl (And.intro rfl (And.intro rfl trivial))))))) (And.intro rfl (And.intro rfl (And.intro rfl (And.intro rfl (And.intro ⟨rfl, rfl⟩ trivial)))))
  obtain ⟨i, sum, last, hi, hil, hwy, h0, he⟩ := s
  refine And.intro (fun hlt => ?_) (fun hge => ?_)
  · have hlt : i < br.length := by
      have : ((i : Nat) : Int) < ((br.length : Nat) : Int) := of_decide_eq_true hlt
      omega
    rw [nthN hlt] at hwy he
    obtain ⟨j, hj⟩ : ∃ j, j = nth br i := ⟨_, rfl⟩
    have hwl := way_len _ _ _ _ hwy
    rw [← hj] at hwy he
    obtain ⟨w1, w2, w3, w4⟩ := hwy
    refine And.intro (show (0 : Int) ≤ ((i : Nat) : Int) ∧ ((i : Nat) : Int) < ((br.length : Nat) : Int) from ⟨by omega, by omega⟩) ?_
    have e2 : IntKind.i64.wrap ((last : Int) + 1) = ((last + 1 : Nat) : Int) := i64_succ last (by omega)
    refine Or.inl (And.intro (fun _ => (show 0 ≤ IntKind.i64.wrap ((last : Int) + 1) ∧ IntKind.i64.wrap ((last : Int) + 1) ≤ ((nth br i : Nat) : Int) ∧ ((nth br i : Nat) : Int) ≤ ((p.must.length : Nat) : Int) from by rw [e2, ← hj, p.hm]; exact ⟨by omega, by omega, by omega⟩)) ?_)
    refine Or.inl ⟨.bool ((midL p.must (IntKind.i64.wrap ((last : Int) + 1)).toNat (nth br i)).any fun b => b), fun hg ρ S w hm => trueAny_c _ (by rw [e2, Int.toNat_natCast, midL_len _ _ _ (by rw [← hj, p.hm]; omega)]; omega) _ w (hm.cnd 5 rfl rfl (And.intro hg trivial)), ?_⟩
    rw [e2, Int.toNat_natCast, ← hj]
    have hno : ((midL p.must (last + 1) j).any fun b => b) = false := by
      rw [List.any_eq_false]
      intro b hb
      obtain ⟨q, hq, rfl⟩ := List.getElem_of_mem hb
      have hlm : (midL p.must (last + 1) j).length = j - (last + 1) := midL_len _ _ _ (by rw [p.hm]; omega)
      have := nth_mid p.must (last + 1) j q (by omega) (by rw [p.hm]; omega)
      rw [w3 (last + 1 + q) (by omega) (by omega)] at this
      unfold nth at this
      rw [List.getD_eq_getElem?_getD, List.getElem?_eq_getElem hq] at this
      simpa using this
    refine And.intro (fun hbad => ?_) (fun _ => ?_)
    · exfalso
      have hbad : ((decide ((j : Int) ≤ (last : Int)) || decide ((j : Int) > (p.n : Int))) || ((midL p.must (last + 1) j).any fun b => b)) = true := by
        rw [hj] at *
        exact hbad
      rw [hno, decide_eq_false (by omega), decide_eq_false (by omega)] at hbad
      cases hbad
    refine Or.inl ⟨.int .i64 (costF p last j i), fun ρ S w hm => by
      have := cost_c p last j i (by omega) (by omega) (by omega) _ w (hm.rp 4 rfl rfl)
      rw [hj] at this ⊢
      exact this, ?_⟩
    have hcr := cost_range p last j i
    have es : IntKind.i64.wrap (sum + costF p last j i) = sum + costF p last j i := i64_id _ (by omega) (by omega)
    refine ⟨[0, 1, 2, 3, 4], ⟨i + 1, sum + costF p last j i, j, hlt, by omega, w4, by omega, ?_⟩, And.intro (And.intro rfl (And.intro rfl (And.intro (svI es) (And.intro rfl (And.intro rfl (And.intro rfl (And.intro (svI (i64_succ i (by omega))) trivial))))))) (And.intro rfl (And.intro rfl (And.intro rfl (And.intro rfl (And.intro ⟨rfl, rfl⟩ trivial))))), by show br.length - (i + 1) < br.length - i; omega⟩
    rw [← he]
    show sum + costF p last j i + totF p j (i + 1) (br.drop (i + 1)) = sum + (costF p last j i + totF p j (i + 1) (br.drop (i + 1)))
    omega
  · have hge : i = br.length := by
      have : ¬ ((i : Nat) : Int) < ((br.length : Nat) : Int) := of_decide_eq_false hge
      omega
    subst hge
    rw [List.drop_length] at he
    have he : sum = totF p 0 0 br := by rw [← he]; show sum = sum + 0; omega
    subst he
    exact fun ρ S w' hi => ⟨rfl, hi.below⟩
end Go.Proofs.Ytiaaiihdamkeaaa
