/- calamuslaw17.AttachMeets. -/
import Derived.Test.YtaiapnemlnmeiaaT22
namespace Go.Proofs.Ytaiapnemlnmeiaa
open Go Go.Eng Go.RowKit

structure FontR (f : Font) : Prop where
  adv : U16L f.adv
  fl : f.pfeats.length ≤ 9223372036854775807
  fk : ∀ x ∈ f.pfeats, x.lks.length ≤ 9223372036854775807
  ll : ∀ x ∈ f.poss, x.poss.length ≤ 9223372036854775807
  ps : ∀ x ∈ f.poss, ∀ s ∈ x.poss, PosB s
  ks : ∀ x ∈ f.poss, ∀ s ∈ x.poss, KernsOk s
  pts : PtsOk f
  lks : LksB f.poss
theorem FontR.ok {f : Font} (h : FontR f) (h12 : f.poss.length ≤ 12) : FontOk f := ⟨h.adv, by omega, h.fl, h.fk, h.ll, h.ps, h.ks⟩
def f0 (f : Font) : Font := ⟨f.units, f.asc, f.desc, f.adv, f.cls, f.maps, f.subs, f.sfeats, f.poss, []⟩
theorem f0Ok {f : Font} (h : FontOk f) : FontOk (f0 f) := ⟨h.adv, h.pl, Nat.zero_le _, fun x hx => by simp [f0] at hx, h.ll, h.ps, h.ks⟩
theorem f0look (f : Font) (l : List Int) : ∀ n, lookF (f0 f) l n = l.map (startP (f0 f))
  | 0 => rfl
  | n + 1 => by
    rw [lookF, if_neg (by show ¬ decide ((-1 : Int) ≥ 0) = true; decide)]
    exact f0look f l n
theorem f0apply {f : Font} (h : FontOk f) {l : List Int} (hl : U16L l) : (applyF (f0 f) l).length = l.length ∧ ∀ i, i < l.length → nth (applyF (f0 f) l) i = ⟨advF f (nth l i), -1, 0, 0⟩ := by
  have e : applyF (f0 f) l = l.map (startP (f0 f)) := f0look f l _
  rw [e]
  refine ⟨List.length_map _, fun i hi => ?_⟩
  rw [nth_map _ _ _ hi]
  have := startP_adv (f := f0 f) h.adv (nth l i) (hl.nth hi).1
  show (⟨(startP (f0 f) (nth l i)).adv, -1, 0, 0⟩ : Place) = _
  rw [this]
  rfl

set_option maxHeartbeats 1000000 in
theorem lawMeets_c (f : Font) (l : List Int) (rtl : Bool) (hR : FontR f) (hl : U16L l) (vf vl : Value) (w : World) (hvf : FontV (· < w.heap.size) w f vf) (hvl : Rd w vl 1 hE l) :
    Calls Try.prog 3 #[vf, vl, .bool rtl] w fun e w' => e = .returned (.bool true) ∧ Below w.heap.size w w' := by
  obtain ⟨a, c, mm, s, sf, p, pf, rfl, h1, h2, h3, h4, h5, h6, h7⟩ := hvf.get
  refine calls_exec (cf := cf) cfok (fn := Try.f3) Try.func3 rfl [.agg (foS f 0), .sl 7, .v (.bool rtl)] (foC f ++ [Chunk.rd Int inferInstance 1 hE l]) (ρ := rho8 a c mm s sf p pf vl) (· < w.heap.size) rfl rfl rfl (by simp [svOkL, svOk]) (memRd (fun _ h => h) ⟨h1, h2, h3, h4, h5, h6, h7, hvl, trivial⟩) ?_
  refine Or.inl ⟨.bool (fewF f), fun ρ S w hm => few_c f hR.lks _ w (fontMk (hm.rd 0 rfl rfl) (hm.rd 1 rfl rfl) (hm.rd 2 rfl rfl) (hm.rd 3 rfl rfl) (hm.rd 4 rfl rfl) (hm.rd 5 rfl rfl) (hm.rd 6 rfl rfl)), ?_⟩
  refine And.intro (fun h => ?_) (fun hfew => ?_)
  · refine Or.inl ⟨.bool true, fun ρ S w' hm => works_c w', ?_⟩
    exact fun ρ S w' hi => ⟨rfl, hi.below⟩
  have hfew : ((!fewF f) || decide ((l.length : Int) > 100)) = false := hfew
  rw [Bool.or_eq_false_iff, Bool.not_eq_false', decide_eq_false_iff_not] at hfew
  have hll : l.length ≤ 100 := by omega
  have h12 : f.poss.length ≤ 12 := by
    have h := hfew.1
    unfold fewF at h
    rw [Bool.and_eq_true, Bool.not_eq_true', Bool.or_eq_false_iff, Bool.or_eq_false_iff, Bool.or_eq_false_iff, decide_eq_false_iff_not] at h
    omega
  have hf := hR.ok h12
  obtain ⟨hol0, hnth0⟩ := f0apply hf hl
  obtain ⟨hol, hst⟩ := apply_stand f l
  have hrow := apply_row hf hR.pts h12 hl hll
  have horg := row_org hrow rtl
  have hglen : (originsF (applyF f l) rtl).length = l.length := by unfold originsF; rw [glF_len]; exact hol
  refine Or.inr (lcall_fresh2 (applyF (f0 f) l) (.int .i64 0) (fun ρ S w hm => apply_c (f0 f) l (f0Ok hf) hl (by omega) _ _ w (fontMk (f := f0 f) (hm.rd 0 rfl rfl) (hm.rd 1 rfl rfl) (hm.rd 2 rfl rfl) (hm.rd 3 rfl rfl) (hm.rd 4 rfl rfl) (hm.rd 5 rfl rfl) DRep.nil) (hm.rd 7 rfl rfl)) ?_)
  refine And.intro (fun hb => ?_) (fun _ => ?_)
  · have hb : (!decide (((applyF (f0 f) l).length : Int) = (l.length : Int))) = true := hb
    rw [hol0] at hb
    simp at hb
  refine ⟨{ i : Nat // i ≤ l.length }, fun i => ⟨230, [⟨1, [], .sl 7⟩, ⟨2, [], .v (.bool rtl)⟩, ⟨3, [], .bx 8 0⟩, ⟨8, [], .sl 9⟩, ⟨10, [], .v (.int .i64 i.1)⟩], foC f ++ [.rd Int inferInstance 1 hE l, .bx 30 (foS f 0), .own 38 Place inferInstance 4 plE (applyF (f0 f) l)], [], dropL nats 10⟩, fun i => l.length - i.1,
    ⟨[0, 1, 2, 3, 4, 5, 6, 7, 8, 10], ⟨0, by omega⟩, ?_⟩, fun i => ?_⟩
  · exact And.intro (And.intro (rfl) (And.intro (rfl) (And.intro (rfl) (And.intro (rfl) (And.intro (rfl) trivial))))) (And.intro (rfl) (And.intro (rfl) (And.intro (rfl) (And.intro (rfl) (And.intro (rfl) (And.intro (rfl) (And.intro (rfl) (And.intro (rfl) (And.intro (⟨rfl, rfl⟩) (And.intro (rfl) trivial))))))))))
  obtain ⟨i, hi⟩ := i
  refine And.intro (fun hlt => ?_) (fun hge => ?_)
  · have hlt : i < l.length := by (have : (i : Int) < ((applyF (f0 f) l).length : Int) := of_decide_eq_true hlt); omega
    have hg := hl.nth hlt
    have hval := hnth0 i hlt
    have hadv := advF_range hf.adv (nth l i) hg.1
    refine Or.inl ⟨by kernel_rfl, ?_⟩
    refine And.intro (show (0 : Int) ≤ (i : Int) ∧ (i : Int) < ((applyF (f0 f) l).length : Int) from ⟨by omega, by omega⟩) ?_
    refine And.intro (show (0 : Int) ≤ (i : Int) ∧ (i : Int) < ((l).length : Int) from ⟨by omega, by omega⟩) ?_
    refine ⟨.int .u16 (advF f (nth l i)), fun ρ S w hm => advance_c f (nth l i) hg.1 hg.2 _ w (fontMk (hm.rd 0 rfl rfl) (hm.rd 1 rfl rfl) (hm.rd 2 rfl rfl) (hm.rd 3 rfl rfl) (hm.rd 4 rfl rfl) (hm.rd 5 rfl rfl) (hm.rd 6 rfl rfl)), ?_⟩
    refine And.intro (fun _ => show (0 : Int) ≤ (i : Int) ∧ (i : Int) < ((applyF (f0 f) l).length : Int) from ⟨by omega, by omega⟩) ?_
    refine And.intro (fun _ => show (0 : Int) ≤ (i : Int) ∧ (i : Int) < ((applyF (f0 f) l).length : Int) from ⟨by omega, by omega⟩) ?_
    refine And.intro (fun _ => show (0 : Int) ≤ (i : Int) ∧ (i : Int) < ((applyF (f0 f) l).length : Int) from ⟨by omega, by omega⟩) ?_
    refine And.intro (fun hb => ?_) (fun _ => ?_)
    · have hb : (((!decide ((nth (applyF (f0 f) l) i).adv = IntKind.i32.wrap (advF f (nth l i))) || !decide ((nth (applyF (f0 f) l) i).on = -1)) || !decide ((nth (applyF (f0 f) l) i).x = 0)) || !decide ((nth (applyF (f0 f) l) i).y = 0)) = true := hb
      rw [hval, show IntKind.i32.wrap (advF f (nth l i)) = advF f (nth l i) from by rw [IntKind.wrap_i32]; omega] at hb
      simp at hb
    exact ⟨[0, 1, 2, 3, 4, 5, 6, 7, 8, 9], ⟨i + 1, hlt⟩, And.intro (And.intro (rfl) (And.intro (rfl) (And.intro (rfl) (And.intro (rfl) (And.intro (svI (i64_succ i (by omega))) trivial))))) (And.intro (rfl) (And.intro (rfl) (And.intro (rfl) (And.intro (rfl) (And.intro (rfl) (And.intro (rfl) (And.intro (rfl) (And.intro (rfl) (And.intro (⟨rfl, rfl⟩) (And.intro (rfl) trivial)))))))))), by show _ - (i + 1) < _ - i; omega⟩
  refine Or.inr (lcall_fresh2 (applyF f l) (.int .i64 0) (fun ρ S w hm => apply_c f l hf hl (by omega) _ _ w (fontMk (hm.rd 0 rfl rfl) (hm.rd 1 rfl rfl) (hm.rd 2 rfl rfl) (hm.rd 3 rfl rfl) (hm.rd 4 rfl rfl) (hm.rd 5 rfl rfl) (hm.rd 6 rfl rfl)) (hm.rd 7 rfl rfl)) ?_)
  refine And.intro (fun hb => ?_) (fun _ => ?_)
  · have hb : (!decide (((applyF f l).length : Int) = (l.length : Int))) = true := hb
    rw [hol] at hb
    simp at hb
  refine Or.inr (lcall_fresh2 (originsF (applyF f l) rtl) (.int .i64 0) (fun ρ S w hm => origins_c (applyF f l) rtl horg (by omega) _ w (hm.own 10 rfl rfl)) ?_)
  refine And.intro (fun hb => ?_) (fun _ => ?_)
  · have hb : (!decide (((originsF (applyF f l) rtl).length : Int) = (l.length : Int))) = true := hb
    rw [hglen] at hb
    simp at hb
  refine ⟨Int, inferInstance, jE, 0, rfl, by omega, by show (4 : Int) * (l.length : Int) ≤ _; omega, by omega, rfl, ?_⟩
  have hrep : List.replicate ((l.length : Int)).toNat (0 : Int) = putF (applyF f l) rtl 0 := by unfold putF; rw [hol]; rfl
  refine ⟨{ n : Nat // n ≤ l.length }, fun n => ⟨230, [⟨1, [], .sl 7⟩, ⟨2, [], .v (.bool rtl)⟩, ⟨3, [], .bx 8 0⟩, ⟨8, [], .sl 9⟩, ⟨11, [], .sl 10⟩, ⟨12, [], .sl 11⟩, ⟨13, [], .v (.int .i32 (penF (applyF f l) rtl n.1))⟩, ⟨14, [], .v (.int .i64 n.1)⟩], foC f ++ [.rd Int inferInstance 1 hE l, .bx 30 (foS f 0), .own 38 Place inferInstance 4 plE (applyF f l), .own 45 Gl inferInstance 6 glE (originsF (applyF f l) rtl), .own 21 Int inferInstance 1 jE (putF (applyF f l) rtl n.1)], [], dropL nats 12⟩, fun n => l.length - n.1,
    ⟨[0, 1, 2, 3, 4, 5, 6, 7, 8, 10, 11, 12], ⟨0, by omega⟩, ?_⟩, fun n => ?_⟩
  · exact And.intro (And.intro (rfl) (And.intro (rfl) (And.intro (rfl) (And.intro (rfl) (And.intro (rfl) (And.intro (rfl) (And.intro (rfl) (And.intro (rfl) trivial)))))))) (And.intro (rfl) (And.intro (rfl) (And.intro (rfl) (And.intro (rfl) (And.intro (rfl) (And.intro (rfl) (And.intro (rfl) (And.intro (rfl) (And.intro (⟨rfl, rfl⟩) (And.intro (rfl) (And.intro (rfl) (And.intro (congrArg (fun z => Chunk.own 21 Int inferInstance 1 jE z) hrep) trivial))))))))))))
  obtain ⟨n, hn⟩ := n
  refine And.intro (fun hlt => ?_) (fun hge => ?_)
  · have hlt : n < l.length := by (have : (n : Int) < (l.length : Int) := of_decide_eq_true hlt); omega
    have hrj := rowJ_lt (n := (applyF f l).length) (back := rtl) (j := n) (by omega)
    refine And.intro (fun hb => ?_) (fun hb => ?_)
    · have hb : rtl = true := hb
      have hE : IntKind.i64.wrap (IntKind.i64.wrap ((l.length : Int) - 1) - (n : Int)) = ((rowJ (applyF f l).length rtl n : Nat) : Int) := by
        rw [i64_id ((l.length : Int) - 1) (by omega) (by omega), i64_id _ (by omega) (by omega)]
        unfold rowJ; rw [if_pos hb, hol]; omega
      refine And.intro (show (0 : Int) ≤ IntKind.i64.wrap (IntKind.i64.wrap ((l.length : Int) - 1) - (n : Int)) ∧ IntKind.i64.wrap (IntKind.i64.wrap ((l.length : Int) - 1) - (n : Int)) < ((putF (applyF f l) rtl n).length : Int) from ⟨by omega, by rw [putF_len]; omega⟩) ?_
      refine ⟨penF (applyF f l) rtl n, rfl, rfl, ?_⟩
      refine And.intro (show (0 : Int) ≤ IntKind.i64.wrap (IntKind.i64.wrap ((l.length : Int) - 1) - (n : Int)) ∧ IntKind.i64.wrap (IntKind.i64.wrap ((l.length : Int) - 1) - (n : Int)) < ((applyF f l).length : Int) from ⟨by omega, by omega⟩) ?_
      have hP : (putF (applyF f l) rtl n).set (IntKind.i64.wrap (IntKind.i64.wrap ((l.length : Int) - 1) - (n : Int))).toNat (penF (applyF f l) rtl n) = putF (applyF f l) rtl (n + 1) := by rw [hE]; rfl
      have hN : IntKind.i32.wrap (penF (applyF f l) rtl n + (nth (applyF f l) (IntKind.i64.wrap (IntKind.i64.wrap ((l.length : Int) - 1) - (n : Int))).toNat).adv) = penF (applyF f l) rtl (n + 1) := by
        rw [hE]
        have := horg.pen (n + 1) (by omega)
        unfold I32 at this
        show IntKind.i32.wrap (penF (applyF f l) rtl (n + 1)) = _
        rw [IntKind.wrap_i32]; omega
      exact ⟨[0, 1, 2, 3, 4, 5, 6, 7, 8, 9, 10, 11], ⟨n + 1, by omega⟩, And.intro (And.intro (rfl) (And.intro (rfl) (And.intro (rfl) (And.intro (rfl) (And.intro (rfl) (And.intro (rfl) (And.intro (svI hN) (And.intro (svI (i64_succ n (by omega))) trivial)))))))) (And.intro (rfl) (And.intro (rfl) (And.intro (rfl) (And.intro (rfl) (And.intro (rfl) (And.intro (rfl) (And.intro (rfl) (And.intro (rfl) (And.intro (⟨rfl, rfl⟩) (And.intro (rfl) (And.intro (rfl) (And.intro (congrArg (fun z => Chunk.own 21 Int inferInstance 1 jE z) hP) trivial)))))))))))), by show _ - (n + 1) < _ - n; omega⟩
    · have hb : rtl = false := hb
      have hE : (n : Int) = ((rowJ (applyF f l).length rtl n : Nat) : Int) := by
        unfold rowJ; rw [if_neg (by rw [hb]; decide)]
      refine And.intro (show (0 : Int) ≤ (n : Int) ∧ (n : Int) < ((putF (applyF f l) rtl n).length : Int) from ⟨by omega, by rw [putF_len]; omega⟩) ?_
      refine ⟨penF (applyF f l) rtl n, rfl, rfl, ?_⟩
      refine And.intro (show (0 : Int) ≤ (n : Int) ∧ (n : Int) < ((applyF f l).length : Int) from ⟨by omega, by omega⟩) ?_
      have hP : (putF (applyF f l) rtl n).set ((n : Int)).toNat (penF (applyF f l) rtl n) = putF (applyF f l) rtl (n + 1) := by rw [hE]; rfl
      have hN : IntKind.i32.wrap (penF (applyF f l) rtl n + (nth (applyF f l) ((n : Int)).toNat).adv) = penF (applyF f l) rtl (n + 1) := by
        rw [hE]
        have := horg.pen (n + 1) (by omega)
        unfold I32 at this
        show IntKind.i32.wrap (penF (applyF f l) rtl (n + 1)) = _
        rw [IntKind.wrap_i32]; omega
      exact ⟨[0, 1, 2, 3, 4, 5, 6, 7, 8, 9, 10, 11], ⟨n + 1, by omega⟩, And.intro (And.intro (rfl) (And.intro (rfl) (And.intro (rfl) (And.intro (rfl) (And.intro (rfl) (And.intro (rfl) (And.intro (svI hN) (And.intro (svI (i64_succ n (by omega))) trivial)))))))) (And.intro (rfl) (And.intro (rfl) (And.intro (rfl) (And.intro (rfl) (And.intro (rfl) (And.intro (rfl) (And.intro (rfl) (And.intro (rfl) (And.intro (⟨rfl, rfl⟩) (And.intro (rfl) (And.intro (rfl) (And.intro (congrArg (fun z => Chunk.own 21 Int inferInstance 1 jE z) hP) trivial)))))))))))), by show _ - (n + 1) < _ - n; omega⟩
  have hge : n = l.length := by (have : ¬ (n : Int) < (l.length : Int) := of_decide_eq_false hge); omega
  have hput : putF (applyF f l) rtl n = (putF (applyF f l) rtl (applyF f l).length) := by rw [hge, hol]
  refine ⟨{ i : Nat // i ≤ l.length }, fun i => ⟨230, [⟨1, [], .sl 7⟩, ⟨3, [], .bx 8 0⟩, ⟨8, [], .sl 9⟩, ⟨11, [], .sl 10⟩, ⟨12, [], .sl 11⟩, ⟨16, [], .v (.int .i64 i.1)⟩], foC f ++ [.rd Int inferInstance 1 hE l, .bx 30 (foS f 0), .own 38 Place inferInstance 4 plE (applyF f l), .own 45 Gl inferInstance 6 glE (originsF (applyF f l) rtl), .own 21 Int inferInstance 1 jE (putF (applyF f l) rtl (applyF f l).length)], [], dropL nats 12⟩, fun i => l.length - i.1,
    ⟨[0, 1, 2, 3, 4, 5, 6, 7, 8, 9, 10, 11], ⟨0, by omega⟩, ?_⟩, fun i => ?_⟩
  · exact And.intro (And.intro (rfl) (And.intro (rfl) (And.intro (rfl) (And.intro (rfl) (And.intro (rfl) (And.intro (rfl) trivial)))))) (And.intro (rfl) (And.intro (rfl) (And.intro (rfl) (And.intro (rfl) (And.intro (rfl) (And.intro (rfl) (And.intro (rfl) (And.intro (rfl) (And.intro (⟨rfl, rfl⟩) (And.intro (rfl) (And.intro (rfl) (And.intro (congrArg (fun z => Chunk.own 21 Int inferInstance 1 jE z) hput) trivial))))))))))))
  obtain ⟨i, hi⟩ := i
  refine And.intro (fun hlt => ?_) (fun hge => ?_)
  · have hlt : i < l.length := by (have : (i : Int) < (l.length : Int) := of_decide_eq_true hlt); omega
    have hon := hrow.on i (by omega)
    have hsti := hst i hlt
    have hgi : ∀ k, k < (applyF f l).length → nth (originsF (applyF f l) rtl) k = glP (applyF f l) (putF (applyF f l) rtl (applyF f l).length) (drF (applyF f l) (putF (applyF f l) rtl (applyF f l).length) k) k := fun k hk => by unfold originsF; exact glF_nth _ _ _ (Nat.le_refl _) k hk
    have hgii := hgi i (by omega)
    have hplen := putF_len (applyF f l) rtl (applyF f l).length
    have hD : (nth (applyF f l) i).on ≥ 0 → drE (applyF f l) (putF (applyF f l) rtl (applyF f l).length) (drF (applyF f l) (putF (applyF f l) rtl (applyF f l).length) i) i = ⟨(drE (applyF f l) (putF (applyF f l) rtl (applyF f l).length) (drF (applyF f l) (putF (applyF f l) rtl (applyF f l).length) (nth (applyF f l) i).on.toNat) (nth (applyF f l) i).on.toNat).x + (nth (applyF f l) i).x, (drE (applyF f l) (putF (applyF f l) rtl (applyF f l).length) (drF (applyF f l) (putF (applyF f l) rtl (applyF f l).length) (nth (applyF f l) i).on.toNat) (nth (applyF f l) i).on.toNat).y + (nth (applyF f l) i).y⟩ := fun h => by
      rw [← drF_nth (applyF f l) (putF (applyF f l) rtl (applyF f l).length) i (by omega) (nth (applyF f l) i).on.toNat (by omega)]
      conv => lhs; unfold drE
      rw [if_pos h]
    have hN : (nth (applyF f l) i).on = -1 → (nth (originsF (applyF f l) rtl) i).x = 0 ∧ (nth (originsF (applyF f l) rtl) i).y = 0 := fun h => by
      rw [hgii]
      unfold glP drE
      rw [if_neg (by omega)]
      exact ⟨Int.sub_self _, rfl⟩
    refine And.intro (show (0 : Int) ≤ (i : Int) ∧ (i : Int) < ((applyF f l).length : Int) from ⟨by omega, by omega⟩) ?_
    refine And.intro (fun _ _ => show (0 : Int) ≤ (i : Int) ∧ (i : Int) < ((originsF (applyF f l) rtl).length : Int) from ⟨by omega, by omega⟩) ?_
    refine And.intro (fun _ _ _ => show (0 : Int) ≤ (i : Int) ∧ (i : Int) < ((originsF (applyF f l) rtl).length : Int) from ⟨by omega, by omega⟩) ?_
    refine And.intro (fun hb => ?_) (fun _ => ?_)
    · have hb : ((decide ((nth (applyF f l) i).on < -1) || decide ((nth (applyF f l) i).on ≥ (i : Int))) || (decide ((nth (applyF f l) i).on = -1) && (!decide ((nth (originsF (applyF f l) rtl) i).x = 0) || !decide ((nth (originsF (applyF f l) rtl) i).y = 0)))) = true := hb
      rw [decide_eq_false (by omega : ¬ (nth (applyF f l) i).on < -1), decide_eq_false (by omega : ¬ (nth (applyF f l) i).on ≥ (i : Int)), Bool.false_or, Bool.false_or, Bool.and_eq_true, decide_eq_true_iff] at hb
      obtain ⟨hb1, hb2⟩ := hb
      rw [(hN hb1).1, (hN hb1).2] at hb2
      cases hb2
    have bnd : decide ((nth (applyF f l) i).on ≥ 0) = true → 0 ≤ (nth (applyF f l) i).on ∧ (nth (applyF f l) i).on < (l.length : Int) := fun h => by rw [decide_eq_true_iff] at h; omega
    refine Or.inl ⟨by kernel_rfl, ?_⟩
    refine And.intro (fun _ => show (0 : Int) ≤ (i : Int) ∧ (i : Int) < ((l).length : Int) from ⟨by omega, by omega⟩) ?_
    refine And.intro (fun h => bnd h) ?_
    refine And.intro (fun _ => show (0 : Int) ≤ (i : Int) ∧ (i : Int) < ((putF (applyF f l) rtl (applyF f l).length).length : Int) from ⟨by omega, by omega⟩) ?_
    refine And.intro (fun _ => show (0 : Int) ≤ (i : Int) ∧ (i : Int) < ((originsF (applyF f l) rtl).length : Int) from ⟨by omega, by omega⟩) ?_
    refine And.intro (fun h => show 0 ≤ (nth (applyF f l) i).on ∧ (nth (applyF f l) i).on < ((putF (applyF f l) rtl (applyF f l).length).length : Int) from by have := bnd h; omega) ?_
    refine And.intro (fun h => show 0 ≤ (nth (applyF f l) i).on ∧ (nth (applyF f l) i).on < ((originsF (applyF f l) rtl).length : Int) from by have := bnd h; omega) ?_
    refine And.intro (fun _ => show (0 : Int) ≤ (i : Int) ∧ (i : Int) < ((originsF (applyF f l) rtl).length : Int) from ⟨by omega, by omega⟩) ?_
    refine And.intro (fun h => show 0 ≤ (nth (applyF f l) i).on ∧ (nth (applyF f l) i).on < ((originsF (applyF f l) rtl).length : Int) from by have := bnd h; omega) ?_
    refine ⟨.bool true, fun h ρ S w hm => ?_, ?_⟩
    · have h : (nth (applyF f l) i).on ≥ 0 := of_decide_eq_true h
      show Calls _ 11 #[_, .int .u16 (nth l i), .int .u16 (nth l (nth (applyF f l) i).on.toNat), .int .i32 (IntKind.i32.wrap (IntKind.i32.wrap (IntKind.i32.wrap (nth (putF (applyF f l) rtl (applyF f l).length) i + (nth (originsF (applyF f l) rtl) i).x) - nth (putF (applyF f l) rtl (applyF f l).length) (nth (applyF f l) i).on.toNat) - (nth (originsF (applyF f l) rtl) (nth (applyF f l) i).on.toNat).x)), .int .i32 (IntKind.i32.wrap ((nth (originsF (applyF f l) rtl) i).y - (nth (originsF (applyF f l) rtl) (nth (applyF f l) i).on.toNat).y))] _ _
      have hk : (nth (applyF f l) i).on.toNat < (applyF f l).length := by omega
      have hgon := hgi (nth (applyF f l) i).on.toNat hk
      have hDi := hD h
      have d1 := row_dr hrow rtl (i + 1) i (by omega) (by omega)
      have d2 := row_dr hrow rtl ((nth (applyF f l) i).on.toNat + 1) (nth (applyF f l) i).on.toNat (by omega) hk
      have p1 := row_put hrow rtl (applyF f l).length (Nat.le_refl _) i (by omega)
      have p2 := row_put hrow rtl (applyF f l).length (Nat.le_refl _) (nth (applyF f l) i).on.toNat hk
      rcases hsti with ⟨e1, _, _⟩ | ⟨_, _, n', q, u, v, hpt⟩
      · omega
      have hxy := pt_range hR.pts hpt
      have ex : IntKind.i32.wrap (IntKind.i32.wrap (IntKind.i32.wrap (nth (putF (applyF f l) rtl (applyF f l).length) i + (nth (originsF (applyF f l) rtl) i).x) - nth (putF (applyF f l) rtl (applyF f l).length) (nth (applyF f l) i).on.toNat) - (nth (originsF (applyF f l) rtl) (nth (applyF f l) i).on.toNat).x) = (nth (applyF f l) i).x := by
        rw [hgii, hgon]
        unfold glP
        dsimp only
        rw [hDi] at d1 ⊢
        dsimp only at d1 ⊢
        generalize drE (applyF f l) (putF (applyF f l) rtl (applyF f l).length) (drF (applyF f l) (putF (applyF f l) rtl (applyF f l).length) (nth (applyF f l) i).on.toNat) (nth (applyF f l) i).on.toNat = D at *
        generalize nth (putF (applyF f l) rtl (applyF f l).length) i = P1 at *
        generalize nth (putF (applyF f l) rtl (applyF f l).length) (nth (applyF f l) i).on.toNat = P2 at *
        simp only [IntKind.wrap_i32]
        omega
      have ey : IntKind.i32.wrap ((nth (originsF (applyF f l) rtl) i).y - (nth (originsF (applyF f l) rtl) (nth (applyF f l) i).on.toNat).y) = (nth (applyF f l) i).y := by
        rw [hgii, hgon]
        unfold glP
        dsimp only
        rw [hDi] at d1 ⊢
        dsimp only at d1 ⊢
        generalize drE (applyF f l) (putF (applyF f l) rtl (applyF f l).length) (drF (applyF f l) (putF (applyF f l) rtl (applyF f l).length) (nth (applyF f l) i).on.toNat) (nth (applyF f l) i).on.toNat = D at *
        simp only [IntKind.wrap_i32]
        omega
      rw [ex, ey]
      exact points_c f _ _ _ _ hf n' q u v hpt _ w (fontMk (hm.rd 0 rfl rfl) (hm.rd 1 rfl rfl) (hm.rd 2 rfl rfl) (hm.rd 3 rfl rfl) (hm.rd 4 rfl rfl) (hm.rd 5 rfl rfl) (hm.rd 6 rfl rfl))
    refine And.intro (fun hb => ?_) (fun _ => ?_)
    · have hb : (decide ((nth (applyF f l) i).on ≥ 0) && !true) = true := hb
      simp at hb
    exact ⟨[0, 1, 2, 3, 4, 5, 6, 7, 8, 9, 10, 11], ⟨i + 1, hlt⟩, And.intro (And.intro (rfl) (And.intro (rfl) (And.intro (rfl) (And.intro (rfl) (And.intro (rfl) (And.intro (svI (i64_succ i (by omega))) trivial)))))) (And.intro (rfl) (And.intro (rfl) (And.intro (rfl) (And.intro (rfl) (And.intro (rfl) (And.intro (rfl) (And.intro (rfl) (And.intro (rfl) (And.intro (⟨rfl, rfl⟩) (And.intro (rfl) (And.intro (rfl) (And.intro (rfl) trivial)))))))))))), by show _ - (i + 1) < _ - i; omega⟩
  refine Or.inl ⟨.bool true, fun ρ S w' hm => works_c w', ?_⟩
  exact fun ρ S w' hi => ⟨rfl, hi.below⟩
end Go.Proofs.Ytaiapnemlnmeiaa
