/- cover.spans: ranges of three numbers each. -/
import Derived.Test.YtalploampmdemaaR3
namespace Go.Proofs.Ytalploampmdemaa
open Go Go.Eng Go.RowKit

/-- a number of two bytes, read byte by byte -/
def wd (d : List Int) (p : Nat) : Int := IntKind.u16.wrap (numS (numS 0 (nth d p)) (nth d (p + 1)))
theorem wd_range (d : List Int) (p : Nat) : 0 ≤ wd d p ∧ wd d p ≤ 65535 := by
  unfold wd
  rw [IntKind.wrap_u16]
  omega
theorem wd_i64 (d : List Int) (p : Nat) : IntKind.i64.wrap (wd d p) = wd d p := by
  have := wd_range d p
  exact i64_id _ (by omega) (by omega)
theorem nth_drop {α : Type} [Inhabited α] (b : List α) (a p : Nat) : nth (b.drop a) p = nth b (a + p) := by
  unfold nth
  rw [List.getD_eq_getElem?_getD, List.getD_eq_getElem?_getD, List.getElem?_drop]
theorem mid2 (b : List Int) (l : Nat) (h : l + 2 ≤ b.length) : midL b l (l + 2) = [nth b l, nth b (l + 1)] := by
  refine nth_extI (by rw [midL_len _ _ _ h]; simp) fun j hj => ?_
  rw [midL_len _ _ _ h] at hj
  rw [nth_mid _ _ _ _ (by omega) h]
  match j, hj with
  | 0, _ => rfl
  | 1, _ => rfl
  | j + 2, hj => omega
theorem numR2 (b : List Int) (at' : Int) (p : Nat) (h0 : 0 ≤ at') (h : at' + p + 2 ≤ b.length) : IntKind.u16.wrap (numR b (at' + p) 2) = wd (b.drop at'.toNat) p := by
  unfold numR wd
  rw [show (at' + p + 2).toNat = (at' + p).toNat + 2 from by omega, mid2 b _ (by omega), nth_drop, nth_drop]
  rw [show (at' + p).toNat = at'.toNat + p from by omega]
  rfl
theorem word_w (b : List Int) (at' q : Int) (p : Nat) (hb : b.length ≤ 1000000) (h0 : 0 ≤ at') (h : at' + p + 2 ≤ b.length) (hq : q = at' + p) (v : Value) (w : World) (hv : Rdr w v b) :
    Calls Try.prog 21 #[v, .int .i64 q] w fun e w' => e = .returned (.int .u16 (wd (b.drop at'.toNat) p)) ∧ Below w.heap.size w w' := by
  subst hq
  rw [← numR2 b at' p h0 h]
  exact word_c b _ (by omega) (outR_iff.2 ⟨by omega, by omega, by omega⟩) v w hv

/-! the ranges -/
def sF (d : List Int) (i : Nat) : Int := wd d (6 * i)
def sL (d : List Int) (i : Nat) : Int := wd d (6 * i + 2)
def sT (d : List Int) (i : Nat) : Int := wd d (6 * i + 4)
/-- the last glyph of the range ahead -/
def sE (d : List Int) : Nat → Int
  | 0 => -1
  | i + 1 => sL d i
def sB (d : List Int) (g : Int) (i : Nat) : Bool := (decide (sF d i > sL d i) || decide (sF d i ≤ sE d i)) || decide (sL d i ≥ g)
/-- how many ranges are right ahead of the first wrong one -/
def sG (d : List Int) (g : Int) : Nat → Nat
  | 0 => 0
  | n + 1 => if sG d g n = n ∧ sB d g n = false then n + 1 else sG d g n
theorem sG_le (d : List Int) (g : Int) : ∀ n, sG d g n ≤ n
  | 0 => Nat.le_refl _
  | n + 1 => by unfold sG; split; exact Nat.le_refl _; have := sG_le d g n; omega
theorem sG_good (d : List Int) (g : Int) : ∀ n i, i < sG d g n → sB d g i = false
  | 0, i, h => absurd h (Nat.not_lt_zero _)
  | n + 1, i, h => by
    unfold sG at h
    split at h
    · rename_i h1
      by_cases e : i = n
      · subst e; exact h1.2
      · exact sG_good d g n i (by rw [h1.1]; omega)
    · exact sG_good d g n i h
theorem sG_bad (d : List Int) (g : Int) : ∀ n, sG d g n < n → sB d g (sG d g n) = true
  | 0, h => absurd h (Nat.not_lt_zero _)
  | n + 1, h => by
    unfold sG at h ⊢
    split at h
    · omega
    · rename_i h1
      rw [if_neg h1]
      by_cases e : sG d g n < n
      · exact sG_bad d g n e
      · have := sG_le d g n
        have e : sG d g n = n := by omega
        rw [e]
        cases hb : sB d g n with
        | true => rfl
        | false => exact absurd ⟨e, hb⟩ h1
/-- how often it yields -/
def sN (d : List Int) (g : Int) (n : Nat) : Nat := if sG d g n < n then sG d g n + 1 else n
def sV (d : List Int) (g : Int) (i : Nat) : Value := if sB d g i then .agg #[.int .i64 (-1), .int .i64 0, .int .i64 0] else .agg #[.int .i64 (sF d i), .int .i64 (sL d i), .int .i64 (sT d i)]

theorem spans_c (b : List Int) (at' n g : Int) (v : Value) (w : World) (S : Nat → Prop) (hS : ∀ b, S b → b < w.heap.size) (hv : DRep S w (.ptr (rdD b)) v) :
    Calls Try.prog 87 #[v, .int .i64 at', .int .i64 n, .int .i64 g] w fun e w' => ∃ vs, e = .returned (.func (.func 89) #[] vs.toArray) ∧ Below w.heap.size w w' ∧ repPs (fun b => S b ∨ (w.heap.size ≤ b ∧ b < w'.heap.size)) w' [[.v (.int .i64 n)], [.ptr (rdD b)], [.v (.int .i64 at')], [.v (.int .i64 g)]] vs := by
  obtain ⟨k, o, rfl⟩ : ∃ k o, v = .pointer (some ⟨k, o, none⟩) := by cases hv; exact ⟨_, _, rfl⟩
  refine calls_exec2 (cf := cf) cfok rfl rfl (fn := Try.f87) Try.func87 rfl [.bx 0 0, .v (.int .i64 at'), .v (.int .i64 n), .v (.int .i64 g)] [.rp [] (rdD b)] (ρ := fun _ => .pointer (some ⟨k, o, none⟩)) (· < w.heap.size) S rfl rfl rfl (by simp [svOkL, svOk]) rfl (memRd hS ⟨hv, trivial⟩) (fun b hb => ⟨hb, rd_own rfl b⟩) ?_
  exact fun ρ S w' hi => ⟨[den ρ (.bx 3 0), den ρ (.bx 1 0), den ρ (.bx 2 0), den ρ (.bx 4 0)], rfl, hi.below, hi.rep 9 (.bx 3 0) (.ptr [.v (.int .i64 n)]) rfl rfl, hi.rep 9 (.bx 1 0) (.ptr [.ptr (rdD b)]) rfl rfl, hi.rep 9 (.bx 2 0) (.ptr [.v (.int .i64 at')]) rfl rfl, hi.rep 9 (.bx 4 0) (.ptr [.v (.int .i64 g)]) rfl rfl, trivial⟩

theorem sE_range (d : List Int) : ∀ i, -1 ≤ sE d i ∧ sE d i ≤ 65535
  | 0 => by show (-1 : Int) ≤ -1 ∧ (-1 : Int) ≤ 65535; omega
  | i + 1 => by have := wd_range d (6 * i + 2); show -1 ≤ wd d (6 * i + 2) ∧ wd d (6 * i + 2) ≤ 65535; omega
theorem off_eq (at' : Int) (i : Nat) (c : Int) (h0 : 0 ≤ at') (ha : at' ≤ 1000000) (hi : i ≤ 1000000) (hc : 0 ≤ c) (hc' : c ≤ 4) : IntKind.i64.wrap (IntKind.i64.wrap (at' + IntKind.i64.wrap (6 * (i : Int))) + c) = at' + ((6 * i : Nat) : Int) + c := by
  rw [i64_id (6 * (i : Int)) (by omega) (by omega), i64_id (at' + 6 * (i : Int)) (by omega) (by omega), i64_id _ (by omega) (by omega)]
  omega
theorem spans_it (b : List Int) (at' g : Int) (n : Nat) (hb : b.length ≤ 1000000) (h0 : 0 ≤ at') (h1 : at' + 6 * n ≤ b.length) (p1 p2 p3 p4 : Value) (w : World) (S : Nat → Prop) (hS : ∀ b, S b → b < w.heap.size)
    (q1 : DRep S w (.ptr [.v (.int .i64 n)]) p1) (q2 : DRep S w (.ptr [.ptr (rdD b)]) p2) (q3 : DRep S w (.ptr [.v (.int .i64 at')]) p3) (q4 : DRep S w (.ptr [.v (.int .i64 g)]) p4) :
    IterX Try.prog 89 #[p1, p2, p3, p4] (sN (b.drop at'.toNat) g n) (fun j => ([sV (b.drop at'.toNat) g j] : List Value).toArray) S w := by
  obtain ⟨b1, o1, rfl⟩ : ∃ k o, p1 = .pointer (some ⟨k, o, none⟩) := by cases q1; exact ⟨_, _, rfl⟩
  obtain ⟨b2, o2, rfl⟩ : ∃ k o, p2 = .pointer (some ⟨k, o, none⟩) := by cases q2; exact ⟨_, _, rfl⟩
  obtain ⟨b3, o3, rfl⟩ : ∃ k o, p3 = .pointer (some ⟨k, o, none⟩) := by cases q3; exact ⟨_, _, rfl⟩
  obtain ⟨b4, o4, rfl⟩ : ∃ k o, p4 = .pointer (some ⟨k, o, none⟩) := by cases q4; exact ⟨_, _, rfl⟩
  generalize hd : b.drop at'.toNat = d
  let ρ : Nat → Value := fun i => if i = 0 then .pointer (some ⟨b1, o1, none⟩) else if i = 1 then .pointer (some ⟨b2, o2, none⟩) else if i = 2 then .pointer (some ⟨b3, o3, none⟩) else .pointer (some ⟨b4, o4, none⟩)
  refine iter_exec (cf := cf) cfok (fn := Try.f89) Try.func89 rfl [.bx 0 0, .bx 1 0, .bx 2 0, .bx 3 0] [.rp [] [.v (.int .i64 n)], .rp [] [.ptr (rdD b)], .rp [] [.v (.int .i64 at')], .rp [] [.v (.int .i64 g)]] (sN d g n) (fun j => [sV d g j]) (ρ := ρ) rfl rfl (by simp [svOkL, svOk]) hS ⟨q1, q2, q3, q4, trivial⟩ rfl (fun l => ?_)
  refine ⟨{ i : Nat // i ≤ n ∧ i ≤ sG d g n }, fun i => ⟨64, [⟨0, [], .v (.func (.yield l) #[] #[])⟩, ⟨1, [], .bx 0 0⟩, ⟨2, [], .bx 1 0⟩, ⟨3, [], .bx 2 0⟩, ⟨4, [], .bx 3 0⟩, ⟨6, [], .v (.int .i64 (sE d i.1))⟩, ⟨9, [], .v (.int .i64 n)⟩, ⟨10, [], .v (.int .i64 (i.1 : Int))⟩],
      [.rp [] [.v (.int .i64 n)], .rp [] [.ptr (rdD b)], .rp [] [.v (.int .i64 at')], .rp [] [.v (.int .i64 g)], .yk l true i.1], [], dropL nats 5⟩,
    fun i => n - i.1, ⟨[0, 1, 2, 3, 4], ⟨0, by omega, by omega⟩, ?_⟩, fun i => ?_⟩
  · exact And.intro (And.intro rfl (And.intro rfl (And.intro rfl (And.intro rfl (And.intro rfl (And.intro rfl (And.intro rfl (And.intro rfl trivial)))))))) (And.intro ⟨rfl, rfl⟩ (And.intro ⟨rfl, rfl⟩ (And.intro ⟨rfl, rfl⟩ (And.intro ⟨rfl, rfl⟩ (And.intro rfl trivial)))))
  obtain ⟨i, hi, hig⟩ := i
  refine And.intro (fun hlt => ?_) (fun hge => ?_)
  · have hlt : i < n := by have : (i : Int) < (n : Int) := of_decide_eq_true hlt
                           omega
    refine Or.inr (Or.inr (Or.inl ⟨[0, 1, 2, 3, 4, 5, 6, 7, 8, 9, 10, 11, 12, 13, 14, 15, 16, 17, 18, 19, 20, 21, 22, 23, 24], [24], [25], by kernel_rfl, ?_⟩))
    have hw0 : IntKind.i64.wrap (at' + IntKind.i64.wrap (6 * (i : Int))) = at' + ((6 * i : Nat) : Int) := by
      rw [i64_id (6 * (i : Int)) (by omega) (by omega), i64_id (at' + 6 * (i : Int)) (by omega) (by omega)]
      omega
    have hw2 := off_eq at' i 2 h0 (by omega) (by omega) (by decide) (by decide)
    have hw4 := off_eq at' i 4 h0 (by omega) (by omega) (by decide) (by decide)
    refine ⟨_, fun ρ S w hm => word_w b at' _ (6 * i) hb h0 (by omega) hw0 _ w (hm.rp 5 rfl rfl), ?_⟩
    refine ⟨_, fun ρ S w hm => word_w b at' _ (6 * i + 2) hb h0 (by omega) (by rw [hw2]; omega) _ w (hm.rp 6 rfl rfl), ?_⟩
    refine ⟨_, fun ρ S w hm => word_w b at' _ (6 * i + 4) hb h0 (by omega) (by rw [hw4]; omega) _ w (hm.rp 7 rfl rfl), ?_⟩
    rw [hd]
    have hB : ∀ x : Bool, ((decide (IntKind.i64.wrap (wd d (6 * i)) > IntKind.i64.wrap (wd d (6 * i + 2))) || decide (IntKind.i64.wrap (wd d (6 * i)) ≤ sE d i)) || decide (IntKind.i64.wrap (wd d (6 * i + 2)) ≥ g)) = x → sB d g i = x := fun x h => by
      rw [wd_i64, wd_i64] at h; exact h
    refine And.intro (fun h => ?_) (fun h => ?_)
    · have hb := hB true h
      have hG : sG d g n = i := by
        rcases Nat.lt_or_ge i (sG d g n) with h1 | h1
        · rw [sG_good d g n i h1] at hb; cases hb
        · omega
      have hN : sN d g n = i + 1 := by unfold sN; rw [hG, if_pos hlt]
      refine ⟨4, i, rfl, rfl, by show i < sN d g n; omega, fun _ => ?_, ?_, ?_⟩
      · have e : sV d g i = .agg #[.int .i64 (-1), .int .i64 0, .int .i64 0] := by
          unfold sV
          rw [hb, if_pos rfl]
        exact Eq.trans rfl (congrArg (fun v => [v]) e.symm)
      · exact And.intro (fun _ => hN.symm) (by rw [hN]; omega)
      · exact And.intro (fun h => by cases h) (by rw [hN]; omega)
    · have hb := hB false h
      have hG : i < sG d g n := by
        rcases Nat.lt_or_ge i (sG d g n) with h1 | h1
        · exact h1
        · have e : sG d g n = i := by omega
          have := sG_bad d g n (by omega)
          rw [e, hb] at this; cases this
      have hN : i < sN d g n := by unfold sN; split <;> omega
      refine ⟨4, i, rfl, rfl, hN, fun _ => ?_, ?_, ?_⟩
      · have e : sV d g i = .agg #[.int .i64 (IntKind.i64.wrap (wd d (6 * i))), .int .i64 (IntKind.i64.wrap (wd d (6 * i + 2))), .int .i64 (IntKind.i64.wrap (wd d (6 * i + 4)))] := by
          unfold sV sF sL sT
          rw [hb, if_neg (by decide), wd_i64, wd_i64, wd_i64]
        exact Eq.trans rfl (congrArg (fun v => [v]) e.symm)
      · refine And.intro (fun h => by cases h) (fun _ => ?_)
        refine ⟨[0, 1, 2, 3, 4], ⟨i + 1, by omega, hG⟩, And.intro (And.intro rfl (And.intro rfl (And.intro rfl (And.intro rfl (And.intro rfl (And.intro (sv_i64 (wd_i64 d _)) (And.intro rfl (And.intro (svI (i64_succ i (by omega))) trivial)))))))) (And.intro ⟨rfl, rfl⟩ (And.intro ⟨rfl, rfl⟩ (And.intro ⟨rfl, rfl⟩ (And.intro ⟨rfl, rfl⟩ (And.intro rfl trivial))))), by show _ - (i + 1) < _ - i; omega⟩
      · exact And.intro (fun _ => And.intro (fun h => by cases h) (by show i + 1 ≤ sN d g n; omega)) (fun h => by cases h)
  · have hge : i = n := by have : ¬ (i : Int) < (n : Int) := of_decide_eq_false hge
                           omega
    have hG := sG_le d g n
    have hN : sN d g n = n := by unfold sN; rw [if_neg (by omega)]
    exact And.intro (fun _ => by rw [hN]; exact hge) (by rw [hN]; omega)
end Go.Proofs.Ytalploampmdemaa
