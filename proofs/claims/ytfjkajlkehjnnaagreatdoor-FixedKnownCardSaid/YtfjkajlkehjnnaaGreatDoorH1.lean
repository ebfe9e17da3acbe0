/- fixed.Add, Sub, and the reference's. -/
import Derived.Test.YtfjkajlkehjnnaaGreatDoorG13
namespace Go.Proofs.YtfjkajlkehjnnaaGreatDoor
open Go Go.Eng Go.RowKit Go.Ar

def inI (n : Int) : Prop := -9223372036854775808 ≤ n ∧ n ≤ 9223372036854775807
instance (n : Int) : Decidable (inI n) := by unfold inI; infer_instance
/-- a number, or too great -/
def fitF (n : Int) : Int × Int := if inI n then (n, 0) else (0, 10)
theorem fit_in {n : Int} (h : inI n) : fitF n = (n, 0) := by unfold fitF; rw [if_pos h]
theorem fit_out {n : Int} (h : ¬ inI n) : fitF n = (0, 10) := by unfold fitF; rw [if_neg h]
theorem wr {n : Int} : IntKind.i64.wrap n = (n + 9223372036854775808) % 18446744073709551616 - 9223372036854775808 := by rw [IntKind.wrap_i64]
theorem add_k {a b : Int} (ha : I64 a) (hb : I64 b) : ((decide (IntKind.i64.wrap (a + b) > a) != decide (b > 0)) && !decide (b = 0)) = !decide (inI (a + b)) := by
  obtain ⟨a1, a2⟩ := ha
  obtain ⟨b1, b2⟩ := hb
  rw [IntKind.wrap_i64]
  by_cases h : inI (a + b)
  · rw [decide_eq_true h]
    unfold inI at h
    by_cases h1 : b > 0
    · rw [decide_eq_true h1, decide_eq_true (by omega)]; rfl
    · rw [decide_eq_false h1, decide_eq_false (by omega)]; rfl
  · rw [decide_eq_false h]
    unfold inI at h
    by_cases h1 : b > 0
    · rw [decide_eq_true h1, decide_eq_false (by omega), decide_eq_false (by omega : ¬ b = 0)]; rfl
    · rw [decide_eq_false h1, decide_eq_true (by omega), decide_eq_false (by omega : ¬ b = 0)]; rfl
theorem sub_k {a b : Int} (ha : I64 a) (hb : I64 b) : ((decide (IntKind.i64.wrap (a - b) < a) != decide (b > 0)) && !decide (b = 0)) = !decide (inI (a - b)) := by
  obtain ⟨a1, a2⟩ := ha
  obtain ⟨b1, b2⟩ := hb
  rw [IntKind.wrap_i64]
  by_cases h : inI (a - b)
  · rw [decide_eq_true h]
    unfold inI at h
    by_cases h1 : b > 0
    · rw [decide_eq_true h1, decide_eq_true (by omega)]; rfl
    · rw [decide_eq_false h1, decide_eq_false (by omega)]; rfl
  · rw [decide_eq_false h]
    unfold inI at h
    by_cases h1 : b > 0
    · rw [decide_eq_true h1, decide_eq_false (by omega), decide_eq_false (by omega : ¬ b = 0)]; rfl
    · rw [decide_eq_false h1, decide_eq_true (by omega), decide_eq_false (by omega : ¬ b = 0)]; rfl
theorem wr_in {n : Int} (h : inI n) : IntKind.i64.wrap n = n := i64_id _ h.1 h.2
abbrev twoV (p : Int × Int) : Value := .tuple #[.int .i64 p.1, .int .i64 p.2]
theorem add_c (a b : Int) (ha : I64 a) (hb : I64 b) (w : World) : Calls Tryz.prog 34 #[.int .i64 a, .int .i64 b] w fun e w' => e = .returned (twoV (fitF (a + b))) ∧ Below w.heap.size w w' := by
  refine calls_exec (cf := cf) cfok (fn := Tryz.f34) Tryz.func34 rfl [.v (.int .i64 a), .v (.int .i64 b)] [] (ρ := fun _ => undef) (· < w.heap.size) rfl rfl rfl (by simp [svOkL, svOk]) (memNil fun _ h => h) ?_
  refine And.intro (fun h => ?_) (fun h => ?_)
  · have h : ((decide (IntKind.i64.wrap (a + b) > a) != decide (b > 0)) && !decide (b = 0)) = true := h
    rw [add_k ha hb, Bool.not_eq_true', decide_eq_false_iff_not] at h
    rw [fit_out h]
    exact fun ρ S w' hi => ⟨rfl, hi.below⟩
  · have h : ((decide (IntKind.i64.wrap (a + b) > a) != decide (b > 0)) && !decide (b = 0)) = false := h
    rw [add_k ha hb, Bool.not_eq_false', decide_eq_true_iff] at h
    rw [fit_in h]
    refine fun ρ S w' hi => ⟨?_, hi.below⟩
    show Ending.returned (twoV (IntKind.i64.wrap (a + b), 0)) = _
    rw [wr_in h]
theorem sub_c (a b : Int) (ha : I64 a) (hb : I64 b) (w : World) : Calls Tryz.prog 36 #[.int .i64 a, .int .i64 b] w fun e w' => e = .returned (twoV (fitF (a - b))) ∧ Below w.heap.size w w' := by
  refine calls_exec (cf := cf) cfok (fn := Tryz.f36) Tryz.func36 rfl [.v (.int .i64 a), .v (.int .i64 b)] [] (ρ := fun _ => undef) (· < w.heap.size) rfl rfl rfl (by simp [svOkL, svOk]) (memNil fun _ h => h) ?_
  refine And.intro (fun h => ?_) (fun h => ?_)
  · have h : ((decide (IntKind.i64.wrap (a - b) < a) != decide (b > 0)) && !decide (b = 0)) = true := h
    rw [sub_k ha hb, Bool.not_eq_true', decide_eq_false_iff_not] at h
    rw [fit_out h]
    exact fun ρ S w' hi => ⟨rfl, hi.below⟩
  · have h : ((decide (IntKind.i64.wrap (a - b) < a) != decide (b > 0)) && !decide (b = 0)) = false := h
    rw [sub_k ha hb, Bool.not_eq_false', decide_eq_true_iff] at h
    rw [fit_in h]
    refine fun ρ S w' hi => ⟨?_, hi.below⟩
    show Ending.returned (twoV (IntKind.i64.wrap (a - b), 0)) = _
    rw [wr_in h]
theorem add2_k {a b : Int} (ha : I64 a) (hb : I64 b) : (((decide (a ≥ 0) && decide (b ≥ 0)) && decide (IntKind.i64.wrap (a + b) < 0)) || ((decide (a < 0) && decide (b < 0)) && decide (IntKind.i64.wrap (a + b) ≥ 0))) = !decide (inI (a + b)) := by
  obtain ⟨a1, a2⟩ := ha
  obtain ⟨b1, b2⟩ := hb
  rw [IntKind.wrap_i64]
  by_cases h : inI (a + b)
  · rw [decide_eq_true h]
    unfold inI at h
    show _ = false
    simp only [Bool.or_eq_false_iff, Bool.and_eq_false_iff, decide_eq_false_iff_not]
    omega
  · rw [decide_eq_false h]
    unfold inI at h
    show _ = true
    simp only [Bool.or_eq_true, Bool.and_eq_true, decide_eq_true_iff]
    omega
theorem add2_c (a b : Int) (ha : I64 a) (hb : I64 b) (w : World) : Calls Tryz.prog 35 #[.int .i64 a, .int .i64 b] w fun e w' => e = .returned (twoV (fitF (a + b))) ∧ Below w.heap.size w w' := by
  refine calls_exec (cf := cf) cfok (fn := Tryz.f35) Tryz.func35 rfl [.v (.int .i64 a), .v (.int .i64 b)] [] (ρ := fun _ => undef) (· < w.heap.size) rfl rfl rfl (by simp [svOkL, svOk]) (memNil fun _ h => h) ?_
  refine And.intro (fun h => ?_) (fun h => ?_)
  · have h : (((decide (a ≥ 0) && decide (b ≥ 0)) && decide (IntKind.i64.wrap (a + b) < 0)) || ((decide (a < 0) && decide (b < 0)) && decide (IntKind.i64.wrap (a + b) ≥ 0))) = true := h
    rw [add2_k ha hb, Bool.not_eq_true', decide_eq_false_iff_not] at h
    rw [fit_out h]
    exact fun ρ S w' hi => ⟨rfl, hi.below⟩
  · have h : (((decide (a ≥ 0) && decide (b ≥ 0)) && decide (IntKind.i64.wrap (a + b) < 0)) || ((decide (a < 0) && decide (b < 0)) && decide (IntKind.i64.wrap (a + b) ≥ 0))) = false := h
    rw [add2_k ha hb, Bool.not_eq_false', decide_eq_true_iff] at h
    rw [fit_in h]
    refine fun ρ S w' hi => ⟨?_, hi.below⟩
    show Ending.returned (twoV (IntKind.i64.wrap (a + b), 0)) = _
    rw [wr_in h]
set_option maxRecDepth 100000 in
theorem sub2_c (a b : Int) (ha : I64 a) (hb : I64 b) (w : World) : Calls Tryz.prog 37 #[.int .i64 a, .int .i64 b] w fun e w' => e = .returned (twoV (fitF (a - b))) ∧ Below w.heap.size w w' := by
  refine calls_exec (cf := cf) cfok (fn := Tryz.f37) Tryz.func37 rfl [.v (.int .i64 a), .v (.int .i64 b)] [] (ρ := fun _ => undef) (· < w.heap.size) rfl rfl rfl (by simp [svOkL, svOk]) (memNil fun _ h => h) ?_
  obtain ⟨a1, a2⟩ := ha
  obtain ⟨b1, b2⟩ := hb
  refine And.intro (fun h => ?_) (fun h => ?_)
  · have h : b = -9223372036854775808 := of_decide_eq_true h
    refine And.intro (fun h2 => ?_) (fun h2 => ?_)
    · have h2 : a ≥ 0 := of_decide_eq_true h2
      rw [fit_out (by unfold inI; omega)]
      exact fun ρ S w' hi => ⟨rfl, hi.below⟩
    · have h2 : ¬ a ≥ 0 := of_decide_eq_false h2
      have hin : inI (a - b) := by unfold inI; omega
      rw [fit_in hin]
      refine fun ρ S w' hi => ⟨?_, hi.below⟩
      show Ending.returned (twoV (IntKind.i64.wrap (a - b), 0)) = _
      rw [wr_in hin]
  · have h : ¬ b = -9223372036854775808 := of_decide_eq_false h
    refine Or.inl ⟨twoV (fitF (a - b)), fun ρ S w' hm => ?_, ?_⟩
    · have hn : IntKind.i64.wrap (0 - b) = -b := by rw [i64_id _ (by omega) (by omega)]; omega
      show Calls _ 35 #[.int .i64 a, .int .i64 (IntKind.i64.wrap (0 - b))] _ _
      rw [hn, Int.sub_eq_add_neg]
      exact add2_c a (-b) ⟨a1, a2⟩ ⟨by omega, by omega⟩ w'
    exact fun ρ S w' hi => ⟨rfl, hi.below⟩
end Go.Proofs.YtfjkajlkehjnnaaGreatDoor
