/- The reference's quotient and MulDiv. -/
import Derived.Test.YtfjkajlkehjnnaaGreatDoorG12
namespace Go.Proofs.YtfjkajlkehjnnaaGreatDoor
open Go Go.Eng Go.RowKit Go.Ar

def upGen (round : Bool) (r b : Nat) (neg : Bool) : Bool := if round then !decide (2 * r + 0 < b) else (neg && !decide (r = 0))
theorem I64.abs {n : Int} (h : I64 n) : n.natAbs < W := by have := h.lo; have := h.hi; simp only [W]; omega
theorem ofL_v {n : Nat} (h : n < W) : val (ofL n 4) = n := by rw [ofL_val, R4, Nat.mod_eq_of_lt h]

theorem quo2_c (a b c : Int) (round : Bool) (ha : I64 a) (hb : I64 b) (hc : I64 c) (w : World) : Calls Tryz.prog 57 #[.int .i64 a, .int .i64 b, .int .i64 c, .bool round] w fun e w' =>
    e = .returned (.tuple #[.int .i64 (quoF (upGen round) a b c).1, .int .i64 (quoF (upGen round) a b c).2]) ∧ Below w.heap.size w w' := by
  refine calls_exec (cf := cf) cfok (fn := Tryz.f57) Tryz.func57 rfl [.v (.int .i64 a), .v (.int .i64 b), .v (.int .i64 c), .v (.bool round)] [] (ρ := fun _ => undef) (· < w.heap.size) rfl rfl rfl (by simp [svOkL, svOk]) (memNil fun _ h => h) ?_
  unfold quoF
  refine And.intro (fun h => ?_) (fun h => ?_)
  · have h : c = 0 := of_decide_eq_true h
    rw [if_pos h]
    exact fun ρ S w' hi => ⟨rfl, hi.below⟩
  have h : ¬ c = 0 := of_decide_eq_false h
  rw [if_neg h]
  have hA := ha.abs
  have hB := hb.abs
  have hC := hc.abs
  have hC0 : 0 < c.natAbs := by omega
  refine Or.inl ⟨_, fun ρ S w' hm => size2_c a w' ha.lo ha.hi, ?_⟩
  refine Or.inr (lcall_fresh (ofL a.natAbs 4) (fun ρ S w hm => of_c _ w hA) ?_)
  refine Or.inl ⟨_, fun ρ S w' hm => size2_c b w' hb.lo hb.hi, ?_⟩
  refine Or.inr (lcall_fresh (ofL b.natAbs 4) (fun ρ S w hm => of_c _ w hB) ?_)
  refine Or.inr (lcall_fresh (toL (a.natAbs * b.natAbs)) (fun ρ S w hm => by
    have h := times_c (ofL a.natAbs 4) (ofL b.natAbs 4) (ρ 0) (ρ 1) w (ofL_dg _ _) (ofL_dg _ _) (by rw [ofL_len]; decide) (by rw [ofL_len]; decide) (hm.own 0 rfl rfl) (hm.own 1 rfl rfl)
    rw [ofL_v hA, ofL_v hB] at h
    exact h) ?_)
  refine Or.inl ⟨_, fun ρ S w' hm => size2_c c w' hc.lo hc.hi, ?_⟩
  refine Or.inr (lcall_fresh (ofL c.natAbs 4) (fun ρ S w hm => of_c _ w hC) ?_)
  have hdv := divide_l (toL (a.natAbs * b.natAbs)) (ofL c.natAbs 4) (dg_toL _) (ofL_dg _ _) (by
    have := toL_len (n := a.natAbs * b.natAbs) (k := 8) (by
      have h1 := Nat.mul_lt_mul'' hA hB
      rw [← R4, ← Nat.pow_add] at h1
      exact h1)
    omega) (by rw [ofL_len]; decide) (by rw [ofL_v hC]; exact hC0)
  rw [val_toL, ofL_v hC] at hdv
  refine Or.inr (lcall_sub [2, 3] hdv rfl rfl rfl rfl rfl (And.intro rfl (And.intro rfl trivial)) ?_)
  have hR : absR a b c < c.natAbs := Nat.mod_lt _ hC0
  have hRl : (toL (absR a b c)).length ≤ 1000 := by
    have := toL_len (n := absR a b c) (k := 4) (by rw [R4]; omega); omega
  have hQl : (toL (absQ a b c)).length ≤ 1000 := by
    have := toL_len (n := absQ a b c) (k := 8) (by
      have h1 := Nat.mul_lt_mul'' hA hB
      rw [← R4, ← Nat.pow_add] at h1
      exact Nat.lt_of_le_of_lt (Nat.div_le_self _ _) h1)
    omega
  refine Or.inl ⟨.bool (decide (absR a b c = 0)), fun _ ρ S w' hm => by
    have h := zero_c (toL (absR a b c)) (ρ 5) w' (dg_toL _) (by omega) (hm.own 5 rfl rfl)
    rw [val_toL] at h
    exact h, ?_⟩
  have fin : ∀ (u : Bool), upGen round (absR a b c) c.natAbs (negQ a b c) = u → ∀ q, q = absQ a b c + (if u = true then 1 else 0) → sgnF q (negQ a b c) = sgnF (absQ a b c + (if upGen round (absR a b c) c.natAbs (negQ a b c) = true then 1 else 0)) (negQ a b c) := fun u hu q hq => by rw [hu, hq]
  cases round with
  | true =>
    refine And.intro (fun _ => ?_) (fun h => by cases h)
    refine Or.inr (lcall_fresh (toL (2 * absR a b c + 0)) (fun ρ S w hm => by
      have h := double_c (toL (absR a b c)) 0 (ρ 5) w (dg_toL _) (by decide) (by omega) (hm.own 5 rfl rfl)
      rw [val_toL] at h
      exact h) ?_)
    refine Or.inl ⟨.bool (decide (2 * absR a b c + 0 < c.natAbs)), fun ρ S w hm => by
      have h := less_c (toL (2 * absR a b c + 0)) (ofL c.natAbs 4) (ρ 6) (ρ 3) w (dg_toL _) (ofL_dg _ _) (by
        have := toL_len (n := 2 * absR a b c + 0) (k := 5) (by
          rw [show R ^ 5 = R ^ 4 * R from Nat.pow_succ _ _, R4]
          simp only [W, R] at *
          omega)
        omega) (by rw [ofL_len]; decide) (hm.own 6 rfl rfl) (hm.own 3 rfl rfl)
      rw [val_toL, ofL_v hC] at h
      exact h, ?_⟩
    refine And.intro (fun hu => ?_) (fun hu => ?_)
    · have hf := fin true hu (absQ a b c + 1) rfl
      rw [← hf]
      refine Or.inr (lcall_fresh (toL (absQ a b c + 1)) (fun ρ S w hm => by
        have h := plusOne_c (toL (absQ a b c)) (ρ 4) w (dg_toL _) (by omega) (hm.own 4 rfl rfl)
        rw [val_toL] at h
        exact h) ?_)
      refine Or.inl ⟨.tuple #[.int .i64 (sgnF (absQ a b c + 1) (negQ a b c)).1, .int .i64 (sgnF (absQ a b c + 1) (negQ a b c)).2], fun ρ S w hm => by
        have h := number_c (toL (absQ a b c + 1)) (negQ a b c) (ρ 7) w (dg_toL _) (by
          have := toL_len (n := absQ a b c + 1) (k := 9) (by
            have h1 := Nat.mul_lt_mul'' hA hB
            have h2 : absQ a b c ≤ a.natAbs * b.natAbs := Nat.div_le_self _ _
            rw [show R ^ 9 = R ^ 4 * R ^ 4 * R from by decide, R4]
            simp only [W, R] at *
            omega)
          omega) (hm.own 7 rfl rfl)
        rw [val_toL] at h
        exact h, ?_⟩
      exact fun ρ S w' hi => ⟨rfl, hi.below⟩
    · have hf := fin false hu (absQ a b c) rfl
      rw [← hf]
      refine Or.inl ⟨.tuple #[.int .i64 (sgnF (absQ a b c) (negQ a b c)).1, .int .i64 (sgnF (absQ a b c) (negQ a b c)).2], fun ρ S w hm => by
        have h := number_c (toL (absQ a b c)) (negQ a b c) (ρ 4) w (dg_toL _) (by omega) (hm.own 4 rfl rfl)
        rw [val_toL] at h
        exact h, ?_⟩
      exact fun ρ S w' hi => ⟨rfl, hi.below⟩
  | false =>
    refine And.intro (fun h => by cases h) (fun _ => ?_)
    refine And.intro (fun hu => ?_) (fun hu => ?_)
    · have hf := fin true hu (absQ a b c + 1) rfl
      rw [← hf]
      refine Or.inr (lcall_fresh (toL (absQ a b c + 1)) (fun ρ S w hm => by
        have h := plusOne_c (toL (absQ a b c)) (ρ 4) w (dg_toL _) (by omega) (hm.own 4 rfl rfl)
        rw [val_toL] at h
        exact h) ?_)
      refine Or.inl ⟨.tuple #[.int .i64 (sgnF (absQ a b c + 1) (negQ a b c)).1, .int .i64 (sgnF (absQ a b c + 1) (negQ a b c)).2], fun ρ S w hm => by
        have h := number_c (toL (absQ a b c + 1)) (negQ a b c) (ρ 6) w (dg_toL _) (by
          have := toL_len (n := absQ a b c + 1) (k := 9) (by
            have h1 := Nat.mul_lt_mul'' hA hB
            have h2 : absQ a b c ≤ a.natAbs * b.natAbs := Nat.div_le_self _ _
            rw [show R ^ 9 = R ^ 4 * R ^ 4 * R from by decide, R4]
            simp only [W, R] at *
            omega)
          omega) (hm.own 6 rfl rfl)
        rw [val_toL] at h
        exact h, ?_⟩
      exact fun ρ S w' hi => ⟨rfl, hi.below⟩
    · have hf := fin false hu (absQ a b c) rfl
      rw [← hf]
      refine Or.inl ⟨.tuple #[.int .i64 (sgnF (absQ a b c) (negQ a b c)).1, .int .i64 (sgnF (absQ a b c) (negQ a b c)).2], fun ρ S w hm => by
        have h := number_c (toL (absQ a b c)) (negQ a b c) (ρ 4) w (dg_toL _) (by omega) (hm.own 4 rfl rfl)
        rw [val_toL] at h
        exact h, ?_⟩
      exact fun ρ S w' hi => ⟨rfl, hi.below⟩

theorem quo_fl (a b c : Int) : quoF (upGen false) a b c = mulDivF a b c := by
  unfold mulDivF quoF
  have : ∀ r b neg, upGen false r b neg = upFl r b neg := fun r b neg => by
    unfold upGen upFl
    rw [if_neg (by decide)]
    congr 1
    rcases Nat.eq_zero_or_pos r with h | h
    · subst h; rfl
    · rw [decide_eq_false (by omega : ¬ r = 0), decide_eq_true (by omega : r > 0)]; rfl
  simp only [this]
theorem quo_ro (a b c : Int) : quoF (upGen true) a b c = roundF a b c := by
  unfold roundF quoF
  by_cases hc : c = 0
  · rw [if_pos hc, if_pos hc]
  · rw [if_neg hc, if_neg hc]
    have hr : absR a b c < c.natAbs := Nat.mod_lt _ (by omega)
    have : upGen true (absR a b c) c.natAbs (negQ a b c) = upRo (absR a b c) c.natAbs (negQ a b c) := by
      unfold upGen upRo
      rw [if_pos rfl]
      by_cases h : 2 * absR a b c + 0 < c.natAbs
      · rw [decide_eq_true h, decide_eq_false (by omega)]; rfl
      · rw [decide_eq_false h, decide_eq_true (by omega)]; rfl
    rw [this]
theorem mulDiv2_c (a b c : Int) (ha : I64 a) (hb : I64 b) (hc : I64 c) (w : World) : Calls Tryz.prog 32 #[.int .i64 a, .int .i64 b, .int .i64 c] w fun e w' =>
    e = .returned (.tuple #[.int .i64 (mulDivF a b c).1, .int .i64 (mulDivF a b c).2]) ∧ Below w.heap.size w w' := by
  rw [← quo_fl]
  refine calls_exec (cf := cf) cfok (fn := Tryz.f32) Tryz.func32 rfl [.v (.int .i64 a), .v (.int .i64 b), .v (.int .i64 c)] [] (ρ := fun _ => undef) (· < w.heap.size) rfl rfl rfl (by simp [svOkL, svOk]) (memNil fun _ h => h) ?_
  refine Or.inl ⟨_, fun ρ S w' hm => quo2_c a b c false ha hb hc w', ?_⟩
  exact fun ρ S w' hi => ⟨rfl, hi.below⟩
end Go.Proofs.YtfjkajlkehjnnaaGreatDoor
