/- quotients are near what they are of, in plain Lean. -/
import Derived.Test.YtfjkajlkehjnnaaGreatDoorH3
namespace Go.Proofs.YtfjkajlkehjnnaaGreatDoor
open Go Go.Eng Go.RowKit Go.Ar

structure Near (p D x y R : Int) : Prop where
  e : p - x * D = R
  r0 : 0 ≤ R
  r1 : R < D
  yx : y = x ∨ y = x + 1
  ne : R ≠ D - R → (y = x + 1 ↔ R > D - R)
  eq : R = D - R → (y = x + 1 ↔ p > 0)
  lo : -4611686018427387905 ≤ x
  hi : x ≤ 4611686018427387904
/-- the two quotients, of a product's size, with its sign -/
theorem near_core (P D : Nat) (neg : Bool) (hD : 0 < D) (hP : P ≤ 4611686018427387904) :
    ∃ x y R, sgnF (P / D + (if upFl (P % D) D neg = true then 1 else 0)) neg = (x, 0) ∧ sgnF (P / D + (if upRo (P % D) D neg = true then 1 else 0)) neg = (y, 0) ∧ Near (if neg = true then -(P : Int) else (P : Int)) (D : Int) x y R := by
  have hdm := Nat.div_add_mod P D
  have hr := Nat.mod_lt P hD
  have hq : P / D ≤ P := Nat.div_le_self _ _
  have hr0 : P % D ≤ P := Nat.mod_le _ _
  have hmul : ((D * (P / D) : Nat) : Int) = (D : Int) * ((P / D : Nat) : Int) := by rw [Int.natCast_mul]
  generalize P / D = q at *
  generalize P % D = r at *
  have hm : ((D * q : Nat) : Int) + (r : Int) = (P : Int) := by omega
  generalize hM : ((D * q : Nat) : Int) = M at *
  unfold upFl upRo sgnF
  cases neg with
  | false =>
    simp only [Bool.false_and, Bool.false_eq_true, false_and, if_false, false_or, Nat.add_zero]
    by_cases h : r ≥ D - r
    · rw [decide_eq_true h, if_pos rfl, if_neg (by omega), if_neg (by omega)]
      refine ⟨q, q + 1, r, rfl, by simp, ⟨?_, by omega, by omega, .inr (by omega), fun _ => ⟨fun _ => by omega, fun _ => by omega⟩, fun _ => ⟨fun _ => by omega, fun _ => by omega⟩, by omega, by omega⟩⟩
      rw [Int.mul_comm, ← hmul]; omega
    · rw [decide_eq_false h, if_neg (by omega : ¬ q > 9223372036854775807)]
      simp only [Bool.false_eq_true, if_false, Nat.add_zero]
      rw [if_neg (by omega : ¬ q > 9223372036854775807)]
      refine ⟨q, q, r, rfl, rfl, ⟨?_, by omega, by omega, .inl rfl, fun _ => ⟨fun _ => by omega, fun _ => by omega⟩, fun _ => ⟨fun _ => by omega, fun _ => by omega⟩, by omega, by omega⟩⟩
      rw [Int.mul_comm, ← hmul]; omega
  | true =>
    simp only [Bool.true_and, true_and, if_true]
    have tail : ∀ k : Nat, (-(k : Int)) * (D : Int) = -((D : Int) * (k : Int)) := fun k => by rw [Int.neg_mul, Int.mul_comm]
    by_cases h0 : r > 0
    · rw [decide_eq_true h0, if_pos rfl, if_pos (by omega : q + 1 ≤ 9223372036854775808)]
      have t1 : (-((q + 1 : Nat) : Int)) * (D : Int) = -(M + D) := by
        rw [tail, Int.natCast_add, Int.mul_add, ← hmul]
        simp
      by_cases h : r ≥ D - r
      · rw [decide_eq_true h, if_pos rfl, if_pos (by omega : q + 1 ≤ 9223372036854775808)]
        exact ⟨_, _, (D : Int) - r, rfl, rfl, ⟨by rw [t1]; omega, by omega, by omega, .inl rfl, fun _ => ⟨fun _ => by omega, fun _ => by omega⟩, fun _ => ⟨fun _ => by omega, fun _ => by omega⟩, by omega, by omega⟩⟩
      · rw [decide_eq_false h]
        simp only [Bool.false_eq_true, if_false, Nat.add_zero]
        rw [if_pos (by omega : q ≤ 9223372036854775808)]
        exact ⟨_, _, (D : Int) - r, rfl, rfl, ⟨by rw [t1]; omega, by omega, by omega, .inr (by omega), fun _ => ⟨fun _ => by omega, fun _ => by omega⟩, fun _ => ⟨fun _ => by omega, fun _ => by omega⟩, by omega, by omega⟩⟩
    · have hr0 : r = 0 := by omega
      subst hr0
      rw [decide_eq_false (by omega : ¬ (0 : Nat) ≥ D - 0)]
      simp only [Nat.lt_irrefl, gt_iff_lt, decide_false, Bool.false_eq_true, if_false, Nat.add_zero]
      rw [if_pos (by omega : q ≤ 9223372036854775808)]
      refine ⟨_, _, 0, rfl, rfl, ⟨?_, by omega, by omega, .inl rfl, fun _ => ⟨fun _ => by omega, fun _ => by omega⟩, fun _ => ⟨fun _ => by omega, fun _ => by omega⟩, by omega, by omega⟩⟩
      rw [tail, ← hmul]; omega
/-- the sign of a product over a number -/
theorem near_sign {a b c : Int} (hc : c ≠ 0) : (if negQ a b c = true then -((a.natAbs * b.natAbs : Nat) : Int) else ((a.natAbs * b.natAbs : Nat) : Int)) = (if c < 0 then -(a * b) else a * b) := by
  rw [Int.natCast_mul]
  unfold negQ
  rcases Int.le_total 0 a with ha | ha <;> rcases Int.le_total 0 b with hb | hb
  · rw [Int.natAbs_of_nonneg ha, Int.natAbs_of_nonneg hb, decide_eq_false (by omega : ¬ a < 0), decide_eq_false (by omega : ¬ b < 0)]
    by_cases h : c < 0
    · rw [decide_eq_true h, if_pos h]; rfl
    · rw [decide_eq_false h, if_neg h]; rfl
  · have e : ((b.natAbs : Nat) : Int) = -b := by omega
    rw [Int.natAbs_of_nonneg ha, e, decide_eq_false (by omega : ¬ a < 0), Int.mul_neg]
    by_cases hb0 : b = 0
    · subst hb0; simp
    · rw [decide_eq_true (by omega : b < 0)]
      by_cases h : c < 0
      · rw [decide_eq_true h, if_pos h]; rfl
      · rw [decide_eq_false h, if_neg h]; simp
  · have e : ((a.natAbs : Nat) : Int) = -a := by omega
    rw [Int.natAbs_of_nonneg hb, e, decide_eq_false (by omega : ¬ b < 0), Int.neg_mul]
    by_cases ha0 : a = 0
    · subst ha0; simp
    · rw [decide_eq_true (by omega : a < 0)]
      by_cases h : c < 0
      · rw [decide_eq_true h, if_pos h]; rfl
      · rw [decide_eq_false h, if_neg h]; simp
  · have e : ((a.natAbs : Nat) : Int) = -a := by omega
    have e2 : ((b.natAbs : Nat) : Int) = -b := by omega
    rw [e, e2, Int.neg_mul_neg]
    by_cases ha0 : a = 0
    · subst ha0; simp
    · by_cases hb0 : b = 0
      · subst hb0; simp
      · rw [decide_eq_true (by omega : a < 0), decide_eq_true (by omega : b < 0)]
        by_cases h : c < 0
        · rw [decide_eq_true h, if_pos h]; rfl
        · rw [decide_eq_false h, if_neg h]; rfl
theorem near {a b c : Int} (ha : -2147483648 ≤ a ∧ a ≤ 2147483647) (hb : -2147483648 ≤ b ∧ b ≤ 2147483647) (hc : c ≠ 0) :
    ∃ x y R, mulDivF a b c = (x, 0) ∧ roundF a b c = (y, 0) ∧ Near (if c < 0 then -(a * b) else a * b) (if c < 0 then -c else c) x y R := by
  have hP : a.natAbs * b.natAbs ≤ 4611686018427387904 := by
    have h1 : a.natAbs ≤ 2147483648 := by omega
    have h2 : b.natAbs ≤ 2147483648 := by omega
    exact Nat.le_trans (Nat.mul_le_mul h1 h2) (by decide)
  obtain ⟨x, y, R, h1, h2, h3⟩ := near_core (a.natAbs * b.natAbs) c.natAbs (negQ a b c) (by omega) hP
  rw [near_sign hc] at h3
  refine ⟨x, y, R, ?_, ?_, ?_⟩
  · unfold mulDivF quoF absQ absR; rw [if_neg hc]; exact h1
  · unfold roundF quoF absQ absR; rw [if_neg hc]; exact h2
  · rw [show (if c < 0 then -c else c) = ((c.natAbs : Nat) : Int) from by split <;> omega]
    exact h3
end Go.Proofs.YtfjkajlkehjnnaaGreatDoor
