/- Glue: shares of a sum, in plain Lean. -/
import Derived.Test.YtciflfejkncdeaaA4
namespace Go.Ar
open Go Go.Eng

/-- a quotient of a product, rounded down -/
theorem mulDiv_floor {a b c : Int} (hb : 0 ≤ b) (hc : 0 < c) (h1 : -9223372036854775808 ≤ a * b / c) (h2 : a * b / c ≤ 9223372036854775807) : mulDivF a b c = (a * b / c, 0) := by
  by_cases ha : 0 ≤ a
  · exact mulDiv_pos ha hb hc h2
  have ha : a < 0 := by omega
  obtain ⟨x, hx⟩ := Int.eq_ofNat_of_zero_le (a := -a) (by omega)
  obtain ⟨y, rfl⟩ := Int.eq_ofNat_of_zero_le hb
  obtain ⟨z, rfl⟩ := Int.eq_ofNat_of_zero_le (Int.le_of_lt hc)
  have hz : 0 < z := by omega
  have ea : a = -(x : Int) := by omega
  subst ea
  have hn : negQ (-(x : Int)) (y : Int) (z : Int) = true := by
    unfold negQ
    rw [decide_eq_true ha, decide_eq_false (by omega), decide_eq_false (by omega)]
    rfl
  have hq : absQ (-(x : Int)) (y : Int) (z : Int) = x * y / z := by unfold absQ; simp
  have hr : absR (-(x : Int)) (y : Int) (z : Int) = x * y % z := by unfold absR; simp
  unfold mulDivF quoF
  rw [if_neg (by omega), hn, hq, hr]
  have hdm := Nat.div_add_mod (x * y) z
  have hml := Nat.mod_lt (x * y) hz
  have eP : -(x : Int) * (y : Int) = -((x * y : Nat) : Int) := by rw [Int.neg_mul]; rfl
  have hfl : -(x : Int) * (y : Int) / (z : Int) = -((x * y / z + (if upFl (x * y % z) (z : Int).natAbs true = true then 1 else 0) : Nat) : Int) := by
    rw [eP]
    by_cases h0 : x * y % z = 0
    · have : upFl (x * y % z) (z : Int).natAbs true = false := by unfold upFl; rw [h0]; rfl
      rw [this, if_neg (by decide)]
      rw [h0, Nat.add_zero] at hdm
      have e2 : -((x * y : Nat) : Int) = (z : Int) * -((x * y / z : Nat) : Int) := by
        rw [Int.mul_neg, ← Int.natCast_mul, hdm]
      rw [e2, Int.mul_ediv_cancel_left _ (by omega)]
      simp
    · have : upFl (x * y % z) (z : Int).natAbs true = true := by
        unfold upFl
        rw [decide_eq_true (by omega)]; rfl
      rw [this, if_pos rfl]
      have e2 : -((x * y : Nat) : Int) = ((z - x * y % z : Nat) : Int) + (z : Int) * -((x * y / z + 1 : Nat) : Int) := by
        rw [Int.mul_neg, ← Int.natCast_mul, Nat.mul_add, Nat.mul_one]
        omega
      rw [e2, Int.add_mul_ediv_left _ _ (by omega), Int.ediv_eq_zero_of_lt (by omega) (by omega)]
      omega
  rw [hfl] at h1 ⊢
  unfold sgnF
  rw [if_pos ⟨rfl, by omega⟩]

def cut (sum n : Int) (j : Nat) : Int := sum * (j : Int) / n
def parts (sum n : Int) : Nat → List Int
  | 0 => []
  | j + 1 => parts sum n j ++ [cut sum n (j + 1) - cut sum n j]
theorem parts_len (sum n : Int) : ∀ j, (parts sum n j).length = j
  | 0 => rfl
  | j + 1 => by simp [parts, parts_len sum n j]
theorem parts_nth (sum n : Int) : ∀ k j, j < k → nth (parts sum n k) j = cut sum n (j + 1) - cut sum n j
  | 0, j, h => by omega
  | k + 1, j, h => by
    unfold nth
    rw [List.getD_eq_getElem?_getD, parts]
    rcases Nat.lt_or_ge j k with hl | hl
    · rw [List.getElem?_append_left (by rw [parts_len]; exact hl)]
      have := parts_nth sum n k j hl
      unfold nth at this
      rwa [List.getD_eq_getElem?_getD] at this
    · have : j = k := by omega
      subst this
      rw [List.getElem?_append_right (by rw [parts_len]; exact Nat.le_refl _), parts_len]
      simp
theorem cut_zero (sum n : Int) : cut sum n 0 = 0 := by unfold cut; simp
def okS (sum n : Int) : Bool := decide (0 ≤ n) && decide (n ≤ 65536) && decide (-1099511627776 ≤ sum) && decide (sum ≤ 1099511627776)
def spreadF (sum n : Int) : List Int × Int := if okS sum n = true then (parts sum n n.toNat, 0) else ([], 2)
theorem okS_iff {sum n : Int} : okS sum n = true ↔ 0 ≤ n ∧ n ≤ 65536 ∧ -1099511627776 ≤ sum ∧ sum ≤ 1099511627776 := by
  unfold okS
  rw [Bool.and_eq_true, Bool.and_eq_true, Bool.and_eq_true, decide_eq_true_iff, decide_eq_true_iff, decide_eq_true_iff, decide_eq_true_iff]
  constructor
  · rintro ⟨⟨⟨a, b⟩, c⟩, d⟩; exact ⟨a, b, c, d⟩
  · rintro ⟨a, b, c, d⟩; exact ⟨⟨⟨a, b⟩, c⟩, d⟩
theorem cut_range {sum n : Int} (hn : 0 < n) (h1 : -1099511627776 ≤ sum) (h2 : sum ≤ 1099511627776) {j : Nat} (hj : (j : Int) ≤ n) : -1099511627776 ≤ cut sum n j ∧ cut sum n j ≤ 1099511627776 := by
  unfold cut
  constructor
  · rw [Int.le_ediv_iff_mul_le hn]
    have a1 : -1099511627776 * (j : Int) ≤ sum * (j : Int) := Int.mul_le_mul_of_nonneg_right h1 (by omega)
    have a2 : -1099511627776 * n ≤ -1099511627776 * (j : Int) := by omega
    omega
  · have a1 : sum * (j : Int) ≤ 1099511627776 * (j : Int) := Int.mul_le_mul_of_nonneg_right h2 (by omega)
    have : sum * (j : Int) / n < 1099511627776 + 1 := by
      rw [Int.ediv_lt_iff_lt_mul hn]
      have : (1099511627776 + 1) * n = 1099511627776 * n + n := by rw [Int.add_mul, Int.one_mul]
      omega
    omega
theorem mulDiv_cut {sum n : Int} (hn : 0 < n) (h1 : -1099511627776 ≤ sum) (h2 : sum ≤ 1099511627776) {j : Nat} (hj : (j : Int) ≤ n) : mulDivF sum (j : Int) n = (cut sum n j, 0) := by
  have := cut_range hn h1 h2 hj
  unfold cut at this ⊢
  exact mulDiv_floor (by omega) hn (by omega) (by omega)
end Go.Ar
