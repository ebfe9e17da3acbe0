/- Glue grows worse the farther it goes, in plain Lean. -/
import Derived.Test.YtciflfejkncdeaaA5
namespace Go.Ar
open Go Go.Eng

def qF (q : Int) : Int := min 10000 (100 * q * q * q / 1073741824)
theorem qF_mono {q r : Int} (h0 : 0 ≤ q) (h : q ≤ r) : qF q ≤ qF r := by
  have a1 : q * q ≤ r * r := Int.mul_le_mul h h h0 (by omega)
  have a2 : q * q * q ≤ r * r * r := Int.mul_le_mul a1 h h0 (Int.mul_nonneg (by omega) (by omega))
  have e : ∀ x : Int, 100 * x * x * x = 100 * (x * x * x) := fun x => by rw [Int.mul_assoc, Int.mul_assoc, Int.mul_assoc]
  have a3 : 100 * q * q * q / 1073741824 ≤ 100 * r * r * r / 1073741824 := Int.ediv_le_ediv (by decide) (by rw [e, e]; omega)
  unfold qF
  omega
theorem cubeF_q {d s : Int} (h : s ≠ 0) : cubeF d s = qF (min (d * 1024 / s) 8192) := by
  unfold cubeF; rw [if_neg h]; rfl
theorem qF_le (q : Int) : qF q ≤ 10000 := by unfold qF; omega
theorem cubeF_mono {d d' s : Int} (h0 : 0 ≤ d) (h : d ≤ d') (hs : 0 ≤ s) : cubeF d s ≤ cubeF d' s := by
  by_cases h1 : s = 0
  · unfold cubeF; rw [if_pos h1, if_pos h1]; omega
  · rw [cubeF_q h1, cubeF_q h1]
    have hq := q_range (d := d) (s := s) h0 (by omega)
    have : d * 1024 / s ≤ d' * 1024 / s := Int.ediv_le_ediv (by omega) (by omega)
    exact qF_mono hq.1 (by omega)
theorem cubeF_anti {d s s' : Int} (h0 : 0 ≤ d) (hs : 0 ≤ s) (h : s ≤ s') : cubeF d s' ≤ cubeF d s := by
  by_cases h1 : s = 0
  · have h2 : cubeF d s = 10000 := by unfold cubeF; rw [if_pos h1]
    rw [h2]
    unfold cubeF
    split
    · omega
    · exact Int.min_le_left _ _
  · rw [cubeF_q h1, cubeF_q (by omega)]
    have hq := q_range (d := d) (s := s') h0 (by omega)
    have : d * 1024 / s' ≤ d * 1024 / s := by
      rw [Int.le_ediv_iff_mul_le (by omega)]
      have e1 := Int.ediv_mul_le (d * 1024) (b := s') (by omega)
      have e2 : 0 ≤ d * 1024 / s' := Int.ediv_nonneg (by omega) (by omega)
      have e3 : d * 1024 / s' * s ≤ d * 1024 / s' * s' := Int.mul_le_mul_of_nonneg_left h e2
      omega
    exact qF_mono hq.1 (by omega)
theorem cubeF_100 {d s : Int} (h0 : 0 ≤ d) (h : d ≤ s) (hs : 0 < s) : cubeF d s ≤ 100 := by
  rw [cubeF_q (by omega)]
  have hq := q_range (d := d) (s := s) h0 hs
  have : d * 1024 / s ≤ 1024 := by
    have : d * 1024 / s < 1024 + 1 := by
      rw [Int.ediv_lt_iff_lt_mul hs, Int.add_mul, Int.one_mul]
      omega
    omega
  have := qF_mono hq.1 (show min (d * 1024 / s) 8192 ≤ 1024 by omega)
  have e : qF 1024 = 100 := by decide
  omega

theorem okN_i {n : Int} : okN n = true ↔ 0 ≤ n ∧ n ≤ 1099511627776 := by
  unfold okN
  rw [Bool.and_eq_true, decide_eq_true_iff, decide_eq_true_iff]
/-- farther from what is wanted -/
def farF (h w more : Int) : Int := if h < w then max 0 (h - more) else h + more
theorem grows1 {h w st sh more : Int} (hh : 0 ≤ h) (hst : 0 ≤ st) (hsh : 0 ≤ sh) (hm : 0 ≤ more) (hne : h ≠ w)
    (hz : (badnessF (farF h w more) w st sh).2.2 = 0) : (badF h w st sh).1 ≤ (badnessF (farF h w more) w st sh).1 ∧ (badF h w st sh).2 ≤ (badnessF (farF h w more) w st sh).2.1 := by
  unfold badnessF at hz ⊢
  split at hz
  · rename_i hok
    rw [if_pos hok]
    show (badF h w st sh).1 ≤ (badF (farF h w more) w st sh).1 ∧ (badF h w st sh).2 ≤ (badF (farF h w more) w st sh).2
    unfold farF badF
    rw [if_neg hne]
    by_cases hl : h < w
    · rw [if_pos hl, if_pos hl, if_neg (by omega), if_pos (by omega)]
      exact ⟨cubeF_mono (by omega) (by omega) hst, Int.le_refl _⟩
    · rw [if_neg hl, if_neg hl, if_neg (by omega : ¬ h + more = w), if_neg (by omega : ¬ h + more < w)]
      by_cases ho : h > w + sh
      · rw [if_pos ho, if_pos (by omega)]
        exact ⟨Int.le_refl _, by show h - w - sh ≤ h + more - w - sh; omega⟩
      · rw [if_neg ho]
        by_cases ho2 : h + more > w + sh
        · rw [if_pos ho2]
          have := cubeF_q (d := h - w) (s := sh)
          refine ⟨?_, by show (0 : Int) ≤ h + more - w - sh; omega⟩
          show cubeF (h - w) sh ≤ 10000
          by_cases hs0 : sh = 0
          · unfold cubeF; rw [if_pos hs0]; omega
          · rw [cubeF_q hs0]; exact qF_le _
        · rw [if_neg ho2]
          exact ⟨cubeF_mono (by omega) (by omega) hsh, Int.le_refl _⟩
  · simp at hz
theorem grows2 {h w st st' sh : Int} (hst : 0 ≤ st) (hle : st ≤ st') (hh : 0 ≤ h) : (badF h w st' sh).1 ≤ (badF h w st sh).1 := by
  unfold badF
  split
  · exact Int.le_refl _
  · split
    · exact cubeF_anti (by omega) hst hle
    · exact Int.le_refl _
theorem grows3 {h w st sh : Int} (hg : h > w) (ho : (badF h w st sh).2 = 0) (hsh : 0 ≤ sh) : (badF h w st sh).1 ≤ 100 := by
  unfold badF at ho ⊢
  rw [if_neg (by omega : ¬ h = w), if_neg (by omega : ¬ h < w)] at ho ⊢
  split at ho
  · rename_i h1
    have ho : h - w - sh = 0 := ho
    omega
  · rename_i h1
    rw [if_neg h1]
    exact cubeF_100 (by omega) (by omega) (by omega)
end Go.Ar
