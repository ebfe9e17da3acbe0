/- Glue: what its functions answer, in plain Lean. -/
import Derived.Test.YtiaaiihdamkeaaaA3
namespace Go.Ar
open Go Go.Eng

def okN (n : Int) : Bool := decide (n ≥ 0) && decide (n ≤ 1099511627776)
theorem mulDiv_pos {a b c : Int} (ha : 0 ≤ a) (hb : 0 ≤ b) (hc : 0 < c) (h : a * b / c ≤ 9223372036854775807) : mulDivF a b c = (a * b / c, 0) := by
  obtain ⟨x, rfl⟩ := Int.eq_ofNat_of_zero_le ha
  obtain ⟨y, rfl⟩ := Int.eq_ofNat_of_zero_le hb
  obtain ⟨z, rfl⟩ := Int.eq_ofNat_of_zero_le (Int.le_of_lt hc)
  have hz : 0 < z := by omega
  have e : ((x : Int) * (y : Int)) / (z : Int) = ((x * y / z : Nat) : Int) := by rw [← Int.natCast_mul]; rfl
  rw [e] at h ⊢
  have hq : x * y / z ≤ 9223372036854775807 := by omega
  unfold mulDivF quoF
  have hn : negQ (x : Int) (y : Int) (z : Int) = false := by
    unfold negQ
    rw [decide_eq_false (by omega), decide_eq_false (by omega), decide_eq_false (by omega)]
    rfl
  have ha : absQ (x : Int) (y : Int) (z : Int) = x * y / z := by unfold absQ; simp
  rw [if_neg (by omega), hn, ha]
  have : upFl (absR (x : Int) (y : Int) (z : Int)) (z : Int).natAbs false = false := rfl
  rw [this, if_neg (by decide)]
  unfold sgnF
  rw [if_neg (by simp), if_neg (by simp; omega)]
  rfl

/-- the cube of a share, of 10000 at most; d over nought -/
def cubeF (d s : Int) : Int :=
  if s = 0 then 10000 else
    let q := min (d * 1024 / s) 8192
    min 10000 (100 * q * q * q / 1073741824)
def overF (have' want shrink : Int) : Int := max 0 (have' - want - shrink)
/-- badness, and what stands over -/
def badF (h w st sh : Int) : Int × Int :=
  if h = w then (0, 0) else if h < w then (cubeF (w - h) st, 0) else if h > w + sh then (10000, h - w - sh) else (cubeF (h - w) sh, 0)
def okF (h w st sh : Int) : Bool := okN h && okN w && okN st && okN sh
def badnessF (h w st sh : Int) : Int × Int × Int := if okF h w st sh = true then ((badF h w st sh).1, (badF h w st sh).2, 0) else (0, 0, 2)
def demF (h w st sh : Int) (last : Bool) : Int × Int :=
  if okF h w st sh = true then
    (if (badF h w st sh).2 > 0 then (1000000000000 + (badF h w st sh).2, 0)
     else if last = true ∧ h < w then (100, 0) else (((badF h w st sh).1 + 10) * ((badF h w st sh).1 + 10), 0))
  else (0, 2)
def spaceF (w : Int) : Int × Int × Int := if okN w = true then (w / 2, w / 3, 0) else (0, 0, 2)
theorem q_range {d s : Int} (hd : 0 ≤ d) (hs : 0 < s) : 0 ≤ min (d * 1024 / s) 8192 ∧ min (d * 1024 / s) 8192 ≤ 8192 := by
  have : 0 ≤ d * 1024 / s := Int.ediv_nonneg (by omega) (by omega)
  omega
theorem cube_bound {q : Int} (h0 : 0 ≤ q) (h1 : q ≤ 8192) : 0 ≤ 100 * q ∧ 100 * q ≤ 819200 ∧ 0 ≤ 100 * q * q ∧ 100 * q * q ≤ 6710886400 ∧ 0 ≤ 100 * q * q * q ∧ 100 * q * q * q ≤ 54975581388800 := by
  have a1 : 0 ≤ 100 * q := by omega
  have a2 : 100 * q ≤ 819200 := by omega
  have a3 : 0 ≤ 100 * q * q := Int.mul_nonneg a1 h0
  have a4 : 100 * q * q ≤ 819200 * 8192 := Int.mul_le_mul a2 h1 h0 (by omega)
  have a5 : 0 ≤ 100 * q * q * q := Int.mul_nonneg a3 h0
  have a6 : 100 * q * q * q ≤ 6710886400 * 8192 := Int.mul_le_mul (by omega) h1 h0 (by omega)
  omega
theorem cubeF_zero {s : Int} (h : s ≠ 0) : cubeF 0 s = 0 := by
  unfold cubeF
  rw [if_neg h]
  simp
  decide
end Go.Ar
