/- Numbers of 64 bits: sums, products, shifts and masks; a product in two words, a quotient of two words, in plain Lean. -/
import Derived.Test.YtiaaiihdamkeaaaEng
namespace Go.Ar
open Go Go.Eng

abbrev W : Nat := 18446744073709551616
abbrev B : Nat := 4294967296

theorem wadd {x y : Nat} (h : x + y < W) : IntKind.u64.wrap ((x : Int) + (y : Int)) = ((x + y : Nat) : Int) := by
  rw [IntWalk.u64_in _ (by simp only [W] at h; omega)]; rfl
theorem wmul {x y : Nat} (h : x * y < W) : IntKind.u64.wrap ((x : Int) * (y : Int)) = ((x * y : Nat) : Int) := by
  rw [← Int.natCast_mul, IntWalk.u64_in _ (by simp only [W] at h; omega)]
theorem wmulm (x y : Nat) : IntKind.u64.wrap ((x : Int) * (y : Int)) = ((x * y % W : Nat) : Int) := by
  rw [← Int.natCast_mul]
  simp only [IntKind.wrap, IntKind.bits, IntKind.signed, Bool.false_and]
  simp
theorem wsub {x y : Nat} (h : y ≤ x) (hx : x < W) : IntKind.u64.wrap ((x : Int) - (y : Int)) = ((x - y : Nat) : Int) := by
  rw [IntWalk.u64_in _ (by simp only [W] at hx; omega)]; omega
theorem wsubm {x y : Nat} (hx : x < W) (hy : y < W) : IntKind.u64.wrap ((x : Int) - (y : Int)) = (((W + x - y) % W : Nat) : Int) := by
  simp only [IntKind.wrap, IntKind.bits, IntKind.signed, Bool.false_and]
  simp only [W] at *
  simp
  omega
theorem waddm (x y : Nat) : IntKind.u64.wrap ((x : Int) + (y : Int)) = (((x + y) % W : Nat) : Int) := by
  simp only [IntKind.wrap, IntKind.bits, IntKind.signed, Bool.false_and]
  simp
theorem bv64 {x : Nat} (h : x < W) : (BitVec.ofInt 64 (x : Int)).toNat = x := by
  simp only [W] at h
  simp [BitVec.toNat_ofInt]
  omega
theorem and_w {x y : Nat} (hx : x < W) (hy : y < W) : bitsV .and .u64 (x : Int) (y : Int) = ((x &&& y : Nat) : Int) := by
  have h1 : (BitVec.ofInt IntKind.u64.bits (x : Int)).toNat = x := bv64 hx
  have h2 : (BitVec.ofInt IntKind.u64.bits (y : Int)).toNat = y := bv64 hy
  simp only [bitsV, BitVec.toNat_and, h1, h2]
  have : x &&& y ≤ x := Nat.and_le_left
  simp only [W] at hx
  exact IntWalk.u64_in _ (by omega)
theorem or_w {x y : Nat} (hx : x < W) (hy : y < W) : bitsV .or .u64 (x : Int) (y : Int) = ((x ||| y : Nat) : Int) := by
  have h1 : (BitVec.ofInt IntKind.u64.bits (x : Int)).toNat = x := bv64 hx
  have h2 : (BitVec.ofInt IntKind.u64.bits (y : Int)).toNat = y := bv64 hy
  simp only [bitsV, BitVec.toNat_or, h1, h2]
  have : x ||| y < 2 ^ 64 := Nat.or_lt_two_pow (by simp only [W] at hx; omega) (by simp only [W] at hy; omega)
  exact IntWalk.u64_in _ (by omega)
theorem and32 {x : Nat} (hx : x < W) : bitsV .and .u64 (x : Int) 4294967295 = ((x % B : Nat) : Int) := by
  have := and_w hx (y := 4294967295) (by simp [W])
  rw [show ((4294967295 : Nat) : Int) = 4294967295 from rfl] at this
  rw [this, show (4294967295 : Nat) = 2 ^ 32 - 1 from rfl, Nat.and_two_pow_sub_one_eq_mod]
theorem shr_n {k : IntKind} (x : Nat) {n : Nat} (h : n ≤ k.bits) : shrV k (x : Int) (n : Int) = ((x / 2 ^ n : Nat) : Int) := by
  simp only [shrV, Int.toNat_natCast, Nat.min_eq_left h]
  rw [Int.fdiv_eq_ediv_of_nonneg _ (by exact Int.le_of_lt (Int.pow_pos (by omega)))]
  have : ((2 : Int) ^ n) = ((2 ^ n : Nat) : Int) := by simp
  rw [this]; rfl
theorem shr32 (x : Nat) : shrV .u64 (x : Int) 32 = ((x / B : Nat) : Int) := shr_n (k := .u64) x (n := 32) (by decide)
theorem shl_n (x : Nat) {n : Nat} (h : n ≤ 64) : shlV .u64 (x : Int) (n : Int) = ((x * 2 ^ n % W : Nat) : Int) := by
  simp only [shlV, Int.toNat_natCast, IntKind.bits, Nat.min_eq_left h]
  have : ((2 : Int) ^ n) = ((2 ^ n : Nat) : Int) := by simp
  rw [this]
  exact wmulm _ _

/-! a product of two words -/
theorem lt_sq {x y : Nat} (hx : x < B) (hy : y < B) : x * y ≤ (B - 1) * (B - 1) := Nat.mul_le_mul (by omega) (by omega)
theorem mul_split (x y : Nat) : x * y = (x / B) * (y / B) * W + ((x / B) * (y % B) + (x % B) * (y / B)) * B + (x % B) * (y % B) := by
  have hx := Nat.div_add_mod x B
  have hy := Nat.div_add_mod y B
  generalize x / B = a at *
  generalize x % B = b at *
  generalize y / B = c at *
  generalize y % B = d at *
  rw [← hx, ← hy, Nat.add_mul, Nat.mul_add, Nat.mul_add]
  have e1 : B * a * (B * c) = a * c * W := by
    rw [Nat.mul_assoc, Nat.mul_left_comm a B c, ← Nat.mul_assoc, Nat.mul_comm (B * B)]
    rfl
  have e2 : B * a * d = a * d * B := by rw [Nat.mul_assoc, Nat.mul_comm]
  have e3 : b * (B * c) = b * c * B := by rw [Nat.mul_left_comm, Nat.mul_comm]
  rw [e1, e2, e3, Nat.add_mul]
  omega
def mulT (x y : Nat) : Nat := (x / B) * (y % B) + (x % B) * (y % B) / B
def mulW (x y : Nat) : Nat := mulT x y % B + (x % B) * (y / B)
def mulHi (x y : Nat) : Nat := (x / B) * (y / B) + mulT x y / B + mulW x y / B
theorem mul_parts {x y : Nat} (hx : x < W) (hy : y < W) : mulT x y < W ∧ mulW x y < W ∧ (x % B) * (y % B) < W ∧ (x / B) * (y % B) < W ∧ (x % B) * (y / B) < W ∧ (x / B) * (y / B) < W ∧ (x / B) * (y / B) + mulT x y / B < W ∧ mulHi x y < W ∧ mulHi x y = x * y / W := by
  have a1 : x / B < B := by simp only [W, B] at *; omega
  have a2 : y / B < B := by simp only [W, B] at *; omega
  have a3 : x % B < B := Nat.mod_lt _ (by decide)
  have a4 : y % B < B := Nat.mod_lt _ (by decide)
  have p1 := lt_sq a1 a2
  have p2 := lt_sq a1 a4
  have p3 := lt_sq a3 a2
  have p4 := lt_sq a3 a4
  have hs := mul_split x y
  have hlt : x * y < W * W := Nat.mul_lt_mul'' hx hy
  unfold mulHi mulW mulT
  generalize (x / B) * (y / B) = p at *
  generalize (x / B) * (y % B) = q at *
  generalize (x % B) * (y / B) = r at *
  generalize (x % B) * (y % B) = s at *
  rw [Nat.add_mul] at hs
  simp only [W, B] at *
  omega

/-! a quotient, one half of it after the other -/
theorem half_lt {u v v1 v0 d q r : Nat} (hv : v = v1 * B + v0) (hinv : q * v1 + r = u) (h : q * v0 > B * r + d) : (u * B + d) / v < q := by
  have hv0 : 0 < v := by
    rcases Nat.eq_zero_or_pos v with e | e
    · subst hinv
      have : v0 = 0 := by omega
      subst this
      simp at h
    · exact e
  rw [Nat.div_lt_iff_lt_mul hv0, hv, Nat.mul_add, ← Nat.mul_assoc, ← hinv]
  generalize q * v1 = p at *
  generalize q * v0 = s at *
  simp only [B] at *
  omega
theorem half_le {u v v1 v0 d q r : Nat} (hv0 : 0 < v) (hv : v = v1 * B + v0) (hinv : q * v1 + r = u) (h : q * v0 ≤ B * r + d) : q ≤ (u * B + d) / v := by
  rw [Nat.le_div_iff_mul_le hv0, hv, Nat.mul_add, ← Nat.mul_assoc, ← hinv]
  generalize q * v1 = p at *
  generalize q * v0 = s at *
  simp only [B] at *
  omega
theorem half_B {u v d : Nat} (hu : u < v) (hd : d < B) : (u * B + d) / v < B := by
  rw [Nat.div_lt_iff_lt_mul (by omega), Nat.mul_comm]
  have : (u + 1) * B ≤ v * B := Nat.mul_le_mul_right _ hu
  rw [Nat.mul_comm B v] 
  simp only [B] at *
  omega
/-- what is known of a digit on the way -/
structure Dig (u v v1 v0 d : Nat) where
  q : Nat
  r : Nat
  hinv : q * v1 + r = u
  hle : (u * B + d) / v ≤ q
  hB : q ≤ B + 1
  hr : r < B
def Dig.start {u v v1 v0 d : Nat} (hv : v = v1 * B + v0) (hv0 : v0 < B) (hv1 : B / 2 ≤ v1) (hv1' : v1 < B) (hu : u < v) (hd : d < B) : Dig u v v1 v0 d where
  q := u / v1
  r := u % v1
  hinv := by rw [Nat.mul_comm]; exact Nat.div_add_mod u v1
  hle := by
    have hp : 0 < v1 := by simp only [B] at *; omega
    rw [Nat.le_div_iff_mul_le hp]
    have hvp : 0 < v := by omega
    have h1 : (u * B + d) / v * v ≤ u * B + d := Nat.div_mul_le_self _ _
    rw [hv, Nat.mul_add, ← Nat.mul_assoc] at h1
    rw [← hv] at h1
    generalize (u * B + d) / v = q at *
    generalize q * v1 = p at *
    generalize q * v0 = s at *
    simp only [B] at *
    omega
  hB := by
    have hp : 0 < v1 := by simp only [B] at *; omega
    have h1 : u / v1 < B + 2 := by
      rw [Nat.div_lt_iff_lt_mul hp]
      simp only [B] at *
      omega
    omega
  hr := by
    have := Nat.mod_lt u (show v1 > 0 by simp only [B] at *; omega)
    omega
/-- one less -/
def Dig.next {u v v1 v0 d : Nat} (s : Dig u v v1 v0 d) (hgt : (u * B + d) / v < s.q) (hr : s.r + v1 < B) : Dig u v v1 v0 d where
  q := s.q - 1
  r := s.r + v1
  hinv := by
    have := s.hinv
    have h0 : 0 < s.q := Nat.lt_of_le_of_lt (Nat.zero_le _) hgt
    have h1 : s.q = (s.q - 1) + 1 := by omega
    rw [h1, Nat.add_mul] at this
    omega
  hle := Nat.le_sub_one_of_lt hgt
  hB := by have := s.hB; omega
  hr := hr
theorem Dig.gt {u v v1 v0 d : Nat} (s : Dig u v v1 v0 d) (hv : v = v1 * B + v0) (hu : u < v) (hd : d < B) (h : B ≤ s.q ∨ s.q * v0 > B * s.r + d) : (u * B + d) / v < s.q := by
  rcases h with h | h
  · exact Nat.lt_of_lt_of_le (half_B hu hd) h
  · exact half_lt hv s.hinv h
theorem Dig.done {u v v1 v0 d : Nat} (s : Dig u v v1 v0 d) (hv : v = v1 * B + v0) (hu : u < v) (h : s.q * v0 ≤ B * s.r + d) : s.q = (u * B + d) / v :=
  Nat.le_antisymm (half_le (by omega) hv s.hinv h) s.hle
/-- the rest is no less than B: the digit is right -/
theorem Dig.stop {u v v1 v0 d : Nat} (s : Dig u v v1 v0 d) (hv : v = v1 * B + v0) (hv0 : v0 < B) (hu : u < v) (hgt : (u * B + d) / v < s.q) (hr : B ≤ s.r + v1) : s.q - 1 = (u * B + d) / v := by
  refine Nat.le_antisymm ?_ (Nat.le_sub_one_of_lt hgt)
  have hinv : (s.q - 1) * v1 + (s.r + v1) = u := by
    have := s.hinv
    have h0 : 0 < s.q := Nat.lt_of_le_of_lt (Nat.zero_le _) hgt
    have h1 : s.q = (s.q - 1) + 1 := by omega
    rw [h1, Nat.add_mul] at this
    omega
  refine half_le (by omega) hv hinv ?_
  have h1 : (s.q - 1) * v0 ≤ B * v0 := Nat.mul_le_mul_right _ (by have := s.hB; omega)
  generalize (s.q - 1) * v0 = p at *
  simp only [B] at *
  omega
theorem Dig.cond_lt {u v v1 v0 d : Nat} (s : Dig u v v1 v0 d) (hv0 : v0 < B) (hq : s.q < B) (hd : d < B) : s.q * v0 < W ∧ B * s.r < W ∧ B * s.r + d < W := by
  have h1 := lt_sq hq hv0
  have := s.hr
  generalize s.q * v0 = p at *
  simp only [W, B] at *
  omega
/-- the whole: N = hi * W + lo, shifted by s so that the divisor's upper bit is 1 -/
theorem div_whole {hi lo y s : Nat} (hs : s ≤ 63) (hy : 0 < y) (hlt : hi < y) (hlo : lo < W) (hv2 : y * 2 ^ s < W) :
    hi * 2 ^ s < W ∧ lo / 2 ^ (64 - s) < 2 ^ s ∧ hi * 2 ^ s + lo / 2 ^ (64 - s) < y * 2 ^ s ∧ (hi * 2 ^ s + lo / 2 ^ (64 - s)) * W + lo * 2 ^ s % W = (hi * W + lo) * 2 ^ s := by
  have hp : 0 < 2 ^ s := Nat.two_pow_pos s
  have e64 : 2 ^ s * 2 ^ (64 - s) = W := by rw [← Nat.pow_add, show s + (64 - s) = 64 from by omega]
  have h1 : (hi + 1) * 2 ^ s ≤ y * 2 ^ s := Nat.mul_le_mul_right _ hlt
  have hlt2 : lo / 2 ^ (64 - s) < 2 ^ s := by
    rw [Nat.div_lt_iff_lt_mul (Nat.two_pow_pos _), e64]; exact hlo
  have hdm : lo * 2 ^ s / W = lo / 2 ^ (64 - s) := by
    rw [← e64, Nat.mul_comm lo, Nat.mul_div_mul_left _ _ hp]
  have hsum := Nat.div_add_mod (lo * 2 ^ s) W
  rw [hdm] at hsum
  rw [Nat.add_mul] at h1
  refine ⟨by omega, hlt2, by omega, ?_⟩
  rw [Nat.add_mul, Nat.add_mul (hi * W), show hi * 2 ^ s * W = hi * W * 2 ^ s from by rw [Nat.mul_assoc, Nat.mul_assoc, Nat.mul_comm W]]
  generalize lo * 2 ^ s % W = c at *
  generalize lo * 2 ^ s = e at *
  generalize lo / 2 ^ (64 - s) = f at *
  generalize hi * W * 2 ^ s = g at *
  simp only [W] at *
  omega
theorem div_end {N y s U L v : Nat} (hp : 0 < 2 ^ s) (hy : 0 < y) (hv : v = y * 2 ^ s) (hU : U * W + L = N * 2 ^ s) (hL : L < W) :
    (U * B + L / B) / v * B + ((U * B + L / B) % v * B + L % B) / v = N / y ∧ ((U * B + L / B) % v * B + L % B) % v / 2 ^ s = N % y := by
  have hvp : 0 < v := by rw [hv]; exact Nat.mul_pos hy hp
  have hLs : L = L / B * B + L % B := by simp only [B]; omega
  have h1 : N * 2 ^ s = (U * B + L / B) * B + L % B := by
    rw [← hU]
    simp only [W, B] at *
    omega
  clear hLs
  obtain ⟨A, hA⟩ : ∃ A, A = U * B + L / B := ⟨_, rfl⟩
  obtain ⟨e, he⟩ : ∃ e, e = L % B := ⟨_, rfl⟩
  rw [← hA, ← he] at h1
  rw [← hA, ← he]
  have hd := Nat.div_add_mod A v
  have h2 : N * 2 ^ s = v * (A / v * B) + (A % v * B + e) := by
    rw [h1, ← Nat.mul_assoc, ← Nat.add_assoc, ← Nat.add_mul, hd]
  have hdiv : N * 2 ^ s / v = N / y := by rw [hv, Nat.mul_div_mul_right _ _ hp]
  have hmod : N * 2 ^ s % v = N % y * 2 ^ s := by rw [hv, Nat.mul_mod_mul_right]
  constructor
  · rw [← hdiv, h2, Nat.mul_add_div hvp]
  · have : (A % v * B + e) % v = N % y * 2 ^ s := by rw [← hmod, h2, Nat.mul_add_mod]
    rw [this, Nat.mul_div_cancel _ hp]
end Go.Ar
