/- Numbers of digits of 16 bits, in plain Lean. -/
import Derived.Test.YtiaaiihdamkeaaaA2
namespace Go.Ar
open Go Go.Eng

abbrev R : Nat := 65536
def val : List Nat → Nat
  | [] => 0
  | x :: r => x + R * val r
def Dg (xs : List Nat) : Prop := ∀ x ∈ xs, x < R
theorem Dg.nil : Dg [] := fun x h => by simp at h
theorem Dg.snoc {xs : List Nat} {x : Nat} (h : Dg xs) (hx : x < R) : Dg (xs ++ [x]) := fun y hy => by
  rcases List.mem_append.1 hy with h1 | h1
  · exact h y h1
  · rw [List.mem_singleton.1 h1]; exact hx
theorem Dg.take {xs : List Nat} (h : Dg xs) (k : Nat) : Dg (xs.take k) := fun y hy => h y (List.mem_of_mem_take hy)
theorem Dg.set {xs : List Nat} (h : Dg xs) (k : Nat) {x : Nat} (hx : x < R) : Dg (xs.set k x) := fun y hy => by
  rcases List.mem_or_eq_of_mem_set hy with h1 | h1
  · exact h y h1
  · rw [h1]; exact hx
theorem Dg.nth {xs : List Nat} (h : Dg xs) (i : Nat) : Eng.nth xs i < R := by
  unfold Eng.nth
  rw [List.getD_eq_getElem?_getD]
  cases hx : xs[i]? with
  | none => show (0 : Nat) < 65536; omega
  | some x => exact h x (List.mem_of_getElem? hx)
theorem Rpos (i : Nat) : 0 < R ^ i := Nat.pow_pos (by decide)
theorem val_append : ∀ a b, val (a ++ b) = val a + R ^ a.length * val b
  | [], b => by simp [val]
  | x :: r, b => by
    simp only [List.cons_append, val, val_append r b, List.length_cons, Nat.pow_succ, Nat.mul_add]
    rw [Nat.add_assoc, ← Nat.mul_assoc, Nat.mul_comm R (R ^ r.length)]
theorem val_snoc (a : List Nat) (x : Nat) : val (a ++ [x]) = val a + R ^ a.length * x := by rw [val_append]; simp [val]
theorem val_lt : ∀ {xs : List Nat}, Dg xs → val xs < R ^ xs.length
  | [], _ => by simp [val]
  | x :: r, h => by
    have h1 := h x (by simp)
    have h2 := val_lt (xs := r) (fun y hy => h y (by simp [hy]))
    have h3 := Nat.mul_le_mul_left R h2
    simp only [val, List.length_cons, Nat.pow_succ, Nat.mul_comm (R ^ r.length) R]
    rw [Nat.mul_succ] at h3
    omega
theorem nth_take_succ (xs : List Nat) (i : Nat) (h : i < xs.length) : xs.take (i + 1) = xs.take i ++ [nth xs i] := by
  rw [List.take_add_one]
  unfold nth
  rw [List.getD_eq_getElem?_getD, List.getElem?_eq_getElem h]
  rfl
theorem nthC0 (x : Nat) (r : List Nat) : nth (x :: r) 0 = x := rfl
theorem nthCS (x : Nat) (r : List Nat) (i : Nat) : nth (x :: r) (i + 1) = nth r i := rfl
theorem pdiv (v i : Nat) : v / R ^ (i + 1) = v / R ^ i / R := by rw [Nat.pow_succ, Nat.div_div_eq_div_mul]
theorem pdiv' (v i : Nat) : v / R ^ (i + 1) = v / R / R ^ i := by rw [Nat.pow_succ, Nat.mul_comm, Nat.div_div_eq_div_mul]
theorem nth_val : ∀ {xs : List Nat}, Dg xs → ∀ i, nth xs i = val xs / R ^ i % R
  | [], _, i => by simp only [val, Nat.zero_div]; rfl
  | x :: r, h, 0 => by
    have h1 := h x (by simp)
    simp only [nthC0, val, Nat.pow_zero, Nat.div_one, R] at *
    omega
  | x :: r, h, i + 1 => by
    have h1 := h x (by simp)
    rw [nthCS, nth_val (xs := r) (fun y hy => h y (by simp [hy])) i, pdiv']
    have : val (x :: r) / R = val r := by simp only [val, R] at *; omega
    rw [this]
theorem pmod (v i : Nat) : v % R ^ (i + 1) = v % R ^ i + R ^ i * (v / R ^ i % R) := by
  rw [Nat.pow_succ, Nat.mod_mul]
theorem val_take {xs : List Nat} (h : Dg xs) : ∀ i, val (xs.take i) = val xs % R ^ i
  | 0 => by simp [val, Nat.mod_one]
  | i + 1 => by
    rw [pmod, ← val_take h i, ← nth_val h i]
    rcases Nat.lt_or_ge i xs.length with hl | hl
    · rw [nth_take_succ xs i hl, val_snoc]
      simp [Nat.min_eq_left (Nat.le_of_lt hl)]
    · rw [List.take_of_length_le (by omega), List.take_of_length_le hl]
      have : nth xs i = 0 := by unfold nth; rw [List.getD_eq_getElem?_getD, List.getElem?_eq_none hl]; rfl
      rw [this]; simp
/-- digits, the last of them not nought -/
def toL (n : Nat) : List Nat := if h : n = 0 then [] else n % R :: toL (n / R)
termination_by n
decreasing_by exact Nat.div_lt_self (by omega) (by decide)
theorem toL_zero : toL 0 = [] := by rw [toL]; simp
theorem toL_pos {n : Nat} (h : n ≠ 0) : toL n = n % R :: toL (n / R) := by rw [toL]; simp [h]
theorem val_toL (n : Nat) : val (toL n) = n := by
  induction n using Nat.strongRecOn with
  | _ n ih =>
    by_cases h : n = 0
    · subst h; rw [toL_zero]; rfl
    · rw [toL_pos h, val, ih _ (Nat.div_lt_self (by omega) (by decide))]
      exact Nat.mod_add_div n R
theorem dg_toL (n : Nat) : Dg (toL n) := by
  induction n using Nat.strongRecOn with
  | _ n ih =>
    by_cases h : n = 0
    · subst h; rw [toL_zero]; exact Dg.nil
    · rw [toL_pos h]
      intro x hx
      rcases List.mem_cons.1 hx with rfl | hx
      · exact Nat.mod_lt _ (by decide)
      · exact ih _ (Nat.div_lt_self (by omega) (by decide)) x hx
theorem toL_len {n k : Nat} (h : n < R ^ k) : (toL n).length ≤ k := by
  induction k generalizing n with
  | zero => have : n = 0 := by simpa using h
            subst this; rw [toL_zero]; simp
  | succ k ih =>
    by_cases h0 : n = 0
    · subst h0; rw [toL_zero]; simp
    · rw [toL_pos h0, List.length_cons]
      have := ih (n := n / R) (by rw [Nat.div_lt_iff_lt_mul (by decide)]; rw [Nat.pow_succ] at h; exact h)
      omega
theorem toL_of : ∀ {xs : List Nat}, Dg xs → (xs ≠ [] → nth xs (xs.length - 1) ≠ 0) → xs = toL (val xs)
  | [], _, _ => by rw [val, toL_zero]
  | x :: r, h, hl => by
    have h1 := h x (by simp)
    have hr : Dg r := fun y hy => h y (by simp [hy])
    have hl := hl (by simp)
    have ih := toL_of (xs := r) hr (fun hne => by
      cases r with
      | nil => exact absurd rfl hne
      | cons y r' => exact hl)
    have hpos : val (x :: r) ≠ 0 := by
      intro e
      have hx : x = 0 := by simp only [val] at e; omega
      have hv : val r = 0 := by simp only [val, R] at e; omega
      rw [hv, toL_zero] at ih
      subst ih
      exact hl hx
    rw [toL_pos hpos]
    have e1 : val (x :: r) % R = x := by simp only [val, R] at *; omega
    have e2 : val (x :: r) / R = val r := by simp only [val, R] at *; omega
    rw [e1, e2, ← ih]
theorem val_set : ∀ (xs : List Nat) (k x : Nat), k < xs.length → val (xs.set k x) + R ^ k * nth xs k = val xs + R ^ k * x
  | [], k, x, h => by simp at h
  | y :: r, 0, x, h => by simp [val, nthC0]; omega
  | y :: r, k + 1, x, h => by
    have ih := val_set r k x (by simpa using h)
    simp only [List.set_cons_succ, val, nthCS, Nat.pow_succ]
    have e1 : ∀ z, R ^ k * R * z = R * (R ^ k * z) := fun z => by rw [Nat.mul_comm (R ^ k) R, Nat.mul_assoc]
    rw [e1, e1]
    have := congrArg (R * ·) ih
    simp only [Nat.mul_add] at this
    omega
theorem val_zeros : ∀ n, val (List.replicate n 0) = 0
  | 0 => rfl
  | n + 1 => by simp [List.replicate_succ, val, val_zeros n]
theorem dg_zeros (n : Nat) : Dg (List.replicate n 0) := fun x hx => by rw [List.eq_of_mem_replicate hx]; decide
end Go.Ar
