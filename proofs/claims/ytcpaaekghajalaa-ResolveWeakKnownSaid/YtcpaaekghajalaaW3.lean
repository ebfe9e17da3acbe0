/- The neutral classes, in plain Lean: what a row becomes. -/
import Derived.Test.YtcpaaekghajalaaW2
namespace Go.Proofs.Ytcpaaekghajalaa
open Go Go.Eng Go.RowKit

/-- is it one that tells a side? -/
def tells (c : Int) : Bool := !(decide (c = 10)) && !neuF c
/-- the side behind -/
def bh (e : Int) : List Int → Int
  | [] => e
  | c :: r => if tells c then sideF c else bh e r
/-- the side ahead -/
def dA : Int → List Int → Int
  | d, [] => d
  | d, c :: r => if tells c then dA (sideF c) r else dA d r
def sideOf (lv : Int) : Int := if lv % 2 = 1 then 2 else 1
/-- the row resolved -/
def fw (sd e : Int) : Int → List Int → List Int
  | _, [] => []
  | d, c :: r => (if neuF c then (if d = bh e r ∧ d ≠ 0 then d else sd) else c) :: fw sd e (if tells c then sideF c else d) r
def neuX (xs : List Int) (lv sos eos : Int) : List Int := fw (sideOf lv) (edgeF eos) (edgeF sos) xs

theorem neu10 : neuF 10 = false := by decide
theorem tells_neu {c : Int} (h : tells c = true) : neuF c = false := by
  unfold tells at h; simp at h; exact h.2
theorem fw_len (sd e : Int) : ∀ (d : Int) (xs : List Int), (fw sd e d xs).length = xs.length
  | _, [] => rfl
  | d, c :: r => by simp [fw, fw_len sd e _ r]
theorem neuX_len (xs : List Int) (lv sos eos : Int) : (neuX xs lv sos eos).length = xs.length := fw_len _ _ _ _

theorem dA_snoc : ∀ (d : Int) (xs : List Int) (c : Int), dA d (xs ++ [c]) = if tells c then sideF c else dA d xs
  | d, [], c => by simp [dA]
  | d, a :: r, c => by
    simp only [List.cons_append, dA]
    split
    · rw [dA_snoc]
    · rw [dA_snoc]

theorem nth_cons0 (a : Int) (r : List Int) : nth (a :: r) 0 = a := rfl
theorem nth_consS (a : Int) (r : List Int) (j : Nat) : nth (a :: r) (j + 1) = nth r j := rfl

theorem fw_nth (sd e : Int) : ∀ (d : Int) (xs : List Int) (j : Nat), j < xs.length →
    nth (fw sd e d xs) j = if neuF (nth xs j) then (if dA d (xs.take j) = bh e (xs.drop (j + 1)) ∧ dA d (xs.take j) ≠ 0 then dA d (xs.take j) else sd) else nth xs j
  | d, [], j, h => by simp at h
  | d, c :: r, 0, h => by
    simp only [fw, nth_cons0, List.take_zero, dA, List.drop_succ_cons, List.drop_zero]
  | d, c :: r, j + 1, h => by
    simp only [fw, nth_consS, List.take_succ_cons, List.drop_succ_cons, dA]
    rw [fw_nth sd e _ r j (by simpa using h)]
    have e1 : ∀ l, (if tells c = true then dA (sideF c) l else dA d l) = dA (if tells c = true then sideF c else d) l := fun l => by split <;> rfl
    simp only [e1]

theorem take_succ_nth (xs : List Int) (i : Nat) (h : i < xs.length) : xs.take (i + 1) = xs.take i ++ [nth xs i] := by
  rw [List.take_succ_eq_append_getElem h, nth_eq xs i h]
theorem drop_nth (xs : List Int) (i : Nat) (h : i < xs.length) : xs.drop i = nth xs i :: xs.drop (i + 1) := by
  rw [List.drop_eq_getElem_cons h, nth_eq xs i h]
theorem dA_step (d : Int) (xs : List Int) (i : Nat) (h : i < xs.length) : dA d (xs.take (i + 1)) = if tells (nth xs i) then sideF (nth xs i) else dA d (xs.take i) := by
  rw [take_succ_nth xs i h, dA_snoc]
theorem bh_step (e : Int) (xs : List Int) (i : Nat) (h : i < xs.length) : bh e (xs.drop i) = if tells (nth xs i) then sideF (nth xs i) else bh e (xs.drop (i + 1)) := by
  rw [drop_nth xs i h]; rfl

theorem and1 (n : Int) (h0 : 0 ≤ n) (h1 : n ≤ 255) : bitsV .and .u8 n 1 = n % 2 := by
  have key : ∀ m : Fin 256, bitsV .and .u8 (m.val : Int) 1 = (m.val : Int) % 2 := by decide +kernel
  have := key ⟨n.toNat, by omega⟩
  simpa [Int.toNat_of_nonneg h0] using this
end Go.Proofs.Ytcpaaekghajalaa
