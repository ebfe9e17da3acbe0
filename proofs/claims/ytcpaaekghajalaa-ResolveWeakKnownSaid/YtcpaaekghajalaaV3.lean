/- The state of Weak's third part, and its steps. -/
import Derived.Test.YtcpaaekghajalaaV2
namespace Go.Proofs.Ytcpaaekghajalaa
open Go Go.Eng Go.RowKit

structure TS (Fin : List Int) where
  Y : List Int
  k : Nat
  s : Int
  pe : Bool
  hl : Y.length = Fin.length
  hk : k ≤ Y.length
  eq : Y.take k ++ restC s pe (Y.drop k) = Fin
  J : k < Y.length → nth Y k = 6 → (pe = true ↔ 0 < k ∧ nth Y (k - 1) = 4)

theorem take_set_succ (Y : List Int) (k : Nat) (c : Int) (h : k < Y.length) : (Y.set k c).take (k + 1) = Y.take k ++ [c] := by
  rw [List.take_succ_eq_append_getElem (by simpa using h)]
  simp [List.take_set_of_le]
theorem drop_set_succ (Y : List Int) (k : Nat) (c : Int) : (Y.set k c).drop (k + 1) = Y.drop (k + 1) := by
  rw [List.drop_set_of_lt (by omega)]

/-- a class that is no terminator: it is put, and on -/
def TS.step {Fin : List Int} (t : TS Fin) (h : t.k < t.Y.length) (h6 : nth t.Y t.k ≠ 6) (hJ : t.k + 1 < t.Y.length → nth t.Y (t.k + 1) = 6 → (decide (nth t.Y t.k = 4) = true ↔ w7g t.s (w6f (nth t.Y t.k)) = 4)) : TS Fin where
  Y := t.Y.set t.k (w7g t.s (w6f (nth t.Y t.k)))
  k := t.k + 1
  s := w7t t.s (w6f (nth t.Y t.k))
  pe := decide (nth t.Y t.k = 4)
  hl := by simp [t.hl]
  hk := by simp; omega
  eq := by
    have := t.eq
    rw [drop_nth t.Y t.k h, restC_o _ _ _ _ h6] at this
    rw [take_set_succ _ _ _ h, drop_set_succ, List.append_assoc]
    exact this
  J h1 h2 := by
    simp only [List.length_set] at h1
    rw [nth_set _ _ _ _ h, if_neg (by omega)] at h2
    rw [hJ h1 h2, Nat.add_sub_cancel, nth_set _ _ _ _ h, if_pos rfl]
    exact ⟨fun e => ⟨by omega, e⟩, fun e => e.2⟩
theorem TS.done {Fin : List Int} (t : TS Fin) (h : t.k = t.Y.length) : t.Y = Fin := by
  have := t.eq
  rw [h, List.take_length, List.drop_length, restC_nil, List.append_nil] at this
  exact this
/-- a run of terminators beside a number -/
def TS.run4 {Fin : List Int} (t : TS Fin) (m : Nat) (hm : 0 < m) (h : t.k + m ≤ t.Y.length) (h6 : ∀ j, t.k ≤ j → j < t.k + m → nth t.Y j = 6) (hc : t.pe = true ∨ nxE (t.Y.drop (t.k + m)) = 4) : TS Fin where
  Y := setY t.Y 4 t.k m
  k := t.k
  s := t.s
  pe := t.pe
  hl := by rw [setY_len, t.hl]
  hk := by rw [setY_len]; exact t.hk
  eq := by
    rw [setY_take _ _ _ _ h, setY_drop _ _ _ _ h, ← restC_run4 _ _ _ _ hc, ← run_drop _ _ _ h h6]
    exact t.eq
  J h1 h2 := by rw [setY_nth _ _ _ _ _ h, if_pos (by omega)] at h2; omega
/-- a run of terminators beside none -/
def TS.run14 {Fin : List Int} (t : TS Fin) (m : Nat) (hm : 0 < m) (h : t.k + m ≤ t.Y.length) (h6 : ∀ j, t.k ≤ j → j < t.k + m → nth t.Y j = 6) (hc : ¬ (t.pe = true ∨ nxE (t.Y.drop (t.k + m)) = 4)) (hend : t.k + m < t.Y.length → nth t.Y (t.k + m) ≠ 6) : TS Fin where
  Y := setY t.Y 14 t.k m
  k := t.k + m
  s := t.s
  pe := false
  hl := by rw [setY_len, t.hl]
  hk := by rw [setY_len]; exact h
  eq := by
    have h1 := t.eq
    rw [run_drop _ _ _ h h6, restC_run14 _ _ _ _ hc hm] at h1
    have h2 : (setY t.Y 14 t.k m).take (t.k + m) = t.Y.take t.k ++ List.replicate m 14 := by
      have e : setY t.Y 14 t.k m = t.Y.take t.k ++ (List.replicate m 14 ++ t.Y.drop (t.k + m)) := by
        rw [← setY_drop _ _ _ _ h, ← setY_take t.Y 14 t.k m h, List.take_append_drop]
      rw [e, ← List.append_assoc, List.take_left' (by simp; omega)]
    have h3 : (setY t.Y 14 t.k m).drop (t.k + m) = t.Y.drop (t.k + m) := by
      rw [← List.drop_drop, setY_drop _ _ _ _ h, List.drop_left' (by simp)]
    rw [h2, h3, List.append_assoc]
    exact h1
  J h1 h2 := by
    rw [setY_len] at h1
    rw [setY_nth _ _ _ _ _ h, if_neg (by omega)] at h2
    exact absurd h2 (hend h1)
end Go.Proofs.Ytcpaaekghajalaa
