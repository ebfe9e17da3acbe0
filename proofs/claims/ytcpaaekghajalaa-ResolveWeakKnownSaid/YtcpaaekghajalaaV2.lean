/- Runs of classes set in a row. -/
import Derived.Test.YtcpaaekghajalaaV1
namespace Go.Proofs.Ytcpaaekghajalaa
open Go Go.Eng Go.RowKit

def setY (Y : List Int) (c : Int) (f : Nat) : Nat → List Int
  | 0 => Y
  | m + 1 => (setY Y c f m).set (f + m) c
theorem setY_len (Y : List Int) (c : Int) (f : Nat) : ∀ m, (setY Y c f m).length = Y.length
  | 0 => rfl
  | m + 1 => by simp [setY, setY_len Y c f m]
theorem setY_nth (Y : List Int) (c : Int) (f : Nat) : ∀ (m j : Nat), f + m ≤ Y.length → nth (setY Y c f m) j = if f ≤ j ∧ j < f + m then c else nth Y j
  | 0, j, _ => by rw [if_neg (by omega)]; rfl
  | m + 1, j, h => by
    simp only [setY]
    rw [nth_set _ _ _ _ (by rw [setY_len]; omega), setY_nth Y c f m j (by omega)]
    by_cases e : j = f + m
    · rw [if_pos e, if_pos (by omega)]
    · rw [if_neg e]
      by_cases h2 : f ≤ j ∧ j < f + m
      · rw [if_pos h2, if_pos (by omega)]
      · rw [if_neg h2, if_neg (by omega)]
theorem setRun_mg (Y l : List Int) (c : Int) (f : Nat) (hY : Y.length = (noBN l).length) : ∀ m, f + m ≤ (noBN l).length → setRun (mg Y 0 l) (posL l) c f m = mg (setY Y c f m) 0 l
  | 0, _ => rfl
  | m + 1, h => by
    simp only [setRun, setY]
    rw [setRun_mg Y l c f hY m (by omega), mg_set _ _ _ _ (by omega) (by rw [setY_len]; exact hY)]
theorem setY_take (Y : List Int) (c : Int) (f m : Nat) (h : f + m ≤ Y.length) : (setY Y c f m).take f = Y.take f := by
  refine nth_ext (by simp [setY_len]) fun j hj => ?_
  simp only [List.length_take, setY_len] at hj
  have hj2 : j < f := by omega
  have e : ∀ (L : List Int), j < L.length → nth (L.take f) j = nth L j := fun L hL => by
    rw [nth_eq _ _ (by simp; omega), nth_eq _ _ hL]; simp
  rw [e _ (by rw [setY_len]; omega), e _ (by omega), setY_nth _ _ _ _ _ h, if_neg (by omega)]
theorem setY_drop (Y : List Int) (c : Int) (f m : Nat) (h : f + m ≤ Y.length) : (setY Y c f m).drop f = List.replicate m c ++ Y.drop (f + m) := by
  refine nth_ext (by simp [setY_len]; omega) fun j hj => ?_
  simp only [List.length_drop, setY_len] at hj
  have e : ∀ (L : List Int), f + j < L.length → nth (L.drop f) j = nth L (f + j) := fun L hL => by
    rw [nth_eq _ _ (by simp; omega), nth_eq _ _ hL]; simp
  rw [e _ (by rw [setY_len]; omega), setY_nth _ _ _ _ _ h]
  by_cases h2 : j < m
  · rw [if_pos (by omega), nth_append_left _ _ _ (by simpa using h2), nth_eq _ _ (by simpa using h2)]; simp
  · rw [if_neg (by omega), nth_append_right _ _ _ (by simp; omega), nth_eq _ _ (by omega), nth_eq _ _ (by simp; omega)]
    simp only [List.length_replicate, List.getElem_drop]
    congr 1; omega
theorem run_drop (Y : List Int) (k m : Nat) (h : k + m ≤ Y.length) (h6 : ∀ j, k ≤ j → j < k + m → nth Y j = 6) : Y.drop k = List.replicate m 6 ++ Y.drop (k + m) := by
  have := setY_drop Y 6 k m h
  rw [← this]
  congr 1
  refine nth_ext (by rw [setY_len]) fun j hj => ?_
  rw [setY_nth _ _ _ _ _ h]
  split
  · rename_i h2; exact h6 j h2.1 h2.2
  · rfl
end Go.Proofs.Ytcpaaekghajalaa
