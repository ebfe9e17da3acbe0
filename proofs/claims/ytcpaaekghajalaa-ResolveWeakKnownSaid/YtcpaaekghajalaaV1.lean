/- The rules W5 to W7 from a place on, in plain Lean. -/
import Derived.Test.YtcpaaekghajalaaW22
namespace Go.Proofs.Ytcpaaekghajalaa
open Go Go.Eng Go.RowKit

def restC (s : Int) (pe : Bool) (Z : List Int) : List Int := w7F s ((w5F pe Z).map w6f)
theorem restC_nil (s : Int) (pe : Bool) : restC s pe [] = [] := rfl
theorem restC_o (s : Int) (pe : Bool) (c : Int) (r : List Int) (h : c ≠ 6) : restC s pe (c :: r) = w7g s (w6f c) :: restC (w7t s (w6f c)) (decide (c = 4)) r := by
  simp only [restC, w5F, if_neg h, List.map_cons, w7F, scan]
theorem restC_4 (s : Int) (pe : Bool) (r : List Int) (h : pe = true ∨ nxE r = 4) : restC s pe (6 :: r) = w7g s 4 :: restC s true r := by
  have h4 : w6f 4 = 4 := by decide
  have ht : w7t s 4 = s := by simp [w7t]
  simp only [restC, w5F, if_true, if_pos h, List.map_cons, w7F, scan, h4, ht]
theorem restC_14 (s : Int) (pe : Bool) (r : List Int) (h : ¬ (pe = true ∨ nxE r = 4)) : restC s pe (6 :: r) = 14 :: restC s false r := by
  have h4 : w6f 6 = 14 := by decide
  have hg : w7g s 14 = 14 := by simp [w7g]
  have ht : w7t s 14 = s := by simp [w7t]
  simp only [restC, w5F, if_true, if_neg h, List.map_cons, w7F, scan, h4, hg, ht]
theorem nxE_run6 (m : Nat) (r : List Int) : nxE (List.replicate m 6 ++ r) = nxE r := by
  induction m with
  | zero => rfl
  | succ m ih => simp [List.replicate_succ, nxE, ih]
/-- a run of terminators beside a number is numbers -/
theorem restC_run4 (s : Int) (pe : Bool) (m : Nat) (r : List Int) (h : pe = true ∨ nxE r = 4) : restC s pe (List.replicate m 6 ++ r) = restC s pe (List.replicate m 4 ++ r) := by
  induction m generalizing pe with
  | zero => rfl
  | succ m ih =>
    simp only [List.replicate_succ, List.cons_append]
    rw [restC_4 s pe _ (by rw [nxE_run6]; exact h), restC_o s pe 4 _ (by decide), ih true (.inl rfl)]
    have h4 : w6f 4 = 4 := by decide
    have ht : w7t s 4 = s := by simp [w7t]
    rw [h4, ht]; rfl
/-- else they are neutral -/
theorem restC_run14 (s : Int) (pe : Bool) (m : Nat) (r : List Int) (h : ¬ (pe = true ∨ nxE r = 4)) (hm : 0 < m) : restC s pe (List.replicate m 6 ++ r) = List.replicate m 14 ++ restC s false r := by
  induction m generalizing pe with
  | zero => omega
  | succ m ih =>
    simp only [List.replicate_succ, List.cons_append]
    rw [restC_14 s pe _ (by rw [nxE_run6]; exact h)]
    congr 1
    rcases Nat.eq_zero_or_pos m with h0 | h0
    · subst h0; rfl
    · exact ih false (by intro hh; rcases hh with hh | hh; cases hh; exact h (.inr hh)) h0
theorem weakY_rest (s : Int) (ys : List Int) : weakY s ys = restC s false (w4F 10 (w2F s (w1F s ys))) := rfl
end Go.Proofs.Ytcpaaekghajalaa
