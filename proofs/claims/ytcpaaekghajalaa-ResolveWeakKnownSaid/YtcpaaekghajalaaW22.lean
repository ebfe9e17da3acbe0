/- Where a row's classes stand that are not BN, and what the first loop of Weak makes; in plain Lean. -/
import Derived.Test.YtcpaaekghajalaaW21
namespace Go.Proofs.Ytcpaaekghajalaa
open Go Go.Eng Go.RowKit

def posF : Nat → List Int → List Nat
  | _, [] => []
  | i, c :: r => if c = 10 then posF (i + 1) r else i :: posF (i + 1) r
def posL (l : List Int) : List Nat := posF 0 l
theorem posF_len : ∀ i l, (posF i l).length = (noBN l).length
  | _, [] => rfl
  | i, c :: r => by
    simp only [posF, noBN_cons]
    split
    · exact posF_len _ r
    · simp [posF_len _ r]
theorem posF_snoc : ∀ i l c, posF i (l ++ [c]) = if c = 10 then posF i l else posF i l ++ [i + l.length]
  | i, [], c => by simp [posF]
  | i, a :: r, c => by
    simp only [List.cons_append, posF, posF_snoc (i + 1) r c, List.length_cons]
    by_cases h1 : a = 10 <;> by_cases h2 : c = 10 <;> simp [h1, h2] <;> omega
theorem posL_len (l : List Int) : (posL l).length = (noBN l).length := posF_len 0 l
theorem posL_snoc (l : List Int) (i : Nat) (h : i < l.length) : posL (l.take (i + 1)) = if nth l i = 10 then posL (l.take i) else posL (l.take i) ++ [i] := by
  rw [take_succ_nth l i h, posL, posF_snoc]
  have : (l.take i).length = i := by simp; omega
  rw [this, Nat.zero_add]; rfl
theorem posF_nth : ∀ (l : List Int) (i k : Nat), k < (noBN l).length → i ≤ nth (posF i l) k ∧ nth (posF i l) k < i + l.length ∧ ∀ (Y : List Int) (q : Nat), nth (mg Y q l) (nth (posF i l) k - i) = nth Y (q + k)
  | [], i, k, h => by simp [noBN] at h
  | c :: r, i, k, h => by
    rw [noBN_cons] at h
    simp only [posF, mg]
    by_cases hc : c = 10
    · simp only [if_pos hc] at h ⊢
      obtain ⟨h1, h2, h3⟩ := posF_nth r (i + 1) k h
      refine ⟨by omega, by simp; omega, fun Y q => ?_⟩
      rw [show nth (posF (i + 1) r) k - i = (nth (posF (i + 1) r) k - (i + 1)) + 1 from by omega, nth_consS]
      exact h3 Y q
    · simp only [if_neg hc] at h ⊢
      cases k with
      | zero =>
        refine ⟨Nat.le_refl _, by simp only [nth_nat0, List.length_cons]; omega, fun Y q => ?_⟩
        simp only [nth_nat0, Nat.sub_self]
        rfl
      | succ k =>
        obtain ⟨h1, h2, h3⟩ := posF_nth r (i + 1) k (by simpa using h)
        simp only [nth_natS, List.length_cons]
        refine ⟨by omega, by omega, fun Y q => ?_⟩
        rw [show nth (posF (i + 1) r) k - i = (nth (posF (i + 1) r) k - (i + 1)) + 1 from by omega, nth_consS, h3 Y (q + 1)]
        congr 1; omega
where
  nth_nat0 (a : Nat) (r : List Nat) : nth (a :: r) 0 = a := rfl
  nth_natS (a : Nat) (r : List Nat) (j : Nat) : nth (a :: r) (j + 1) = nth r j := rfl
theorem posL_lt (l : List Int) (k : Nat) (h : k < (noBN l).length) : nth (posL l) k < l.length := by
  have := (posF_nth l 0 k h).2.1; rw [Nat.zero_add] at this; exact this
/-- the row's class of number k, among those that are no BN -/
theorem mg_pos (Y l : List Int) (k : Nat) (h : k < (noBN l).length) : nth (mg Y 0 l) (nth (posL l) k) = nth Y k := by
  have := (posF_nth l 0 k h).2.2 Y 0
  rw [Nat.sub_zero, Nat.zero_add] at this; exact this
theorem posF_rank : ∀ (l : List Int) (i k : Nat), k < (noBN l).length → nth l (nth (posF i l) k - i) ≠ 10 ∧ (noBN (l.take (nth (posF i l) k - i))).length = k
  | [], i, k, h => by simp [noBN] at h
  | c :: r, i, k, h => by
    have hb := (posF_nth (c :: r) i k h).1
    rw [noBN_cons] at h
    simp only [posF] at hb ⊢
    by_cases hc : c = 10
    · simp only [if_pos hc] at h hb ⊢
      obtain ⟨h1, _⟩ := posF_nth r (i + 1) k h
      obtain ⟨h2, h3⟩ := posF_rank r (i + 1) k h
      rw [show nth (posF (i + 1) r) k - i = (nth (posF (i + 1) r) k - (i + 1)) + 1 from by omega, nth_consS, List.take_succ_cons, noBN_cons, if_pos hc]
      exact ⟨h2, h3⟩
    · simp only [if_neg hc] at h hb ⊢
      cases k with
      | zero => simp only [posF_nth.nth_nat0, Nat.sub_self]; exact ⟨hc, rfl⟩
      | succ k =>
        obtain ⟨h1, _⟩ := posF_nth r (i + 1) k (by simpa using h)
        obtain ⟨h2, h3⟩ := posF_rank r (i + 1) k (by simpa using h)
        simp only [posF_nth.nth_natS]
        rw [show nth (posF (i + 1) r) k - i = (nth (posF (i + 1) r) k - (i + 1)) + 1 from by omega, nth_consS, List.take_succ_cons, noBN_cons, if_neg hc]
        exact ⟨h2, by simp [h3]⟩
theorem posL_rank (l : List Int) (k : Nat) (h : k < (noBN l).length) : nth l (nth (posL l) k) ≠ 10 ∧ (noBN (l.take (nth (posL l) k))).length = k := by
  have := posF_rank l 0 k h; rw [Nat.sub_zero] at this; exact this
theorem mg_set (Y l : List Int) (k : Nat) (c : Int) (h : k < (noBN l).length) (hY : Y.length = (noBN l).length) : (mg Y 0 l).set (nth (posL l) k) c = mg (Y.set k c) 0 l := by
  have hp := posL_lt l k h
  obtain ⟨r1, r2⟩ := posL_rank l k h
  refine nth_ext (by simp [mg_len]) fun j hj => ?_
  have hj : j < l.length := by simpa [mg_len] using hj
  rw [nth_set _ _ _ _ (by rw [mg_len]; exact hp), mg_nth _ _ _ _ hj, mg_nth _ _ _ _ hj, Nat.zero_add]
  by_cases e : j = nth (posL l) k
  · rw [if_pos e, e, if_neg r1, r2, nth_set _ _ _ _ (by omega), if_pos rfl]
  · rw [if_neg e]
    by_cases h10 : nth l j = 10
    · rw [if_pos h10, if_pos h10]
    · rw [if_neg h10, if_neg h10, nth_set _ _ _ _ (by omega), if_neg]
      intro e2
      apply e
      obtain ⟨g1, _, g3, _⟩ := noBN_at l j hj h10
      have hr : (noBN (l.take j)).length = (noBN (l.take (nth (posL l) k))).length := by rw [e2, r2]
      rcases Nat.lt_trichotomy j (nth (posL l) k) with h3 | h3 | h3
      · have h4 := noBN_mono l (j + 1) (nth (posL l) k) (by omega) 
        rw [noBN_snoc l j hj, if_neg h10, List.length_append] at h4
        simp at h4; omega
      · exact h3
      · have h4 := noBN_mono l (nth (posL l) k + 1) j (by omega)
        rw [noBN_snoc l _ hp, if_neg r1, List.length_append] at h4
        simp at h4; omega
where
  noBN_mono (l : List Int) (a b : Nat) (h : a ≤ b) : (noBN (l.take a)).length ≤ (noBN (l.take b)).length := by
    have : l.take b = l.take a ++ (l.drop a).take (b - a) := by
      rw [← List.take_add, show a + (b - a) = b from by omega]
    have h2 : noBN (l.take b) = noBN (l.take a) ++ noBN ((l.drop a).take (b - a)) := by rw [this]; exact List.filter_append ..
    rw [h2, List.length_append]; omega

/-- W1 to W3, class by class -/
theorem first_at (ys : List Int) (s : Int) (k : Nat) (h : k < ys.length) :
    nth (w2F s (w1F s ys)) k = w3f (w2g (((w1F s ys).take k).foldl w2t s) (w1g ((ys.take k).foldl w1t s) (nth ys k))) ∧
    (ys.take (k + 1)).foldl w1t s = w1t ((ys.take k).foldl w1t s) (nth ys k) ∧
    ((w1F s ys).take (k + 1)).foldl w2t s = w2t (((w1F s ys).take k).foldl w2t s) (w1g ((ys.take k).foldl w1t s) (nth ys k)) := by
  have h1 : nth (w1F s ys) k = w1g ((ys.take k).foldl w1t s) (nth ys k) := scan_nth _ _ _ _ _ h
  have hl : (w1F s ys).length = ys.length := w1F_len _ _
  refine ⟨?_, fold_succ _ _ _ _ h, ?_⟩
  · unfold w2F
    rw [map_nth _ _ _ (by rw [scan_len, hl]; exact h), scan_nth _ _ _ _ _ (by rw [hl]; exact h), h1]
  · rw [fold_succ _ _ _ _ (by rw [hl]; exact h), h1]
end Go.Proofs.Ytcpaaekghajalaa
