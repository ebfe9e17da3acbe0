/- The law ResolveWeakEnds: true for every input. -/
import Derived.Test.YtcpaaekghajalaaV6
namespace Go.Proofs.Ytcpaaekghajalaa
open Go Go.Eng Go.RowKit

theorem ends_int {D B n c E : Int} (hi : n = 1 ∨ n = 2 ∨ n = 3) (h3 : B ≠ 3) (h9 : B ≠ 9) (h4 : D = 4 → n ≠ 3) (hD : (B ≠ 5 ∧ B ≠ 6 ∧ B ≠ 8 ∧ D = B) ∨ (B = 5 ∨ B = 6 ∨ B = 8) ∧ (D = 4 ∨ D = 7 ∨ D = 14))
    (hB : c ≠ 9 → (c = 3 → B = 2) ∧ (c = 4 → B = if n = 3 then 7 else 4) ∧ (c ≠ 3 → c ≠ 4 → B = c)) (hE : E = if D = 4 ∧ n = 1 then 1 else D) :
    (E ≠ 3 ∧ E ≠ 5 ∧ E ≠ 6 ∧ E ≠ 8 ∧ E ≠ 9) ∧ (E = 4 → n ≠ 1 ∧ n ≠ 3) ∧ (c = 1 ∨ c = 2 → E = c) ∧ (c = 3 → E = 2) ∧ (c = 4 → (n = 3 ↔ E = 7) ∧ (n ≠ 3 → (E = 1 ↔ n = 1))) ∧
    (c ≠ 1 ∧ c ≠ 2 ∧ c ≠ 3 ∧ c ≠ 4 ∧ c ≠ 5 ∧ c ≠ 6 ∧ c ≠ 8 ∧ c ≠ 9 → E = c) := by
  have hE1 : D = 4 → n = 1 → E = 1 := fun a b => by rw [hE, if_pos ⟨a, b⟩]
  have hE2 : ¬ (D = 4 ∧ n = 1) → E = D := fun a => by rw [hE, if_neg a]
  have hEs : (D = 4 ∧ n = 1 ∧ E = 1) ∨ (¬ (D = 4 ∧ n = 1) ∧ E = D) := by
    by_cases h : D = 4 ∧ n = 1
    · exact .inl ⟨h.1, h.2, hE1 h.1 h.2⟩
    · exact .inr ⟨h, hE2 h⟩
  clear hE hE1 hE2
  refine ⟨?_, ?_, ?_, ?_, ?_, ?_⟩
  · clear hB; omega
  · clear hB hD; omega
  · intro e
    have := (hB (by omega)).2.2 (by omega) (by omega)
    clear hB; omega
  · intro e
    have := (hB (by omega)).1 e
    clear hB; omega
  · intro e
    have hb := (hB (by omega)).2.1 e
    clear hB
    by_cases hn : n = 3
    · rw [if_pos hn] at hb; omega
    · rw [if_neg hn] at hb; omega
  · intro e
    have := (hB (by omega)).2.2 (by omega) (by omega)
    clear hB; omega
theorem ends_k {s : Int} {ys : List Int} (hs : s = 1 ∨ s = 2) {k : Nat} (h : k < ys.length) :
    (nth (weakY s ys) k ≠ 3 ∧ nth (weakY s ys) k ≠ 5 ∧ nth (weakY s ys) k ≠ 6 ∧ nth (weakY s ys) k ≠ 8 ∧ nth (weakY s ys) k ≠ 9) ∧ (nth (weakY s ys) k = 4 → nK s ys k ≠ 1 ∧ nK s ys k ≠ 3) ∧
    (nth ys k = 1 ∨ nth ys k = 2 → nth (weakY s ys) k = nth ys k) ∧ (nth ys k = 3 → nth (weakY s ys) k = 2) ∧ (nth ys k = 4 → (nK s ys k = 3 ↔ nth (weakY s ys) k = 7) ∧ (nK s ys k ≠ 3 → (nth (weakY s ys) k = 1 ↔ nK s ys k = 1))) ∧
    (nth ys k ≠ 1 ∧ nth ys k ≠ 2 ∧ nth ys k ≠ 3 ∧ nth ys k ≠ 4 ∧ nth ys k ≠ 5 ∧ nth ys k ≠ 6 ∧ nth ys k ≠ 8 ∧ nth ys k ≠ 9 → nth (weakY s ys) k = nth ys k) := by
  have hE : nth (weakY s ys) k = if nth (rD s ys) k = 4 ∧ nK s ys k = 1 then 1 else nth (rD s ys) k := by
    rw [rE_at k h, sK_eq hs k (by omega)]
    unfold w7g
    by_cases h3 : nK s ys k = 3
    · rw [if_pos h3, if_neg (by omega), if_neg (by omega)]
    · rw [if_neg h3]
  have hne := rB_ne39 hs h
  refine ends_int (inv (ys := ys) hs k (by omega)).2.2 hne.1 hne.2 (rD_4 (s := s) h) (rD_or (s := s) h) (fun h9 => ?_) hE
  have hB := rB_at (s := s) h
  have hA : aK s ys k = nth ys k := by unfold aK w1g; rw [if_neg h9]
  rw [hA] at hB
  unfold w3f w2g at hB
  refine ⟨fun e => ?_, fun e => ?_, fun e1 e2 => ?_⟩
  · rw [hB, e]; simp
  · rw [hB, e]
    by_cases h3 : nK s ys k = 3
    · simp [h3]
    · simp [h3]
  · rw [hB]; simp [e1, e2]

theorem nAt_eq (l : List Int) (s : Int) (i : Nat) : nAt l s i = nK s (noBN l) (noBN (l.take i)).length := by
  unfold nAt nK
  obtain ⟨r, hr⟩ := take_prefix l i
  rw [hr, w1F_pre]
theorem bAt_eq (l : List Int) (s : Int) (i : Nat) : bAt l s i = bK s (noBN l) (noBN (l.take i)).length := by
  unfold bAt bK
  obtain ⟨r, hr⟩ := take_prefix l i
  rw [hr, List.take_left' rfl]
theorem weakX_at (l : List Int) (sos : Int) (i : Nat) (h : i < l.length) (h10 : nth l i ≠ 10) : nth (weakX l sos) i = nth (weakY (wS sos) (noBN l)) (noBN (l.take i)).length := by
  unfold weakX; rw [mg_nth _ _ _ _ h, if_neg h10, Nat.zero_add]
theorem weakX_10 (l : List Int) (sos : Int) (i : Nat) (h : i < l.length) (h10 : nth l i = 10) : nth (weakX l sos) i = 10 := by
  unfold weakX; rw [mg_nth _ _ _ _ h, if_pos h10]
theorem wS_12 (sos : Int) : wS sos = 1 ∨ wS sos = 2 := by unfold wS; split <;> simp

/-- what the law asks at a place, and what it knows behind it -/
theorem ends_at (l : List Int) (sos : Int) (i : Nat) (h : i < l.length) :
    (nth (weakX l sos) i ≠ 3 ∧ nth (weakX l sos) i ≠ 5 ∧ nth (weakX l sos) i ≠ 6 ∧ nth (weakX l sos) i ≠ 8 ∧ nth (weakX l sos) i ≠ 9) ∧ (nth (weakX l sos) i = 4 → nAt l (wS sos) i ≠ 1 ∧ nAt l (wS sos) i ≠ 3) ∧
    (nth l i = 1 ∨ nth l i = 2 → nth (weakX l sos) i = nth l i ∧ nAt l (wS sos) (i + 1) = nth l i) ∧ (nth l i = 3 → nth (weakX l sos) i = 2 ∧ nAt l (wS sos) (i + 1) = 3) ∧ (nth l i = 4 → (nAt l (wS sos) i = 3 ↔ nth (weakX l sos) i = 7) ∧ (nAt l (wS sos) i ≠ 3 → (nth (weakX l sos) i = 1 ↔ nAt l (wS sos) i = 1))) ∧
    (nth l i ≠ 1 ∧ nth l i ≠ 2 ∧ nth l i ≠ 3 ∧ nth l i ≠ 4 ∧ nth l i ≠ 5 ∧ nth l i ≠ 6 ∧ nth l i ≠ 8 ∧ nth l i ≠ 9 → nth (weakX l sos) i = nth l i) ∧
    (nth l i ≠ 1 ∧ nth l i ≠ 2 ∧ nth l i ≠ 3 → nAt l (wS sos) (i + 1) = nAt l (wS sos) i) := by
  by_cases h10 : nth l i = 10
  · rw [weakX_10 _ _ _ h h10, h10, (bAt_bn l (wS sos) i h h10).2]
    refine ⟨by omega, by omega, by omega, by omega, by omega, fun _ => rfl, fun _ => rfl⟩
  · obtain ⟨g1, g2, _⟩ := noBN_at l i h h10
    obtain ⟨e1, e2, e3, e4, e5, e6⟩ := ends_k (wS_12 sos) g1
    have hi := inv (ys := noBN l) (wS_12 sos) (noBN (l.take i)).length (by omega)
    have hst := (bAt_step l (wS sos) i h h10).2
    rw [weakX_at _ _ _ h h10]
    rw [← bAt_eq, ← nAt_eq] at hi
    rw [← nAt_eq] at e2 e5
    rw [g2] at e3 e4 e5 e6
    refine ⟨e1, e2, fun e => ⟨e3 e, ?_⟩, fun e => ⟨e4 e, ?_⟩, e5, e6, fun e => ?_⟩
    · rw [hst]; unfold w1g w2t; rw [if_neg (show ¬ nth l i = 9 by omega), if_pos (by omega)]
    · rw [hst]; unfold w1g w2t; rw [if_neg (show ¬ nth l i = 9 by omega), if_pos (by omega), e]
    · rw [hst]; unfold w1g w2t
      split
      · split
        · exact (hi.2.1 (by omega)).symm
        · rfl
      · rw [if_neg (by omega)]
def strF (n : Int) : Int := if n = 3 then 2 else n
theorem strF_1 {n : Int} : strF n = 1 ↔ n = 1 := by unfold strF; split <;> omega
end Go.Proofs.Ytcpaaekghajalaa
