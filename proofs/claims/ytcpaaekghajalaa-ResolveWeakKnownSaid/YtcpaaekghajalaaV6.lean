/- What Weak's rules leave at a place, in plain Lean. -/
import Derived.Test.YtcpaaekghajalaaW24
namespace Go.Proofs.Ytcpaaekghajalaa
open Go Go.Eng Go.RowKit

section
variable (s : Int) (ys : List Int)
def bK (k : Nat) : Int := (ys.take k).foldl w1t s
def nK (k : Nat) : Int := ((w1F s ys).take k).foldl w2t s
def aK (k : Nat) : Int := w1g (bK s ys k) (nth ys k)
def rB : List Int := w2F s (w1F s ys)
def rC : List Int := w4F 10 (rB s ys)
def rD : List Int := w56F (rC s ys)
theorem rB_len : (rB s ys).length = ys.length := by unfold rB; rw [w2F_len, w1F_len]
theorem rC_len : (rC s ys).length = ys.length := by unfold rC; rw [w4F_len, rB_len]
theorem rD_len : (rD s ys).length = ys.length := by unfold rD; rw [w56F_len, rC_len]
variable {s : Int} {ys : List Int}
theorem rB_at {k : Nat} (h : k < ys.length) : nth (rB s ys) k = w3f (w2g (nK s ys k) (aK s ys k)) := (first_at ys s k h).1
theorem bK_succ {k : Nat} (h : k < ys.length) : bK s ys (k + 1) = w1t (bK s ys k) (nth ys k) := (first_at ys s k h).2.1
theorem nK_succ {k : Nat} (h : k < ys.length) : nK s ys (k + 1) = w2t (nK s ys k) (aK s ys k) := (first_at ys s k h).2.2

/-- what is known of the classes ahead -/
theorem inv (hs : s = 1 ∨ s = 2) : ∀ k, k ≤ ys.length → bK s ys k ≠ 9 ∧ (bK s ys k = 1 ∨ bK s ys k = 2 ∨ bK s ys k = 3 → nK s ys k = bK s ys k) ∧ (nK s ys k = 1 ∨ nK s ys k = 2 ∨ nK s ys k = 3)
  | 0, _ => by
    have h1 : bK s ys 0 = s := rfl
    have h2 : nK s ys 0 = s := rfl
    rw [h1, h2]; omega
  | k + 1, h => by
    obtain ⟨h1, h2, h3⟩ := inv hs k (by omega)
    rw [bK_succ (by omega), nK_succ (by omega)]
    have hA : aK s ys k ≠ 9 := by
      unfold aK w1g; split
      · exact h1
      · assumption
    unfold w1t
    rw [show w1g (bK s ys k) (nth ys k) = aK s ys k from rfl]
    unfold w2t
    split
    · split
      · rename_i hi _; have := iso_ne hi; omega
      · omega
    · split
      · omega
      · omega

/-- a class that is not strong behind W3 -/
theorem nK_same {k : Nat} (h : k < ys.length) (hB : nth (rB s ys) k ≠ 1 ∧ nth (rB s ys) k ≠ 2) : nK s ys (k + 1) = nK s ys k := by
  rw [nK_succ h]
  rw [rB_at h] at hB
  unfold w2t
  rw [if_neg]
  intro hh
  rcases hh with e | e | e <;> rw [e] at hB <;> simp [w2g, w3f] at hB
theorem rB_ne39 (hs : s = 1 ∨ s = 2) {k : Nat} (h : k < ys.length) : nth (rB s ys) k ≠ 3 ∧ nth (rB s ys) k ≠ 9 := by
  rw [rB_at h]
  have h1 := (inv (ys := ys) hs k (by omega)).1
  have hA : aK s ys k ≠ 9 := by
    unfold aK w1g; split
    · exact h1
    · assumption
  unfold w3f w2g
  split <;> split <;> omega
theorem rB_4 {k : Nat} (h : k < ys.length) (h4 : nth (rB s ys) k = 4) : nK s ys k ≠ 3 := by
  rw [rB_at h] at h4
  intro hn
  rw [hn] at h4
  unfold w3f w2g at h4
  split at h4 <;> split at h4 <;> omega
theorem rC_at {k : Nat} (h : k < ys.length) : nth (rC s ys) k = w4c (w4p (rC s ys) k) (w4n (rB s ys) k) (nth (rB s ys) k) := w4_at _ _ (by rw [rB_len]; exact h)
theorem rC_or {k : Nat} (h : k < ys.length) : nth (rC s ys) k = nth (rB s ys) k ∨ ((nth (rB s ys) k = 5 ∨ nth (rB s ys) k = 8) ∧ nth (rC s ys) k = w4p (rC s ys) k ∧ (w4p (rC s ys) k = 4 ∨ w4p (rC s ys) k = 7)) := by
  rw [rC_at h]
  unfold w4c
  split
  · rename_i h'
    right
    refine ⟨?_, rfl, ?_⟩
    · rcases h'.2 with a | a
      · exact a.2
      · exact .inr a.2
    · rcases h'.2 with a | a
      · exact .inl a.1
      · exact .inr a.1
  · exact .inl rfl
theorem rC_4 : ∀ k, k < ys.length → nth (rC s ys) k = 4 → nK s ys k ≠ 3
  | k, h, h4 => by
    rcases rC_or h with e | ⟨e1, e2, _⟩
    · exact rB_4 h (by rw [← e]; exact h4)
    · rw [e2] at h4
      unfold w4p at h4
      split at h4
      · omega
      · obtain ⟨k, rfl⟩ : ∃ k', k = k' + 1 := ⟨k - 1, by omega⟩
        rw [Nat.add_sub_cancel] at h4
        have ih := rC_4 k (by omega) h4
        have hB : nth (rB s ys) k ≠ 1 ∧ nth (rB s ys) k ≠ 2 := by
          rcases rC_or (s := s) (ys := ys) (k := k) (by omega) with f | ⟨f, _⟩ <;> omega
        rw [nK_same (by omega) hB]; exact ih
theorem nx_4 : ∀ (m k : Nat), ys.length - k = m → k ≤ ys.length → nxE ((rC s ys).drop k) = 4 → nK s ys k ≠ 3
  | m, k, hm, hk, h => by
    rcases Nat.lt_or_ge k ys.length with h' | h'
    · rw [drop_nth _ k (by rw [rC_len]; exact h')] at h
      simp only [nxE] at h
      split at h
      · rename_i h6
        have ih := nx_4 (ys.length - (k + 1)) (k + 1) rfl h' h
        have hB : nth (rB s ys) k ≠ 1 ∧ nth (rB s ys) k ≠ 2 := by
          rcases rC_or (s := s) (ys := ys) h' with f | ⟨f, _⟩ <;> omega
        rw [nK_same h' hB] at ih; exact ih
      · exact rC_4 k h' h
    · rw [List.drop_eq_nil_of_le (by rw [rC_len]; omega)] at h
      simp [nxE] at h
termination_by m => m
decreasing_by omega
theorem r5_at {k : Nat} (h : k < ys.length) : nth (w5F false (rC s ys)) k = if nth (rC s ys) k = 6 then (if (if k = 0 then false = true else nth (w5F false (rC s ys)) (k - 1) = 4) ∨ nxE ((rC s ys).drop (k + 1)) = 4 then 4 else 6) else nth (rC s ys) k := w5F_nth _ _ _ (by rw [rC_len]; exact h)
theorem r5_or {k : Nat} (h : k < ys.length) : (nth (rC s ys) k ≠ 6 ∧ nth (w5F false (rC s ys)) k = nth (rC s ys) k) ∨ (nth (rC s ys) k = 6 ∧ nth (w5F false (rC s ys)) k = 4 ∧ ((0 < k ∧ nth (w5F false (rC s ys)) (k - 1) = 4) ∨ nxE ((rC s ys).drop (k + 1)) = 4)) ∨ (nth (rC s ys) k = 6 ∧ nth (w5F false (rC s ys)) k = 6) := by
  have hr := r5_at (s := s) h
  by_cases h6 : nth (rC s ys) k = 6
  · rw [if_pos h6] at hr
    by_cases hc : (if k = 0 then false = true else nth (w5F false (rC s ys)) (k - 1) = 4) ∨ nxE ((rC s ys).drop (k + 1)) = 4
    · rw [if_pos hc] at hr
      refine .inr (.inl ⟨h6, hr, ?_⟩)
      rcases hc with hc | hc
      · by_cases h0 : k = 0
        · rw [if_pos h0] at hc; cases hc
        · rw [if_neg h0] at hc; exact .inl ⟨by omega, hc⟩
      · exact .inr hc
    · rw [if_neg hc] at hr
      exact .inr (.inr ⟨h6, hr⟩)
  · rw [if_neg h6] at hr
    exact .inl ⟨h6, hr⟩
theorem r5_4 : ∀ k, k < ys.length → nth (w5F false (rC s ys)) k = 4 → nK s ys k ≠ 3
  | 0, h, h4 => by
    rcases r5_or (s := s) h with ⟨_, e⟩ | ⟨e1, _, e | e⟩ | ⟨_, e⟩
    · exact rC_4 0 h (by rw [← e]; exact h4)
    · omega
    · have hB6 : nth (rB s ys) 0 ≠ 1 ∧ nth (rB s ys) 0 ≠ 2 := by
        rcases rC_or (s := s) (ys := ys) h with f | ⟨f, _⟩ <;> omega
      have := nx_4 _ 1 rfl h e
      rw [nK_same h hB6] at this; exact this
    · omega
  | k + 1, h, h4 => by
    rcases r5_or (s := s) h with ⟨_, e⟩ | ⟨e1, _, e | e⟩ | ⟨_, e⟩
    · exact rC_4 _ h (by rw [← e]; exact h4)
    · rw [Nat.add_sub_cancel] at e
      have ih := r5_4 k (by omega) e.2
      have hC : nth (rC s ys) k = 4 ∨ nth (rC s ys) k = 6 := by
        rcases r5_or (s := s) (ys := ys) (k := k) (by omega) with ⟨_, f⟩ | ⟨f, _⟩ | ⟨_, f⟩ <;> omega
      have hB : nth (rB s ys) k ≠ 1 ∧ nth (rB s ys) k ≠ 2 := by
        rcases rC_or (s := s) (ys := ys) (k := k) (by omega) with f | ⟨f, _⟩ <;> omega
      rw [nK_same (by omega) hB]; exact ih
    · have hB6 : nth (rB s ys) (k + 1) ≠ 1 ∧ nth (rB s ys) (k + 1) ≠ 2 := by
        rcases rC_or (s := s) (ys := ys) h with f | ⟨f, _⟩ <;> omega
      have := nx_4 _ (k + 1 + 1) rfl h e
      rw [nK_same h hB6] at this; exact this
    · omega
theorem rD_at {k : Nat} (h : k < ys.length) : nth (rD s ys) k = w6f (nth (w5F false (rC s ys)) k) := map_nth _ _ _ (by rw [w5F_len, rC_len]; exact h)
theorem rD_or {k : Nat} (h : k < ys.length) : (nth (rB s ys) k ≠ 5 ∧ nth (rB s ys) k ≠ 6 ∧ nth (rB s ys) k ≠ 8 ∧ nth (rD s ys) k = nth (rB s ys) k) ∨ ((nth (rB s ys) k = 5 ∨ nth (rB s ys) k = 6 ∨ nth (rB s ys) k = 8) ∧ (nth (rD s ys) k = 4 ∨ nth (rD s ys) k = 7 ∨ nth (rD s ys) k = 14)) := by
  have h1 := rD_at (s := s) h
  have e6 : w6f 6 = 14 := by decide
  have e4 : w6f 4 = 4 := by decide
  rcases rC_or (s := s) h with e | ⟨e1, e2, e3⟩
  · rcases r5_or (s := s) h with ⟨f1, f2⟩ | ⟨f1, f2, _⟩ | ⟨f1, f2⟩
    · rw [f2, e] at h1
      rw [e] at f1
      rw [h1]
      unfold w6f
      split <;> omega
    · rw [f2, e4] at h1
      omega
    · rw [f2, e6] at h1
      omega
  · rcases r5_or (s := s) h with ⟨f1, f2⟩ | ⟨f1, f2, _⟩ | ⟨f1, f2⟩
    · rw [f2, e2] at h1
      unfold w6f at h1
      split at h1 <;> omega
    · omega
    · omega
theorem rD_4 {k : Nat} (h : k < ys.length) (h4 : nth (rD s ys) k = 4) : nK s ys k ≠ 3 := by
  rw [rD_at h] at h4
  refine r5_4 k h ?_
  unfold w6f at h4
  split at h4
  · omega
  · exact h4
def sK (s : Int) (ys : List Int) (k : Nat) : Int := ((rD s ys).take k).foldl w7t s
theorem sK_eq (hs : s = 1 ∨ s = 2) : ∀ k, k ≤ ys.length → sK s ys k = if nK s ys k = 3 then 2 else nK s ys k
  | 0, _ => by
    have h1 : sK s ys 0 = s := rfl
    have h2 : nK s ys 0 = s := rfl
    rw [h1, h2]; split <;> omega
  | k + 1, h => by
    have ih := sK_eq hs k (by omega)
    have hi := (inv (s := s) (ys := ys) hs k (by omega)).2.2
    unfold sK at ih ⊢
    rw [fold_succ _ _ _ _ (by rw [rD_len]; exact h), ih]
    have hB := rB_at (s := s) (ys := ys) (k := k) (by omega)
    have hn := nK_succ (s := s) (ys := ys) (k := k) (by omega)
    rcases rD_or (s := s) (ys := ys) (k := k) (by omega) with ⟨e1, e2, e3, e4⟩ | ⟨e1, e2⟩
    · rw [e4]
      by_cases h12 : nth (rB s ys) k = 1 ∨ nth (rB s ys) k = 2
      · unfold w7t
        rw [if_pos h12]
        rw [hn]
        rw [hB] at h12 ⊢
        unfold w3f w2g w2t at *
        split <;> split <;> split <;> (try split) <;> omega
      · unfold w7t
        rw [if_neg h12, nK_same h ⟨by omega, by omega⟩]
    · unfold w7t
      rw [if_neg (by omega), nK_same h ⟨by omega, by omega⟩]
theorem rE_at (k : Nat) (h : k < ys.length) : nth (weakY s ys) k = w7g (sK s ys k) (nth (rD s ys) k) := scan_nth _ _ _ _ _ (by rw [show (w56F (w4F 10 (w2F s (w1F s ys)))) = rD s ys from rfl, rD_len]; exact h)
end
end Go.Proofs.Ytcpaaekghajalaa
