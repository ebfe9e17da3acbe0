/- parbreak.Break: how great costs are; the memo as operations. -/
import Derived.Test.YtiaaiihdamkeaaaK3
set_option maxRecDepth 100000
set_option linter.unusedVariables false
namespace Go.Proofs.Ytiaaiihdamkeaaa
open Go Go.Eng Go.RowKit Go.Ar

theorem cost_range (p : Par) (i j k : Nat) : 0 ≤ costF p i j k ∧ costF p i j k ≤ 2200000000000 := by
  unfold costF demF
  split
  · rename_i hk
    have i4 := okF_iff.1 hk
    obtain ⟨r1, r2, r3, r4⟩ := badF_range i4
    obtain ⟨s0, s1⟩ := sq_range r1 r2
    split
    · simp only
      omega
    · split
      · simp only; omega
      · simp only; omega
  · exact ⟨by decide, by decide⟩
theorem scanF_range (p : Par) (f : Nat → Int) (from' k : Nat) (B : Int) (hB : 0 ≤ B) (hf : ∀ j, 0 ≤ f j ∧ f j ≤ B) : ∀ (s j : Nat) (c : Nat × Int), (c.2 < 0 → 0 < s) → c.2 ≤ B + 2200000000000 →
    0 ≤ (scanF p f from' k j s c).2 ∧ (scanF p f from' k j s c).2 ≤ B + 2200000000000
  | 0, j, c, h1, h2 => ⟨by have : ¬ c.2 < 0 := fun h => absurd (h1 h) (by omega); show 0 ≤ c.2; omega, h2⟩
  | s + 1, j, c, h1, h2 => by
    have hc := cost_range p from' j k
    have hj := hf j
    unfold scanF
    simp only
    have key : 0 ≤ (if c.2 < 0 ∨ costF p from' j k + f j < c.2 then (j, costF p from' j k + f j) else c).2 ∧ (if c.2 < 0 ∨ costF p from' j k + f j < c.2 then (j, costF p from' j k + f j) else c).2 ≤ B + 2200000000000 := by
      split
      · simp only; omega
      · omega
    split
    · exact key
    · exact scanF_range p f from' k B hB hf s (j + 1) _ (fun h => by omega) key.2
theorem bestF_range (p : Par) : ∀ (m from' k : Nat), from' ≤ p.n → 0 ≤ (bestF p m from' k).2 ∧ (bestF p m from' k).2 ≤ (m : Int) * 2200000000000
  | 0, _, _, _ => ⟨by simp [bestF], by simp [bestF]⟩
  | m + 1, from', k, h => by
    unfold bestF
    split
    · simp only; omega
    · rename_i hne
      have hg : ∀ j, 0 ≤ (if j ≤ p.n then (bestF p m j (k + 1)).2 else 0) ∧ (if j ≤ p.n then (bestF p m j (k + 1)).2 else 0) ≤ (m : Int) * 2200000000000 := fun j => by
        split
        · rename_i hj; exact bestF_range p m j (k + 1) hj
        · omega
      rw [scanF_congr p (g := fun j => if j ≤ p.n then (bestF p m j (k + 1)).2 else 0) from' k _ _ _ (fun i h3 h4 => by
        show (bestF p m i (k + 1)).2 = if i ≤ p.n then (bestF p m i (k + 1)).2 else 0
        rw [if_pos (by omega)])]
      have := scanF_range p (fun j => if j ≤ p.n then (bestF p m j (k + 1)).2 else 0) from' k ((m : Int) * 2200000000000) (by omega) hg (p.n - from') (from' + 1) (0, -1) (fun _ => by omega) (by simp only; omega)
      omega
theorem best_range (p : Par) {from' : Nat} (k : Nat) (h : from' ≤ p.n) : 0 ≤ (best p from' k).2 ∧ (best p from' k).2 ≤ 600000000000000 := by
  have := bestF_range p (p.n + 1) from' k h
  have hn := p.hn
  unfold best
  omega
/-- the first break is behind, and there -/
theorem scanF_next (p : Par) (f : Nat → Int) (from' k : Nat) : ∀ (s j : Nat) (c : Nat × Int), from' < j → j + s = p.n + 1 → (c.2 < 0 ∨ (from' < c.1 ∧ c.1 ≤ p.n)) → (c.2 < 0 → 0 < s) → (∀ i, 0 ≤ f i) →
    from' < (scanF p f from' k j s c).1 ∧ (scanF p f from' k j s c).1 ≤ p.n
  | 0, j, c, h1, h2, h3, h4, _ => by
    have : ¬ c.2 < 0 := fun h => absurd (h4 h) (by omega)
    rcases h3 with h3 | h3
    · exact absurd h3 this
    · exact h3
  | s + 1, j, c, h1, h2, h3, h4, h5 => by
    have hc := cost_range p from' j k
    have hj := h5 j
    unfold scanF
    simp only
    have key : ¬ (if c.2 < 0 ∨ costF p from' j k + f j < c.2 then (j, costF p from' j k + f j) else c).2 < 0 ∧ (from' < (if c.2 < 0 ∨ costF p from' j k + f j < c.2 then (j, costF p from' j k + f j) else c).1 ∧ (if c.2 < 0 ∨ costF p from' j k + f j < c.2 then (j, costF p from' j k + f j) else c).1 ≤ p.n) := by
      split
      · simp only; omega
      · rename_i hn
        rcases h3 with h3 | h3
        · exact absurd (Or.inl h3) hn
        · exact ⟨by omega, h3⟩
    split
    · exact key.2
    · exact scanF_next p f from' k s (j + 1) _ (by omega) (by omega) (.inr key.2) (fun h => absurd h key.1) h5
end Go.Proofs.Ytiaaiihdamkeaaa
