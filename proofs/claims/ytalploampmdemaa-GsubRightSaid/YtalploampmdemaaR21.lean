/- Sorted, and each once: the two ways. The law CoverFeatures. -/
import Derived.Test.YtalploampmdemaaR20a
set_option maxRecDepth 100000
set_option linter.unusedVariables false
namespace Go.Proofs.Ytalploampmdemaa
open Go Go.Eng Go.RowKit

theorem strict_ext : ∀ {xs ys : List Int}, xs.Pairwise (· < ·) → ys.Pairwise (· < ·) → (∀ x, x ∈ xs ↔ x ∈ ys) → xs = ys
  | [], [], _, _, _ => rfl
  | [], y :: ys, _, _, h => by have := (h y).2 (by simp); simp at this
  | x :: xs, [], _, _, h => by have := (h x).1 (by simp); simp at this
  | x :: xs, y :: ys, hx, hy, h => by
    rw [List.pairwise_cons] at hx hy
    have e : x = y := by
      have h1 := (h x).1 (by simp)
      have h2 := (h y).2 (by simp)
      rcases List.mem_cons.1 h1 with h1 | h1
      · exact h1
      · rcases List.mem_cons.1 h2 with h2 | h2
        · exact h2.symm
        · have := hy.1 x h1
          have := hx.1 y h2
          omega
    subst e
    rw [strict_ext hx.2 hy.2 fun z => ⟨fun hz => ?_, fun hz => ?_⟩]
    · rcases List.mem_cons.1 ((h z).1 (List.mem_cons_of_mem _ hz)) with h1 | h1
      · have := hx.1 z hz; omega
      · exact h1
    · rcases List.mem_cons.1 ((h z).2 (List.mem_cons_of_mem _ hz)) with h1 | h1
      · have := hy.1 z hz; omega
      · exact h1
theorem sel_strict (row : List Int) (v : Nat) : (sel row v).Pairwise (· < ·) := by
  unfold sel
  refine List.Pairwise.filter _ ?_
  rw [List.pairwise_map]
  exact List.Pairwise.imp (fun h => by omega) (List.pairwise_lt_range (n := v))
theorem sel_mem (row : List Int) (v : Nat) (x : Int) : x ∈ sel row v ↔ (∃ u : Nat, u < v ∧ (u : Int) = x) ∧ x ∈ row := by
  unfold sel
  rw [List.mem_filter, List.mem_map, List.contains_iff_mem]
  simp only [List.mem_range]
theorem arr_get {zs : List Int} {i : Nat} (h : i < zs.length) : zs.toArray[i]! = zs[i] := by
  rw [getElem!_pos zs.toArray i (by simpa using h)]
  simp
theorem compact_mem (zs : List Int) (x : Int) : x ∈ Lib.compact zs ↔ x ∈ zs := by
  unfold Lib.compact Lib.compactUpTo
  rw [List.mem_map]
  constructor
  · rintro ⟨i, hi, rfl⟩
    rw [List.mem_filter, List.mem_range] at hi
    rw [arr_get hi.1]
    exact List.getElem_mem _
  · intro hx
    obtain ⟨i, hi, rfl⟩ := List.getElem_of_mem hx
    have key : ∀ i, i < zs.length → ∃ j, j ∈ (List.range zs.length).filter (Lib.keeps zs.toArray) ∧ zs.toArray[j]! = zs.toArray[i]! := by
      intro i
      induction i with
      | zero =>
        intro h
        exact ⟨0, List.mem_filter.2 ⟨List.mem_range.2 h, Lib.keeps_lt_one _ 0 (by decide)⟩, rfl⟩
      | succ i ih =>
        intro h
        by_cases e : zs.toArray[i + 1]! = zs.toArray[i]!
        · obtain ⟨j, h1, h2⟩ := ih (by omega)
          exact ⟨j, h1, by rw [h2, e]⟩
        · exact ⟨i + 1, List.mem_filter.2 ⟨List.mem_range.2 h, Lib.keeps_pos (by simpa using e)⟩, rfl⟩
    obtain ⟨j, h1, h2⟩ := key i hi
    exact ⟨j, h1, by rw [h2, arr_get hi]⟩
theorem compact_strict (zs : List Int) (h : zs.Pairwise (· ≤ ·)) : (Lib.compact zs).Pairwise (· < ·) := by
  have hs : ∀ i j (hi : i < zs.length) (hj : j < zs.length), i ≤ j → zs[i] ≤ zs[j] := by
    intro i j hi hj hij
    rcases Nat.lt_or_ge i j with h1 | h1
    · exact List.pairwise_iff_getElem.1 h i j hi hj h1
    · have : i = j := by omega
      subst this; omega
  unfold Lib.compact Lib.compactUpTo
  rw [List.pairwise_map]
  refine List.Pairwise.imp_of_mem ?_ (List.Pairwise.filter _ (List.pairwise_lt_range (n := zs.length)))
  intro a b ha hb hab
  rw [List.mem_filter, List.mem_range] at ha hb
  rw [arr_get ha.1, arr_get hb.1]
  have h1 := hs a (b - 1) ha.1 (by omega) (by omega)
  have h2 := hs (b - 1) b (by omega) hb.1 (by omega)
  have h3 : zs[b] ≠ zs[b - 1] := by
    have hk := hb.2
    simp only [Lib.keeps, decide_eq_true_eq] at hk
    rcases hk with hk | hk
    · omega
    · rw [arr_get hb.1, arr_get (by omega)] at hk
      exact hk
  omega
theorem ks_sel (L : Int) (row : List Int) (h : ∀ x ∈ row, (0 ≤ x ∧ x ≤ 65535) ∧ x < L) : ksF row = sel row (selV row L) := by
  unfold ksF
  refine strict_ext (compact_strict _ ?_) (sel_strict _ _) fun x => ?_
  · have := List.pairwise_mergeSort (le := fun x y : Int => decide (x ≤ y)) (fun a b c h1 h2 => by simp at *; omega) (fun a b => by simp; omega) row
    exact this.imp (fun h => of_decide_eq_true h)
  · rw [compact_mem, List.mem_mergeSort, sel_mem]
    constructor
    · intro hx
      have := h x hx
      refine ⟨⟨x.toNat, ?_, by omega⟩, hx⟩
      unfold selV
      rw [if_neg (fun e => by rw [e] at hx; simp at hx)]
      omega
    · exact fun h => h.2
end Go.Proofs.Ytalploampmdemaa
