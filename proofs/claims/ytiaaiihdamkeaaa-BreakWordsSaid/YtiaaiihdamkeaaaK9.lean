/- Breaking a paragraph, in plain Lean: the way is one, costs least, and none that costs as much is ahead. -/
import Derived.Test.YtiaaiihdamkeaaaK8
set_option linter.unusedVariables false
namespace Go.Proofs.Ytiaaiihdamkeaaa
open Go Go.Eng Go.RowKit Go.Ar

/-- what the scan finds: c is the best of those ahead of j -/
structure Scd (p : Par) (f : Nat → Int) (from' k j : Nat) (c : Nat × Int) : Prop where
  no : ∀ q, from' < q → q < j → nth p.must q = false
  lo : from' < j
  c0 : c.2 < 0 → j = from' + 1
  cv : ¬ c.2 < 0 → from' < c.1 ∧ c.1 < j ∧ c.2 = costF p from' c.1 k + f c.1
  mn : ∀ i, from' < i → i < j → ¬ c.2 < 0 ∧ c.2 ≤ costF p from' i k + f i ∧ (c.2 = costF p from' i k + f i → c.1 ≤ i)
structure Sce (p : Par) (f : Nat → Int) (from' k : Nat) (r : Nat × Int) : Prop where
  lo : from' < r.1 ∧ r.1 ≤ p.n
  no : ∀ q, from' < q → q < r.1 → nth p.must q = false
  v : r.2 = costF p from' r.1 k + f r.1
  mn : ∀ i, from' < i → i ≤ p.n → (∀ q, from' < q → q < i → nth p.must q = false) → r.2 ≤ costF p from' i k + f i ∧ (r.2 = costF p from' i k + f i → r.1 ≤ i)
theorem scan_end (p : Par) (f : Nat → Int) (from' k : Nat) (hf : ∀ j, 0 ≤ f j) : ∀ (s j : Nat) (c : Nat × Int), j + s = p.n + 1 → (c.2 < 0 → 0 < s) → Scd p f from' k j c → Sce p f from' k (scanF p f from' k j s c)
  | 0, j, c, hs, h0, h => by
    have hc : ¬ c.2 < 0 := fun hh => absurd (h0 hh) (by omega)
    obtain ⟨a, b, d⟩ := h.cv hc
    exact ⟨⟨a, by show c.1 ≤ p.n; omega⟩, fun q h1 h2 => h.no q h1 (by have : q < c.1 := h2; omega), d, fun i h1 h2 _ => (h.mn i h1 (by omega)).2⟩
  | s + 1, j, c, hs, h0, h => by
    have hcj := (cost_range p from' j k).1
    have hfj := hf j
    have hlo := h.lo
    unfold scanF
    simp only
    obtain ⟨c', hc'⟩ : ∃ c' : Nat × Int, c' = (if c.2 < 0 ∨ costF p from' j k + f j < c.2 then (j, costF p from' j k + f j) else c) := ⟨_, rfl⟩
    rw [← hc']
    have hcv : ¬ c'.2 < 0 ∧ from' < c'.1 ∧ c'.1 < j + 1 ∧ c'.2 = costF p from' c'.1 k + f c'.1 := by
      rw [hc']
      split
      · exact ⟨by simp only; omega, hlo, Nat.lt_succ_self _, rfl⟩
      · rename_i hh
        have hn : ¬ c.2 < 0 := fun e => hh (.inl e)
        obtain ⟨a, b, d⟩ := h.cv hn
        exact ⟨hn, a, by omega, d⟩
    have hmn : ∀ i, from' < i → i < j + 1 → ¬ c'.2 < 0 ∧ c'.2 ≤ costF p from' i k + f i ∧ (c'.2 = costF p from' i k + f i → c'.1 ≤ i) := by
      intro i h1 h2
      refine ⟨hcv.1, ?_⟩
      rw [hc']
      by_cases e : i = j
      · subst e
        split
        · exact ⟨Int.le_refl _, fun _ => Nat.le_refl _⟩
        · rename_i hh
          have hn : ¬ c.2 < 0 := fun e => hh (.inl e)
          have := h.cv hn
          exact ⟨by omega, fun _ => by omega⟩
      · have h3 := h.mn i h1 (by omega)
        split
        · rename_i hh
          exact ⟨by simp only; omega, fun e2 => by simp only at e2; omega⟩
        · exact h3.2
    split
    · rename_i hm
      refine ⟨⟨hcv.2.1, by omega⟩, fun q h1 h2 => h.no q h1 (by omega), hcv.2.2.2, fun i h1 h2 h3 => ?_⟩
      by_cases e : i < j + 1
      · exact (hmn i h1 e).2
      · exact absurd (h3 j hlo (by omega)) (by rw [hm]; decide)
    · rename_i hm
      refine scan_end p f from' k hf s (j + 1) c' (by omega) (fun hh => absurd hh hcv.1) ⟨fun q h1 h2 => ?_, by omega, fun hh => absurd hh hcv.1, fun _ => hcv.2, hmn⟩
      by_cases e : q = j
      · rw [e]; simpa using hm
      · exact h.no q h1 (by omega)
theorem best_sce (p : Par) {from' : Nat} (h : from' < p.n) (k : Nat) : Sce p (fun j => if j ≤ p.n then (best p j (k + 1)).2 else 0) from' k (best p from' k) := by
  rw [best_eq p h k]
  have hg : ∀ j, 0 ≤ (if j ≤ p.n then (best p j (k + 1)).2 else 0) := fun j => by
    split
    · rename_i hj; exact (best_range p (k + 1) hj).1
    · omega
  rw [scanF_congr p (g := fun j => if j ≤ p.n then (best p j (k + 1)).2 else 0) from' k _ _ _ (fun i h3 h4 => by
    show (best p i (k + 1)).2 = if i ≤ p.n then (best p i (k + 1)).2 else 0
    rw [if_pos (by omega)])]
  refine scan_end p _ from' k hg _ _ _ (by omega) (fun _ => by omega) ⟨fun q h1 h2 => absurd h2 (by omega), by omega, fun _ => rfl, fun hh => absurd (by decide) hh, fun i h1 h2 => absurd h2 (by omega)⟩

theorem way_ok (p : Par) : ∀ (m at' k : Nat), at' ≤ p.n → p.n - at' ≤ m → WayOk p.must p.n at' (wayL p at' k) ∧ totF p at' k (wayL p at' k) = (best p at' k).2
  | 0, at', k, h, hm => by
    have e : at' = p.n := by omega
    subst e
    rw [wayL_end p k (by omega), best_end]
    exact ⟨rfl, rfl⟩
  | m + 1, at', k, h, hm => by
    by_cases e : at' < p.n
    · have hb := best_sce p e k
      obtain ⟨i1, i2⟩ := way_ok p m (best p at' k).1 (k + 1) hb.lo.2 (by have := hb.lo.1; omega)
      rw [wayL_step p k e]
      refine ⟨⟨hb.lo.1, hb.lo.2, hb.no, i1⟩, ?_⟩
      show costF p at' (best p at' k).1 k + totF p (best p at' k).1 (k + 1) (wayL p (best p at' k).1 (k + 1)) = _
      rw [i2, hb.v]
      rw [if_pos hb.lo.2]
    · have e : at' = p.n := by omega
      subst e
      rw [wayL_end p k (by omega), best_end]
      exact ⟨rfl, rfl⟩
def aheadF : List Nat → List Nat → Bool
  | a :: r, b :: t => if a = b then aheadF r t else decide (a < b)
  | _, _ => false
theorem way_least (p : Par) : ∀ (l : List Nat) (at' k : Nat), WayOk p.must p.n at' l → at' ≤ p.n → (best p at' k).2 ≤ totF p at' k l ∧ (totF p at' k l = (best p at' k).2 → aheadF l (wayL p at' k) = false)
  | [], at', k, h, hle => by
    have e : at' = p.n := h
    subst e
    rw [best_end]
    exact ⟨Int.le_refl _, fun _ => rfl⟩
  | j :: r, at', k, h, hle => by
    obtain ⟨h1, h2, h3, h4⟩ := h
    obtain ⟨i1, i2⟩ := way_least p r j (k + 1) h4 h2
    have hb := best_sce p (show at' < p.n by omega) k
    have hj := hb.mn j h1 h2 h3
    rw [if_pos h2] at hj
    show _ ≤ costF p at' j k + totF p j (k + 1) r ∧ (costF p at' j k + totF p j (k + 1) r = _ → _)
    refine ⟨by omega, fun he => ?_⟩
    have e1 : (best p at' k).2 = costF p at' j k + (best p j (k + 1)).2 := by omega
    have e2 : totF p j (k + 1) r = (best p j (k + 1)).2 := by omega
    have e3 := hj.2 e1
    rw [wayL_step p k (show at' < p.n by omega)]
    unfold aheadF
    split
    · rename_i e4
      rw [← e4]
      exact i2 e2
    · exact decide_eq_false (by omega)
/-! more places that must be -/
theorem tot_same {p q : Par} (hl : p.lines = q.lines) (hw : p.ws = q.ws) (hn : p.n = q.n) : ∀ (l : List Nat) (a k : Nat), totF p a k l = totF q a k l
  | [], _, _ => rfl
  | j :: r, a, k => by
    unfold totF
    rw [tot_same hl hw hn r j (k + 1)]
    have : costF p a j k = costF q a j k := by unfold costF lnF wk; rw [hl, hw, hn]
    rw [this]
theorem way_less {m m' : List Bool} {n : Nat} (h : ∀ q, nth m' q = false → nth m q = false) : ∀ (l : List Nat) (a : Nat), WayOk m' n a l → WayOk m n a l
  | [], a, ha => ha
  | j :: r, a, ⟨h1, h2, h3, h4⟩ => ⟨h1, h2, fun q a1 a2 => h q (h3 q a1 a2), way_less h r j h4⟩
theorem way_has {m : List Bool} {n x : Nat} (hx : nth m x = true ∨ x = n) (hn : x ≤ n) : ∀ (l : List Nat) (a : Nat), WayOk m n a l → a < x → x ∈ l
  | [], a, h, ha => by have : a = n := h; omega
  | j :: r, a, ⟨h1, h2, h3, h4⟩, ha => by
    by_cases e : x = j
    · rw [e]; exact List.mem_cons_self ..
    · refine List.mem_cons_of_mem _ (way_has hx hn r j h4 ?_)
      rcases hx with hx | hx
      · have : ¬ x < j := fun hh => by rw [h3 x ha hh] at hx; cases hx
        omega
      · omega
/-! all places must be -/
theorem way_all {m : List Bool} {n : Nat} (h : ∀ q, q ≤ n → nth m q = true) : ∀ (l : List Nat) (a : Nat), WayOk m n a l → l = List.range' (a + 1) (n - a)
  | [], a, ha => by have e : a = n := ha; rw [e, Nat.sub_self]; rfl
  | j :: r, a, ⟨h1, h2, h3, h4⟩ => by
    have e : j = a + 1 := by
      by_cases hh : a + 1 < j
      · have := h3 (a + 1) (by omega) hh
        rw [h (a + 1) (by omega)] at this; cases this
      · omega
    have ih := way_all h r j h4
    rw [ih, e, show n - a = n - (a + 1) + 1 by omega]
    rfl
end Go.Proofs.Ytiaaiihdamkeaaa
