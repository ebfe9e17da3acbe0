/- What gsub.Parse reads is such as is promised: singles, multiples, alternates. -/
import Derived.Test.YtalploampmdemaaM13
import Derived.Test.YtalploampmdemaaR21
set_option maxRecDepth 100000
set_option linter.unusedVariables false
namespace Go.Proofs.Ytalploampmdemaa
open Go Go.Eng Go.RowKit

theorem nthE {α : Type} [Inhabited α] {xs : List α} {i : Nat} (h : i < xs.length) : nth xs i = xs[i] := by
  unfold nth
  rw [List.getD_eq_getElem?_getD, List.getElem?_eq_getElem h]; rfl
theorem pw_nth {α : Type} [Inhabited α] {R : α → α → Prop} {l : List α} (h : l.Pairwise R) {i j : Nat} (hij : i < j) (hj : j < l.length) : R (nth l i) (nth l j) := by
  rw [nthE hj, nthE (Nat.lt_trans hij hj)]
  exact List.pairwise_iff_getElem.1 h i j _ hj hij
theorem pw_of_nth {α : Type} [Inhabited α] {R : α → α → Prop} {l : List α} (h : ∀ i j, i < j → j < l.length → R (nth l i) (nth l j)) : l.Pairwise R := by
  rw [List.pairwise_iff_getElem]
  intro i j hi hj hij
  have := h i j hij hj
  rwa [nthE hj, nthE hi] at this
/-- glyphs below a number, rising -/
structure Ris (l : List Int) (g : Int) : Prop where
  pw : l.Pairwise (· < ·)
  lt : ∀ x ∈ l, x < g
  u : ∀ x ∈ l, 0 ≤ x ∧ x ≤ 65535
theorem up_of {l : List Int} (h : ∀ i, 0 < i → i < l.length → nth l (i - 1) < nth l i) : l.Pairwise (· < ·) := by
  refine pw_of_nth fun i j hij hj => ?_
  induction j with
  | zero => omega
  | succ j ih =>
    have h1 := h (j + 1) (by omega) hj
    rw [Nat.add_sub_cancel] at h1
    by_cases e : i = j
    · subst e; exact h1
    · have := ih (by omega) (by omega)
      omega
theorem rangeW_eq {f : Int} {t : Nat} (h0 : 0 ≤ f) (h1 : f + t ≤ 65536) : rangeW f t = (List.range t).map fun (k : Nat) => f + (k : Int) := by
  unfold rangeW
  refine List.map_congr_left fun k hk => ?_
  have := List.mem_range.1 hk
  rw [IntKind.wrap_u16]; omega
theorem accL_ris {d : List Int} {g : Int} : ∀ (n : Nat), (∀ i, i < n → sB d g i = false) → Ris (accL d n) g ∧ ∀ x ∈ accL d n, x ≤ sE d n
  | 0, _ => ⟨⟨List.Pairwise.nil, fun x hx => (by cases hx), fun x hx => (by cases hx)⟩, fun x hx => (by cases hx)⟩
  | n + 1, h => by
    obtain ⟨⟨h1, h2, h3⟩, h4⟩ := accL_ris n (fun i hi => h i (by omega))
    have hb := h n (by omega)
    unfold sB at hb
    rw [Bool.or_eq_false_iff, Bool.or_eq_false_iff, decide_eq_false_iff_not, decide_eq_false_iff_not, decide_eq_false_iff_not] at hb
    obtain ⟨⟨b1, b2⟩, b3⟩ := hb
    have f0 := wd_range d (6 * n)
    have l0 := wd_range d (6 * n + 2)
    have f0' : 0 ≤ sF d n ∧ sF d n ≤ 65535 := f0
    have l0' : 0 ≤ sL d n ∧ sL d n ≤ 65535 := l0
    have e : accL d (n + 1) = accL d n ++ (List.range (sL d n + 1 - sF d n).toNat).map fun (k : Nat) => sF d n + (k : Int) := by
      show accL d n ++ rangeW _ _ = _
      rw [rangeW_eq (by omega) (by omega)]
    have hm : ∀ x ∈ (List.range (sL d n + 1 - sF d n).toNat).map (fun (k : Nat) => sF d n + (k : Int)), sF d n ≤ x ∧ x ≤ sL d n := by
      intro x hx
      obtain ⟨k, hk, rfl⟩ := List.mem_map.1 hx
      have := List.mem_range.1 hk
      omega
    rw [e]
    refine ⟨⟨?_, fun x hx => ?_, fun x hx => ?_⟩, fun x hx => ?_⟩
    · rw [List.pairwise_append]
      refine ⟨h1, ?_, fun x hx y hy => ?_⟩
      · rw [List.pairwise_map]
        exact List.Pairwise.imp (fun h => by omega) (List.pairwise_lt_range (n := (sL d n + 1 - sF d n).toNat))
      · have := h4 x hx
        have := hm y hy
        omega
    · rcases List.mem_append.1 hx with hx | hx
      · exact h2 x hx
      · have := hm x hx; omega
    · rcases List.mem_append.1 hx with hx | hx
      · exact h3 x hx
      · have := hm x hx; omega
    · show x ≤ sL d n
      rcases List.mem_append.1 hx with hx | hx
      · have := h4 x hx; omega
      · exact (hm x hx).2
theorem fin_ris {l r : List Int} {g : Int} (h : finC l = some r) (hl : Ris l g) : Ris r g := by
  rw [(finC_len h).1]; exact hl
theorem cov_ris {b : List Int} {a g : Int} {l : List Int} (h : covX b a g = some l) : Ris l g := by
  unfold covX at h
  split at h
  · cases h
  · split at h
    · split at h
      · cases h
      · unfold cov1 at h
        split at h
        · rename_i hok
          refine fin_ris h ⟨?_, fun x hx => ?_, fun x hx => ?_⟩
          · refine up_of fun i h0 hi => ?_
            have := hok i (by rw [rowO_len] at hi; exact hi)
            unfold ok1 at this
            rw [Bool.not_eq_true', Bool.or_eq_false_iff, Bool.and_eq_false_iff, decide_eq_false_iff_not, decide_eq_false_iff_not, decide_eq_false_iff_not] at this
            omega
          · obtain ⟨i, hi, rfl⟩ := List.getElem_of_mem hx
            have := hok i (by rw [rowO_len] at hi; exact hi)
            unfold ok1 at this
            rw [Bool.not_eq_true', Bool.or_eq_false_iff, decide_eq_false_iff_not, nthE hi] at this
            omega
          · unfold rowO at hx
            obtain ⟨j, _, rfl⟩ := List.mem_map.1 hx
            exact wo_range _ _
        · cases h
    · split at h
      · split at h
        · cases h
        · unfold cov2 at h
          split at h
          · rename_i hok
            refine fin_ris h (accL_ris _ fun i hi => ?_).1
            have := hok i hi
            unfold ok2 at this
            rw [Bool.and_eq_true, Bool.not_eq_true'] at this
            exact this.1
          · cases h
      · cases h
theorem set_ris {b : List Int} {g a s : Int} {l : List Int} {s' : Int} (h : setX b g a s = some (l, s')) : Ris l g ∧ s' = s + (l.length : Int) ∧ s' ≤ 65536 ∧ 0 < l.length ∧ l.length ≤ 65535 := by
  obtain ⟨h1, h2, h3, h4, h5⟩ := setX_len h
  exact ⟨cov_ris h1, h2, h3, h4, h5⟩
theorem set2_ris {b : List Int} {g a wd s : Int} {l : List Int} {s' : Int} (h : set2 b g a wd s = some (l, s')) : Ris l g ∧ s' = s + (l.length : Int) ∧ s' ≤ 65536 ∧ 0 < l.length ∧ l.length ≤ 65535 := by
  unfold set2 at h
  split at h
  · cases h
  · exact set_ris h
theorem rows_ris {b : List Int} {g a s : Int} (hB : Byt b) (ha : 0 ≤ a) {l ps : List Int} {s1 : Int} (h : rowsX b g a s = some (l, ps, s1)) : Ris l g ∧ ps.length = l.length ∧ 0 < l.length ∧ l.length ≤ 65535 := by
  obtain ⟨h1, _, _, _, h5, h6⟩ := rows_len hB ha h
  unfold rowsX at h
  split at h
  · cases h
  · rename_i l0 s0 hs
    have hr := (set2_ris hs).1
    unfold rowsT at h
    repeat (split at h; · cases h)
    cases h
    exact ⟨hr, h1, h5, h6⟩
def Gl (x g : Int) : Prop := 0 ≤ x ∧ x ≤ 65535 ∧ x < g
theorem gAt_is {b : List Int} (hB : Byt b) {g a s x : Int} (h : gAt b g a s = some x) : Gl x g ∧ s + 1 ≤ 65536 := by
  unfold gAt at h
  split at h
  · cases h
  · split at h
    · cases h
    · rename_i hh
      have hh := Decidable.not_not.1 hh
      have := wA_range hB a
      cases h
      exact ⟨⟨this.1, this.2, hh.2⟩, hh.1⟩
theorem rLoop_is {b : List Int} (hB : Byt b) {g a : Int} : ∀ (m i : Nat) (s : Int) (acc : List Int) (r : List Int × Int), rLoop b g a m i s acc = some r → (∀ x ∈ acc, Gl x g) → ∀ x ∈ r.1, Gl x g
  | 0, _, s, acc, r, h, ha => by cases h; exact ha
  | m + 1, i, s, acc, r, h, ha => by
    rw [rLoop] at h
    split at h
    · cases h
    · rename_i x hx
      exact rLoop_is hB m _ _ _ r h (fun y hy => by
        rcases List.mem_append.1 hy with hy | hy
        · exact ha y hy
        · rw [List.mem_singleton] at hy; subst hy; exact (gAt_is hB hx).1)
theorem some_is {b : List Int} (hB : Byt b) {g a s : Int} (hs : s ≤ 65536) {l : List Int} {s' : Int} (h : someX b g a s = some (l, s')) : 0 < l.length ∧ l.length ≤ 65535 ∧ (∀ x ∈ l, Gl x g) ∧ s' = s + l.length ∧ s' ≤ 65536 := by
  obtain ⟨h1, h2, h3, h4⟩ := some_len hB hs h
  refine ⟨h1, h2, ?_, h3, h4⟩
  unfold someX at h
  split at h
  · cases h
  · split at h
    · cases h
    · exact rLoop_is hB _ _ _ _ _ h (fun x hx => by cases hx)
theorem siLoop_is {b : List Int} (hB : Byt b) {g a f n : Int} : ∀ (l : List Int) (i : Nat) (s : Int) (acc : List Pair) (r : List Pair × Int), siLoop b g a f n l i s acc = some r → (∀ x ∈ acc, Gl x.t g) → r.1.map (·.f) = acc.map (·.f) ++ l ∧ ∀ x ∈ r.1, Gl x.t g
  | [], _, s, acc, r, h, ha => by cases h; exact ⟨by simp, ha⟩
  | G :: l, i, s, acc, r, h, ha => by
    rw [siLoop] at h
    split at h
    · cases h
    · rename_i t ht
      split at h
      · cases h
      · rename_i hh
        have hh := Decidable.not_not.1 hh
        have hu : 0 ≤ t ∧ t ≤ 65535 := by
          unfold toX at ht
          split at ht
          · split at ht
            · cases ht
            · cases ht; exact wA_range hB _
          · cases ht; exact u16_rng _
        obtain ⟨h1, h2⟩ := siLoop_is hB l _ _ _ r h (fun y hy => by
          rcases List.mem_append.1 hy with hy | hy
          · exact ha y hy
          · rw [List.mem_singleton] at hy; subst hy; exact ⟨hu.1, hu.2, hh.2⟩)
        exact ⟨by rw [h1]; simp, h2⟩
theorem muLoop_is {b : List Int} (hB : Byt b) {g : Int} : ∀ (l ps : List Int) (s : Int) (acc : List Many) (r : List Many × Int), ps.length = l.length → s ≤ 65536 → muLoop b g l ps s acc = some r → (∀ x ∈ acc, 0 < x.t.length ∧ x.t.length ≤ 65535 ∧ ∀ y ∈ x.t, Gl y g) → r.1.map (·.f) = acc.map (·.f) ++ l ∧ ∀ x ∈ r.1, 0 < x.t.length ∧ x.t.length ≤ 65535 ∧ ∀ y ∈ x.t, Gl y g
  | [], _, s, acc, r, _, _, h, ha => by cases h; exact ⟨by simp, ha⟩
  | _ :: _, [], s, acc, r, hl, _, h, ha => by simp at hl
  | G :: l, p :: ps, s, acc, r, hl, hs, h, ha => by
    rw [muLoop] at h
    split at h
    · cases h
    · rename_i t s' hh
      obtain ⟨k1, k2, k3, _, k5⟩ := some_is hB hs hh
      obtain ⟨h1, h2⟩ := muLoop_is hB l ps _ _ r (by simpa using hl) k5 h (fun y hy => by
        rcases List.mem_append.1 hy with hy | hy
        · exact ha y hy
        · rw [List.mem_singleton] at hy; subst hy; exact ⟨k1, k2, k3⟩)
      exact ⟨by rw [h1]; simp, h2⟩
theorem alLoop_is {b : List Int} (hB : Byt b) {g : Int} : ∀ (l ps : List Int) (s : Int) (acc : List Pair) (r : List Pair × Int), ps.length = l.length → s ≤ 65536 → alLoop b g l ps s acc = some r → (∀ x ∈ acc, Gl x.t g) → r.1.map (·.f) = acc.map (·.f) ++ l ∧ ∀ x ∈ r.1, Gl x.t g
  | [], _, s, acc, r, _, _, h, ha => by cases h; exact ⟨by simp, ha⟩
  | _ :: _, [], s, acc, r, hl, _, h, ha => by simp at hl
  | G :: l, p :: ps, s, acc, r, hl, hs, h, ha => by
    rw [alLoop] at h
    split at h
    · cases h
    · rename_i t s' hh
      obtain ⟨k1, k2, k3, _, k5⟩ := some_is hB hs hh
      obtain ⟨h1, h2⟩ := alLoop_is hB l ps _ _ r (by simpa using hl) k5 h (fun y hy => by
        rcases List.mem_append.1 hy with hy | hy
        · exact ha y hy
        · rw [List.mem_singleton] at hy; subst hy; exact k3 _ (nth_mem k1))
      exact ⟨by rw [h1]; simp, h2⟩
theorem map_nth {α : Type} [Inhabited α] (f : α → Int) {xs : List α} {l : List Int} (h : xs.map f = l) {i : Nat} (hi : i < xs.length) : f (nth xs i) = nth l i := by
  subst h
  rw [nthE hi, nthE (by simpa using hi)]; simp
theorem up_false {l : List Int} {g : Int} (hr : Ris l g) {i : Nat} (hi : i < l.length) (hl : l.length ≤ 65536) : (decide ((i : Int) > 0) && decide (nth l i ≤ nth l (pre i))) = false := by
  rw [Bool.and_eq_false_iff]
  by_cases h0 : 0 < i
  · right
    have := pw_nth hr.pw (i := i - 1) (j := i) (by omega) hi
    rw [pre_eq h0 (by omega)]
    exact decide_eq_false (by omega)
  · left
    exact decide_eq_false (by omega)
theorem pa_right {ps : List Pair} {l : List Int} {g : Int} (hm : ps.map (·.f) = l) (hr : Ris l g) (ht : ∀ x ∈ ps, Gl x.t g) (hl0 : 0 < l.length) (hl : l.length ≤ 65535) : (allN (cPa ps g) ps.length && decide ((ps.length : Int) > 0)) = true ∧ ps.length ≤ 65535 := by
  have e : ps.length = l.length := by rw [← hm]; simp
  refine ⟨?_, by omega⟩
  rw [allN_true, Bool.true_and]
  · exact decide_eq_true (by omega)
  intro j hj
  have hjl : j < l.length := by omega
  have ef := map_nth (·.f) hm hj
  have hpj : pre j < ps.length := by
    by_cases h0 : 0 < j
    · rw [pre_eq h0 (by omega)]; omega
    · have : j = 0 := by omega
      subst this
      have : pre 0 = 0 := by unfold pre; rw [i64_id _ (by omega) (by omega)]; rfl
      omega
  have ep := map_nth (·.f) hm hpj
  have u := hr.u _ (nth_mem hjl)
  have lt := hr.lt _ (nth_mem hjl)
  obtain ⟨t1, t2, t3⟩ := ht _ (nth_mem hj)
  have hup := up_false hr hjl (by omega)
  unfold cPa
  rw [ef, ep, i64_id _ (by omega) (by omega), i64_id _ (by omega) (by omega), decide_eq_false (by omega), decide_eq_false (by omega), hup]
  rfl
theorem below_right {l : List Int} {g : Int} (h : ∀ x ∈ l, Gl x g) : rBe l g = true := by
  unfold rBe
  refine allN_true fun j hj => ?_
  obtain ⟨t1, t2, t3⟩ := h _ (nth_mem hj)
  unfold cBe
  rw [i64_id _ (by omega) (by omega)]
  exact decide_eq_false (by omega)
theorem ma_right {ms : List Many} {l : List Int} {g : Int} (hm : ms.map (·.f) = l) (hr : Ris l g) (ht : ∀ x ∈ ms, 0 < x.t.length ∧ x.t.length ≤ 65535 ∧ ∀ y ∈ x.t, Gl y g) (hl0 : 0 < l.length) (hl : l.length ≤ 65535) : (allN (cMa ms g) ms.length && decide ((ms.length : Int) > 0)) = true ∧ ms.length ≤ 65535 := by
  have e : ms.length = l.length := by rw [← hm]; simp
  refine ⟨?_, by omega⟩
  rw [allN_true, Bool.true_and]
  · exact decide_eq_true (by omega)
  intro j hj
  have hjl : j < l.length := by omega
  have ef := map_nth (·.f) hm hj
  have hpj : pre j < ms.length := by
    by_cases h0 : 0 < j
    · rw [pre_eq h0 (by omega)]; omega
    · have : j = 0 := by omega
      subst this
      have : pre 0 = 0 := by unfold pre; rw [i64_id _ (by omega) (by omega)]; rfl
      omega
  have ep := map_nth (·.f) hm hpj
  have u := hr.u _ (nth_mem hjl)
  have lt := hr.lt _ (nth_mem hjl)
  obtain ⟨t1, t2, t3⟩ := ht _ (nth_mem hj)
  have hup := up_false hr hjl (by omega)
  unfold cMa
  rw [ef, ep, i64_id _ (by omega) (by omega), decide_eq_false (by omega), decide_eq_false (by omega), hup, below_right t3]
  rfl
end Go.Proofs.Ytalploampmdemaa
