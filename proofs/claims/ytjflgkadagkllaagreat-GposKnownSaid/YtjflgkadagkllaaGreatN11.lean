/- What gpos.Parse reads is such as is promised: the plain law. -/
import Derived.Test.YtjflgkadagkllaaGreatN10
import Derived.Test.YtjflgkadagkllaaGreatR20a
set_option maxRecDepth 100000
set_option linter.unusedVariables false
namespace Go.Proofs.YtjflgkadagkllaaGreat
open Go Go.Eng Go.RowKit
theorem nthE {α : Type} [Inhabited α] {xs : List α} {i : Nat} (h : i < xs.length) : nth xs i = xs[i] := by
 unfold nth
 rw [List.getD_eq_getElem?_getD, List.getElem?_eq_getElem h]; rfl
theorem pw_nth {α : Type} [Inhabited α] {R : α -> α -> Prop} {l : List α} (h : l.Pairwise R) {i j : Nat} (hij : i < j) (hj : j < l.length) : R (nth l i) (nth l j) := by
 rw [nthE hj, nthE (Nat.lt_trans hij hj)]
 exact List.pairwise_iff_getElem.1 h i j _ hj hij
theorem pw_of_nth {α : Type} [Inhabited α] {R : α -> α -> Prop} {l : List α} (h : ∀ i j, i < j -> j < l.length -> R (nth l i) (nth l j)) : l.Pairwise R := by
 rw [List.pairwise_iff_getElem]
 intro i j hi hj hij
 have := h i j hij hj
 rwa [nthE hj, nthE hi] at this
structure Ris (l : List Int) (g : Int) : Prop where
 pw : l.Pairwise (· < ·)
 lt : ∀ x ∈ l, x < g
 u : ∀ x ∈ l, 0 <= x /\ x <= 65535
theorem up_of {l : List Int} (h : ∀ i, 0 < i -> i < l.length -> nth l (i - 1) < nth l i) : l.Pairwise (· < ·) := by
 refine pw_of_nth fun i j hij hj => ?_
 induction j with
 | zero => omega
 | succ j ih =>
  have h1 := h (j + 1) (by omega) hj
  rw [Nat.add_sub_cancel] at h1
  by_cases e : i = j
  · subst e; exact h1
  · have := ih (by omega) (by omega)
    omega
theorem rangeW_eq {f : Int} {t : Nat} (h0 : 0 <= f) (h1 : f + t <= 65536) : rangeW f t = (List.range t).map fun (k : Nat) => f + (k : Int) := by
 unfold rangeW
 refine List.map_congr_left fun k hk => ?_
 have := List.mem_range.1 hk
 rw [IntKind.wrap_u16]; omega
theorem accL_ris {d : List Int} {g : Int} : ∀ (n : Nat), (∀ i, i < n -> sB d g i = false) -> Ris (accL d n) g /\ ∀ x ∈ accL d n, x <= sE d n
 | 0, _ => ⟨⟨List.Pairwise.nil, fun x hx => (by cases hx), fun x hx => (by cases hx)⟩, fun x hx => (by cases hx)⟩
 | n + 1, h => by
  obtain ⟨⟨h1, h2, h3⟩, h4⟩ := accL_ris n (fun i hi => h i (by omega))
  have hb := h n (by omega)
  unfold sB at hb
  rw [Bool.or_eq_false_iff, Bool.or_eq_false_iff, decide_eq_false_iff_not, decide_eq_false_iff_not, decide_eq_false_iff_not] at hb
  obtain ⟨⟨b1, b2⟩, b3⟩ := hb
  have f0 := wd_range d (6 * n)
  have l0 := wd_range d (6 * n + 2)
  have f0' : 0 <= sF d n /\ sF d n <= 65535 := f0
  have l0' : 0 <= sL d n /\ sL d n <= 65535 := l0
  have e : accL d (n + 1) = accL d n ++ (List.range (sL d n + 1 - sF d n).toNat).map fun (k : Nat) => sF d n + (k : Int) := by
   show accL d n ++ rangeW _ _ = _
   rw [rangeW_eq (by omega) (by omega)]
  have hm : ∀ x ∈ (List.range (sL d n + 1 - sF d n).toNat).map (fun (k : Nat) => sF d n + (k : Int)), sF d n <= x /\ x <= sL d n := by
   intro x hx
   obtain ⟨k, hk, rfl⟩ := List.mem_map.1 hx
   have := List.mem_range.1 hk
   omega
  rw [e]
  refine ⟨⟨?_, fun x hx => ?_, fun x hx => ?_⟩, fun x hx => ?_⟩
  · rw [List.pairwise_append]
    refine ⟨h1, ?_, fun x hx y hy => ?_⟩
    · rw [List.pairwise_map]
      exact List.Pairwise.imp (fun h => by omega) (List.pairwise_lt_range (n := (sL d n + 1 - sF d n).toNat))
    · have := h4 x hx
      have := hm y hy
      omega
  · rcases List.mem_append.1 hx with hx | hx
    · exact h2 x hx
    · have := hm x hx; omega
  · rcases List.mem_append.1 hx with hx | hx
    · exact h3 x hx
    · have := hm x hx; omega
  · show x <= sL d n
    rcases List.mem_append.1 hx with hx | hx
    · have := h4 x hx; omega
    · exact (hm x hx).2
theorem fin_ris {l r : List Int} {g : Int} (h : finC l = some r) (hl : Ris l g) : Ris r g := by
 rw [(finC_len h).1]; exact hl
theorem cov_ris {b : List Int} {a g : Int} {l : List Int} (h : covX b a g = some l) : Ris l g := by
 unfold covX at h
 split at h
 · cases h
 · split at h
   · split at h
     · cases h
     · unfold cov1 at h
       split at h
       · rename_i hok
         refine fin_ris h ⟨?_, fun x hx => ?_, fun x hx => ?_⟩
         · refine up_of fun i h0 hi => ?_
           have := hok i (by rw [rowO_len] at hi; exact hi)
           unfold ok1 at this
           rw [Bool.not_eq_true', Bool.or_eq_false_iff, Bool.and_eq_false_iff, decide_eq_false_iff_not, decide_eq_false_iff_not, decide_eq_false_iff_not] at this
           omega
         · obtain ⟨i, hi, rfl⟩ := List.getElem_of_mem hx
           have := hok i (by rw [rowO_len] at hi; exact hi)
           unfold ok1 at this
           rw [Bool.not_eq_true', Bool.or_eq_false_iff, decide_eq_false_iff_not, nthE hi] at this
           omega
         · unfold rowO at hx
           obtain ⟨j, _, rfl⟩ := List.mem_map.1 hx
           exact wo_range _ _
       · cases h
   · split at h
     · split at h
       · cases h
       · unfold cov2 at h
         split at h
         · rename_i hok
           refine fin_ris h (accL_ris _ fun i hi => ?_).1
           have := hok i hi
           unfold ok2 at this
           rw [Bool.and_eq_true, Bool.not_eq_true'] at this
           exact this.1
         · cases h
     · cases h
theorem set_ris {b : List Int} {g a s : Int} {l : List Int} {s' : Int} (h : setX b g a s = some (l, s')) : Ris l g /\ s' = s + (l.length : Int) /\ s' <= 65536 /\ 0 < l.length /\ l.length <= 65535 := by
 obtain ⟨h1, h2, h3, h4, h5⟩ := setX_len h
 exact ⟨cov_ris h1, h2, h3, h4, h5⟩
def kLex (x y : Kern) : Prop := x.a < y.a \/ (x.a = y.a /\ x.b < y.b)
theorem u16w {n : Int} (h : 0 <= n /\ n <= 65535) : IntKind.u16.wrap n = n := by rw [IntKind.wrap_u16]; omega
theorem kLoop_is {b : List Int} {g t A : Int} (hB : Byt b) : ∀ (m j : Nat) (last s : Int) (acc : List Kern) (r : List Kern × Int), kLoop b g t A m j last s acc = some r ->
 ∃ new, r.1 = acc ++ new /\ new.length = m /\ r.2 = s + (m : Int) /\ (0 < m -> r.2 <= 65536) /\ (∀ k ∈ new, k.a = A /\ last < k.b /\ k.b < g /\ 0 <= k.b /\ k.b <= 65535) /\ new.Pairwise (fun x y => x.b < y.b)
 | 0, j, last, s, acc, r, h => by
  cases h
  exact ⟨[], by simp, rfl, by simp, fun h => absurd h (by omega), fun k hk => (by cases hk), List.Pairwise.nil⟩
 | m + 1, j, last, s, acc, r, h => by
  rw [kLoop] at h
  split at h
  · cases h
  · split at h
    · cases h
    · split at h
      · cases h
      · rename_i h3
        split at h
        · cases h
        · rename_i h4
          have hr := wA_range hB (t + 2 + 4 * (j : Int))
          obtain ⟨new, e1, e2, e3, e4, e5, e6⟩ := kLoop_is hB m (j + 1) _ (s + 1) _ r h
          have ew := u16w hr
          refine ⟨⟨A, IntKind.u16.wrap (wA b (t + 2 + 4 * (j : Int))), i16 (wA b (t + 4 + 4 * (j : Int)))⟩ :: new, by rw [e1, List.append_assoc]; rfl, by rw [List.length_cons, e2], by rw [e3]; omega, fun _ => ?_, ?_, ?_⟩
          · by_cases hm : 0 < m
            · exact e4 hm
            · rw [e3]; omega
          · intro k hk
            rcases List.mem_cons.1 hk with rfl | hk
            · rw [ew]; exact ⟨rfl, by show last < wA b (t + 2 + 4 * (j : Int)); omega, by show wA b (t + 2 + 4 * (j : Int)) < g; omega, hr.1, hr.2⟩
            · obtain ⟨q1, q2, q3, q4, q5⟩ := e5 k hk
              exact ⟨q1, by omega, q3, q4, q5⟩
          · rw [List.pairwise_cons]
            refine ⟨fun k hk => ?_, e6⟩
            rw [ew]
            exact (e5 k hk).2.1
theorem pLoop_is {b : List Int} {g a : Int} (hB : Byt b) : ∀ (l : List Int) (i : Nat) (s : Int) (acc : List Kern) (r : List Kern × Int), l.Pairwise (· < ·) -> pLoop b g a l i s acc = some r ->
 ∃ new, r.1 = acc ++ new /\ l.length <= new.length /\ r.2 = s + (new.length : Int) /\ (0 < new.length -> r.2 <= 65536) /\ (∀ k ∈ new, k.a ∈ l /\ k.b < g /\ 0 <= k.b /\ k.b <= 65535) /\ new.Pairwise kLex
 | [], i, s, acc, r, hl, h => by
  cases h
  exact ⟨[], by simp, Nat.le_refl _, by simp, fun h => absurd h (by simp), fun k hk => (by cases hk), List.Pairwise.nil⟩
 | A :: l, i, s, acc, r, hl, h => by
  rw [pLoop] at h
  split at h
  · cases h
  · split at h
    · cases h
    · split at h
      · cases h
      · rename_i h3
        split at h
        · cases h
        · rename_i acc' s' hk
          obtain ⟨n1, e1, e2, e3, e4, e5, e6⟩ := kLoop_is hB _ _ _ _ _ _ hk
          rw [List.pairwise_cons] at hl
          obtain ⟨n2, f1, f2, f3, f4, f5, f6⟩ := pLoop_is hB l (i + 1) s' acc' r hl.2 h
          have e1 : acc' = acc ++ n1 := e1
          have e3 : s' = s + _ := e3
          refine ⟨n1 ++ n2, by rw [f1, e1, List.append_assoc], by rw [List.length_cons, List.length_append]; omega, by rw [f3, e3, <- e2, List.length_append]; omega, fun _ => ?_, ?_, ?_⟩
          · by_cases hm : 0 < n2.length
            · exact f4 hm
            · have := e4 (by omega)
              rw [f3]
              have : n2.length = 0 := by omega
              rw [this]
              simp only at *
              omega
          · intro k hk
            rcases List.mem_append.1 hk with hk | hk
            · obtain ⟨q1, q2, q3, q4, q5⟩ := e5 k hk
              exact ⟨by rw [q1]; simp, q3, q4, q5⟩
            · obtain ⟨q1, q3, q4, q5⟩ := f5 k hk
              exact ⟨List.mem_cons_of_mem _ q1, q3, q4, q5⟩
          · rw [List.pairwise_append]
            refine ⟨?_, f6, fun x hx y hy => ?_⟩
            · refine List.Pairwise.imp_of_mem ?_ e6
              intro x y hx hy hxy
              exact .inr ⟨by rw [(e5 x hx).1, (e5 y hy).1], hxy⟩
            · left
              rw [(e5 x hx).1]
              exact hl.1 _ (f5 y hy).1
theorem pairs_right {b : List Int} {g a s : Int} {ks : List Kern} {s' : Int} (hB : Byt b) (hs : 0 <= s) (h : pairsX b g a s = some (ks, s')) : rPos 2 ⟨ks, [], []⟩ g = true /\ lenOk ⟨ks, [], []⟩ := by
 unfold pairsX at h
 split at h
 · cases h
 · split at h
   · cases h
   · rename_i l s1 hset
     obtain ⟨hr, h1, h2, h3, h4⟩ := set_ris hset
     repeat (split at h; · cases h)
     obtain ⟨new, e1, e2, e3, e4, e5, e6⟩ := pLoop_is hB _ _ _ _ _ hr.pw h
     have e1 : ks = new := e1
     subst e1
     have e4 := e4 (by omega)
     have hl : ks.length <= 65536 := by
      simp only at e3 e4
      omega
     refine ⟨?_, by show ks.length <= 140737488351232; omega, by simp, by simp, fun x hx => by cases hx⟩
     unfold rPos
     rw [if_pos rfl, allN_true, Bool.true_and, decide_eq_true (by show (ks.length : Int) > 0; omega)]
     · rfl
     · intro j hj
       obtain ⟨q1, q2, q3, q4⟩ := e5 (nth ks j) (nth_mem hj)
       have u := hr.u _ q1
       have lt := hr.lt _ q1
       have hj : j < ks.length := hj
       change cK ks g j = false
       unfold cK
       rw [i64_id _ (by omega) (by omega), i64_id _ (by omega) (by omega), decide_eq_false (by omega), decide_eq_false (by omega), Bool.or_self, Bool.false_or, Bool.and_eq_false_iff]
       by_cases h0 : 0 < j
       · right
         have := pw_nth e6 (i := j - 1) (j := j) (by omega) hj
         rw [pre_eq h0 (by omega), Bool.or_eq_false_iff, Bool.and_eq_false_iff, decide_eq_false_iff_not, decide_eq_false_iff_not, decide_eq_false_iff_not]
         unfold kLex at this
         omega
       · left
         exact decide_eq_false (by omega)
end Go.Proofs.YtjflgkadagkllaaGreat
