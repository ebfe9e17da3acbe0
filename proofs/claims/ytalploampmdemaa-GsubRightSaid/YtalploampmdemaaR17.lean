/- slices.Sort and slices.Compact of a row of one's own. -/
import Derived.Test.YtalploampmdemaaR6
import Derived.Test.YtalploampmdemaaL1
import Derived.Sort.OwnSortedInts
import Derived.Shelf.Slices.In.SortNone
set_option maxRecDepth 100000
set_option linter.unusedVariables false
namespace Go.Proofs.Ytalploampmdemaa
open Go Go.Eng Go.RowKit Go.Sort

abbrev zE : Int → List DV := fun n => [.v (.int .i64 n)]
abbrev owZ (xs : List Int) : Chunk := .own 3 Int inferInstance 1 zE xs
theorem nthZ {xs : List Int} {i : Nat} (h : i < xs.length) : nth xs i = xs[i] := by
  unfold nth; rw [List.getD_eq_getElem?_getD, List.getElem?_eq_getElem h]; rfl
theorem own_cases {S : Nat → Prop} {w : World} {xs : List Int} {v : Value} (h : OwnOk S w 3 Int inferInstance 1 zE xs v) :
    (v = .slice none 0 0 ∧ xs = []) ∨ ∃ g cap cur, v = .slice (some ⟨g, 0, none⟩) xs.length cap ∧ w.heap[g]? = some (.cells cur 3 (0, 0)) ∧ xs.length ≤ cap ∧ cap ≤ maxLen ∧ cur.size = cap ∧ cur.toList.take xs.length = xs.map (Value.int .i64) := by
  obtain ⟨vals, ⟨hl, hor⟩, hrep⟩ := h
  have hvals : vals = xs.map (Value.int .i64) := by
    apply List.ext_getElem?
    intro j
    by_cases hj : j < xs.length
    · obtain ⟨x, hx, _, hd⟩ := hrep j 0 _ hj rfl
      cases hd
      rw [Nat.mul_one, Nat.add_zero] at hx
      rw [hx, nthZ hj]
      simp [hj]
    · rw [List.getElem?_eq_none (by omega), List.getElem?_eq_none (by simp; omega)]
  rcases hor with ⟨h1, h2⟩ | ⟨g, cap, cur, h1, _, h3, h4, h5, h6, h7⟩
  · exact .inl ⟨h1, List.eq_nil_of_length_eq_zero h2⟩
  · refine .inr ⟨g, cap, cur, h1, h3, h4, h5, by omega, ?_⟩
    rw [Nat.mul_one] at h7
    rw [h7, hvals]
theorem own_mk {S : Nat → Prop} {w : World} {xs : List Int} {v : Value} (h : w.ownsRow 0 3 1 v xs.length (xs.map (Value.int .i64))) : OwnOk S w 3 Int inferInstance 1 zE xs v := by
  refine ⟨_, h, fun i j d hi hd => ?_⟩
  match j with
  | 0 =>
    simp only [List.getElem?_cons_zero, Option.some.injEq] at hd
    subst hd
    refine ⟨.int .i64 (nth xs i), ?_, by decide, .v _ rfl⟩
    rw [nthZ hi]
    simp [hi]
  | k + 1 => simp at hd

theorem sort_s (xs : List Int) (hl : xs.length < 4611686018427387904) : LCall Try.prog ⟨0, [], [owZ xs], [], []⟩ 39 [.sl 0] (fun st' r => st'.ch = [owZ (xs.mergeSort fun x y => decide (x ≤ y))] ∧ r = .tup []) := by
  intro ρ S w hm
  have hown : OwnOk S w 3 Int inferInstance 1 zE xs (ρ 0) := hm.ok 0 (by simp)
  rcases own_cases hown with ⟨hv, rfl⟩ | ⟨g, cap, cur, hv, hg, hnc, hcm, hcs, htake⟩
  · have h := Any.slices_Sort_int_none lays189 none 0 w
    show Calls Try.prog 39 #[ρ 0] w _
    rw [hv]
    refine h.mono fun e w' hh => ?_
    obtain ⟨rfl, rfl⟩ := hh
    exact .inl ⟨_, .tup [], ρ, S, rfl, Adv.refl hm, trivial, by rw [List.mergeSort_nil], rfl⟩
  · have hgs : g < w.heap.size := (Array.getElem?_eq_some_iff.1 hg).1
    have h := Any.slices_Sort_int lays189 g 0 cap xs w (holds_of_blockI hg htake) hgs hl
    show Calls Try.prog 39 #[ρ 0] w _
    rw [hv]
    refine h.mono fun e w' hh => ?_
    obtain ⟨rfl, n, os, rfl⟩ := hh
    obtain ⟨ys, hys⟩ : ∃ ys, ys = xs.mergeSort fun x y => decide (x ≤ y) := ⟨_, rfl⟩
    rw [← hys]
    have hyl : ys.length = xs.length := by rw [hys, List.length_mergeSort]
    have hG := grownBy_sortedI (w := w) (g := g) (n := n) (os := os) ys.toArray
    have hO := own_mk (S := S) (xs := ys) (v := .slice (some ⟨g, 0, none⟩) ys.length cap) (w := grow (putRow (Value.int .i64) (Sort.ahead w n) g 0 ys.toArray) os) (by
      have := ownsRow_sortedI (base := 0) (n := n) (os := os) hyl (Nat.zero_le _) hg hnc hcm (by omega : cur.size = cap * 1)
      rw [← hyl] at this
      exact this)
    rw [hyl, ← hv] at hO
    have hsz : w.heap.size ≤ (grow (putRow (Value.int .i64) (Sort.ahead w n) g 0 ys.toArray) os).heap.size := hG.size
    have hob : ownBlk (chGet [owZ xs] 0) (ρ 0) = some g := by rw [hv]; rfl
    refine .inl ⟨⟨0, [], [owZ ys], [], []⟩, .tup [], ρ, S, rfl, ?_, trivial, rfl, rfl⟩
    refine ⟨rfl, rfl, rfl, ⟨Nat.le_refl _, fun id hid n' hn => ?_⟩, fun _ _ => rfl, ?_, fun _ h => h, fun k hk hno => ?_, fun i k hi e => ?_, fun _ h => .inl h, fun id l go n e => ?_, hsz, rfl, rfl, rfl⟩
    · have : id = 0 := by have : id < 1 := hid
                          omega
      subst this
      have hn : some ys.length = some n' := hn
      exact ⟨xs.length, rfl, by have := Option.some.inj hn; omega, rfl⟩
    · refine ⟨fun id hid => ?_, fun id => ?_, fun i j k hi hj hij e1 e2 => ?_, fun i k hi e => ?_, fun k hk => Nat.lt_of_lt_of_le (hm.lt k hk) hsz, fun id => ?_⟩
      · have : id = 0 := by have : id < 1 := hid
                            omega
        subst this
        exact hO
      · match id with
        | 0 => trivial
        | k + 1 => rw [show chGet (St.ch ⟨0, [], [owZ ys], [], []⟩) (k + 1) = .dead from chGet_out _ _ (by simp)]; trivial
      · have h1 : i < 1 := hi
        have h2 : j < 1 := hj
        omega
      · have : i = 0 := by have : i < 1 := hi
                           omega
        subst this
        exact hm.out 0 k (by simp) e
      · match id with
        | 0 => intro q hq; simp [chGet, condsOf] at hq
        | k + 1 => rw [show chGet (St.ch ⟨0, [], [owZ ys], [], []⟩) (k + 1) = .dead from chGet_out _ _ (by simp)]; intro q hq; simp [condsOf] at hq
    · exact hG.block k hk (fun e => hno 0 (by simp) (by rw [hob, e]))
    · have : i = 0 := by have : i < 1 := hi
                         omega
      subst this
      exact .inr ⟨0, by simp, e⟩
    · match id with
      | 0 => cases e
      | k + 1 => rw [show chGet (St.ch ⟨0, [], [owZ ys], [], []⟩) (k + 1) = .dead from chGet_out _ _ (by simp)] at e; cases e

theorem compact_nil : Lib.compact ([] : List Int) = [] := by decide
theorem compact_len (xs : List Int) : (Lib.compact xs).length ≤ xs.length := by
  unfold Lib.compact Lib.compactUpTo
  rw [List.length_map]
  exact Nat.le_trans (List.length_filter_le _ _) (by simp)
theorem compact_s (xs : List Int) (hl : xs.length < 4611686018427387904) : LCall Try.prog ⟨0, [], [owZ xs], [], []⟩ 40 [.sl 0] (fun st' r => st'.ch = [.dead, owZ (Lib.compact xs)] ∧ r = .sl 1) := by
  intro ρ S w hm
  have hown : OwnOk S w 3 Int inferInstance 1 zE xs (ρ 0) := hm.ok 0 (by simp)
  have fin : ∀ (w' : World) (v' : Value), w.os = w'.os → w.tape = w'.tape → w.output = w'.output → w.heap.size ≤ w'.heap.size → (∀ k, k < w.heap.size → some k ≠ (ρ 0).ownBlock → w'.heap[k]? = w.heap[k]?) → (∀ k, v'.ownBlock = some k → (ρ 0).ownBlock = some k) → OwnOk S w' 3 Int inferInstance 1 zE (Lib.compact xs) v' →
      Adv ⟨0, [], [owZ xs], [], []⟩ ⟨0, [], [.dead, owZ (Lib.compact xs)], [], []⟩ ρ (fun i => if i = 1 then v' else ρ i) S S w w' := by
    intro w' v' h1 h2 h3 hsz hfr hb hO
    refine ⟨rfl, rfl, rfl, ⟨by simp, fun id hid n' hn => ?_⟩, fun id hid => ?_, ?_, fun _ h => h, fun k hk hno => ?_, fun i k hi e => ?_, fun _ h => .inl h, fun id l go n e => ?_, hsz, h1.symm, h2.symm, h3.symm⟩
    · have : id = 0 := by have : id < 1 := hid
                          omega
      subst this
      cases hn
    · have : id = 0 := by have : id < 1 := hid
                          omega
      subst this
      rfl
    · refine ⟨fun id hid => ?_, fun id => ?_, fun i j k hi hj hij e1 e2 => ?_, fun i k hi e => ?_, fun k hk => Nat.lt_of_lt_of_le (hm.lt k hk) hsz, fun id => ?_⟩
      · match id, hid with
        | 0, _ => trivial
        | 1, _ => exact hO
        | k + 2, h => exact absurd (show k + 2 < 2 from h) (by omega)
      · match id with
        | 0 => trivial
        | 1 => trivial
        | k + 2 => rw [show chGet (St.ch ⟨0, [], [.dead, owZ (Lib.compact xs)], [], []⟩) (k + 2) = .dead from chGet_out _ _ (by simp)]; trivial
      · match i, j with
        | 0, _ => cases e1
        | 1, 0 => cases e2
        | 1, 1 => exact absurd rfl hij
        | 1, k + 2 => exact absurd (show k + 2 < 2 from hj) (by omega)
        | k + 2, _ => exact absurd (show k + 2 < 2 from hi) (by omega)
      · match i, hi with
        | 0, _ => cases e
        | 1, _ => exact hm.out 0 k (by simp) (hb k e)
        | k + 2, h => exact absurd (show k + 2 < 2 from h) (by omega)
      · match id with
        | 0 => intro q hq; simp [chGet, condsOf] at hq
        | 1 => intro q hq; simp [chGet, condsOf] at hq
        | k + 2 => rw [show chGet (St.ch ⟨0, [], [.dead, owZ (Lib.compact xs)], [], []⟩) (k + 2) = .dead from chGet_out _ _ (by simp)]; intro q hq; simp [condsOf] at hq
    · exact hfr k hk (fun e => hno 0 (by simp) e.symm)
    · match i, hi with
      | 0, _ => cases e
      | 1, _ => exact .inr ⟨0, by simp, hb k e⟩
      | k + 2, h => exact absurd (show k + 2 < 2 from h) (by omega)
    · match id with
      | 0 => cases e
      | 1 => cases e
      | k + 2 => rw [show chGet (St.ch ⟨0, [], [.dead, owZ (Lib.compact xs)], [], []⟩) (k + 2) = .dead from chGet_out _ _ (by simp)] at e; cases e
  rcases own_cases hown with ⟨hv, rfl⟩ | ⟨g, cap, cur, hv, hg, hnc, hcm, hcs, htake⟩
  · have h := Any.slices_Compact_int_empty lays20 none 0 w
    show Calls Try.prog 40 #[ρ 0] w _
    rw [hv]
    refine h.mono fun e w' hh => ?_
    obtain ⟨rfl, rfl⟩ := hh
    refine .inl ⟨⟨0, [], [.dead, owZ (Lib.compact [])], [], []⟩, .sl 1, _, S, ?_, fin w' (.slice none 0 0) rfl rfl rfl (Nat.le_refl _) (fun _ _ _ => rfl) (fun _ h => by cases h) ?_, by simp [svOk], rfl, rfl⟩
    · rfl
    · rw [compact_nil]; exact own_mk ⟨by simp, .inl ⟨rfl, rfl⟩⟩
  · have hgs : g < w.heap.size := (Array.getElem?_eq_some_iff.1 hg).1
    have h := Any.slices_Compact_int lays20 g 0 cap xs w (holds_of_blockI hg htake) (by omega) hnc
    show Calls Try.prog 40 #[ρ 0] w _
    rw [hv]
    refine h.mono fun e w' hh => ?_
    obtain ⟨rfl, q, rfl⟩ := hh
    obtain ⟨ys, hys⟩ : ∃ ys, ys = Lib.compact xs ++ List.replicate (xs.length - (Lib.compact xs).length) 0 := ⟨_, rfl⟩
    have hcl := compact_len xs
    have hyl : ys.length = xs.length := by rw [hys, List.length_append, List.length_replicate]; omega
    rw [← hys]
    have hgr : putRow (Value.int .i64) (Sort.ahead w q) g 0 ys.toArray = grow (putRow (Value.int .i64) (Sort.ahead w q) g 0 ys.toArray) #[] := (grow_empty _).symm
    rw [hgr]
    have hG := grownBy_sortedI (w := w) (g := g) (n := q) (os := #[]) ys.toArray
    have hO := ownsRow_sortedI (base := 0) (n := q) (os := #[]) hyl (Nat.zero_le _) hg hnc hcm (by omega : cur.size = cap * 1)
    refine .inl ⟨⟨0, [], [.dead, owZ (Lib.compact xs)], [], []⟩, .sl 1, _, S, ?_, fin _ (.slice (some ⟨g, 0, none⟩) (Lib.compact xs).length cap) hG.os.symm hG.tape.symm hG.output.symm hG.size (fun k hk hne => hG.block k hk (fun e => hne (by rw [hv]; exact e))) (fun k h => by rw [hv]; exact h) ?_, by simp [svOk], rfl, rfl⟩
    · rfl
    · refine own_mk ?_
      obtain ⟨h1, h2⟩ := hO
      rcases h2 with ⟨h2, _⟩ | ⟨g', cap', cur', e1, e2, e3, e4, e5, e6, e7⟩
      · cases h2
      · cases e1
        refine ⟨by simp, .inr ⟨g, cap, cur', rfl, Nat.zero_le _, e3, by omega, e5, e6, ?_⟩⟩
        rw [Nat.mul_one] at e7 ⊢
        have := congrArg (List.take (Lib.compact xs).length) e7
        rw [List.take_take, Nat.min_eq_left hcl] at this
        rw [this, hys, List.map_append, List.take_left' (by simp)]
end Go.Proofs.Ytalploampmdemaa
