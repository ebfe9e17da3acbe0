/- What gsub.Parse reads is such as is promised: lookups, features. -/
import Derived.Test.YtalploampmdemaaM15
set_option maxRecDepth 100000
set_option linter.unusedVariables false
namespace Go.Proofs.Ytalploampmdemaa
open Go Go.Eng Go.RowKit

theorem nth_map {α β : Type} [Inhabited α] [Inhabited β] (f : α → β) {l : List α} {i : Nat} (h : i < l.length) : nth (l.map f) i = f (nth l i) := by
  rw [nthE h, nthE (by simpa using h), List.getElem_map]
def toL (x : Lk) : LkU := ⟨x.ty, x.flag, x.subs.map toS, []⟩
theorem sLoop_is {b : List Int} {g L ty : Int} (hB : Byt b) (hty : known ty) : ∀ (l : List Int) (s : Int) (acc : List SubX) (r : List SubX), (∀ x ∈ l, 0 ≤ x) → 0 ≤ s ∧ s ≤ 65536 → sLoop b g L ty l s acc = some r →
    ∃ new, r = acc ++ new ∧ new.length = l.length ∧ ∀ p ∈ new, rSub ty (toS p) g L = true ∧ LenS (toS p)
  | [], s, acc, r, hl, hs, h => by
    cases h
    exact ⟨[], by simp, rfl, fun k hk => (by cases hk)⟩
  | a :: l, s, acc, r, hl, hs, h => by
    rw [sLoop] at h
    split at h
    · cases h
    · rename_i p s' hp
      have hh := sub_right hB hty (hl a (by simp)) hs hp
      obtain ⟨new, e1, e2, e3⟩ := sLoop_is hB hty l s' _ r (fun x hx => hl x (by simp [hx])) hh.2 h
      refine ⟨p :: new, by rw [e1, List.append_assoc]; rfl, by rw [List.length_cons, e2, List.length_cons], ?_⟩
      intro k hk
      rcases List.mem_cons.1 hk with rfl | hk
      · exact hh.1
      · exact e3 k hk
theorem lLoop_is {b : List Int} {g L : Int} (hB : Byt b) : ∀ (ts : List Tab) (acc r : List Lk), (∀ t ∈ ts, ∀ x ∈ t.at', 0 ≤ x) → lLoop b g L ts acc = some r →
    ∃ new, r = acc ++ new ∧ new.map (fun x => (x.ty, x.flag, x.subs.length)) = ts.map (fun t => (t.ty, t.flag, t.at'.length)) ∧ ∀ x ∈ new, ∀ p ∈ x.subs, rSub x.ty (toS p) g L = true ∧ LenS (toS p)
  | [], acc, r, ha, h => by
    cases h
    exact ⟨[], by simp, rfl, fun k hk => (by cases hk)⟩
  | t :: ts, acc, r, ha, h => by
    rw [lLoop] at h
    split at h
    · rename_i hty
      split at h
      · cases h
      · rename_i ps hps
        obtain ⟨np, p1, p2, p3⟩ := sLoop_is hB hty _ _ _ _ (ha t (by simp)) (by omega) hps
        obtain ⟨new, e1, e2, e3⟩ := lLoop_is hB ts _ r (fun t ht => ha t (by simp [ht])) h
        simp only [List.nil_append] at p1
        subst p1
        refine ⟨⟨t.ty, t.flag, ps⟩ :: new, by rw [e1, List.append_assoc]; rfl, by rw [List.map_cons, List.map_cons, e2, p2], ?_⟩
        intro k hk
        rcases List.mem_cons.1 hk with rfl | hk
        · exact p3
        · exact e3 k hk
    · cases h
theorem flag_ok {n : Int} (h : 0 ≤ n ∧ n ≤ 15) : flagF n ≤ 14 ∧ 0 ≤ flagF n ∧ (flagF n).tmod 2 = 0 := by
  obtain ⟨k, rfl⟩ : ∃ k : Nat, n = (k : Int) := ⟨n.toNat, by omega⟩
  have hk : k < 16 := by omega
  have : ∀ k : Fin 16, flagF ((k.val : Nat) : Int) ≤ 14 ∧ 0 ≤ flagF ((k.val : Nat) : Int) ∧ (flagF ((k.val : Nat) : Int)).tmod 2 = 0 := by decide
  exact this ⟨k, hk⟩
theorem look_is {b : List Int} {a : Int} {ts : List Tab} (hB : Byt b) (h : lookX b a = some ts) : ts.length ≤ 256 ∧ ∀ t ∈ ts, 1 ≤ t.at'.length ∧ t.at'.length ≤ 256 ∧ t.flag ≤ 14 ∧ 0 ≤ t.flag ∧ t.flag.tmod 2 = 0 := by
  unfold lookX at h
  split at h
  · cases h
  · split at h
    · cases h
    · split at h
      · rename_i h1 h2 h3
        have e := Option.some.inj h
        subst e
        rw [List.all_eq_true] at h3
        refine ⟨by rw [List.length_map, List.length_range]; omega, fun t ht => ?_⟩
        obtain ⟨i, hi, rfl⟩ := List.mem_map.1 ht
        have hok := h3 i hi
        unfold okL at hok
        rw [Bool.and_eq_true, Bool.and_eq_true, Bool.and_eq_true, Bool.not_eq_true', Bool.not_eq_true', Bool.not_eq_true', Bool.or_eq_false_iff, decide_eq_false_iff_not, decide_eq_false_iff_not, decide_eq_true_iff] at hok
        obtain ⟨_, ⟨k1, k2⟩, _, k4⟩ := hok
        have hf := w2_range (hB.drop (lkT b a i).toNat) 2
        refine ⟨by unfold lkAt; rw [List.length_map, List.length_range]; omega, by unfold lkAt; rw [List.length_map, List.length_range]; omega, ?_⟩
        exact flag_ok ⟨hf.1, k4⟩
      · cases h
theorem feat_is {b : List Int} {a L : Int} {fs : List Feat} (hB : Byt b) (h : featX b a L = some fs) : fs.length ≤ 512 ∧ ∀ f ∈ fs, f.ks.Pairwise (· < ·) ∧ f.ks.length ≤ 65536 ∧ ∀ x ∈ f.ks, 0 ≤ x ∧ x < L := by
  unfold featX at h
  split at h
  · cases h
  · split at h
    · cases h
    · split at h
      · rename_i h1 h2 h3
        have e := Option.some.inj h
        subst e
        rw [List.all_eq_true] at h3
        refine ⟨by rw [List.length_map, List.length_range]; omega, fun f hf => ?_⟩
        obtain ⟨i, hi, rfl⟩ := List.mem_map.1 hf
        have hok := h3 i hi
        unfold okT at hok
        rw [Bool.and_eq_true, List.all_eq_true] at hok
        have hrow : ∀ x ∈ rowW b (fT b a i), (0 ≤ x ∧ x ≤ 65535) ∧ x < L := fun x hx => by
          obtain ⟨j, hj, rfl⟩ := List.getElem_of_mem hx
          have := rowW_range hB (fT b a i) j hj
          rw [nthE hj] at this
          exact ⟨this, of_decide_eq_true (hok.2 _ hx)⟩
        have hsel := ks_sel L _ hrow
        refine ⟨?_, ?_, fun x hx => ?_⟩
        · show (ksF (rowW b (fT b a i))).Pairwise (· < ·)
          rw [hsel]; exact sel_strict _ _
        · show (ksF (rowW b (fT b a i))).length ≤ 65536
          rw [hsel]
          have := sel_len (rowW b (fT b a i)) (selV (rowW b (fT b a i)) L)
          have h2 : selV (rowW b (fT b a i)) L ≤ 65536 := by
            unfold selV
            split <;> omega
          omega
        · have hx : x ∈ ksF (rowW b (fT b a i)) := hx
          rw [hsel, sel_mem] at hx
          have := hrow x hx.2
          exact ⟨this.1.1, this.2⟩
      · cases h
theorem feats_right {fs : List Feat} {L : Int} (h0 : fs.length ≤ 512) (h : ∀ f ∈ fs, f.ks.Pairwise (· < ·) ∧ f.ks.length ≤ 65536 ∧ ∀ x ∈ f.ks, 0 ≤ x ∧ x < L) : rFeats fs L = true := by
  unfold rFeats
  rw [decide_eq_true (by omega), Bool.true_and, allN_true]
  intro i hi
  obtain ⟨h1, h2, h3⟩ := h _ (nth_mem hi)
  rw [Bool.not_eq_false', allN_true]
  intro k hk
  have := h3 _ (nth_mem hk)
  unfold cF
  rw [decide_eq_false (by omega), decide_eq_false (by omega), Bool.or_self, Bool.false_or, Bool.and_eq_false_iff]
  by_cases h0 : 0 < k
  · right
    have := pw_nth h1 (i := k - 1) (j := k) (by omega) hk
    rw [pre_eq h0 (by omega)]
    exact decide_eq_false (by omega)
  · left
    exact decide_eq_false (by omega)
/-- what is read is right -/
theorem parse_right {b : List Int} {g : Int} {ls : List Lk} {fs : List Feat} (hB : Byt b) (hb : b.length ≤ 100000) (h : parseX b g = some (ls, fs)) : rLooks (ls.map toL) g = true ∧ (∀ l ∈ ls, ∀ p ∈ l.subs, rSub l.ty (toS p) g (ls.length : Int) = true) ∧ (∀ l ∈ ls.map toL, ∀ p ∈ l.subs, LenS p) ∧ rFeats fs (ls.length : Int) = true ∧ (∀ f ∈ fs, f.ks.length ≤ 1000000) ∧ ls.length ≤ 256 ∧ fs.length ≤ 512 ∧ ∀ l ∈ ls, l.subs.length ≤ 256 := by
  unfold parseX at h
  repeat (split at h; · cases h)
  rename_i ts hts _ fs' hfs
  unfold tailX at h
  split at h
  · cases h
  · rename_i ls' hls
    cases h
    obtain ⟨t1, t2⟩ := look_is hB hts
    obtain ⟨f1, f2⟩ := feat_is hB hfs
    obtain ⟨_, ta⟩ := tab_ats hB hb hts
    obtain ⟨new, e1, e2, e3⟩ := lLoop_is hB _ _ _ (fun t ht x hx => ((ta t ht).2.1 x hx).1) hls
    simp only [List.nil_append] at e1
    subst e1
    have el : ls.length = ts.length := by
      have := congrArg List.length e2
      rwa [List.length_map, List.length_map] at this
    have hx : ∀ x ∈ ls, 1 ≤ x.subs.length ∧ x.subs.length ≤ 256 ∧ x.flag ≤ 14 ∧ 0 ≤ x.flag ∧ x.flag.tmod 2 = 0 := by
      intro x hx
      have : (x.ty, x.flag, x.subs.length) ∈ ts.map (fun t => (t.ty, t.flag, t.at'.length)) := by
        rw [← e2]; exact List.mem_map.2 ⟨x, hx, rfl⟩
      obtain ⟨t, ht, he⟩ := List.mem_map.1 this
      have h1 := t2 t ht
      simp only [Prod.mk.injEq] at he
      rw [← he.2.1, ← he.2.2]
      exact h1
    rw [← el] at e3
    refine ⟨?_, fun l hl p hp => (e3 l hl p hp).1, ?_, ?_, fun f hf => by have := (f2 f hf).2.1; omega, by omega, f1, fun l hl => (hx l hl).2.1⟩
    · unfold rLooks
      rw [List.length_map, decide_eq_true (by omega), Bool.true_and, allN_true]
      intro i hi
      rw [nth_map _ hi, Bool.or_eq_false_iff]
      have hm := nth_mem hi
      obtain ⟨p1, p2, p3, p4, p5⟩ := hx _ hm
      constructor
      · unfold cL toL
        simp only [List.length_nil, List.length_map]
        rw [p5, decide_eq_false (show ¬ (nth ls i).flag > 14 by omega), decide_eq_false (show ¬ ((nth ls i).subs.length : Int) = 0 by omega), decide_eq_false (show ¬ ((nth ls i).subs.length : Int) > 256 by omega)]
        rfl
      · rw [Bool.not_eq_false', allN_true]
        intro k hk
        have hk : k < (nth ls i).subs.length := by simpa [toL] using hk
        show (!rSub (nth ls i).ty (nth ((nth ls i).subs.map toS) k) g (ls.length : Int)) = false
        rw [nth_map _ hk, (e3 _ hm _ (nth_mem hk)).1]; rfl
    · intro l hl p hp
      obtain ⟨x, hx, rfl⟩ := List.mem_map.1 hl
      obtain ⟨q, hq, rfl⟩ := List.mem_map.1 hp
      exact (e3 _ hx _ hq).2
    · rw [el]
      exact feats_right f1 f2
end Go.Proofs.Ytalploampmdemaa
