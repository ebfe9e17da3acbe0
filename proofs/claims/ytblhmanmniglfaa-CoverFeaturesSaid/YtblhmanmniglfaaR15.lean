/- The law CoverBoth: plain Lean. -/
import Derived.Test.YtblhmanmniglfaaR14
namespace Go.Proofs.Ytblhmanmniglfaa
open Go Go.Eng Go.RowKit

/-- the last place of a row of glyphs one behind the other -/
def eK (l : List Int) (k : Nat) : Nat := if k + 1 < l.length ∧ nth l k < 65535 ∧ nth l (k + 1) = nth l k + 1 then eK l (k + 1) else k
termination_by l.length - k
decreasing_by omega
theorem eK_ge (l : List Int) (k : Nat) : k ≤ eK l k := by
  fun_induction eK l k with
  | case1 k h1 ih => omega
  | case2 k h1 => exact Nat.le_refl _
theorem eK_lt (l : List Int) (k : Nat) (h : k < l.length) : eK l k < l.length := by
  fun_induction eK l k with
  | case1 k h1 ih => exact ih h1.1
  | case2 k h1 => exact h
theorem eK_run (l : List Int) (k j : Nat) (h1 : k ≤ j) (h2 : j ≤ eK l k) : nth l j = nth l k + ((j - k : Nat) : Int) := by
  fun_induction eK l k with
  | case1 k h ih =>
    by_cases e : j = k
    · subst e; rw [Nat.sub_self]; omega
    · rw [ih (by omega) h2, h.2.2]; omega
  | case2 k h =>
    have : j = k := by omega
    subst this; rw [Nat.sub_self]; omega
theorem eK_step (l : List Int) (k : Nat) (h : k + 1 < l.length ∧ nth l k < 65535 ∧ nth l (k + 1) = nth l k + 1) : eK l k = eK l (k + 1) := by
  rw [eK, if_pos h]
theorem eK_stop (l : List Int) (k : Nat) (h : ¬ (k + 1 < l.length ∧ nth l k < 65535 ∧ nth l (k + 1) = nth l k + 1)) : eK l k = k := by
  rw [eK, if_neg h]

structure CS (l : List Int) where
  i : Nat
  hi : i ≤ l.length
  n : Nat
  rows : List Int
  hr : rows.length = 6 * n
  hn : n ≤ i
  hup : ∀ j, j < i → upF l j = true
  inv : ∀ ext : List Int, (∀ j, j < n → ok2 (rows ++ ext) 65536 j = true) ∧ accL (rows ++ ext) n = l.take i ∧ sE (rows ++ ext) n = (if i = 0 then -1 else nth l (i - 1))
def CS.init (l : List Int) : CS l := ⟨0, Nat.zero_le _, 0, [], rfl, Nat.le_refl _, fun j hj => absurd hj (Nat.not_lt_zero _), fun ext => ⟨fun j hj => absurd hj (Nat.not_lt_zero _), rfl, rfl⟩⟩
def rowC (l : List Int) (i : Nat) : List Int := tw (nth l i) ++ (tw (nth l (eK l i)) ++ tw (i : Int))
theorem rangeW_run (l : List Int) (hl : ∀ x ∈ l, 0 ≤ x ∧ x ≤ 65535) (i t : Nat) (ht : i + t ≤ l.length) (h : ∀ j, j < t → nth l (i + j) = nth l i + (j : Int)) : rangeW (nth l i) t = (l.drop i).take t := by
  refine nth_extI (by rw [rangeW_len, List.length_take, List.length_drop]; omega) fun j hj => ?_
  rw [rangeW_len] at hj
  have h1 : nth ((l.drop i).take t) j = nth l (i + j) := by
    unfold nth
    rw [List.getD_eq_getElem?_getD, List.getD_eq_getElem?_getD, List.getElem?_take_of_lt hj, List.getElem?_drop]
  have h2 : nth (rangeW (nth l i) t) j = IntKind.u16.wrap (nth l i + (j : Int)) := by
    unfold rangeW nth
    rw [List.getD_eq_getElem?_getD, List.getElem?_map, List.getElem?_range hj]
    rfl
  have h3 := hl _ (nth_memI (show i + j < l.length by omega))
  rw [h1, h2, ← h j hj, IntKind.wrap_u16]
  omega
def CS.next {l : List Int} (s : CS l) (hlt : s.i < l.length) (hl : ∀ x ∈ l, 0 ≤ x ∧ x ≤ 65535) (hll : l.length ≤ 65535) (hu : upF l s.i = true) : CS l where
  i := eK l s.i + 1
  hi := eK_lt l s.i hlt
  n := s.n + 1
  rows := s.rows ++ rowC l s.i
  hr := by rw [List.length_append, s.hr]; show 6 * s.n + 6 = _; omega
  hn := by have := eK_ge l s.i; have := s.hn; omega
  hup := fun j hj => by
    have hg := eK_ge l s.i
    by_cases e : j < s.i
    · exact s.hup j e
    · by_cases e2 : j = s.i
      · subst e2; exact hu
      · have h1 := eK_run l s.i j (by omega) (by omega)
        have h2 := eK_run l s.i (j - 1) (by omega) (by omega)
        unfold upF
        rw [h1, h2, decide_eq_false (by omega : ¬ nth l s.i + ((j - s.i : Nat) : Int) ≤ nth l s.i + ((j - 1 - s.i : Nat) : Int))]
        simp
  inv := fun ext => by
    have hg := eK_ge l s.i
    have hk := eK_lt l s.i hlt
    have hli := hl _ (nth_memI hlt)
    have hlk := hl _ (nth_memI hk)
    have hrun := eK_run l s.i (eK l s.i) hg (Nat.le_refl _)
    obtain ⟨v1, v2, v3⟩ := s.inv (rowC l s.i ++ ext)
    rw [← List.append_assoc] at v1 v2 v3
    have hd : s.rows ++ rowC l s.i ++ ext = s.rows ++ (tw (((nth l s.i).toNat : Nat) : Int) ++ (tw (((nth l (eK l s.i)).toNat : Nat) : Int) ++ (tw ((s.i : Nat) : Int) ++ ext))) := by
      unfold rowC
      rw [show (((nth l s.i).toNat : Nat) : Int) = nth l s.i from by omega, show (((nth l (eK l s.i)).toNat : Nat) : Int) = nth l (eK l s.i) from by omega]
      simp only [List.append_assoc]
    generalize s.rows ++ rowC l s.i ++ ext = d at *
    have hF : sF d s.n = nth l s.i := by
      unfold sF; rw [hd, wd_tw _ _ _ (by omega) _ s.hr.symm]; omega
    have hL : sL d s.n = nth l (eK l s.i) := by
      unfold sL; rw [hd, ← List.append_assoc, wd_tw _ _ _ (by omega) _ (by rw [List.length_append, s.hr, tw_len])]; omega
    have hT : sT d s.n = (s.i : Int) := by
      unfold sT
      rw [hd, ← List.append_assoc, ← List.append_assoc, wd_tw _ _ _ (by omega) _ (by rw [List.length_append, List.length_append, s.hr, tw_len, tw_len])]
    have htl : (l.take s.i).length = s.i := by rw [List.length_take]; omega
    refine ⟨fun j hj => ?_, ?_, ?_⟩
    · by_cases e : j = s.n
      · subst e
        have hlow : sE d s.n < nth l s.i := by
          rw [v3]
          split
          · omega
          · rename_i h0
            unfold upF at hu
            rw [decide_eq_true (by omega : (s.i : Int) > 0), Bool.true_and, Bool.not_eq_true', decide_eq_false_iff_not] at hu
            omega
        unfold ok2 sB
        rw [hF, hL, hT, v2, htl, decide_eq_false (by omega), decide_eq_false (by omega), decide_eq_false (by omega), decide_eq_true rfl]
        rfl
      · exact v1 j (by omega)
    · show accL d s.n ++ rangeW (sF d s.n) (sL d s.n + 1 - sF d s.n).toNat = _
      have hn : (nth l (eK l s.i) + 1 - nth l s.i).toNat = eK l s.i + 1 - s.i := by omega
      rw [v2, hF, hL, hn, rangeW_run l hl s.i _ (by omega) (fun j hj => by rw [eK_run l s.i (s.i + j) (by omega) (by omega), Nat.add_sub_cancel_left]), ← List.take_append_drop s.i (l.take (eK l s.i + 1)), List.take_take, Nat.min_eq_left (by omega), List.drop_take]
    · show sL d s.n = _
      rw [hL, if_neg (by omega), Nat.add_sub_cancel]
theorem CS.fin {l : List Int} (s : CS l) (hs : s.i = l.length) (h0 : 0 < l.length) (hll : l.length ≤ 65535) : covX ([0, 2] ++ tw (s.n : Int) ++ s.rows) 0 65536 = some l := by
  obtain ⟨v1, v2, _⟩ := s.inv []
  rw [List.append_nil] at v1 v2
  have hr := s.hr
  have hn := s.hn
  have hlen : ([0, 2] ++ tw (s.n : Int) ++ s.rows).length = 4 + 6 * s.n := by
    rw [List.length_append, List.length_append, tw_len, hr]; show 2 + 2 + _ = _; omega
  have w0 : wd ([0, 2] ++ tw (s.n : Int) ++ s.rows) 0 = 2 := wd_val _ 0 0 2 rfl rfl (by decide) (by decide)
  have w2 : wd ([0, 2] ++ tw (s.n : Int) ++ s.rows) 2 = (s.n : Int) := by
    rw [List.append_assoc]; exact wd_tw _ _ _ (by omega) _ rfl
  have hdr : ([0, 2] ++ tw (s.n : Int) ++ s.rows).drop 4 = s.rows := rfl
  unfold covX
  rw [if_neg (by rw [outR_iff.2 ⟨by omega, by omega, by omega⟩]; decide)]
  simp only [Int.toNat_zero, List.drop_zero]
  rw [if_neg (by rw [w0]; decide), if_pos w0, w2, if_neg (by rw [outR_iff.2 ⟨by omega, by omega, by omega⟩]; decide), hdr, Int.toNat_natCast]
  unfold cov2
  rw [if_pos v1, v2, hs, List.take_length]
  unfold finC
  rw [if_pos ⟨h0, hll⟩]
theorem tw16 (x : Int) (h : 0 ≤ x ∧ x ≤ 65535) : [IntKind.u8.wrap (shrV .u16 x 8), IntKind.u8.wrap x] = tw (IntKind.i64.wrap x) := by
  rw [i64_id _ (by omega) (by omega)]; rfl
end Go.Proofs.Ytblhmanmniglfaa
