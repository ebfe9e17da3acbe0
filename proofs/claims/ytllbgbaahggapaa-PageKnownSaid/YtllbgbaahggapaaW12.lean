/- The plain law of PageJoins: without a skip only the number of lines counts, and the widths told are those of the frames the lines stand in. -/
import Derived.Test.YtllbgbaahggapaaOp
namespace Go.Proofs.Ytllbgbaahggapaa
open Go Go.Eng Go.RowKit

def runL (fs : List Frame) (l : Int) : Nat → S3 → Option (List S3 × S3)
  | 0, s => some ([], s)
  | n + 1, s => if (nextF fs l s).pg < 65536 then
      match runL fs l n ⟨(nextF fs l s).pg, (nextF fs l s).f, (nextF fs l s).t + l⟩ with
      | some (qs, s') => some (nextF fs l s :: qs, s')
      | none => none
    else none

def posA (a : Spot) : Int × Int × Int := (a.Pg, a.F, a.T)
def posS (s : S3) : Int × Int × Int := (s.pg, (s.f : Int), s.t)

theorem lines_run (fs : List Frame) (l P : Int) : ∀ n k s acc s' acc', linesF fs l P n k s acc = some (s', acc') → ∃ qs, runL fs l n s = some (qs, s') ∧ acc'.map posA = acc.map posA ++ qs.map posS
  | 0, k, s, acc, s', acc', h => by
    simp only [linesF, Option.some.injEq, Prod.mk.injEq] at h
    obtain ⟨rfl, rfl⟩ := h
    exact ⟨[], rfl, by simp⟩
  | n + 1, k, s, acc, s', acc', h => by
    simp only [linesF, putL] at h
    split at h
    · rename_i a b hp
      split at hp
      · rename_i hpg
        simp only [Option.some.injEq, Prod.mk.injEq] at hp
        obtain ⟨rfl, rfl⟩ := hp
        obtain ⟨qs, h1, h2⟩ := lines_run fs l P n (k + 1) _ _ _ _ h
        refine ⟨nextF fs l s :: qs, ?_, ?_⟩
        · simp only [runL, if_pos hpg, h1]
        · rw [h2]; simp [posA, posS]
      · cases hp
    · cases h

theorem run_lines (fs : List Frame) (l P : Int) : ∀ n k s acc s' qs, runL fs l n s = some (qs, s') → ∃ acc', linesF fs l P n k s acc = some (s', acc') ∧ acc'.map posA = acc.map posA ++ qs.map posS
  | 0, k, s, acc, s', qs, h => by
    simp only [runL, Option.some.injEq, Prod.mk.injEq] at h
    obtain ⟨rfl, rfl⟩ := h
    exact ⟨acc, rfl, by simp⟩
  | n + 1, k, s, acc, s', qs, h => by
    simp only [runL] at h
    split at h
    · rename_i hpg
      split at h
      · rename_i q s1 hr
        simp only [Option.some.injEq, Prod.mk.injEq] at h
        obtain ⟨rfl, rfl⟩ := h
        obtain ⟨acc', h1, h2⟩ := run_lines fs l P n (k + 1) _ (acc ++ [⟨P, k, (nextF fs l s).pg, (nextF fs l s).f, (nextF fs l s).t⟩]) _ _ hr
        refine ⟨acc', ?_, ?_⟩
        · simp only [linesF, putL, if_pos hpg]; exact h1
        · rw [h2]; simp [posA, posS]
      · cases h
    · cases h

theorem run_wid (fs : List Frame) (l : Int) : ∀ n s acc s' qs, runL fs l n s = some (qs, s') → widL fs l n s acc = some (acc ++ qs.map fun s => (nth fs s.f).W)
  | 0, s, acc, s', qs, h => by
    simp only [runL, Option.some.injEq, Prod.mk.injEq] at h
    obtain ⟨rfl, rfl⟩ := h
    simp [widL]
  | n + 1, s, acc, s', qs, h => by
    simp only [runL] at h
    split at h
    · rename_i hpg
      split at h
      · rename_i q s1 hr
        simp only [Option.some.injEq, Prod.mk.injEq] at h
        obtain ⟨rfl, rfl⟩ := h
        simp only [widL, if_pos hpg]
        rw [run_wid fs l n _ _ _ _ hr]; simp
      · cases h
    · cases h

theorem run_add (fs : List Frame) (l : Int) : ∀ m n s q1 s1 q2 s2, runL fs l m s = some (q1, s1) → runL fs l n s1 = some (q2, s2) → runL fs l (m + n) s = some (q1 ++ q2, s2)
  | 0, n, s, q1, s1, q2, s2, h, h' => by
    simp only [runL, Option.some.injEq, Prod.mk.injEq] at h
    obtain ⟨rfl, rfl⟩ := h
    rw [Nat.zero_add]; exact h'
  | m + 1, n, s, q1, s1, q2, s2, h, h' => by
    simp only [runL] at h
    split at h
    · rename_i hpg
      split at h
      · rename_i q s3 hr
        simp only [Option.some.injEq, Prod.mk.injEq] at h
        obtain ⟨rfl, rfl⟩ := h
        rw [show m + 1 + n = (m + n) + 1 by omega]
        simp only [runL, if_pos hpg, run_add fs l m n _ _ _ _ _ hr h']; rfl
      · cases h
    · cases h

theorem run_len (fs : List Frame) (l : Int) : ∀ n s q s', runL fs l n s = some (q, s') → q.length = n
  | 0, s, q, s', h => by
    simp only [runL, Option.some.injEq, Prod.mk.injEq] at h
    obtain ⟨rfl, rfl⟩ := h; rfl
  | n + 1, s, q, s', h => by
    simp only [runL] at h
    split at h
    · split at h
      · rename_i q s3 hr
        simp only [Option.some.injEq, Prod.mk.injEq] at h
        obtain ⟨rfl, rfl⟩ := h
        simp [run_len fs l n _ _ _ hr]
      · cases h
    · cases h

theorem run_ok (fs : List Frame) (l : Int) (h : FsOk fs l) : ∀ n s q s', PlOk fs s → runL fs l n s = some (q, s') → (∀ x ∈ q, x.f < fs.length)
  | 0, s, q, s', _, hr => by
    simp only [runL, Option.some.injEq, Prod.mk.injEq] at hr
    obtain ⟨rfl, rfl⟩ := hr; simp
  | n + 1, s, q, s', hs, hr => by
    simp only [runL] at hr
    split at hr
    · rename_i hpg
      split at hr
      · rename_i q s3 hr'
        simp only [Option.some.injEq, Prod.mk.injEq] at hr
        obtain ⟨rfl, rfl⟩ := hr
        have hn := next_ok fs l s h hs
        have hM := MS_eq
        have hp := hs.p0
        have hl := h.l1
        have := run_ok fs l h n ⟨(nextF fs l s).pg, (nextF fs l s).f, (nextF fs l s).t + l⟩ _ _ ⟨hn.1, by show 0 ≤ (nextF fs l s).t + l; omega, by show (nextF fs l s).t + l ≤ _; omega, by show 0 ≤ (nextF fs l s).pg; omega, by show (nextF fs l s).pg ≤ _; omega⟩ hr'
        intro x hx
        rcases List.mem_cons.1 hx with rfl | hx
        · exact hn.1
        · exact this x hx
      · cases hr
    · cases hr

theorem skip0 (fs : List Frame) (n : Int) (s : S3) : skipS fs 0 n s = s := by
  unfold skipS
  split
  · rw [Int.add_zero]
  · rfl

theorem paras_run (fs : List Frame) (l : Int) : ∀ ps i s acc out, ps.any (fun n => decide (n < 0)) = false → parasF fs l 0 ps i s acc = some out →
    ∃ qs s', runL fs l (sumZ ps).toNat s = some (qs, s') ∧ out.map posA = acc.map posA ++ qs.map posS
  | [], i, s, acc, out, _, h => by
    simp only [parasF, Option.some.injEq] at h
    subst h
    exact ⟨[], s, rfl, by simp⟩
  | n :: ps, i, s, acc, out, hany, h => by
    simp only [List.any_cons, Bool.or_eq_false_iff, decide_eq_false_iff_not] at hany
    simp only [parasF, skip0] at h
    split at h
    · rename_i s1 a1 hl
      obtain ⟨q1, h1, h2⟩ := lines_run _ _ _ _ _ _ _ _ _ hl
      obtain ⟨q2, s2, h3, h4⟩ := paras_run fs l ps (i + 1) s1 a1 out hany.2 h
      have hs := sumZ_nonneg ps hany.2
      refine ⟨q1 ++ q2, s2, ?_, ?_⟩
      · have := run_add _ _ _ _ _ _ _ _ _ h1 h3
        rw [show (sumZ (n :: ps)).toNat = n.toNat + (sumZ ps).toNat by simp only [sumZ]; omega]
        exact this
      · rw [h4, h2]; simp
    · cases h

theorem manyL_sum : ∀ (ps : List Int) (n : Int), ps.any (fun n => decide (n < 0)) = false → 0 ≤ n → n + sumZ ps ≤ 16777216 → manyL ps n = decide (n + sumZ ps > 3000)
  | [], n, _, h0, h => by
    simp only [sumZ] at h ⊢
    simp only [manyL, Int.add_zero]
    rw [show decide (n ≤ 16777216) = true by simp; omega]; simp
  | p :: ps, n, hany, h0, h => by
    simp only [List.any_cons, Bool.or_eq_false_iff, decide_eq_false_iff_not] at hany
    have hs := sumZ_nonneg ps hany.2
    simp only [sumZ] at h ⊢
    simp only [manyL]
    rw [if_neg (by simp; omega), manyL_sum ps (n + p) hany.2 (by omega) (by omega)]
    simp only [Int.add_assoc]
    exact decide_eq_decide.2 Iff.rfl

structure Joined (fs : List Frame) (out b : List Spot) (w : List Int) : Prop where
  lb : b.length = out.length
  lw : w.length = out.length
  ok : ∀ i, i < out.length → posA (nth out i) = posA (nth b i) ∧ nth w i = (nth fs (nth out i).F.toNat).W ∧ 0 ≤ (nth out i).F ∧ (nth out i).F < fs.length

theorem nth_map_pos (xs : List Spot) (ys : List S3) (h : xs.map posA = ys.map posS) (i : Nat) (hi : i < xs.length) : i < ys.length ∧ posA (nth xs i) = posS (ys.getD i ⟨0, 0, 0⟩) := by
  have hl : xs.length = ys.length := by have := congrArg List.length h; simpa using this
  refine ⟨by omega, ?_⟩
  have := congrArg (·[i]?) h
  simp only [List.getElem?_map] at this
  rw [List.getElem?_eq_getElem hi, List.getElem?_eq_getElem (by omega)] at this
  simp only [Option.map_some, Option.some.injEq] at this
  rw [nth_eq _ _ hi, this]
  simp [List.getD_eq_getElem?_getD, List.getElem?_eq_getElem (show i < ys.length by omega)]

theorem joins (fs : List Frame) (l : Int) (ps : List Int) (hm : manyF ps = false) (h : (placeF fs l 0 ps).2 = 0) :
    FsOk fs l ∧ (placeF fs l 0 ps).1.length ≤ 3000 ∧ (placeF fs l 0 [((placeF fs l 0 ps).1.length : Int)]).2 = 0 ∧
      (widthsF fs l 0 ⟨0, 0, 0, 0, (nth fs 0).Y⟩ ((placeF fs l 0 ps).1.length : Int)).2 = 0 ∧
      Joined fs (placeF fs l 0 ps).1 (placeF fs l 0 [((placeF fs l 0 ps).1.length : Int)]).1 (widthsF fs l 0 ⟨0, 0, 0, 0, (nth fs 0).Y⟩ ((placeF fs l 0 ps).1.length : Int)).1 := by
  obtain ⟨hok, hsk, hany, hrest, hp⟩ := placeF_good fs l 0 ps h
  have hM := MS_eq
  have hF := (okF_iff fs l).1 hok
  have q0 := hF.fr 0 hF.n1
  have hl1 := hF.l1
  have hsum := rest_sum ps 16777216 (by omega) hrest
  have hlen := parasF_len fs l 0 ps 0 _ [] _ hany hp
  simp only [List.length_nil] at hlen
  have h3000 : (placeF fs l 0 ps).1.length ≤ 3000 := by
    unfold manyF at hm
    split at hm
    · cases hm
    · rw [manyL_sum ps 0 hany (by omega) (by omega)] at hm
      simp at hm; omega
  obtain ⟨qs, s', hr, hpos⟩ := paras_run fs l ps 0 _ [] _ hany hp
  rw [show (sumZ ps).toNat = (placeF fs l 0 ps).1.length by omega] at hr
  simp only [List.map_nil, List.nil_append] at hpos
  have hlq := run_len _ _ _ _ _ _ hr
  have hpl : PlOk fs ⟨0, 0, (nth fs 0).Y⟩ := ⟨by have := hF.n1; show 0 < fs.length; omega, by show 0 ≤ (nth fs 0).Y; omega, by show (nth fs 0).Y ≤ _; omega, by show (0 : Int) ≤ 0; omega, by show (0 : Int) ≤ _; omega⟩
  have hqf := run_ok fs l hF _ _ _ _ hpl hr
  generalize hn : (placeF fs l 0 ps).1.length = n at *
  generalize (placeF fs l 0 ps).1 = out at *
  -- the second placing
  have hb : ∃ b, placeF fs l 0 [(n : Int)] = (b, 0) ∧ b.map posA = qs.map posS := by
    obtain ⟨acc', h1, h2⟩ := run_lines fs l 0 n 0 _ [] _ _ hr
    refine ⟨acc', ?_, by simpa using h2⟩
    unfold placeF
    rw [if_neg (by rw [hok, hsk]; simp), if_neg (by simp), if_neg (by simp only [restBad]; rw [if_neg (by omega)]; simp)]
    simp only [parasF, skip0, Int.toNat_natCast]
    rw [show ((0 : Nat) : Int) = 0 from rfl, h1]
  obtain ⟨b, hb1, hb2⟩ := hb
  have hw : widthsF fs l 0 ⟨0, 0, 0, 0, (nth fs 0).Y⟩ (n : Int) = (qs.map fun s => (nth fs s.f).W, 0) := by
    have hn1 := hF.n1
    unfold widthsF
    rw [if_pos ⟨hok, hsk, by show (0 : Int) ≤ 0 ∧ (0 : Int) ≤ 65535; omega, by show (0 : Int) ≤ 0 ∧ (0 : Int) < fs.length; omega, by omega⟩,
      if_pos (by show (nth fs 0).Y ≤ (nth fs 0).Y ∧ (nth fs 0).Y ≤ (nth fs 0).Y + (nth fs 0).H; omega)]
    simp only [Int.toNat_natCast]
    have := run_wid fs l n _ [] _ _ hr
    simp only [List.nil_append] at this
    show (match widL fs l n ⟨0, 0, (nth fs 0).Y⟩ [] with | some acc => (acc, (0 : Int)) | none => ([], 3)) = _
    rw [this]
  rw [hb1, hw]
  have hbl : b.length = n := by have := congrArg List.length hb2; simp at this; omega
  refine ⟨hF, h3000, rfl, rfl, by rw [hn]; exact hbl, by rw [hn]; simpa using hlq, fun i hi => ?_⟩
  obtain ⟨h1, h2⟩ := nth_map_pos out qs hpos i hi
  obtain ⟨_, h3⟩ := nth_map_pos b qs hb2 i (by omega)
  have hq : qs.getD i ⟨0, 0, 0⟩ = qs[i] := by simp [List.getD_eq_getElem?_getD, List.getElem?_eq_getElem h1]
  have hFi : (nth out i).F = (qs[i].f : Int) := by rw [hq] at h2; exact (Prod.mk.inj (Prod.mk.inj h2).2).1
  have hlt := hqf qs[i] (List.getElem_mem _)
  refine ⟨h2.trans h3.symm, ?_, by rw [hFi]; omega, by rw [hFi]; omega⟩
  rw [hFi, Int.toNat_natCast, nth_eq _ _ (by simpa using h1)]
  simp
end Go.Proofs.Ytllbgbaahggapaa
