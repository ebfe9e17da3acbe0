/- The plain law of PageFills: each new spot of placeF follows the one before, for frames that are right. -/
import Derived.Test.YtllbgbaahggapaaW4
namespace Go.Proofs.Ytllbgbaahggapaa
open Go Go.Eng Go.RowKit

theorem placeF_err (fs : List Frame) (l skip : Int) (ps : List Int) (h : (placeF fs l skip ps).2 ≠ 0) : (placeF fs l skip ps).1 = [] := by
  unfold placeF at h ⊢
  split
  · rfl
  · split
    · rfl
    · split
      · rfl
      · split
        · rename_i h1 h2 h3 _ acc heq
          exfalso; apply h
          rw [if_neg h1, if_neg h2, if_neg h3, heq]
        · rfl

theorem placeF_good (fs : List Frame) (l skip : Int) (ps : List Int) (h : (placeF fs l skip ps).2 = 0) :
    okF fs l = true ∧ inR skip 0 MS = true ∧ ps.any (fun n => decide (n < 0)) = false ∧ restBad 16777216 ps = false ∧ parasF fs l skip ps 0 ⟨0, 0, (nth fs 0).Y⟩ [] = some (placeF fs l skip ps).1 := by
  unfold placeF at h ⊢
  split at h
  · cases h
  · rename_i h1
    split at h
    · cases h
    · rename_i h2
      split at h
      · cases h
      · rename_i h3
        rw [if_neg h1, if_neg h2, if_neg h3]
        split at h
        · rename_i acc heq
          rw [heq]
          refine ⟨?_, ?_, by simpa using h2, by simpa using h3, rfl⟩
          · cases ho : okF fs l <;> simp_all
          · cases ho : inR skip 0 MS <;> simp_all
        · cases h

theorem linesF_pre (fs : List Frame) (l P : Int) : ∀ (n k : Nat) (s : S3) (acc : List Spot) (s' : S3) (acc' : List Spot), linesF fs l P n k s acc = some (s', acc') → ∃ r, acc' = acc ++ r
  | 0, k, s, acc, s', acc', h => by simp only [linesF, Option.some.injEq, Prod.mk.injEq] at h; exact ⟨[], by rw [← h.2, List.append_nil]⟩
  | n + 1, k, s, acc, s', acc', h => by
    simp only [linesF, putL] at h
    split at h
    · rename_i x y heq
      split at heq
      · simp only [Option.some.injEq, Prod.mk.injEq] at heq
        obtain ⟨r, hr⟩ := linesF_pre fs l P n (k + 1) _ _ s' acc' h
        rw [← heq.2] at hr
        exact ⟨_, by rw [hr, List.append_assoc]⟩
      · cases heq
    · cases h

theorem parasF_pre (fs : List Frame) (l skip : Int) : ∀ (ps : List Int) (i : Nat) (s : S3) (acc out : List Spot), parasF fs l skip ps i s acc = some out → ∃ r, out = acc ++ r
  | [], i, s, acc, out, h => by simp only [parasF, Option.some.injEq] at h; exact ⟨[], by rw [h, List.append_nil]⟩
  | n :: ps, i, s, acc, out, h => by
    simp only [parasF] at h
    split at h
    · rename_i s1 acc1 heq
      obtain ⟨r1, h1⟩ := linesF_pre fs l i _ _ _ _ _ _ heq
      obtain ⟨r2, h2⟩ := parasF_pre fs l skip ps (i + 1) _ _ out h
      exact ⟨r1 ++ r2, by rw [h2, h1, List.append_assoc]⟩
    · cases h

/-- the rest of the work from a line on -/
def goOn (fs : List Frame) (l skip : Int) (ps : List Int) (i k : Nat) (s : S3) (acc : List Spot) : Option (List Spot) :=
  match linesF fs l i ((nth ps i).toNat - k) k s acc with
  | some (s', acc') => parasF fs l skip (ps.drop (i + 1)) (i + 1) s' acc'
  | none => none

def newSpot (fs : List Frame) (l : Int) (i k : Nat) (s : S3) : Spot := ⟨i, k, (nextF fs l s).pg, (nextF fs l s).f, (nextF fs l s).t⟩

theorem goOn_step (fs : List Frame) (l skip : Int) (ps : List Int) (i k : Nat) (s : S3) (acc out : List Spot) (hk : k < (nth ps i).toNat) (h : goOn fs l skip ps i k s acc = some out) :
    (nextF fs l s).pg < 65536 ∧ goOn fs l skip ps i (k + 1) ⟨(nextF fs l s).pg, (nextF fs l s).f, (nextF fs l s).t + l⟩ (acc ++ [newSpot fs l i k s]) = some out ∧ acc.length < out.length ∧ nth out acc.length = newSpot fs l i k s ∧ ∀ j, j < acc.length → nth out j = nth acc j := by
  unfold goOn at h
  rw [show (nth ps i).toNat - k = ((nth ps i).toNat - (k + 1)) + 1 by omega] at h
  simp only [linesF, putL] at h
  by_cases hp : (nextF fs l s).pg < 65536
  · rw [if_pos hp] at h
    simp only at h
    have h2 : goOn fs l skip ps i (k + 1) ⟨(nextF fs l s).pg, (nextF fs l s).f, (nextF fs l s).t + l⟩ (acc ++ [newSpot fs l i k s]) = some out := h
    refine ⟨hp, h2, ?_⟩
    have hpre : ∃ r, out = (acc ++ [newSpot fs l i k s]) ++ r := by
      unfold goOn at h2
      split at h2
      · rename_i s1 acc1 heq
        obtain ⟨r1, h1⟩ := linesF_pre fs l i _ _ _ _ _ _ heq
        obtain ⟨r2, h3⟩ := parasF_pre fs l skip _ (i + 1) _ _ out h2
        exact ⟨r1 ++ r2, by rw [h3, h1, List.append_assoc]⟩
      · cases h2
    obtain ⟨r, hr⟩ := hpre
    subst hr
    refine ⟨by simp, ?_, fun j hj => ?_⟩
    · simp [nth, List.getD, List.getElem?_append_left, List.getElem?_append_right]
    · simp only [nth, List.getD]
      rw [List.append_assoc, List.getElem?_append_left hj]
  · rw [if_neg hp] at h
    cases h

/-- a line that has its place -/
def SpotOk (fs : List Frame) (l : Int) (a : Spot) : Prop := 0 ≤ a.F ∧ a.F < fs.length ∧ (nth fs a.F.toNat).Y ≤ a.T ∧ a.T + l ≤ (nth fs a.F.toNat).Y + (nth fs a.F.toNat).H ∧ 0 ≤ a.Pg ∧ a.Pg ≤ 65536

/-- where the work stands ahead of line k of paragraph i -/
structure InRel (fs : List Frame) (l skip : Int) (i k : Nat) (s : S3) (acc : List Spot) : Prop where
  pl : PlOk fs s
  pg : s.pg ≤ 65536
  ty : (nth fs s.f).Y ≤ s.t
  nil : acc = [] → s = ⟨0, 0, (nth fs 0).Y⟩
  last : acc ≠ [] → SpotOk fs l (nth acc (acc.length - 1)) ∧ s.pg = (nth acc (acc.length - 1)).Pg ∧ (s.f : Int) = (nth acc (acc.length - 1)).F ∧
    (((nth acc (acc.length - 1)).P = i ∧ s.t = (nth acc (acc.length - 1)).T + l) ∨ ((nth acc (acc.length - 1)).P ≠ i ∧ s.t = (nth acc (acc.length - 1)).T + l + skip))

theorem nth_last (acc : List Spot) (x : Spot) : nth (acc ++ [x]) ((acc ++ [x]).length - 1) = x := by
  simp [nth, List.getD]

theorem new_ok (fs : List Frame) (l skip : Int) (i k : Nat) (s : S3) (acc : List Spot) (h : FsOk fs l) (hr : InRel fs l skip i k s acc) (hp : (nextF fs l s).pg < 65536) : SpotOk fs l (newSpot fs l i k s) := by
  have hn := next_ok fs l s h hr.pl
  have h0 := hr.pl.p0
  have hs := hr.ty
  have hf := hr.pl.f
  unfold SpotOk newSpot
  simp only [Int.toNat_natCast]
  refine ⟨by omega, by omega, ?_, ?_, by omega, by omega⟩
  · unfold nextF; split
    · exact hs
    · unfold stepS; split <;> exact Int.le_refl _
  · have h2 := fit_step fs l s h hf
    unfold nextF; split
    · rename_i h3; simpa [fit] using h3
    · have := h2.1; simpa [fit] using this

theorem rel_next (fs : List Frame) (l skip : Int) (i k : Nat) (s : S3) (acc : List Spot) (h : FsOk fs l) (hr : InRel fs l skip i k s acc) (hp : (nextF fs l s).pg < 65536) :
    InRel fs l skip i (k + 1) ⟨(nextF fs l s).pg, (nextF fs l s).f, (nextF fs l s).t + l⟩ (acc ++ [newSpot fs l i k s]) := by
  have hn := next_ok fs l s h hr.pl
  have hok := new_ok fs l skip i k s acc h hr hp
  have hM := MS_eq
  have hl1 := h.l1
  have h0 := hr.pl.p0
  refine ⟨⟨hn.1, by show 0 ≤ _ + l; omega, by show _ + l ≤ _; omega, by show 0 ≤ (nextF fs l s).pg; omega, by show (nextF fs l s).pg ≤ _; omega⟩, by show (nextF fs l s).pg ≤ _; omega, ?_, fun e => absurd e (by simp), fun _ => ?_⟩
  · have := hok.2.2.1
    simp only [newSpot, Int.toNat_natCast] at this
    show (nth fs (nextF fs l s).f).Y ≤ _ + l
    omega
  · rw [nth_last]
    exact ⟨hok, rfl, rfl, .inl ⟨rfl, rfl⟩⟩

theorem follows_ok (fs : List Frame) (l skip : Int) (i k : Nat) (s : S3) (acc : List Spot) (h : FsOk fs l) (hskip : 0 ≤ skip ∧ skip ≤ MS) (hr : InRel fs l skip i k s acc) (hne : acc ≠ []) (hp : (nextF fs l s).pg < 65536) :
    followsF fs l skip (nth acc (acc.length - 1)) (newSpot fs l i k s) = true := by
  obtain ⟨ha, hpg, hf, hPt⟩ := hr.last hne
  generalize nth acc (acc.length - 1) = a at ha hpg hf hPt ⊢
  obtain ⟨a1, a2, a3, a4, a5, a6⟩ := ha
  have hM := MS_eq
  have hl1 := h.l1
  have hl2 := h.l2
  have hn1 := h.n1
  have hn2 := h.n2
  have hfr := h.fr s.f hr.pl.f
  have hsf := hr.pl.f
  have eF : a.F.toNat = s.f := by omega
  rw [eF] at a3 a4
  have e1 : w64 (a.T + l) = a.T + l := i64_id _ (by omega) (by omega)
  have e2 : w64 (a.T + l + skip) = a.T + l + skip := i64_id _ (by omega) (by omega)
  have htop : (if a.P ≠ (newSpot fs l i k s).P then w64 (w64 (a.T + l) + skip) else w64 (a.T + l)) = s.t := by
    rw [e1, e2]
    rcases hPt with ⟨hP, ht⟩ | ⟨hP, ht⟩
    · rw [if_neg (by simpa [newSpot] using hP), ht]
    · rw [if_pos (by simpa [newSpot] using hP), ht]
  unfold followsF
  simp only
  rw [htop, eF]
  have ht0 := hr.ty
  have htb : s.t ≤ a.T + l + skip := by rcases hPt with ⟨_, ht⟩ | ⟨_, ht⟩ <;> omega
  have e3 : w64 (s.t + l) = s.t + l := i64_id _ (by omega) (by omega)
  have e4 : w64 ((nth fs s.f).Y + (nth fs s.f).H) = (nth fs s.f).Y + (nth fs s.f).H := i64_id _ (by omega) (by omega)
  rw [e3, e4]
  by_cases hfit : s.t + l ≤ (nth fs s.f).Y + (nth fs s.f).H
  · rw [if_pos hfit]
    have hn : nextF fs l s = s := by unfold nextF; rw [if_pos (by simpa [fit] using hfit)]
    simp only [newSpot, hn]
    simp [hpg, hf]
  · rw [if_neg hfit]
    have hn : nextF fs l s = stepS fs s := by unfold nextF; rw [if_neg (by simpa [fit] using hfit)]
    simp only [newSpot, hn, Int.toNat_natCast]
    have b1 : 0 ≤ a.Pg * fs.length := Int.mul_nonneg a5 (by omega)
    have b2 : a.Pg * fs.length ≤ 65536 * 64 := Int.mul_le_mul a6 (by omega) (by omega) (by omega)
    have f1 : w64 (a.Pg * fs.length) = a.Pg * fs.length := i64_id _ (by omega) (by omega)
    have f2 : w64 (a.Pg * fs.length + a.F) = a.Pg * fs.length + a.F := i64_id _ (by omega) (by omega)
    have f3 : w64 (a.Pg * fs.length + a.F + 1) = a.Pg * fs.length + a.F + 1 := i64_id _ (by omega) (by omega)
    rw [f1, f2, f3]
    unfold stepS
    by_cases hl : s.f + 1 = fs.length
    · rw [if_pos hl]
      simp only
      have f4 : (s.pg + 1) * (fs.length : Int) = a.Pg * fs.length + a.F + 1 := by rw [hpg, Int.add_mul, ← hf]; omega
      have f5 : w64 (a.Pg * fs.length + a.F + 1 + ((0 : Nat) : Int)) = a.Pg * fs.length + a.F + 1 := by rw [show a.Pg * fs.length + a.F + 1 + ((0 : Nat) : Int) = a.Pg * fs.length + a.F + 1 by omega]; exact f3
      rw [f4, f3, f5]
      simp
    · rw [if_neg hl]
      simp only
      rw [hpg, f1]
      have f5 : w64 (a.Pg * fs.length + ((s.f + 1 : Nat) : Int)) = a.Pg * fs.length + a.F + 1 := by
        rw [show a.Pg * fs.length + ((s.f + 1 : Nat) : Int) = a.Pg * fs.length + a.F + 1 by omega]; exact f3
      rw [f5]
      simp
end Go.Proofs.Ytllbgbaahggapaa
