/- Very many lines in two frames: 196608 of them fit in 65536 pages, one more does not. -/
import Derived.Test.YtllbgbaahggapaaW15
namespace Go.Proofs.Ytllbgbaahggapaa
open Go Go.Eng Go.RowKit

theorem linesF_add (fs : List Frame) (l P : Int) (b : Nat) : ∀ (a k : Nat) (s : S3) (acc : List Spot), linesF fs l P (a + b) k s acc = (linesF fs l P a k s acc).bind fun r => linesF fs l P b (k + a) r.1 r.2
  | 0, k, s, acc => by rw [Nat.zero_add]; rfl
  | a + 1, k, s, acc => by
    rw [show a + 1 + b = (a + b) + 1 by omega]
    simp only [linesF]
    cases h : putL fs l P k s acc with
    | none => rfl
    | some r =>
      obtain ⟨s', acc'⟩ := r
      simp only
      rw [linesF_add fs l P b a (k + 1) s' acc', show k + 1 + a = k + (a + 1) by omega]
theorem put_ok {fs : List Frame} {l P L : Int} {s : S3} {acc : List Spot} {t : S3} (h : nextF fs l s = t) (hp : t.pg < 65536) : ∃ acc', putL fs l P L s acc = some (⟨t.pg, t.f, t.t + l⟩, acc') := by
  unfold putL
  rw [h, if_pos hp]
  exact ⟨_, rfl⟩
theorem line_one {fs : List Frame} {l P : Int} {n k : Nat} {s t : S3} {acc acc' : List Spot} (h : putL fs l P k s acc = some (t, acc')) : linesF fs l P (n + 1) k s acc = linesF fs l P n (k + 1) t acc' := by
  simp only [linesF]
  rw [h]
theorem threeG (P q : Int) (k : Nat) (acc : List Spot) (s : S3) (hs : nextF twoF 10 s = ⟨q, 0, 5⟩) (hq : q < 65536) : ∃ acc', linesF twoF 10 P 3 k s acc = some (⟨q, 1, 15⟩, acc') := by
  obtain ⟨a1, h1⟩ : ∃ a1, putL twoF 10 P (k : Int) s acc = some (⟨q, 0, 15⟩, a1) := put_ok (fs := twoF) (l := 10) (P := P) (L := k) (s := s) (acc := acc) (t := ⟨q, 0, 5⟩) hs hq
  obtain ⟨a2, h2⟩ : ∃ a2, putL twoF 10 P ((k + 1 : Nat) : Int) ⟨q, 0, 15⟩ a1 = some (⟨q, 0, 25⟩, a2) := put_ok (fs := twoF) (l := 10) (P := P) (L := ((k + 1 : Nat) : Int)) (s := ⟨q, 0, 15⟩) (acc := a1) (t := ⟨q, 0, 15⟩) rfl hq
  obtain ⟨a3, h3⟩ : ∃ a3, putL twoF 10 P ((k + 1 + 1 : Nat) : Int) ⟨q, 0, 25⟩ a2 = some (⟨q, 1, 15⟩, a3) := put_ok (fs := twoF) (l := 10) (P := P) (L := ((k + 1 + 1 : Nat) : Int)) (s := ⟨q, 0, 25⟩) (acc := a2) (t := ⟨q, 1, 5⟩) rfl hq
  refine ⟨a3, ?_⟩
  rw [show 3 = 2 + 1 from rfl, line_one h1, show 2 = 1 + 1 from rfl]
  rw [line_one (fs := twoF) (l := 10) (P := P) (n := 1) (k := k + 1) h2, show 1 = 0 + 1 from rfl]
  rw [line_one (fs := twoF) (l := 10) (P := P) (n := 0) h3]
  simp only [linesF]
theorem three (P p : Int) (k : Nat) (acc : List Spot) (hp : p + 1 < 65536) : ∃ acc', linesF twoF 10 P 3 k ⟨p, 1, 15⟩ acc = some (⟨p + 1, 1, 15⟩, acc') := threeG P (p + 1) k acc _ rfl hp
theorem three0 (P : Int) (k : Nat) (acc : List Spot) : ∃ acc', linesF twoF 10 P 3 k ⟨0, 0, 5⟩ acc = some (⟨0, 1, 15⟩, acc') := threeG P 0 k acc _ rfl (by decide)
theorem lines_then {fs : List Frame} {l P : Int} {a k : Nat} {s s' : S3} {acc acc' : List Spot} (h : linesF fs l P a k s acc = some (s', acc')) (b : Nat) : linesF fs l P (a + b) k s acc = linesF fs l P b (k + a) s' acc' := by
  rw [linesF_add, h]; rfl
theorem pages (P : Int) : ∀ (m : Nat) (p : Int) (k : Nat) (acc : List Spot), p + m < 65536 → ∃ acc', linesF twoF 10 P (m * 3) k ⟨p, 1, 15⟩ acc = some (⟨p + m, 1, 15⟩, acc')
  | 0, p, k, acc, _ => ⟨acc, by rw [Nat.zero_mul]; simp only [linesF]; rw [show p + ((0 : Nat) : Int) = p by omega]⟩
  | m + 1, p, k, acc, h => by
    obtain ⟨a1, h1⟩ := three P p k acc (by omega)
    obtain ⟨a2, h2⟩ := pages P m (p + 1) (k + 3) a1 (by omega)
    refine ⟨a2, ?_⟩
    rw [show (m + 1) * 3 = 3 + m * 3 by omega, lines_then h1 (m * 3), h2, show p + 1 + (m : Int) = p + ((m + 1 : Nat) : Int) by omega]
theorem last_line (P : Int) (k : Nat) (acc : List Spot) : linesF twoF 10 P 1 k ⟨65535, 1, 15⟩ acc = none := by
  have h : putL twoF 10 P k ⟨65535, 1, 15⟩ acc = none := by
    unfold putL
    rw [show nextF twoF 10 ⟨65535, 1, 15⟩ = ⟨65536, 0, 5⟩ from rfl, if_neg (by decide)]
  simp only [linesF]
  rw [h]
/-- m pages of three lines behind the first -/
theorem all_pages (P : Int) (n m : Nat) (hn : n = 3 + m * 3) (hm : m < 65536) : ∃ acc, linesF twoF 10 P n 0 ⟨0, 0, 5⟩ [] = some (⟨(m : Int), 1, 15⟩, acc) := by
  obtain ⟨a1, h1⟩ := three0 P 0 []
  obtain ⟨a2, h2⟩ := pages P m 0 (0 + 3) a1 (by omega)
  refine ⟨a2, ?_⟩
  rw [hn, lines_then h1 (m * 3), h2, show (0 : Int) + (m : Int) = (m : Int) by omega]
theorem over_pages (P : Int) (n m : Nat) (hn : n = 3 + m * 3 + 1) (hm : (m : Int) = 65535) : linesF twoF 10 P n 0 ⟨0, 0, 5⟩ [] = none := by
  obtain ⟨a, h⟩ := all_pages P (3 + m * 3) m rfl (by omega)
  rw [hn, lines_then h 1, hm, last_line]
theorem paras_some {fs : List Frame} {l skip n : Int} {s s' : S3} {acc : List Spot} (h : linesF fs l ((0 : Nat) : Int) n.toNat 0 (skipS fs skip n s) [] = some (s', acc)) : parasF fs l skip [n] 0 s [] = some acc := by
  unfold parasF
  rw [h]
  rfl
theorem paras_none {fs : List Frame} {l skip n : Int} {s : S3} (h : linesF fs l ((0 : Nat) : Int) n.toNat 0 (skipS fs skip n s) [] = none) : parasF fs l skip [n] 0 s [] = none := by
  unfold parasF
  rw [h]
theorem place_one {n : Int} {r : Option (List Spot)} (h0 : 0 ≤ n) (h1 : n ≤ 16777216) (h : parasF twoF 10 0 [n] 0 ⟨0, 0, 5⟩ [] = r) : placeF twoF 10 0 [n] = (r.getD [], if r.isSome = true then 0 else 3) := by
  unfold placeF
  rw [if_neg (by decide), if_neg (by simp; omega), if_neg (by simp [restBad]; omega)]
  have : (⟨0, 0, (nth twoF 0).Y⟩ : S3) = ⟨0, 0, 5⟩ := rfl
  rw [this, h]
  cases r <;> rfl
theorem skip_none {n : Int} : skipS twoF 0 n ⟨0, 0, 5⟩ = ⟨0, 0, 5⟩ := by
  unfold skipS
  rw [if_neg]
  rintro ⟨_, h⟩
  exact h rfl
theorem place_fits : ∃ out, placeF twoF 10 0 [196608] = (out, 0) := by
  obtain ⟨a, h⟩ := all_pages ((0 : Nat) : Int) (196608 : Int).toNat 65535 (by omega) (by omega)
  refine ⟨a, ?_⟩
  have hp := paras_some (skip := 0) (n := 196608) (s := ⟨0, 0, 5⟩) (by rw [skip_none]; exact h)
  rw [place_one (by decide) (by decide) hp]
  rfl
theorem place_over : placeF twoF 10 0 [196609] = ([], 3) := by
  have h := over_pages ((0 : Nat) : Int) (196609 : Int).toNat 65535 (by omega) (by omega)
  have hp := paras_none (skip := 0) (n := 196609) (s := ⟨0, 0, 5⟩) (by rw [skip_none]; exact h)
  rw [place_one (by decide) (by decide) hp]
  rfl
theorem place_many : placeF twoF 10 0 [16777216, 1] = ([], 3) := by
  unfold placeF
  rw [if_neg (by decide), if_neg (by decide), if_pos (by decide)]
theorem place_65 : placeF (List.replicate 65 ⟨0, 0, 0, 0⟩) 10 0 [] = ([], 2) := by
  unfold placeF
  rw [if_pos (by rw [okF_len _ _ (by simp)]; rfl)]
theorem width_last : widthsF twoF 10 0 ⟨0, 0, 65535, 0, 5⟩ 4 = ([], 3) := by
  unfold widthsF
  rw [if_pos (by unfold AOk; decide)]
  rfl
theorem Rd.nil (w : World) {α : Type} [inh : Inhabited α] (sz : Nat) (enc : α → List DV) : Rd w (.slice none 0 0) sz enc ([] : List α) :=
  DRep.sl none 0 0 0 (fun _ _ => undef) (Nat.le_refl _) (fun h => absurd rfl h) (fun i j d hi => by simp at hi) (fun i j d hi => by simp at hi)
end Go.Proofs.Ytllbgbaahggapaa
