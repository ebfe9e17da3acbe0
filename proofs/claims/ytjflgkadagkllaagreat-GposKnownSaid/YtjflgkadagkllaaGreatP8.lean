/- The reference's marks, in plain Lean. -/
import Derived.Test.YtjflgkadagkllaaGreatP7
set_option maxRecDepth 100000
set_option linter.unusedVariables false
namespace Go.Proofs.YtjflgkadagkllaaGreat
open Go Go.Eng Go.RowKit
theorem point_eq (b : List Int) (a s : Int) : pointX b a s = if ptQ b a s = true then none else some (i16 (wF b (a + 2)), i16 (wF b (a + 4)), s + 1) := by
 unfold pointX ptQ
 cases h1 : outR b a 2 with
 | true => rfl
 | false =>
  rw [wF_wA h1]
  cases h2 : outR b (a + 2) 2 with
  | true =>
   simp only [Bool.or_true, Bool.true_or, if_true, Bool.false_eq_true, if_false]
   split
   · rfl
   · split <;> rfl
  | false =>
   cases h3 : outR b (a + 4) 2 with
   | true =>
    simp only [Bool.or_true, if_true, Bool.false_eq_true, if_false]
    split
    · rfl
    · split <;> rfl
   | false =>
    rw [wF_wA h2, wF_wA h3]
    simp only [Bool.false_eq_true, if_false, Bool.or_false, Bool.false_or]
    by_cases h4 : wA b a = 1
    · rw [if_neg (fun h => h h4), decide_eq_true h4]
      by_cases h5 : 65536 < s + 1
      · rw [if_pos h5, decide_eq_true (by omega)]; rfl
      · rw [if_neg h5, decide_eq_false (by omega)]; rfl
    · rw [if_pos h4, decide_eq_false h4]; rfl
def mQ (b : List Int) (n f s : Int) (i : Nat) : Bool := ((outR b (f + 2 + 4 * (i : Int)) 2 || outR b (f + 4 + 4 * (i : Int)) 2) || ptQ b (f + wF b (f + 4 + 4 * (i : Int))) s) || decide (wF b (f + 2 + 4 * (i : Int)) >= n)
theorem mLoop_eq (b : List Int) (n f G : Int) (r : List Int) (i : Nat) (s : Int) (acc : List Mark) : mLoop b n f (G :: r) i s acc = if mQ b n f s i = true then none
 else mLoop b n f r (i + 1) (s + 1) (acc ++ [⟨G, IntKind.u16.wrap (wF b (f + 2 + 4 * (i : Int))), i16 (wF b (f + wF b (f + 4 + 4 * (i : Int)) + 2)), i16 (wF b (f + wF b (f + 4 + 4 * (i : Int)) + 4))⟩]) := by
 unfold mQ
 rw [mLoop]
 cases h1 : outR b (f + 2 + 4 * (i : Int)) 2 with
 | true => rfl
 | false =>
  rw [wF_wA h1]
  cases h2 : outR b (f + 4 + 4 * (i : Int)) 2 with
  | true =>
   simp only [Bool.or_true, Bool.true_or, if_true, Bool.false_eq_true, if_false]
   split <;> rfl
  | false =>
   rw [wF_wA h2, point_eq]
   simp only [Bool.false_eq_true, if_false, Bool.false_or]
   by_cases h3 : wA b (f + 2 + 4 * (i : Int)) < n
   · rw [if_neg (fun h => h h3), decide_eq_false (by omega : ¬ wA b (f + 2 + 4 * (i : Int)) >= n), Bool.or_false]
     cases ptQ b (f + wA b (f + 4 + 4 * (i : Int))) s <;> rfl
   · rw [if_pos h3, decide_eq_true (by omega : wA b (f + 2 + 4 * (i : Int)) >= n), Bool.or_true]; rfl
def aQ (b : List Int) (e s : Int) (n i k : Nat) : Bool := outR b (aAt e n i k) 2 || (if wF b (aAt e n i k) = 0 then decide (s + 1 > 65536) else ptQ b (e + wF b (aAt e n i k)) s)
def anX (b : List Int) (e : Int) (n i k : Nat) : Anchor := if wF b (aAt e n i k) = 0 then ⟨false, 0, 0⟩ else ⟨true, i16 (wF b (e + wF b (aAt e n i k) + 2)), i16 (wF b (e + wF b (aAt e n i k) + 4))⟩
theorem aLoop_eq (b : List Int) (e : Int) (n i m k : Nat) (s : Int) (acc : List Anchor) : aLoop b e n i (m + 1) k s acc = if aQ b e s n i k = true then none
 else aLoop b e n i m (k + 1) (s + 1) (acc ++ [anX b e n i k]) := by
 unfold aQ anX
 rw [aLoop]
 cases h1 : outR b (aAt e n i k) 2 with
 | true => rfl
 | false =>
  rw [wF_wA h1, point_eq]
  simp only [Bool.false_eq_true, if_false, Bool.false_or]
  by_cases h2 : wA b (aAt e n i k) = 0
  · rw [if_pos h2, if_pos h2, if_pos h2]
    by_cases h3 : 65536 < s + 1
    · rw [if_pos h3, decide_eq_true (by omega)]; rfl
    · rw [if_neg h3, decide_eq_false (by omega)]; rfl
  · rw [if_neg h2, if_neg h2, if_neg h2]
    cases ptQ b (e + wA b (aAt e n i k)) s <;> rfl
def mkM (b : List Int) (g a : Int) : List Int := covL b (a + wF b (a + 2)) g
def mkB (b : List Int) (g a : Int) : List Int := covL b (a + wF b (a + 4)) g
def mkH (b : List Int) (g a s : Int) : Bool :=
 ((((((((false || outR b (a + 2) 2) || (covX b (a + wF b (a + 2)) g).isNone) || decide (s + ((mkM b g a).length : Int) > 65536)) || outR b (a + 4) 2) || (covX b (a + wF b (a + 4)) g).isNone) || decide (s + ((mkM b g a).length : Int) + ((mkB b g a).length : Int) > 65536)) || outR b (a + 6) 2) || outR b (a + 8) 2) || outR b (a + 10) 2
def mkC (b : List Int) (a m n : Int) : Bool :=
 ((outR b a 2 || (!decide (wF b a = 1) || decide (wF b (a + 6) < 1))) || (outR b (a + wF b (a + 8)) 2 || !decide (wF b (a + wF b (a + 8)) = m))) || (outR b (a + wF b (a + 10)) 2 || !decide (wF b (a + wF b (a + 10)) = n))
theorem marks_eq (b : List Int) (g a s : Int) : marksX b g a s = if (mkH b g a s || mkC b a ((mkM b g a).length : Int) ((mkB b g a).length : Int)) = true then none
 else endX b (a + wF b (a + 10)) (wF b (a + 6)).toNat (mkB b g a) (mLoop b (wF b (a + 6)) (a + wF b (a + 8)) (mkM b g a) 0 (s + ((mkM b g a).length : Int) + ((mkB b g a).length : Int)) []) := by
 unfold mkH
 cases h : outR b (a + 2) 2 with
 | true => unfold marksX; rw [if_pos h]; rfl
 | false =>
 unfold marksX mkM
 rw [if_neg (by rw [h]; decide), wF_wA h, Bool.false_or, Bool.false_or]
 unfold setX covL
 cases hc : covX b (a + wA b (a + 2)) g with
 | none => rfl
 | some l =>
 simp only [Option.isNone_some, Bool.false_or, Option.getD_some]
 by_cases hs : s + (l.length : Int) <= 65536
 rotate_left
 · rw [if_neg hs, decide_eq_true (by omega)]; rfl
 rw [if_pos hs, decide_eq_false (by omega), Bool.false_or]
 cases h4 : outR b (a + 4) 2 with
 | true => rfl
 | false =>
 unfold mkB covL
 simp only [Bool.false_eq_true, if_false, Bool.false_or]
 rw [wF_wA h4]
 cases hc2 : covX b (a + wA b (a + 4)) g with
 | none => rfl
 | some l2 =>
 simp only [Option.isNone_some, Bool.false_or, Option.getD_some]
 by_cases hs2 : s + (l.length : Int) + (l2.length : Int) <= 65536
 rotate_left
 · rw [if_neg hs2, decide_eq_true (by omega)]; rfl
 rw [if_pos hs2, decide_eq_false (by omega), Bool.false_or]
 simp only
 unfold headX mkC
 cases h6 : outR b (a + 6) 2 with
 | true => rfl
 | false =>
 cases h8 : outR b (a + 8) 2 with
 | true => rfl
 | false =>
 cases h10 : outR b (a + 10) 2 with
 | true => rfl
 | false =>
 simp only [Bool.false_eq_true, if_false, Bool.false_or]
 rw [wF_wA h6, wF_wA h8, wF_wA h10]
 cases h0 : outR b a 2 with
 | true => rfl
 | false =>
 rw [wF_wA h0]
 simp only [Bool.false_eq_true, if_false, Bool.false_or]
 by_cases c1 : wA b a = 1 /\ wA b (a + 6) > 0
 rotate_left
 · rw [if_pos c1]
   by_cases c2 : wA b a = 1
   · rw [decide_eq_true (by omega : wA b (a + 6) < 1), Bool.or_true]; rfl
   · rw [decide_eq_false c2]; rfl
 rw [if_neg (fun h => h c1), decide_eq_true c1.1, decide_eq_false (by omega : ¬ wA b (a + 6) < 1)]
 simp only [Bool.not_true, Bool.false_or]
 rw [if_or, if_or, if_or, if_no, if_no, if_wF, if_wF]
end Go.Proofs.YtjflgkadagkllaaGreat
