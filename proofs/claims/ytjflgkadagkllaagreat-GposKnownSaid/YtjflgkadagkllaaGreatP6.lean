/- The reference's kerns. -/
import Derived.Test.YtjflgkadagkllaaGreatP5
set_option maxRecDepth 100000
set_option linter.unusedVariables false
namespace Go.Proofs.YtjflgkadagkllaaGreat
open Go Go.Eng Go.RowKit
theorem wF_wA {b : List Int} {a : Int} (h : outR b a 2 = false) : wF b a = wA b a := wF_in h
def hdQ (b : List Int) (g a s : Int) : Bool := (outR b (a + 2) 2 || (covX b (a + wF b (a + 2)) g).isNone) || decide (s + ((covL b (a + wF b (a + 2)) g).length : Int) > 65536)
def qC (b : List Int) (a n : Int) : Bool := (((outR b a 2 || !decide (wF b a = 1)) || (outR b (a + 4) 2 || !decide (wF b (a + 4) = 4))) || (outR b (a + 6) 2 || !decide (wF b (a + 6) = 0))) || (outR b (a + 8) 2 || !decide (wF b (a + 8) = n))
theorem if_or {α : Type} (p q : Bool) (x y : α) : (if (p || q) = true then x else y) = if p = true then x else if q = true then x else y := by
 cases p <;> rfl
theorem if_no {α : Type} {p : Prop} [Decidable p] (x y : α) : (if (!decide p) = true then x else y) = if ¬ p then x else y := by
 by_cases h : p <;> simp [h]
theorem if_wF {α : Type} {b : List Int} {a n : Int} {x y : α} : (if outR b a 2 = true then x else if ¬ wA b a = n then x else y) = if outR b a 2 = true then x else if ¬ wF b a = n then x else y := by
 cases h : outR b a 2 with
 | true => rfl
 | false => rw [wF_wA h]
theorem pairs_eq (b : List Int) (g a s : Int) : pairsX b g a s = if (hdQ b g a s || qC b a ((covL b (a + wF b (a + 2)) g).length : Int)) = true then none else pLoop b g a (covL b (a + wF b (a + 2)) g) 0 (s + ((covL b (a + wF b (a + 2)) g).length : Int)) [] := by
 unfold hdQ
 cases h : outR b (a + 2) 2 with
 | true => unfold pairsX; rw [if_pos h]; rfl
 | false =>
  unfold pairsX
  rw [if_neg (by rw [h]; decide), wF_wA h, Bool.false_or]
  unfold setX covL
  cases hc : covX b (a + wA b (a + 2)) g with
  | none => rfl
  | some l =>
   simp only [Option.isNone_some, Bool.false_or, Option.getD_some]
   by_cases hs : s + (l.length : Int) <= 65536
   · rw [if_pos hs, decide_eq_false (by omega), Bool.false_or]
     unfold qC
     simp only [if_or, if_no, if_wF]
   · rw [if_neg hs, decide_eq_true (by omega), Bool.true_or, if_pos rfl]
theorem pLoop_eq (b : List Int) (g a A : Int) (r : List Int) (i : Nat) (s : Int) (acc : List Kern) : pLoop b g a (A :: r) i s acc = if ((outR b (a + 10 + 2 * (i : Int)) 2 || outR b (a + wF b (a + 10 + 2 * (i : Int))) 2) || decide (wF b (a + wF b (a + 10 + 2 * (i : Int))) < 1)) = true then none
 else match kLoop b g (a + wF b (a + 10 + 2 * (i : Int))) A (wF b (a + wF b (a + 10 + 2 * (i : Int)))).toNat 0 (-1) s acc with
  | none => none
  | some (acc', s') => pLoop b g a r (i + 1) s' acc' := by
 rw [pLoop, if_or, if_or]
 cases h1 : outR b (a + 10 + 2 * (i : Int)) 2 with
 | true => rfl
 | false =>
  rw [wF_wA h1]
  cases h2 : outR b (a + wA b (a + 10 + 2 * (i : Int))) 2 with
  | true => rfl
  | false =>
   rw [wF_wA h2]
   by_cases h3 : wA b (a + wA b (a + 10 + 2 * (i : Int))) > 0
   · simp only [Bool.false_eq_true, if_false]
     rw [if_neg (fun h => h h3), decide_eq_false (by omega)]
     rfl
   · simp only [Bool.false_eq_true, if_false]
     rw [if_pos h3, decide_eq_true (by omega), if_pos rfl]
def kQ (b : List Int) (g t last s : Int) (j : Nat) : Bool := ((outR b (t + 2 + 4 * (j : Int)) 2 || outR b (t + 4 + 4 * (j : Int)) 2) || (decide (wF b (t + 2 + 4 * (j : Int)) >= g) || decide (wF b (t + 2 + 4 * (j : Int)) <= last))) || decide (s + 1 > 65536)
theorem kLoop_eq (b : List Int) (g t A : Int) (m j : Nat) (last s : Int) (acc : List Kern) : kLoop b g t A (m + 1) j last s acc = if kQ b g t last s j = true then none
 else kLoop b g t A m (j + 1) (wF b (t + 2 + 4 * (j : Int))) (s + 1) (acc ++ [⟨A, IntKind.u16.wrap (wF b (t + 2 + 4 * (j : Int))), i16 (wF b (t + 4 + 4 * (j : Int)))⟩]) := by
 unfold kQ
 rw [kLoop, if_or, if_or, if_or]
 cases h1 : outR b (t + 2 + 4 * (j : Int)) 2 with
 | true => rfl
 | false =>
  cases h2 : outR b (t + 4 + 4 * (j : Int)) 2 with
  | true => rfl
  | false =>
   rw [wF_wA h1, wF_wA h2]
   simp only [Bool.false_eq_true, if_false]
   by_cases h3 : wA b (t + 2 + 4 * (j : Int)) < g /\ wA b (t + 2 + 4 * (j : Int)) > last
   · rw [if_neg (fun h => h h3), decide_eq_false (by omega : ¬ wA b (t + 2 + 4 * (j : Int)) >= g), decide_eq_false (by omega : ¬ wA b (t + 2 + 4 * (j : Int)) <= last)]
     by_cases h4 : 65536 < s + 1
     · rw [if_pos h4, decide_eq_true (by omega)]; rfl
     · rw [if_neg h4, decide_eq_false (by omega)]; rfl
   · rw [if_pos h3]
     by_cases h5 : wA b (t + 2 + 4 * (j : Int)) >= g
     · rw [decide_eq_true h5]; rfl
     · rw [decide_eq_true (by omega : wA b (t + 2 + 4 * (j : Int)) <= last), Bool.or_true]; rfl
end Go.Proofs.YtjflgkadagkllaaGreat
