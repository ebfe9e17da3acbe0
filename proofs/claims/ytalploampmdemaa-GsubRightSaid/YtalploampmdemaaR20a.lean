/- The plain part: The reference's Features. -/
import Derived.Test.YtalploampmdemaaR19
set_option maxRecDepth 100000
set_option linter.unusedVariables false
namespace Go.Proofs.Ytalploampmdemaa
open Go Go.Eng Go.RowKit

/-- the numbers below v that a row has, in their order -/
def sel (row : List Int) (v : Nat) : List Int := ((List.range v).map fun u : Nat => (u : Int)).filter fun x => row.contains x
theorem sel_succ (row : List Int) (v : Nat) : sel row (v + 1) = sel row v ++ (if row.contains (v : Int) = true then [(v : Int)] else []) := by
  unfold sel
  rw [List.range_succ, List.map_append, List.filter_append]
  congr 1
  by_cases h : row.contains (v : Int) = true
  · rw [if_pos h]
    show List.filter (fun x => row.contains x) [(v : Int)] = _
    rw [List.filter_cons_of_pos h, List.filter_nil]
  · rw [if_neg h]
    show List.filter (fun x => row.contains x) [(v : Int)] = _
    rw [List.filter_cons_of_neg h, List.filter_nil]
theorem sel_len (row : List Int) (v : Nat) : (sel row v).length ≤ v := by
  unfold sel
  exact Nat.le_trans (List.length_filter_le _ _) (by simp)
/-- how far it is looked -/
def selV (row : List Int) (L : Int) : Nat := if row = [] then 0 else min 65536 L.toNat
theorem take_contains (row : List Int) (j : Nat) (x : Int) (h : j < row.length) : (row.take (j + 1)).contains x = ((row.take j).contains x || decide (nth row j = x)) := by
  rw [List.take_succ_eq_append_getElem h, nthZ h, List.contains_append]
  congr 1
  rw [Bool.eq_iff_iff, List.contains_iff_mem, List.mem_singleton, decide_eq_true_iff]
  exact eq_comm
theorem rowW_len (b : List Int) (t : Int) : (rowW b t).length = (w2 (b.drop t.toNat) 2).toNat := by unfold rowW; rw [List.length_map, List.length_range]
theorem rowW_nth (b : List Int) (t : Int) (j : Nat) (h : j < (rowW b t).length) : nth (rowW b t) j = w2 (b.drop t.toNat) (4 + 2 * j) := by
  rw [nthZ h]
  simp [rowW]

theorem cells5 {p q r s p' q' r' s' : Int} (h1 : p = p') (h2 : q = q') (h3 : r = r') (h4 : s = s') : [SV.v (.int .u8 p), .v (.int .u8 q), .v (.int .u8 r), .v (.int .u8 s), .v (.slice none 0 0)] = [SV.v (.int .u8 p'), .v (.int .u8 q'), .v (.int .u8 r'), .v (.int .u8 s'), .v (.slice none 0 0)] := by rw [h1, h2, h3, h4]
end Go.Proofs.Ytalploampmdemaa
