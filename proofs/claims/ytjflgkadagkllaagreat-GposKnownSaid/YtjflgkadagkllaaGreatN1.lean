/- cover.Lookups. -/
import Derived.Test.YtjflgkadagkllaaGreatR19
set_option maxRecDepth 100000
set_option linter.unusedVariables false
namespace Go.Proofs.YtjflgkadagkllaaGreat
open Go Go.Eng Go.RowKit
theorem word_x (b : List Int) (a q : Int) (p : Nat) (hB : Byt b) (hb : b.length <= 1000000) (h0 : 0 <= a) (h : a + p + 2 <= b.length) (hq : q = a + p) (v : Value) (w : World) (hv : Rdr w v b) :
 Calls Tryz.prog 36 #[v, .int .i64 q] w fun e w' => e = .returned (.int .u16 (w2 (b.drop a.toNat) p)) /\ Below w.heap.size w w' := by
 have := word_w b a q p hb h0 h hq v w hv
 rw [wd_w2 (hB.drop _)] at this
 exact this
structure Tab where
 ty : Int
 flag : Int
 at' : List Int
deriving Inhabited
abbrev tbE : Tab -> List DV := fun t => [.v (.int .u16 t.ty), .v (.int .u16 t.flag), .sl Int inferInstance 1 zE t.at']
abbrev owT (xs : List Tab) : Chunk := .own 108 Tab inferInstance 3 tbE xs
theorem owTe {a b : List Tab} (h : a = b) : owT a = owT b := by rw [h]
def lkN (b : List Int) (a : Int) : Nat := (w2 (b.drop a.toNat) 0).toNat
def lkT (b : List Int) (a : Int) (i : Nat) : Int := a + w2 (b.drop a.toNat) (2 + 2 * i)
def lkK (b : List Int) (t : Int) : Int := w2 (b.drop t.toNat) 4
def okL (b : List Int) (t : Int) : Bool := !outR b t 6 && (!(decide (lkK b t < 1) || decide (lkK b t > 256)) && (!outR b (t + 6) (2 * lkK b t) && decide (w2 (b.drop t.toNat) 2 <= 15)))
def flagF (n : Int) : Int := bitsV .andNot .u16 n 1
def lkAt (b : List Int) (t : Int) : Tab := ⟨w2 (b.drop t.toNat) 0, flagF (w2 (b.drop t.toNat) 2), (List.range (lkK b t).toNat).map fun j => t + w2 (b.drop t.toNat) (6 + 2 * j)⟩
def lookX (b : List Int) (a : Int) : Option (List Tab) :=
 if outR b a 2 = true then none
 else if 256 < lkN b a \/ outR b (a + 2) (2 * (lkN b a : Int)) = true then none
 else if ((List.range (lkN b a)).all fun i => okL b (lkT b a i)) = true then some ((List.range (lkN b a)).map fun i => lkAt b (lkT b a i)) else none
def errT (o : Option (List Tab)) : Int := match o with | some _ => 0 | none => 50
def rowS (b : List Int) (a : Int) (p n : Nat) : List Int := (List.range n).map fun j => w2 (b.drop a.toNat) (p + 2 * j)
theorem rowS_eq {b : List Int} (hB : Byt b) (a : Int) (p n : Nat) : rowO (b.drop a.toNat) p n = rowS b a p n := by
 unfold rowO rowS
 exact List.map_congr_left fun j _ => wo_w2 (hB.drop _) _
theorem rowS_len (b : List Int) (a : Int) (p n : Nat) : (rowS b a p n).length = n := by unfold rowS; rw [List.length_map, List.length_range]
theorem rowS_nth (b : List Int) (a : Int) (p n i : Nat) (h : i < n) : nth (rowS b a p n) i = w2 (b.drop a.toNat) (p + 2 * i) := by
 unfold rowS nth
 rw [List.getD_eq_getElem?_getD, List.getElem?_map, List.getElem?_range h]; rfl
def LookR (o : Option (List Tab)) (S : Nat -> Prop) (w : World) (e : Ending) (w' : World) : Prop :=
 ∃ us, e = .returned (.tuple us.toArray) /\ Below w.heap.size w w' /\ repYs (fun b => S b \/ (w.heap.size <= b /\ b < w'.heap.size)) w' [.sl Tab inferInstance 3 tbE (o.getD []), .v (.int .i64 (errT o))] us
theorem words_x (b : List Int) (a q m : Int) (p n : Nat) (hB : Byt b) (hb : b.length <= 1000000) (h0 : 0 <= a) (hq : q = a + p) (hm : m = (n : Int)) (ho : outR b (a + p) (2 * (n : Int)) = false) (v : Value) (w : World) (hv : Rdr w v b) :
 Calls Tryz.prog 51 #[v, .int .i64 q, .int .i64 m] w fun e w' => ∃ u, e = .returned u /\ Below w.heap.size w w' /\ Fresh w w' u 34 1 hE (rowS b a p n) := by
 have := words_w b a q m p n hb h0 hq hm ho v w hv
 rw [rowS_eq hB] at this
 exact this
end Go.Proofs.YtjflgkadagkllaaGreat
