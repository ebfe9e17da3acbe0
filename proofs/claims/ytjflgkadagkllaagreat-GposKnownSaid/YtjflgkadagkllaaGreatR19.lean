/- cover.Features. -/
import Derived.Test.YtjflgkadagkllaaGreatR18
set_option maxRecDepth 100000
set_option linter.unusedVariables false
namespace Go.Proofs.YtjflgkadagkllaaGreat
open Go Go.Eng Go.RowKit
structure Feat where
 a : Int
 b : Int
 c : Int
 d : Int
 ks : List Int
deriving Inhabited
abbrev fE : Feat -> List DV := fun f => [.v (.int .u8 f.a), .v (.int .u8 f.b), .v (.int .u8 f.c), .v (.int .u8 f.d), .sl Int inferInstance 1 zE f.ks]
abbrev owF (xs : List Feat) : Chunk := .own 57 Feat inferInstance 5 fE xs
def ksF (row : List Int) : List Int := Lib.compact (row.mergeSort fun x y => decide (x <= y))
def rowW (b : List Int) (t : Int) : List Int := (List.range (w2 (b.drop t.toNat) 2).toNat).map fun j => w2 (b.drop t.toNat) (4 + 2 * j)
def fT (b : List Int) (a : Int) (i : Nat) : Int := a + w2 (b.drop a.toNat) (6 * i + 6)
def okT (b : List Int) (t L : Int) : Bool := !outR b t 4 && decide (w2 (b.drop t.toNat) 0 = 0) && !outR b (t + 4) (2 * w2 (b.drop t.toNat) 2) && (rowW b t).all fun x => decide (x < L)
def fAt (b : List Int) (a : Int) (i : Nat) : Feat := ⟨nth (b.drop a.toNat) (6 * i + 2), nth (b.drop a.toNat) (6 * i + 3), nth (b.drop a.toNat) (6 * i + 4), nth (b.drop a.toNat) (6 * i + 5), ksF (rowW b (fT b a i))⟩
def fN (b : List Int) (a : Int) : Nat := (w2 (b.drop a.toNat) 0).toNat
def featX (b : List Int) (a L : Int) : Option (List Feat) :=
 if outR b a 2 = true then none
 else if 512 < fN b a \/ outR b (a + 2) (6 * (fN b a : Int)) = true then none
 else if ((List.range (fN b a)).all fun i => okT b (fT b a i) L) = true then some ((List.range (fN b a)).map (fAt b a)) else none
def errF (o : Option (List Feat)) : Int := match o with | some _ => 0 | none => 50
theorem byte_w (b : List Int) (at' q : Int) (p : Nat) (hB : Byt b) (hb : b.length <= 1000000) (h0 : 0 <= at') (h : at' + p + 1 <= b.length) (hq : q = at' + p) (v : Value) (w : World) (hv : Rdr w v b) :
 Calls Tryz.prog 52 #[v, .int .i64 q] w fun e w' => e = .returned (.int .u8 (nth (b.drop at'.toNat) p)) /\ Below w.heap.size w w' := by
 subst hq
 have hx := hB (at'.toNat + p)
 have e : IntKind.u8.wrap (numR b (at' + p) 1) = nth (b.drop at'.toNat) p := by
  unfold numR
  have hm : midL b (at' + (p : Int)).toNat (at' + (p : Int) + 1).toNat = [nth b (at'.toNat + p)] := by
   rw [show (at' + (p : Int)).toNat = at'.toNat + p by omega, show (at' + (p : Int) + 1).toNat = at'.toNat + p + 1 by omega]
   unfold midL
   rw [show at'.toNat + p + 1 - (at'.toNat + p) = 1 by omega]
   have hlt : at'.toNat + p < b.length := by omega
   rw [List.drop_eq_getElem_cons hlt, nthZ hlt]
   rfl
  rw [hm, nth_drop]
  show IntKind.u8.wrap (numS 0 (nth b (at'.toNat + p))) = _
  obtain ⟨y, hy⟩ : ∃ y : Nat, nth b (at'.toNat + p) = (y : Int) := ⟨(nth b (at'.toNat + p)).toNat, by omega⟩
  rw [hy] at hx ⊢
  rw [numS_zero y (by omega), IntKind.wrap_u8]
  omega
 rw [<- e]
 exact byte_c b _ (by omega) (outR_iff.2 ⟨by omega, by omega, by omega⟩) v w hv
theorem rowW_range {b : List Int} (hB : Byt b) (t : Int) (j : Nat) (hj : j < (rowW b t).length) : 0 <= nth (rowW b t) j /\ nth (rowW b t) j <= 65535 := by
 rw [nthZ hj]
 have hm := List.getElem_mem hj
 generalize (rowW b t)[j] = x at *
 unfold rowW at hm
 obtain ⟨q, _, rfl⟩ := List.mem_map.1 hm
 exact w2_range (hB.drop _) _
theorem row_eq {b : List Int} (hB : Byt b) (t : Int) : rowO (b.drop t.toNat) 4 (wd (b.drop t.toNat) 2).toNat = rowW b t := by
 unfold rowO rowW
 rw [wd_w2 (hB.drop _)]
 exact List.map_congr_left fun j _ => wo_w2 (hB.drop _) _
theorem row_eq2 {b : List Int} (hB : Byt b) (t : Int) : rowO (b.drop t.toNat) 4 (w2 (b.drop t.toNat) 2).toNat = rowW b t := by
 have := row_eq hB t
 rw [wd_w2 (hB.drop _)] at this
 exact this
theorem owZe {a b : List Int} (h : a = b) : owZ a = owZ b := by rw [h]
theorem owFe {a b : List Feat} (h : a = b) : owF a = owF b := by rw [h]
def FeatR (o : Option (List Feat)) (S : Nat -> Prop) (w : World) (e : Ending) (w' : World) : Prop :=
 ∃ us, e = .returned (.tuple us.toArray) /\ Below w.heap.size w w' /\ repYs (fun b => S b \/ (w.heap.size <= b /\ b < w'.heap.size)) w' [.sl Feat inferInstance 5 fE (o.getD []), .v (.int .i64 (errF o))] us
end Go.Proofs.YtjflgkadagkllaaGreat
