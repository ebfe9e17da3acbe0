/- cover.Coverage: what it is in plain Lean. -/
import Derived.Test.YtalploampmdemaaR4
namespace Go.Proofs.Ytalploampmdemaa
open Go Go.Eng Go.RowKit

/-- a number of two bytes, as Words reads it -/
def wo (d : List Int) (p : Nat) : Int := wordOf [nth d p, nth d (p + 1)]
theorem wo_range (d : List Int) (p : Nat) : 0 ≤ wo d p ∧ wo d p ≤ 65535 := by
  unfold wo wordOf bitsV
  simp only [IntKind.wrap_u16]
  omega
def rowO (d : List Int) (p n : Nat) : List Int := (List.range n).map fun j => wo d (p + 2 * j)
theorem rowO_len (d : List Int) (p n : Nat) : (rowO d p n).length = n := by unfold rowO; simp
theorem rowO_nth (d : List Int) (p n i : Nat) (h : i < n) : nth (rowO d p n) i = wo d (p + 2 * i) := by
  unfold rowO nth
  rw [List.getD_eq_getElem?_getD, List.getElem?_map, List.getElem?_range h]
  rfl
theorem words_row (b : List Int) (a p n : Nat) (h : a + p + 2 * n ≤ b.length) : wordsL (midL b (a + p) (a + p + 2 * n)) n = rowO (b.drop a) p n := by
  unfold wordsL rowO
  refine List.map_congr_left fun j hj => ?_
  have hj : j < n := List.mem_range.1 hj
  have hl : (midL b (a + p) (a + p + 2 * n)).length = 2 * n := by rw [midL_len _ _ _ h]; omega
  rw [mid2 _ _ (by omega), nth_mid _ _ _ _ (by omega) h, nth_mid _ _ _ _ (by omega) h]
  unfold wo
  rw [nth_drop, nth_drop, show a + p + 2 * j = a + (p + 2 * j) from by omega, show a + p + (2 * j + 1) = a + (p + 2 * j + 1) from by omega]

/-- do glyphs rise, and are there so many? -/
def ok1 (g : Int) (l : List Int) (i : Nat) : Bool := !(decide (nth l i ≥ g) || (decide ((i : Int) > 0) && decide (nth l i ≤ nth l (i - 1))))
def finC (l : List Int) : Option (List Int) := if 0 < l.length ∧ l.length ≤ 65535 then some l else none
def cov1 (d : List Int) (g : Int) (n : Nat) : Option (List Int) := if ∀ i, i < n → ok1 g (rowO d 4 n) i = true then finC (rowO d 4 n) else none
def rangeW (f : Int) (t : Nat) : List Int := (List.range t).map fun (k : Nat) => IntKind.u16.wrap (f + (k : Int))
theorem rangeW_succ (f : Int) (t : Nat) : rangeW f (t + 1) = rangeW f t ++ [IntKind.u16.wrap (f + (t : Int))] := by
  unfold rangeW; rw [List.range_succ, List.map_append]; rfl
theorem rangeW_len (f : Int) (t : Nat) : (rangeW f t).length = t := by unfold rangeW; simp
/-- the glyphs of the first ranges -/
def accL (d : List Int) : Nat → List Int
  | 0 => []
  | i + 1 => accL d i ++ rangeW (sF d i) (sL d i + 1 - sF d i).toNat
theorem accL_len (d : List Int) : ∀ i, (accL d i).length ≤ 65536 * i
  | 0 => Nat.le_refl _
  | i + 1 => by
    have := accL_len d i
    have h1 := wd_range d (6 * i)
    have h2 := wd_range d (6 * i + 2)
    show (accL d i ++ rangeW (sF d i) (sL d i + 1 - sF d i).toNat).length ≤ _
    rw [List.length_append, rangeW_len]
    unfold sF sL
    omega
def ok2 (d : List Int) (g : Int) (i : Nat) : Bool := !sB d g i && decide (sT d i = ((accL d i).length : Int))
def cov2 (d : List Int) (g : Int) (n : Nat) : Option (List Int) := if ∀ i, i < n → ok2 d g i = true then finC (accL d n) else none
/-- cover.Coverage -/
def covX (b : List Int) (at' g : Int) : Option (List Int) :=
  if outR b at' 4 then none
  else if wd (b.drop at'.toNat) 0 = 1 then (if outR b (at' + 4) (2 * wd (b.drop at'.toNat) 2) then none else cov1 (b.drop at'.toNat) g (wd (b.drop at'.toNat) 2).toNat)
  else if wd (b.drop at'.toNat) 0 = 2 then (if outR b (at' + 4) (6 * wd (b.drop at'.toNat) 2) then none else cov2 ((b.drop at'.toNat).drop 4) g (wd (b.drop at'.toNat) 2).toNat)
  else none

theorem room_w (b : List Int) (at' n q m : Int) (hb : b.length ≤ 1000000) (ha : IntKind.i64.wrap at' = at') (hq : q = at') (hm : m = n) (v : Value) (w : World) (hv : Rdr w v b) :
    Calls Try.prog 36 #[v, .int .i64 q, .int .i64 m] w fun e w' => e = .returned (.bool (roomF b at' n)) ∧ Below w.heap.size w w' := by
  subst hq hm; exact room_c b q m (by omega) ha v w hv
theorem words_w (b : List Int) (at' q m : Int) (p n : Nat) (hb : b.length ≤ 1000000) (h0 : 0 ≤ at') (hq : q = at' + p) (hm : m = (n : Int)) (ho : outR b (at' + p) (2 * (n : Int)) = false) (v : Value) (w : World) (hv : Rdr w v b) :
    Calls Try.prog 37 #[v, .int .i64 q, .int .i64 m] w fun e w' => ∃ u, e = .returned u ∧ Below w.heap.size w w' ∧ Fresh w w' u 31 1 hE (rowO (b.drop at'.toNat) p n) := by
  subst hq hm
  obtain ⟨h1, h2, h3⟩ := outR_iff.1 ho
  have := words_c b (at' + p) n hb (by omega) ho v w hv
  rw [show (at' + (p : Int)).toNat = at'.toNat + p from by omega, show (at' + (p : Int) + 2 * (n : Int)).toNat = at'.toNat + p + 2 * n from by omega, Int.toNat_natCast, words_row b _ p n (by omega)] at this
  exact this
theorem spans_w (b : List Int) (at' g q m : Int) (n : Nat) (hb : b.length ≤ 1000000) (h0 : 0 ≤ at') (h1 : at' + 6 * n ≤ b.length) (hq : q = at') (hm : m = (n : Int)) (p1 p2 p3 p4 : Value) (w : World) (S : Nat → Prop) (hS : ∀ b, S b → b < w.heap.size)
    (q1 : DRep S w (.ptr [.v (.int .i64 m)]) p1) (q2 : DRep S w (.ptr [.ptr (rdD b)]) p2) (q3 : DRep S w (.ptr [.v (.int .i64 q)]) p3) (q4 : DRep S w (.ptr [.v (.int .i64 g)]) p4) :
    ∃ vals : Nat → List Value, (∀ j, j < sN (b.drop at'.toNat) g n → repYs S w [.v (sV (b.drop at'.toNat) g j)] (vals j)) ∧ IterX Try.prog 89 #[p1, p2, p3, p4] (sN (b.drop at'.toNat) g n) (fun j => (vals j).toArray) S w := by
  subst hq hm
  exact ⟨fun j => [sV (b.drop q.toNat) g j], fun j _ => ⟨rfl, trivial⟩, spans_it b q g n hb h0 h1 p1 p2 p3 p4 w S hS q1 q2 q3 q4⟩
end Go.Proofs.Ytalploampmdemaa
