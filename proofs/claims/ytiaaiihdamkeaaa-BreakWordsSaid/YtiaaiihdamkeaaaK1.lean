/- parbreak: a paragraph, its lines, what they cost. -/
import Derived.Test.YtiaaiihdamkeaaaG16
set_option maxRecDepth 100000
set_option linter.unusedVariables false
namespace Go.Proofs.Ytiaaiihdamkeaaa
open Go Go.Eng Go.RowKit Go.Ar

structure Ln where
  h : Int
  s : Int
  k : Int
deriving Inhabited
abbrev lE : Ln → List DV := fun x => [.v (.int .i64 x.h), .v (.int .i64 x.s), .v (.int .i64 x.k)]
abbrev bE : Bool → List DV := fun b => [.v (.bool b)]
/-- a paragraph -/
structure Par where
  must : List Bool
  lines : List Ln
  ws : List Int
  n : Nat
  hm : must.length = n + 1
  hn : 1 ≤ n ∧ n ≤ 256
  hl : lines.length = (n + 1) * (n + 1)
  hw : 1 ≤ ws.length ∧ ws.length ≤ 65536
abbrev parD (p : Par) : List DV := [.v (.int .i64 (p.n : Nat)), .sl Bool inferInstance 1 bE p.must, .sl Ln inferInstance 3 lE p.lines, .sl Int inferInstance 1 iE p.ws]
def ParR (w : World) (v : Value) (p : Par) : Prop := DRep (· < w.heap.size) w (.ptr (parD p)) v
theorem ParR.val {w : World} {v : Value} {p : Par} (h : ParR w v p) : ∃ k o, v = .pointer (some ⟨k, o, none⟩) := by
  cases h; exact ⟨_, _, rfl⟩
def lnF (p : Par) (i j : Nat) : Ln := nth p.lines (i * (p.n + 1) + j)
theorem sq_le {n : Nat} (h : n ≤ 256) {i j : Nat} (hi : i ≤ n) (hj : j ≤ n) : i * (n + 1) + j < (n + 1) * (n + 1) ∧ (n + 1) * (n + 1) ≤ 66049 := by
  have h1 : i * (n + 1) ≤ n * (n + 1) := Nat.mul_le_mul_right _ hi
  have h2 : (n + 1) * (n + 1) = n * (n + 1) + (n + 1) := by rw [Nat.succ_mul]
  have h3 : (n + 1) * (n + 1) ≤ 257 * 257 := Nat.mul_le_mul (by omega) (by omega)
  omega
theorem line_c (p : Par) (i j : Nat) (hi : i ≤ p.n) (hj : j ≤ p.n) (v : Value) (w : World) (hv : ParR w v p) :
    Calls Try.prog 20 #[v, .int .i64 (i : Nat), .int .i64 (j : Nat)] w fun e w' => e = .returned (.agg #[.int .i64 (lnF p i j).h, .int .i64 (lnF p i j).s, .int .i64 (lnF p i j).k]) ∧ Below w.heap.size w w' := by
  obtain ⟨k, o, rfl⟩ := hv.val
  refine calls_exec (cf := cf) cfok (fn := Try.f20) Try.func20 rfl [.bx 0 0, .v (.int .i64 (i : Nat)), .v (.int .i64 (j : Nat))] [.rp [] (parD p)] (ρ := fun _ => .pointer (some ⟨k, o, none⟩)) (· < w.heap.size) rfl rfl rfl (by simp [svOkL, svOk]) (memRd (fun _ h => h) ⟨hv, trivial⟩) ?_
  obtain ⟨h1, h2⟩ := sq_le p.hn.2 hi hj
  have hn := p.hn
  have hl := p.hl
  have him : i * (p.n + 1) ≤ 66049 := by omega
  have e1 : IntKind.i64.wrap ((p.n : Int) + 1) = ((p.n + 1 : Nat) : Int) := i64_succ p.n (by omega)
  have e2 : IntKind.i64.wrap (IntKind.i64.wrap ((i : Int) * IntKind.i64.wrap ((p.n : Int) + 1)) + (j : Int)) = ((i * (p.n + 1) + j : Nat) : Int) := by
    rw [e1, ← Int.natCast_mul, i64_id ((i * (p.n + 1) : Nat) : Int) (by omega) (by omega), ← Int.natCast_add, i64_id _ (by omega) (by omega)]
  refine Or.inr (Or.inr (Or.inl ⟨[0, 1, 2, 3, 4, 5, 6, 7, 8, 9, 10, 11, 12, 13, 14], [], [15], by kernel_rfl, ?_⟩))
  refine And.intro ⟨(show (0 : Int) ≤ IntKind.i64.wrap (IntKind.i64.wrap ((i : Int) * IntKind.i64.wrap ((p.n : Int) + 1)) + (j : Int)) by rw [e2]; omega), (show IntKind.i64.wrap (IntKind.i64.wrap ((i : Int) * IntKind.i64.wrap ((p.n : Int) + 1)) + (j : Int)) < ((p.lines.length : Nat) : Int) by rw [e2, hl]; omega)⟩ ?_
  refine fun ρ S w' hi' => ⟨?_, hi'.below⟩
  show Ending.returned (.agg #[.int .i64 (nth p.lines (IntKind.i64.wrap (IntKind.i64.wrap ((i : Int) * IntKind.i64.wrap ((p.n : Int) + 1)) + (j : Int))).toNat).h, .int .i64 (nth p.lines (IntKind.i64.wrap (IntKind.i64.wrap ((i : Int) * IntKind.i64.wrap ((p.n : Int) + 1)) + (j : Int))).toNat).s, .int .i64 (nth p.lines (IntKind.i64.wrap (IntKind.i64.wrap ((i : Int) * IntKind.i64.wrap ((p.n : Int) + 1)) + (j : Int))).toNat).k]) = _
  rw [e2, Int.toNat_natCast]
  rfl

/-- which width -/
def wk (p : Par) (k : Nat) : Nat := min k (p.ws.length - 1)
def costF (p : Par) (i j k : Nat) : Int := (demF (lnF p i j).h (nth p.ws (wk p k)) (lnF p i j).s (lnF p i j).k (decide (j = p.n))).1
theorem cost_c (p : Par) (i j k : Nat) (hi : i ≤ p.n) (hj : j ≤ p.n) (hk : k ≤ 1000000) (v : Value) (w : World) (hv : ParR w v p) :
    Calls Try.prog 16 #[v, .int .i64 (i : Nat), .int .i64 (j : Nat), .int .i64 (k : Nat)] w fun e w' => e = .returned (.int .i64 (costF p i j k)) ∧ Below w.heap.size w w' := by
  obtain ⟨b, o, rfl⟩ := hv.val
  refine calls_exec (cf := cf) cfok (fn := Try.f16) Try.func16 rfl [.bx 0 0, .v (.int .i64 (i : Nat)), .v (.int .i64 (j : Nat)), .v (.int .i64 (k : Nat))] [.rp [] (parD p)] (ρ := fun _ => .pointer (some ⟨b, o, none⟩)) (· < w.heap.size) rfl rfl rfl (by simp [svOkL, svOk]) (memRd (fun _ h => h) ⟨hv, trivial⟩) ?_
  have hw := p.hw
  refine Or.inr (lcall_repA [.v (.int .i64 (lnF p i j).h), .v (.int .i64 (lnF p i j).s), .v (.int .i64 (lnF p i j).k)] (fun ρ S w hm => (line_c p i j hi hj _ w (hm.rp 0 rfl rfl)).mono fun e w' hh => ⟨[_, _, _], hh.1, hh.2, rfl, rfl, rfl, trivial⟩) ?_)
  have e1 : min (k : Int) (IntKind.i64.wrap ((p.ws.length : Int) - 1)) = ((wk p k : Nat) : Int) := by
    rw [i64_id ((p.ws.length : Int) - 1) (by omega) (by omega)]; unfold wk; omega
  have hwk : wk p k < p.ws.length := by unfold wk; omega
  refine Or.inl ⟨by kernel_rfl, ?_⟩
  refine And.intro ⟨(show (0 : Int) ≤ min (k : Int) (IntKind.i64.wrap ((p.ws.length : Int) - 1)) by rw [e1]; omega), (show min (k : Int) (IntKind.i64.wrap ((p.ws.length : Int) - 1)) < ((p.ws.length : Nat) : Int) by rw [e1]; omega)⟩ ?_
  have e3 : decide ((j : Int) = (p.n : Int)) = decide (j = p.n) := by rw [decide_eq_decide]; omega
  refine ⟨.tuple #[.int .i64 (costF p i j k), .int .i64 (demF (lnF p i j).h (nth p.ws (wk p k)) (lnF p i j).s (lnF p i j).k (decide (j = p.n))).2], fun ρ S w hm => ?_, ?_⟩
  · show Calls _ 21 #[_, .int .i64 (nth p.ws (min (k : Int) (IntKind.i64.wrap ((p.ws.length : Int) - 1))).toNat), _, _, .bool (decide ((j : Int) = (p.n : Int)))] _ _
    rw [e1, Int.toNat_natCast, e3]
    exact demerits_c _ _ _ _ _ w
  exact fun ρ S w' hi' => ⟨rfl, hi'.below⟩
end Go.Proofs.Ytiaaiihdamkeaaa
