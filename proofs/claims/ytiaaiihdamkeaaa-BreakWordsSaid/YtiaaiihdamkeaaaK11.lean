/- works: the chapter's second example. -/
import Derived.Test.YtiaaiihdamkeaaaK10
set_option maxRecDepth 100000
set_option linter.unusedVariables false
namespace Go.Proofs.Ytiaaiihdamkeaaa
open Go Go.Eng Go.RowKit Go.Ar

theorem may_iff {must : List Bool} {lines : List Ln} {ws : List Int} (m : 2 ≤ must.length ∧ must.length ≤ 257) (l : lines.length = must.length * must.length) (w : 1 ≤ ws.length ∧ ws.length ≤ 65536) (b : ws.any badB = false) (x : ∀ i, i < must.length → ∀ j, j < must.length → i < j → okLn (nth lines (i * must.length + j)) = true) : May must lines ws :=
  ⟨m, l, w, b, fun i j h h' => x i (by omega) j h' h⟩
def wLn : List Ln := [⟨0, 0, 0⟩, ⟨50, 10, 10⟩, ⟨100, 10, 10⟩, ⟨0, 0, 0⟩, ⟨0, 0, 0⟩, ⟨50, 10, 10⟩, ⟨0, 0, 0⟩, ⟨0, 0, 0⟩, ⟨0, 0, 0⟩]
theorem wMay : May [false, false, false] wLn [60] := may_iff (by decide) (by decide) (by decide) (by decide) (by decide)
def wPar : Par := wMay.par
theorem wBest : (best wPar 0 0).2 = 12200 := by decide +kernel
theorem wWay : wayL wPar 0 0 = [1, 2] := by decide +kernel
theorem wTot : totF wPar 0 0 [2] = 1000000000030 := by decide +kernel
theorem w2Ok : WayOk [false, false, false] 2 0 [2] := ⟨by decide, by decide, fun q h1 h2 => by
  have : q = 1 := by omega
  subst this; rfl, rfl⟩
theorem works_c (w : World) : Calls Try.prog 7 #[] w fun e w' => e = .returned (.bool true) ∧ Below w.heap.size w w' := by
  refine calls_exec (cf := cf) cfok (fn := Try.f7) Try.func7 rfl [] [] (ρ := fun _ => undef) (· < w.heap.size) rfl rfl rfl (by simp [svOkL, svOk]) (memNil fun _ h => h) ?_
  refine ⟨Ln, inferInstance, lE, ⟨0, 0, 0⟩, rfl, by decide, by decide, by decide, rfl, ?_⟩
  refine And.intro ⟨by decide, by decide⟩ ?_
  refine ⟨⟨50, 10, 10⟩, rfl, rfl, ?_⟩
  refine And.intro ⟨by decide, by decide⟩ ?_
  refine And.intro ⟨by decide, by decide⟩ ?_
  refine ⟨⟨50, 10, 10⟩, rfl, rfl, ?_⟩
  refine And.intro ⟨by decide, by decide⟩ ?_
  refine ⟨⟨100, 10, 10⟩, rfl, rfl, ?_⟩
  refine ⟨Bool, inferInstance, bE, false, rfl, by decide, by decide, by decide, rfl, ?_⟩
  refine Or.inr (lcall_frzTo [(0, .rd Ln inferInstance 3 lE wLn), (1, .rd Bool inferInstance 1 bE [false, false, false]), (2, .rd Int inferInstance 1 iE [60])] ⟨rfl, rfl, rfl, rfl, rfl, ⟨rfl, rfl, rfl, fun y hy => rfl⟩, ?_⟩)
  refine lcall_reps (brkD (wayL wPar 0 0) (best wPar 0 0).2 0) (fun ρ S w hm => break_p wPar wMay rfl _ _ _ w S hm.lt (hm.rdS 1 rfl rfl) (hm.rdS 0 rfl rfl) (hm.rdS 2 rfl rfl)) ?_
  rw [wBest, wWay]
  refine ⟨Bool, inferInstance, bE, false, rfl, by decide, by decide, by decide, rfl, ?_⟩
  refine Or.inr (lcall_frzTo [(4, .rd Bool inferInstance 1 bE [false, false, false]), (5, .rd Int inferInstance 1 iE [60]), (6, .rd Nat inferInstance 1 nE [2])] ⟨rfl, rfl, rfl, ⟨rfl, rfl, rfl, fun y hy => rfl⟩, rfl, ⟨rfl, rfl, rfl, fun y hy => rfl⟩, ?_⟩)
  refine lcall_reps [.v (.int .i64 (totF wPar 0 0 [2])), .v (.int .i64 0)] (fun ρ S w hm => (total_p wPar wMay rfl [2] w2Ok _ _ _ _ w (hm.rd 4 rfl rfl) (hm.rd 0 rfl rfl) (hm.rd 5 rfl rfl) (hm.rd 6 rfl rfl)).mono fun e w' hh => ⟨[_, _], hh.1, hh.2, rfl, rfl, trivial⟩) ?_
  rw [wTot]
  refine Or.inr (Or.inl ⟨And.intro rfl trivial, ?_⟩)
  refine Or.inr (Or.inl ⟨And.intro rfl trivial, ?_⟩)
  refine Or.inr (lcall_frzTo [(7, .rd Nat inferInstance 1 nE [1, 2])] ⟨rfl, ⟨rfl, rfl, rfl, fun y hy => rfl⟩, ?_⟩)
  refine lcall_rep1 (.v (.bool true)) (fun ρ S w hm => (same_c [1, 2] [1, 2] _ _ w (by decide) (hm.rd 3 rfl rfl) (hm.rd 7 rfl rfl)).mono fun e w' hh => ⟨_, hh.1, hh.2, rfl⟩) ?_
  exact fun ρ S w' hi => ⟨rfl, hi.below⟩
end Go.Proofs.Ytiaaiihdamkeaaa
