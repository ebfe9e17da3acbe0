/- works. -/
import Derived.Test.YtjflgkadagkllaaN13
import Derived.ChangeKeysEq
import Derived.ProofKit
set_option maxRecDepth 100000
set_option linter.unusedVariables false
namespace Go.Proofs.Ytjflgkadagkllaa
open Go Go.Eng Go.RowKit

theorem eqg59 : Try.prog.eqGuardType Try.prog.depth 59 = false := by kernel_rfl
theorem eqg64 : Try.prog.eqGuardType Try.prog.depth 64 = false := by kernel_rfl
theorem eqg135 : Try.prog.eqGuardType Try.prog.depth 135 = false := by kernel_rfl
theorem eq59 (a b c d : Int) (w : World) : (Op.equalIn 10000 59 (.agg [.int .u16 a, .int .u16 b, .int .i16 c, .int .i16 d].toArray) (.agg [.int .u16 a, .int .u16 b, .int .i16 c, .int .i16 d].toArray)).run Try.prog w = .ok true w := by
  have u2 := Try.underlying47
  have a2 := Try.isAgg47
  have z2 := Try.sizeOf47
  have u3 := Try.underlying57
  have a3 := Try.isAgg57
  have z3 := Try.sizeOf57
  have hS : Try.prog.underlying 59 = some (.struct (Try.prog.fieldsOf 59)) := by kernel_rfl
  rw [show (10000 : Nat) = 9999 + 1 from rfl, run_equalIn_agg w 9999 59 _ _ hS Try.stoodInHeld59]
  simp only [Program.fieldsOf, Try.underlying59]
  go_simp
theorem eq135 (a b c : Int) (w : World) : (Op.equalIn 10000 135 (.agg [.int .u16 a, .int .u16 b, .int .i16 c].toArray) (.agg [.int .u16 a, .int .u16 b, .int .i16 c].toArray)).run Try.prog w = .ok true w := by
  have u2 := Try.underlying47
  have a2 := Try.isAgg47
  have z2 := Try.sizeOf47
  have u3 := Try.underlying57
  have a3 := Try.isAgg57
  have z3 := Try.sizeOf57
  have hS : Try.prog.underlying 135 = some (.struct (Try.prog.fieldsOf 135)) := by kernel_rfl
  rw [show (10000 : Nat) = 9999 + 1 from rfl, run_equalIn_agg w 9999 135 _ _ hS Try.stoodInHeld135]
  simp only [Program.fieldsOf, Try.underlying135]
  go_simp
theorem eq64 (h : Bool) (a b : Int) (w : World) : (Op.equalIn 10000 64 (.agg [.bool h, .int .i16 a, .int .i16 b].toArray) (.agg [.bool h, .int .i16 a, .int .i16 b].toArray)).run Try.prog w = .ok true w := by
  have u2 := Try.underlying4
  have a2 := Try.isAgg4
  have z2 := Try.sizeOf4
  have u3 := Try.underlying57
  have a3 := Try.isAgg57
  have z3 := Try.sizeOf57
  have hS : Try.prog.underlying 64 = some (.struct (Try.prog.fieldsOf 64)) := by kernel_rfl
  rw [show (10000 : Nat) = 9999 + 1 from rfl, run_equalIn_agg w 9999 64 _ _ hS Try.stoodInHeld64]
  simp only [Program.fieldsOf, Try.underlying64]
  go_simp
theorem words_o (xs ys : List Int) (h : wsB xs = ys) (hl : xs.length ≤ 1000000) (v : Value) (w : World) (hv : Rd w v 1 zE xs) :
    Calls Try.prog 17 #[v] w fun e w' => ∃ u, e = .returned u ∧ Below w.heap.size w w' ∧ Fresh w w' u 5 1 bE ys := by
  subst h; exact words_mk xs hl v w hv
theorem wByt : Byt wB0 := Byt.of (by decide)
set_option maxHeartbeats 1000000 in
theorem works_c (w : World) : Calls Try.prog 6 #[] w fun e w' => e = .returned (.bool true) ∧ Below w.heap.size w w' := by
  refine calls_exec (cf := cf) cfok (fn := Try.f6) Try.func6 rfl [] [] (ρ := fun _ => undef) (· < w.heap.size) rfl rfl rfl (by simp [svOkL]) (memNil fun _ h => h) ?_
  refine Or.inr (lcall_frzTo [(0, .rd Int inferInstance 1 zE wNums)] ⟨rfl, ⟨rfl, rfl, rfl, fun y hy => rfl⟩, lcall_fresh wB0 (fun ρ S w hm => words_o wNums wB0 wk0 (by decide) _ w (hm.rd 0 rfl rfl)) ?_⟩)
  refine Or.inr (lcall_frzTo [(1, .rd Int inferInstance 1 bE wB0)] ⟨rfl, rfl, ?_⟩)
  refine lcall_sub [1] (open_s wB0 (by decide)) rfl rfl rfl rfl rfl (And.intro rfl trivial) ?_
  refine subSt_out [.rd Int inferInstance 1 zE wNums, .rd Int inferInstance 1 bE wB0, .bx 90 [.v (.bool false)], .rd Int inferInstance 1 bE wB0, .bx 93 [.bx 2 0, .sl 3]] [1, 2, 3, 4] rfl rfl ?_
  refine Or.inr (lcall_sub [2, 3, 4] (parse_s wB0 10 wByt (by decide) _ wk1) rfl rfl rfl rfl rfl (And.intro (And.intro rfl rfl) (And.intro rfl (And.intro (And.intro rfl rfl) trivial))) ?_)
  refine subSt_out [.rd Int inferInstance 1 zE wNums, .rd Int inferInstance 1 bE wB0, .dead, .rd Int inferInstance 1 bE wB0, .dead, owLk wL, owF []] [2, 3, 4, 5, 6] rfl rfl ?_
  refine And.intro (fun _ => ⟨by decide, by decide⟩) ?_
  refine And.intro (fun h => by cases h) (fun _ => ?_)
  refine And.intro ⟨by decide, by decide⟩ ?_
  refine And.intro ⟨by decide, by decide⟩ ?_
  refine And.intro (fun _ => ⟨by decide, by decide⟩) ?_
  refine ⟨_, fun _ => pure_aggEq (op := .eql) (.inl rfl) (l1 := [.int .u16 7, .int .u16 0, .int .i16 100, .int .i16 200]) (l2 := [.int .u16 7, .int .u16 0, .int .i16 100, .int .i16 200]) true rfl rfl (fun _ => rfl) (fun _ => rfl) eqg59 (fun w => eq59 _ _ _ _ w), ?_⟩
  refine And.intro (fun _ => ⟨by decide, by decide⟩) ?_
  refine And.intro (fun _ => ⟨by decide, by decide⟩) ?_
  refine And.intro (fun _ => ⟨by decide, by decide⟩) ?_
  refine ⟨_, fun _ => pure_aggEq (op := .eql) (.inl rfl) (l1 := [.bool true, .int .i16 10, .int .i16 20]) (l2 := [.bool true, .int .i16 10, .int .i16 20]) true rfl rfl (fun _ => rfl) (fun _ => rfl) eqg64 (fun w => eq64 _ _ _ w), ?_⟩
  exact fun ρ S w' hi => ⟨rfl, hi.below⟩
end Go.Proofs.Ytjflgkadagkllaa
