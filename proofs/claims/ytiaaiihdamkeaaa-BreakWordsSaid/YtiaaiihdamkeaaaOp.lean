/- Rows of yes and no, of numbers, of lines, as the statements' readings give them. -/
import Derived.Test.YtiaaiihdamkeaaaK17
namespace Go.Proofs.Ytiaaiihdamkeaaa
open Go Go.Eng Go.RowKit

theorem opBools : Opens Try.prog 22 1 (fun xs : List Bool => [.sl Bool inferInstance 1 bE xs]) (fun xs => xs.length ≤ maxLen ∧ ∀ x ∈ xs, True) :=
  opens_slice Try.underlying22 (by kernel_rfl) (by decide) (opens_bool Try.underlying4)
theorem opNums : Opens Try.prog 24 1 (fun xs : List Int => [.sl Int inferInstance 1 iE xs]) (fun xs => xs.length ≤ maxLen ∧ ∀ x ∈ xs, (Lit.int .i64 x).wf = true) :=
  opens_slice Try.underlying24 (by kernel_rfl) (by decide) (opens_int Try.underlying2)
theorem opLine : Opens Try.prog 37 3 lE (fun _ => True) :=
  Opens.map (opens_struct Try.underlying37 (by kernel_rfl) (opensF_cons rfl (by kernel_rfl) (opens_int Try.underlying2) (opensF_cons rfl (by kernel_rfl) (opens_int Try.underlying2) (opensF_cons rfl (by kernel_rfl) (opens_int Try.underlying2) opensF_nil)))) (fun x => (⟨x.1, x.2.1, x.2.2.1⟩ : Ln)) (fun _ => rfl) (fun _ _ => trivial)
theorem opLines : Opens Try.prog 23 1 (fun xs : List Ln => [.sl Ln inferInstance 3 lE xs]) (fun xs => xs.length ≤ maxLen ∧ ∀ x ∈ xs, True) :=
  opens_slice Try.underlying23 (by kernel_rfl) (by decide) opLine
end Go.Proofs.Ytiaaiihdamkeaaa
