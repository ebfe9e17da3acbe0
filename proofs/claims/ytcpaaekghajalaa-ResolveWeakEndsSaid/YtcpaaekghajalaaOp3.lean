/- Rows of classes and of numbers, as the statements' readings give them. -/
import Derived.Test.YtcpaaekghajalaaV11
namespace Go.Proofs.Ytcpaaekghajalaa
open Go Go.Eng Go.RowKit

theorem opClasses : Opens Try.prog 22 1 (fun xs : List Int => [.sl Int inferInstance 1 cE xs]) (fun xs => xs.length ≤ maxLen ∧ ∀ x ∈ xs, (Lit.int .u8 x).wf = true) :=
  opens_slice Try.underlying22 (by kernel_rfl) (by decide) (opens_int Try.underlying23)
theorem opU16 : Opens Try.prog 33 1 (fun xs : List Int => [.sl Int inferInstance 1 uE xs]) (fun xs => xs.length ≤ maxLen ∧ ∀ x ∈ xs, (Lit.int .u16 x).wf = true) :=
  opens_slice Try.underlying33 (by kernel_rfl) (by decide) (opens_int Try.underlying34)
theorem u8_wf {n : Int} (h : (Lit.int .u8 n).wf = true) : 0 ≤ n ∧ n ≤ 255 := by
  simp [Lit.wf] at h; exact h
end Go.Proofs.Ytcpaaekghajalaa
