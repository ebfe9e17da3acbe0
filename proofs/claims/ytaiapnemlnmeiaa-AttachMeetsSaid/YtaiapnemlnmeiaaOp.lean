/- Rows of numbers, as the statements' readings give them. -/
import Derived.Test.YtaiapnemlnmeiaaT16
namespace Go.Proofs.Ytaiapnemlnmeiaa
open Go Go.Eng Go.RowKit

theorem opI32s : Opens Try.prog 43 1 (fun xs : List Int => [.sl Int inferInstance 1 jE xs]) (fun xs => xs.length ≤ maxLen ∧ ∀ x ∈ xs, (Lit.int .i32 x).wf = true) :=
  opens_slice Try.underlying43 (by kernel_rfl) (by decide) (opens_int Try.underlying21)
theorem opWords : Opens Try.prog 24 1 (fun xs : List Int => [.sl Int inferInstance 1 hE xs]) (fun xs => xs.length ≤ maxLen ∧ ∀ x ∈ xs, (Lit.int .u16 x).wf = true) :=
  opens_slice Try.underlying24 (by kernel_rfl) (by decide) (opens_int Try.underlying22)
theorem u16_wf {n : Int} (h : (Lit.int .u16 n).wf = true) : 0 ≤ n ∧ n ≤ 65535 := by
  simp [Lit.wf] at h; exact h
theorem i16_wf {n : Int} (h : (Lit.int .i16 n).wf = true) : -32768 ≤ n ∧ n ≤ 32767 := by
  simp [Lit.wf] at h; exact h
end Go.Proofs.Ytaiapnemlnmeiaa
