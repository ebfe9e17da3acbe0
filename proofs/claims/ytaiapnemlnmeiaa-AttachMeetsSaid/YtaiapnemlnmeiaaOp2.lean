/- Rows of kerned pairs, as the statements' readings give them. -/
import Derived.Test.YtaiapnemlnmeiaaT18
import Derived.Test.YtaiapnemlnmeiaaOp
namespace Go.Proofs.Ytaiapnemlnmeiaa
open Go Go.Eng Go.RowKit

theorem opKern0 : Opens Try.prog 63 3 (fun x : Int × Int × Int × Unit => [DV.v (.int .u16 x.1)] ++ ([DV.v (.int .u16 x.2.1)] ++ ([DV.v (.int .i16 x.2.2.1)] ++ [])))
    (fun x => (Lit.int .u16 x.1).wf = true ∧ (Lit.int .u16 x.2.1).wf = true ∧ (Lit.int .i16 x.2.2.1).wf = true ∧ True) :=
  opens_struct Try.underlying63 (by kernel_rfl) (opensF_cons rfl (by kernel_rfl) (opens_int Try.underlying22) (opensF_cons rfl (by kernel_rfl) (opens_int Try.underlying22) (opensF_cons rfl (by kernel_rfl) (opens_int Try.underlying23) opensF_nil)))
theorem opKern : Opens Try.prog 63 3 keE (fun k => -32768 ≤ k.x ∧ k.x ≤ 32767) :=
  Opens.map opKern0 (fun x => (⟨x.1, x.2.1, x.2.2.1⟩ : Kern)) (fun _ => rfl) (fun _ h => i16_wf h.2.2.1)
theorem opKerns : Opens Try.prog 48 1 (fun xs : List Kern => [.sl Kern inferInstance 3 keE xs]) (fun xs => xs.length ≤ maxLen ∧ ∀ x ∈ xs, -32768 ≤ x.x ∧ x.x ≤ 32767) :=
  opens_slice Try.underlying48 (by kernel_rfl) (by decide) opKern
end Go.Proofs.Ytaiapnemlnmeiaa
