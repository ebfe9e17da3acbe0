/- How the laws' arguments open: frames, numbers, a spot, as the engine's data. -/
import Derived.Test.YtllbgbaahggapaaW11
namespace Go.Proofs.Ytllbgbaahggapaa
open Go Go.Eng Go.RowKit

theorem opFrame0 : Opens Try.prog 33 4 (fun x : Int × Int × Int × Int × Unit => [DV.v (.int .i64 x.1)] ++ ([DV.v (.int .i64 x.2.1)] ++ ([DV.v (.int .i64 x.2.2.1)] ++ ([DV.v (.int .i64 x.2.2.2.1)] ++ []))))
    (fun x => (Lit.int .i64 x.1).wf = true ∧ (Lit.int .i64 x.2.1).wf = true ∧ (Lit.int .i64 x.2.2.1).wf = true ∧ (Lit.int .i64 x.2.2.2.1).wf = true ∧ True) :=
  opens_struct Try.underlying33 (by kernel_rfl) (opensF_cons rfl (by kernel_rfl) (opens_int Try.underlying2) (opensF_cons rfl (by kernel_rfl) (opens_int Try.underlying2) (opensF_cons rfl (by kernel_rfl) (opens_int Try.underlying2) (opensF_cons rfl (by kernel_rfl) (opens_int Try.underlying2) opensF_nil))))
theorem opFrame : Opens Try.prog 33 4 Frame.enc (fun _ => True) :=
  Opens.map opFrame0 (fun x => (⟨x.1, x.2.1, x.2.2.1, x.2.2.2.1⟩ : Frame)) (fun _ => rfl) (fun _ _ => trivial)
theorem opFrames : Opens Try.prog 22 1 (fun xs : List Frame => [.sl Frame inferInstance 4 Frame.enc xs]) (fun xs => xs.length ≤ maxLen ∧ ∀ x ∈ xs, True) :=
  opens_slice Try.underlying22 (by kernel_rfl) (by decide) opFrame
theorem opInts : Opens Try.prog 23 1 (fun xs : List Int => [.sl Int inferInstance 1 iDV xs]) (fun xs => xs.length ≤ maxLen ∧ ∀ x ∈ xs, (Lit.int .i64 x).wf = true) :=
  opens_slice Try.underlying23 (by kernel_rfl) (by decide) (opens_int Try.underlying3)
theorem opSpot0 : Opens Try.prog 31 5 (fun x : Int × Int × Int × Int × Int × Unit => [DV.v (.int .i64 x.1)] ++ ([DV.v (.int .i64 x.2.1)] ++ ([DV.v (.int .i64 x.2.2.1)] ++ ([DV.v (.int .i64 x.2.2.2.1)] ++ ([DV.v (.int .i64 x.2.2.2.2.1)] ++ [])))))
    (fun x => (Lit.int .i64 x.1).wf = true ∧ (Lit.int .i64 x.2.1).wf = true ∧ (Lit.int .i64 x.2.2.1).wf = true ∧ (Lit.int .i64 x.2.2.2.1).wf = true ∧ (Lit.int .i64 x.2.2.2.2.1).wf = true ∧ True) :=
  opens_struct Try.underlying31 (by kernel_rfl) (opensF_cons rfl (by kernel_rfl) (opens_int Try.underlying3) (opensF_cons rfl (by kernel_rfl) (opens_int Try.underlying3) (opensF_cons rfl (by kernel_rfl) (opens_int Try.underlying3) (opensF_cons rfl (by kernel_rfl) (opens_int Try.underlying3) (opensF_cons rfl (by kernel_rfl) (opens_int Try.underlying2) opensF_nil)))))
theorem opSpot : Opens Try.prog 31 5 Spot.enc (fun _ => True) :=
  Opens.map opSpot0 (fun x => (⟨x.1, x.2.1, x.2.2.1, x.2.2.2.1, x.2.2.2.2.1⟩ : Spot)) (fun _ => rfl) (fun _ _ => trivial)
def Spot.flat (s : Spot) : List Value := [.int .i64 s.P, .int .i64 s.L, .int .i64 s.Pg, .int .i64 s.F, .int .i64 s.T]
end Go.Proofs.Ytllbgbaahggapaa
