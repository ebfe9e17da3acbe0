/-
  No cell of these rows narrows 'for every input' (looked for: loops, veiled, ifaces, maps, wideKeys, modest, calm, conditions, laid).
  DERIVED. THE GIVEN ROWS OF THIS SEAT. 3 by the template 'for every input the law returns true; each argument reads behind the call as it read before'; 0 by the template 'total and deterministic' (their statements: YtaiapnemlnmeiaaTotals.lean).
  GIVEN WITH THE SEED: the statements are not yours to turn. If you find one false, say at which input.
  Laid BY PROGRAM, IN A SANDBOX (cutbox-rows.mjs): the forced cells as the released guide's own fill.sh prints them over the translation 34e5f1f9f3cd5326… (all of the seat's roots in one cut). By AI agents, Wed Nov 11 2026. No macro, syntax, notation, axiom, sorry.
-/
import Derived.Test.YtaiapnemlnmeiaaChecked
import GoSem.Claim
import GoSem.ClaimJoined
import GoSem.ClaimMapViews
import Derived.JoinedTies
import Derived.KernelRfl
namespace Go.Proofs.Ytaiapnemlnmeiaa
/- THE CELL 'sum', in the pinned program and in every row, IS THE sha256 OF THE DUMP (.gsa) THAT YtaiapnemlnmeiaaProg.lean LOADS. Nothing in Lean hashes anything: it is a label: what it is worth is what the hold of that sum in a sandbox is worth. -/
noncomputable def Try.pinned : Pinned := { name := "ytaiapnemlnmeiaa", sum := "34e5f1f9f3cd5326ce6f766db98140a2909582176939a71e3b3dd8ae7b64b1f9", checked := Try.checked }
namespace Rows
def none {H : Type} : Left H := { results := [], args := [] }

/-- 'calamuslaw17.AttachMeets': WHATEVER THE INPUT: true; the input reads as it did. -/
def attachMeetsSpec : ChangeSpec := { name := "attachMeets", fn := fun _ => fun
  | [d1, d2, d3] => { results := [.lit (.bool true)], args := [d1, d2, d3] }
  | _ => none }
def attachMeetsRow : OpenClaim := { program := "ytaiapnemlnmeiaa", sum := "34e5f1f9f3cd5326ce6f766db98140a2909582176939a71e3b3dd8ae7b64b1f9", func := "calamus/calamuslaw17.AttachMeets", spec := "attachMeets", unfollowed := true, recurses := true, apart := false }
def AttachMeetsSaid : Prop := attachMeetsRow.holds Try.pinned (OpenSpec.ofChange attachMeetsSpec)

/-- ITS FALSE NEIGHBOUR: 'it returns false'. Refute it at one input. -/
def attachMeetsWrong : ChangeSpec := { name := "attachMeets", fn := fun _ => fun
  | [d1, d2, d3] => { results := [.lit (.bool false)], args := [d1, d2, d3] }
  | _ => none }
def AttachMeetsWrongFalsely : Prop := attachMeetsRow.holds Try.pinned (OpenSpec.ofChange attachMeetsWrong)

/-- 'calamuslaw17.AttachKerns': WHATEVER THE INPUT: true; the input reads as it did. -/
def attachKernsSpec : ChangeSpec := { name := "attachKerns", fn := fun _ => fun
  | [d1, d2, d3] => { results := [.lit (.bool true)], args := [d1, d2, d3] }
  | _ => none }
def attachKernsRow : OpenClaim := { program := "ytaiapnemlnmeiaa", sum := "34e5f1f9f3cd5326ce6f766db98140a2909582176939a71e3b3dd8ae7b64b1f9", func := "calamus/calamuslaw17.AttachKerns", spec := "attachKerns", unfollowed := true, recurses := true, apart := false }
def AttachKernsSaid : Prop := attachKernsRow.holds Try.pinned (OpenSpec.ofChange attachKernsSpec)

/-- ITS FALSE NEIGHBOUR: 'it returns false'. Refute it at one input. -/
def attachKernsWrong : ChangeSpec := { name := "attachKerns", fn := fun _ => fun
  | [d1, d2, d3] => { results := [.lit (.bool false)], args := [d1, d2, d3] }
  | _ => none }
def AttachKernsWrongFalsely : Prop := attachKernsRow.holds Try.pinned (OpenSpec.ofChange attachKernsWrong)

/-- 'calamuslaw17.AttachPens': WHATEVER THE INPUT: true; the input reads as it did. -/
def attachPensSpec : ChangeSpec := { name := "attachPens", fn := fun _ => fun
  | [d1, d2] => { results := [.lit (.bool true)], args := [d1, d2] }
  | _ => none }
def attachPensRow : OpenClaim := { program := "ytaiapnemlnmeiaa", sum := "34e5f1f9f3cd5326ce6f766db98140a2909582176939a71e3b3dd8ae7b64b1f9", func := "calamus/calamuslaw17.AttachPens", spec := "attachPens", unfollowed := true, recurses := true, apart := false }
def AttachPensSaid : Prop := attachPensRow.holds Try.pinned (OpenSpec.ofChange attachPensSpec)

/-- ITS FALSE NEIGHBOUR: 'it returns false'. Refute it at one input. -/
def attachPensWrong : ChangeSpec := { name := "attachPens", fn := fun _ => fun
  | [d1, d2] => { results := [.lit (.bool false)], args := [d1, d2] }
  | _ => none }
def AttachPensWrongFalsely : Prop := attachPensRow.holds Try.pinned (OpenSpec.ofChange attachPensWrong)

/- THE SECOND FORM. 'bulk': how many values and letters a reading holds, each counted each time it is reached (what is shared counts as often as it is met; a slice's spare places count too). A statement '..UptoSaid' is the law's where the arguments, and the package variables that the reading takes, are together of bulk at most 1048576: NARROWER than '..Said'. Prove '..Said' where nothing that the law and all that it calls make is longer than what came in: it says more and counts as full. Else prove '..UptoSaid'. A law counts once. -/
mutual
def uptoBulk {H : Type} : DataW H → Nat
  | .lit (.string bytes) => bytes.length + 1
  | .lit _ => 1
  | .nil => 1
  | .ptr d => uptoBulk d + 1
  | .slice elems spare => uptoBulkAll elems + uptoBulkAll spare + 1
  | .agg parts => uptoBulkAll parts + 1
  | .iface _ d => uptoBulk d + 1
  | .map entries => uptoBulkEntries entries + 1
  | .held _ => 1
def uptoBulkAll {H : Type} : List (DataW H) → Nat
  | [] => 0
  | d :: r => uptoBulk d + uptoBulkAll r
def uptoBulkEntries {H : Type} : List (Lit × DataW H) → Nat
  | [] => 0
  | x :: r => uptoBulkEntry x + uptoBulkEntries r
def uptoBulkEntry {H : Type} : Lit × DataW H → Nat
  | (.string bytes, d) => bytes.length + uptoBulk d + 1
  | (_, d) => uptoBulk d + 1
 end
def uptoSmall : (H : Type) → List (DataW H) → Bool := fun _ ds => decide (uptoBulkAll ds ≤ 1048576)
def OpenSpec.upto (s : _root_.Go.ChangeSpec) : _root_.Go.OpenSpec := { _root_.Go.OpenSpec.ofChange s with cond := some uptoSmall }

/-- 'calamuslaw17.AttachMeets', WHERE WHAT IT READS IS OF BULK AT MOST 1048576: true; the input reads as it did. -/
def attachMeetsUptoRow : OpenClaim := { program := "ytaiapnemlnmeiaa", sum := "34e5f1f9f3cd5326ce6f766db98140a2909582176939a71e3b3dd8ae7b64b1f9", func := "calamus/calamuslaw17.AttachMeets", spec := "attachMeets", unfollowed := true, recurses := true, apart := false, narrowed := true }
def AttachMeetsUptoSaid : Prop := attachMeetsUptoRow.holds Try.pinned (OpenSpec.upto attachMeetsSpec)

/-- 'calamuslaw17.AttachKerns', WHERE WHAT IT READS IS OF BULK AT MOST 1048576: true; the input reads as it did. -/
def attachKernsUptoRow : OpenClaim := { program := "ytaiapnemlnmeiaa", sum := "34e5f1f9f3cd5326ce6f766db98140a2909582176939a71e3b3dd8ae7b64b1f9", func := "calamus/calamuslaw17.AttachKerns", spec := "attachKerns", unfollowed := true, recurses := true, apart := false, narrowed := true }
def AttachKernsUptoSaid : Prop := attachKernsUptoRow.holds Try.pinned (OpenSpec.upto attachKernsSpec)

/-- 'calamuslaw17.AttachPens', WHERE WHAT IT READS IS OF BULK AT MOST 1048576: true; the input reads as it did. -/
def attachPensUptoRow : OpenClaim := { program := "ytaiapnemlnmeiaa", sum := "34e5f1f9f3cd5326ce6f766db98140a2909582176939a71e3b3dd8ae7b64b1f9", func := "calamus/calamuslaw17.AttachPens", spec := "attachPens", unfollowed := true, recurses := true, apart := false, narrowed := true }
def AttachPensUptoSaid : Prop := attachPensUptoRow.holds Try.pinned (OpenSpec.upto attachPensSpec)

end Rows
end Go.Proofs.Ytaiapnemlnmeiaa
