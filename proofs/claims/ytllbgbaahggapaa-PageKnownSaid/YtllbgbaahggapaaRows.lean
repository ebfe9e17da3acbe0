/-
  No cell of these rows narrows 'for every input' (looked for: loops, veiled, ifaces, maps, wideKeys, modest, calm, conditions, laid).
  DERIVED. THE GIVEN ROWS OF THIS SEAT. 4 by the template 'for every input the law returns true; each argument reads behind the call as it read before'; 0 by the template 'total and deterministic' (their statements: YtllbgbaahggapaaTotals.lean).
  GIVEN WITH THE SEED: the statements are not yours to turn. If you find one false, say at which input.
  Laid BY PROGRAM, IN A SANDBOX (cutbox-rows.mjs): the forced cells as the released guide's own fill.sh prints them over the translation e115623c81bb67f1… (all of the seat's roots in one cut). By AI agents, Wed Nov 11 2026. No macro, syntax, notation, axiom, sorry.
-/
import Derived.Test.YtllbgbaahggapaaChecked
import GoSem.Claim
import GoSem.ClaimJoined
import GoSem.ClaimMapViews
import Derived.JoinedTies
import Derived.KernelRfl
namespace Go.Proofs.Ytllbgbaahggapaa
/- THE CELL 'sum', in the pinned program and in every row, IS THE sha256 OF THE DUMP (.gsa) THAT YtllbgbaahggapaaProg.lean LOADS. Nothing in Lean hashes anything: it is a label: what it is worth is what the hold of that sum in a sandbox is worth. -/
noncomputable def Try.pinned : Pinned := { name := "ytllbgbaahggapaa", sum := "e115623c81bb67f1cf8a636b7b2d76c84e4917e1909f723e24b090c2cf34bb36", checked := Try.checked }
namespace Rows
def none {H : Type} : Left H := { results := [], args := [] }

/-- 'calamuslaw22.PageFills': WHATEVER THE INPUT: true; the input reads as it did. -/
def pageFillsSpec : ChangeSpec := { name := "pageFills", fn := fun _ => fun
  | [d1, d2, d3, d4] => { results := [.lit (.bool true)], args := [d1, d2, d3, d4] }
  | _ => none }
def pageFillsRow : OpenClaim := { program := "ytllbgbaahggapaa", sum := "e115623c81bb67f1cf8a636b7b2d76c84e4917e1909f723e24b090c2cf34bb36", func := "calamus/calamuslaw22.PageFills", spec := "pageFills", unfollowed := true, recurses := true, apart := false }
def PageFillsSaid : Prop := pageFillsRow.holds Try.pinned (OpenSpec.ofChange pageFillsSpec)

/-- ITS FALSE NEIGHBOUR: 'it returns false'. Refute it at one input. -/
def pageFillsWrong : ChangeSpec := { name := "pageFills", fn := fun _ => fun
  | [d1, d2, d3, d4] => { results := [.lit (.bool false)], args := [d1, d2, d3, d4] }
  | _ => none }
def PageFillsWrongFalsely : Prop := pageFillsRow.holds Try.pinned (OpenSpec.ofChange pageFillsWrong)

/-- 'calamuslaw22.PageWidths': WHATEVER THE INPUT: true; the input reads as it did. -/
def pageWidthsSpec : ChangeSpec := { name := "pageWidths", fn := fun _ => fun
  | [d1, d2, d3, d4, d5] => { results := [.lit (.bool true)], args := [d1, d2, d3, d4, d5] }
  | _ => none }
def pageWidthsRow : OpenClaim := { program := "ytllbgbaahggapaa", sum := "e115623c81bb67f1cf8a636b7b2d76c84e4917e1909f723e24b090c2cf34bb36", func := "calamus/calamuslaw22.PageWidths", spec := "pageWidths", unfollowed := true, recurses := true, apart := false }
def PageWidthsSaid : Prop := pageWidthsRow.holds Try.pinned (OpenSpec.ofChange pageWidthsSpec)

/-- ITS FALSE NEIGHBOUR: 'it returns false'. Refute it at one input. -/
def pageWidthsWrong : ChangeSpec := { name := "pageWidths", fn := fun _ => fun
  | [d1, d2, d3, d4, d5] => { results := [.lit (.bool false)], args := [d1, d2, d3, d4, d5] }
  | _ => none }
def PageWidthsWrongFalsely : Prop := pageWidthsRow.holds Try.pinned (OpenSpec.ofChange pageWidthsWrong)

/-- 'calamuslaw22.PageJoins': WHATEVER THE INPUT: true; the input reads as it did. -/
def pageJoinsSpec : ChangeSpec := { name := "pageJoins", fn := fun _ => fun
  | [d1, d2, d3] => { results := [.lit (.bool true)], args := [d1, d2, d3] }
  | _ => none }
def pageJoinsRow : OpenClaim := { program := "ytllbgbaahggapaa", sum := "e115623c81bb67f1cf8a636b7b2d76c84e4917e1909f723e24b090c2cf34bb36", func := "calamus/calamuslaw22.PageJoins", spec := "pageJoins", unfollowed := true, recurses := true, apart := false }
def PageJoinsSaid : Prop := pageJoinsRow.holds Try.pinned (OpenSpec.ofChange pageJoinsSpec)

/-- ITS FALSE NEIGHBOUR: 'it returns false'. Refute it at one input. -/
def pageJoinsWrong : ChangeSpec := { name := "pageJoins", fn := fun _ => fun
  | [d1, d2, d3] => { results := [.lit (.bool false)], args := [d1, d2, d3] }
  | _ => none }
def PageJoinsWrongFalsely : Prop := pageJoinsRow.holds Try.pinned (OpenSpec.ofChange pageJoinsWrong)

/-- 'calamuslaw22.PageKnown': WHATEVER THE INPUT: true; the input reads as it did. -/
def pageKnownSpec : ChangeSpec := { name := "pageKnown", fn := fun _ => fun
  | [] => { results := [.lit (.bool true)], args := [] }
  | _ => none }
def pageKnownRow : OpenClaim := { program := "ytllbgbaahggapaa", sum := "e115623c81bb67f1cf8a636b7b2d76c84e4917e1909f723e24b090c2cf34bb36", func := "calamus/calamuslaw22.PageKnown", spec := "pageKnown", unfollowed := true, recurses := true, apart := false }
def PageKnownSaid : Prop := pageKnownRow.holds Try.pinned (OpenSpec.ofChange pageKnownSpec)

/-- ITS FALSE NEIGHBOUR: 'it returns false'. Refute it at one input. -/
def pageKnownWrong : ChangeSpec := { name := "pageKnown", fn := fun _ => fun
  | [] => { results := [.lit (.bool false)], args := [] }
  | _ => none }
def PageKnownWrongFalsely : Prop := pageKnownRow.holds Try.pinned (OpenSpec.ofChange pageKnownWrong)

/- THE SECOND FORM. 'bulk': how many values and letters a reading holds, each counted each time it is reached (what is shared counts as often as it is met; a slice's spare places count too). A statement '..UptoSaid' is the law's where the arguments, and the package variables that the reading takes, are together of bulk at most 1048576: NARROWER than '..Said'. Prove '..Said' where nothing that the law and all that it calls make is longer than what came in: it says more and counts as full. Else prove '..UptoSaid'. A law counts once. -/
mutual
def uptoBulk {H : Type} : DataW H → Nat
  | .lit (.string bytes) => bytes.length + 1
  | .lit _ => 1
  | .nil => 1
  | .ptr d => uptoBulk d + 1
  | .slice elems spare => uptoBulkAll elems + uptoBulkAll spare + 1
  | .agg parts => uptoBulkAll parts + 1
  | .iface _ d => uptoBulk d + 1
  | .map entries => uptoBulkEntries entries + 1
  | .held _ => 1
def uptoBulkAll {H : Type} : List (DataW H) → Nat
  | [] => 0
  | d :: r => uptoBulk d + uptoBulkAll r
def uptoBulkEntries {H : Type} : List (Lit × DataW H) → Nat
  | [] => 0
  | x :: r => uptoBulkEntry x + uptoBulkEntries r
def uptoBulkEntry {H : Type} : Lit × DataW H → Nat
  | (.string bytes, d) => bytes.length + uptoBulk d + 1
  | (_, d) => uptoBulk d + 1
 end
def uptoSmall : (H : Type) → List (DataW H) → Bool := fun _ ds => decide (uptoBulkAll ds ≤ 1048576)
def OpenSpec.upto (s : _root_.Go.ChangeSpec) : _root_.Go.OpenSpec := { _root_.Go.OpenSpec.ofChange s with cond := some uptoSmall }

/-- 'calamuslaw22.PageFills', WHERE WHAT IT READS IS OF BULK AT MOST 1048576: true; the input reads as it did. -/
def pageFillsUptoRow : OpenClaim := { program := "ytllbgbaahggapaa", sum := "e115623c81bb67f1cf8a636b7b2d76c84e4917e1909f723e24b090c2cf34bb36", func := "calamus/calamuslaw22.PageFills", spec := "pageFills", unfollowed := true, recurses := true, apart := false, narrowed := true }
def PageFillsUptoSaid : Prop := pageFillsUptoRow.holds Try.pinned (OpenSpec.upto pageFillsSpec)

/-- 'calamuslaw22.PageWidths', WHERE WHAT IT READS IS OF BULK AT MOST 1048576: true; the input reads as it did. -/
def pageWidthsUptoRow : OpenClaim := { program := "ytllbgbaahggapaa", sum := "e115623c81bb67f1cf8a636b7b2d76c84e4917e1909f723e24b090c2cf34bb36", func := "calamus/calamuslaw22.PageWidths", spec := "pageWidths", unfollowed := true, recurses := true, apart := false, narrowed := true }
def PageWidthsUptoSaid : Prop := pageWidthsUptoRow.holds Try.pinned (OpenSpec.upto pageWidthsSpec)

/-- 'calamuslaw22.PageJoins', WHERE WHAT IT READS IS OF BULK AT MOST 1048576: true; the input reads as it did. -/
def pageJoinsUptoRow : OpenClaim := { program := "ytllbgbaahggapaa", sum := "e115623c81bb67f1cf8a636b7b2d76c84e4917e1909f723e24b090c2cf34bb36", func := "calamus/calamuslaw22.PageJoins", spec := "pageJoins", unfollowed := true, recurses := true, apart := false, narrowed := true }
def PageJoinsUptoSaid : Prop := pageJoinsUptoRow.holds Try.pinned (OpenSpec.upto pageJoinsSpec)

/-- 'calamuslaw22.PageKnown', WHERE WHAT IT READS IS OF BULK AT MOST 1048576: true; the input reads as it did. -/
def pageKnownUptoRow : OpenClaim := { program := "ytllbgbaahggapaa", sum := "e115623c81bb67f1cf8a636b7b2d76c84e4917e1909f723e24b090c2cf34bb36", func := "calamus/calamuslaw22.PageKnown", spec := "pageKnown", unfollowed := true, recurses := true, apart := false, narrowed := true }
def PageKnownUptoSaid : Prop := pageKnownUptoRow.holds Try.pinned (OpenSpec.upto pageKnownSpec)

end Rows
end Go.Proofs.Ytllbgbaahggapaa
