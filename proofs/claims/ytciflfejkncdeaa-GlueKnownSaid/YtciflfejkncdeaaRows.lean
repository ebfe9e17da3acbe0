/-
  No cell of these rows narrows 'for every input' (looked for: loops, veiled, ifaces, maps, wideKeys, modest, calm, conditions, laid).
  DERIVED. THE GIVEN ROWS OF THIS SEAT. 6 by the template 'for every input the law returns true; each argument reads behind the call as it read before'; 0 by the template 'total and deterministic' (their statements: YtciflfejkncdeaaTotals.lean).
  GIVEN WITH THE SEED: the statements are not yours to turn. If you find one false, say at which input.
  Laid BY PROGRAM, IN A SANDBOX (cutbox-rows.mjs): the forced cells as the released guide's own fill.sh prints them over the translation 2f343e80b21a114e… (all of the seat's roots in one cut). By AI agents, Wed Nov 11 2026. No macro, syntax, notation, axiom, sorry.
-/
import Derived.Test.YtciflfejkncdeaaChecked
import GoSem.Claim
import GoSem.ClaimJoined
import GoSem.ClaimMapViews
import Derived.JoinedTies
import Derived.KernelRfl
namespace Go.Proofs.Ytciflfejkncdeaa
/- THE CELL 'sum', in the pinned program and in every row, IS THE sha256 OF THE DUMP (.gsa) THAT YtciflfejkncdeaaProg.lean LOADS. Nothing in Lean hashes anything: it is a label: what it is worth is what the hold of that sum in a sandbox is worth. -/
noncomputable def Try.pinned : Pinned := { name := "ytciflfejkncdeaa", sum := "2f343e80b21a114ee6142b79a989dca25ba03df9fbaaf3e42aeb62a1df0bf5d6", checked := Try.checked }
namespace Rows
def none {H : Type} : Left H := { results := [], args := [] }

/-- 'calamuslaw19.GlueBadness': WHATEVER THE INPUT: true; the input reads as it did. -/
def glueBadnessSpec : ChangeSpec := { name := "glueBadness", fn := fun _ => fun
  | [d1, d2, d3, d4] => { results := [.lit (.bool true)], args := [d1, d2, d3, d4] }
  | _ => none }
def glueBadnessRow : OpenClaim := { program := "ytciflfejkncdeaa", sum := "2f343e80b21a114ee6142b79a989dca25ba03df9fbaaf3e42aeb62a1df0bf5d6", func := "calamus/calamuslaw19.GlueBadness", spec := "glueBadness", unfollowed := true, recurses := true, named := ["math/bits.divideError", "math/bits.overflowError"], apart := false }
def GlueBadnessSaid : Prop := glueBadnessRow.holds Try.pinned (OpenSpec.ofChange glueBadnessSpec)

/-- ITS FALSE NEIGHBOUR: 'it returns false'. Refute it at one input. -/
def glueBadnessWrong : ChangeSpec := { name := "glueBadness", fn := fun _ => fun
  | [d1, d2, d3, d4] => { results := [.lit (.bool false)], args := [d1, d2, d3, d4] }
  | _ => none }
def GlueBadnessWrongFalsely : Prop := glueBadnessRow.holds Try.pinned (OpenSpec.ofChange glueBadnessWrong)

/-- 'calamuslaw19.GlueSpreads': WHATEVER THE INPUT: true; the input reads as it did. -/
def glueSpreadsSpec : ChangeSpec := { name := "glueSpreads", fn := fun _ => fun
  | [d1, d2] => { results := [.lit (.bool true)], args := [d1, d2] }
  | _ => none }
def glueSpreadsRow : OpenClaim := { program := "ytciflfejkncdeaa", sum := "2f343e80b21a114ee6142b79a989dca25ba03df9fbaaf3e42aeb62a1df0bf5d6", func := "calamus/calamuslaw19.GlueSpreads", spec := "glueSpreads", unfollowed := true, recurses := true, named := ["math/bits.divideError", "math/bits.overflowError"], apart := false }
def GlueSpreadsSaid : Prop := glueSpreadsRow.holds Try.pinned (OpenSpec.ofChange glueSpreadsSpec)

/-- ITS FALSE NEIGHBOUR: 'it returns false'. Refute it at one input. -/
def glueSpreadsWrong : ChangeSpec := { name := "glueSpreads", fn := fun _ => fun
  | [d1, d2] => { results := [.lit (.bool false)], args := [d1, d2] }
  | _ => none }
def GlueSpreadsWrongFalsely : Prop := glueSpreadsRow.holds Try.pinned (OpenSpec.ofChange glueSpreadsWrong)

/-- 'calamuslaw19.GlueSums': WHATEVER THE INPUT: true; the input reads as it did. -/
def glueSumsSpec : ChangeSpec := { name := "glueSums", fn := fun _ => fun
  | [d1, d2] => { results := [.lit (.bool true)], args := [d1, d2] }
  | _ => none }
def glueSumsRow : OpenClaim := { program := "ytciflfejkncdeaa", sum := "2f343e80b21a114ee6142b79a989dca25ba03df9fbaaf3e42aeb62a1df0bf5d6", func := "calamus/calamuslaw19.GlueSums", spec := "glueSums", unfollowed := true, recurses := true, named := ["math/bits.divideError", "math/bits.overflowError"], apart := false }
def GlueSumsSaid : Prop := glueSumsRow.holds Try.pinned (OpenSpec.ofChange glueSumsSpec)

/-- ITS FALSE NEIGHBOUR: 'it returns false'. Refute it at one input. -/
def glueSumsWrong : ChangeSpec := { name := "glueSums", fn := fun _ => fun
  | [d1, d2] => { results := [.lit (.bool false)], args := [d1, d2] }
  | _ => none }
def GlueSumsWrongFalsely : Prop := glueSumsRow.holds Try.pinned (OpenSpec.ofChange glueSumsWrong)

/-- 'calamuslaw19.GlueGrows': WHATEVER THE INPUT: true; the input reads as it did. -/
def glueGrowsSpec : ChangeSpec := { name := "glueGrows", fn := fun _ => fun
  | [d1, d2, d3, d4, d5] => { results := [.lit (.bool true)], args := [d1, d2, d3, d4, d5] }
  | _ => none }
def glueGrowsRow : OpenClaim := { program := "ytciflfejkncdeaa", sum := "2f343e80b21a114ee6142b79a989dca25ba03df9fbaaf3e42aeb62a1df0bf5d6", func := "calamus/calamuslaw19.GlueGrows", spec := "glueGrows", unfollowed := true, recurses := true, named := ["math/bits.divideError", "math/bits.overflowError"], apart := false }
def GlueGrowsSaid : Prop := glueGrowsRow.holds Try.pinned (OpenSpec.ofChange glueGrowsSpec)

/-- ITS FALSE NEIGHBOUR: 'it returns false'. Refute it at one input. -/
def glueGrowsWrong : ChangeSpec := { name := "glueGrows", fn := fun _ => fun
  | [d1, d2, d3, d4, d5] => { results := [.lit (.bool false)], args := [d1, d2, d3, d4, d5] }
  | _ => none }
def GlueGrowsWrongFalsely : Prop := glueGrowsRow.holds Try.pinned (OpenSpec.ofChange glueGrowsWrong)

/-- 'calamuslaw19.GlueDemerits': WHATEVER THE INPUT: true; the input reads as it did. -/
def glueDemeritsSpec : ChangeSpec := { name := "glueDemerits", fn := fun _ => fun
  | [d1, d2, d3, d4, d5] => { results := [.lit (.bool true)], args := [d1, d2, d3, d4, d5] }
  | _ => none }
def glueDemeritsRow : OpenClaim := { program := "ytciflfejkncdeaa", sum := "2f343e80b21a114ee6142b79a989dca25ba03df9fbaaf3e42aeb62a1df0bf5d6", func := "calamus/calamuslaw19.GlueDemerits", spec := "glueDemerits", unfollowed := true, recurses := true, named := ["math/bits.divideError", "math/bits.overflowError"], apart := false }
def GlueDemeritsSaid : Prop := glueDemeritsRow.holds Try.pinned (OpenSpec.ofChange glueDemeritsSpec)

/-- ITS FALSE NEIGHBOUR: 'it returns false'. Refute it at one input. -/
def glueDemeritsWrong : ChangeSpec := { name := "glueDemerits", fn := fun _ => fun
  | [d1, d2, d3, d4, d5] => { results := [.lit (.bool false)], args := [d1, d2, d3, d4, d5] }
  | _ => none }
def GlueDemeritsWrongFalsely : Prop := glueDemeritsRow.holds Try.pinned (OpenSpec.ofChange glueDemeritsWrong)

/-- 'calamuslaw19.GlueKnown': WHATEVER THE INPUT: true; the input reads as it did. -/
def glueKnownSpec : ChangeSpec := { name := "glueKnown", fn := fun _ => fun
  | [] => { results := [.lit (.bool true)], args := [] }
  | _ => none }
def glueKnownRow : OpenClaim := { program := "ytciflfejkncdeaa", sum := "2f343e80b21a114ee6142b79a989dca25ba03df9fbaaf3e42aeb62a1df0bf5d6", func := "calamus/calamuslaw19.GlueKnown", spec := "glueKnown", unfollowed := true, recurses := true, named := ["math/bits.divideError", "math/bits.overflowError"], apart := false }
def GlueKnownSaid : Prop := glueKnownRow.holds Try.pinned (OpenSpec.ofChange glueKnownSpec)

/-- ITS FALSE NEIGHBOUR: 'it returns false'. Refute it at one input. -/
def glueKnownWrong : ChangeSpec := { name := "glueKnown", fn := fun _ => fun
  | [] => { results := [.lit (.bool false)], args := [] }
  | _ => none }
def GlueKnownWrongFalsely : Prop := glueKnownRow.holds Try.pinned (OpenSpec.ofChange glueKnownWrong)

/- THE SECOND FORM. 'bulk': how many values and letters a reading holds, each counted each time it is reached (what is shared counts as often as it is met; a slice's spare places count too). A statement '..UptoSaid' is the law's where the arguments, and the package variables that the reading takes, are together of bulk at most 1048576: NARROWER than '..Said'. Prove '..Said' where nothing that the law and all that it calls make is longer than what came in: it says more and counts as full. Else prove '..UptoSaid'. A law counts once. -/
mutual
def uptoBulk {H : Type} : DataW H → Nat
  | .lit (.string bytes) => bytes.length + 1
  | .lit _ => 1
  | .nil => 1
  | .ptr d => uptoBulk d + 1
  | .slice elems spare => uptoBulkAll elems + uptoBulkAll spare + 1
  | .agg parts => uptoBulkAll parts + 1
  | .iface _ d => uptoBulk d + 1
  | .map entries => uptoBulkEntries entries + 1
  | .held _ => 1
def uptoBulkAll {H : Type} : List (DataW H) → Nat
  | [] => 0
  | d :: r => uptoBulk d + uptoBulkAll r
def uptoBulkEntries {H : Type} : List (Lit × DataW H) → Nat
  | [] => 0
  | x :: r => uptoBulkEntry x + uptoBulkEntries r
def uptoBulkEntry {H : Type} : Lit × DataW H → Nat
  | (.string bytes, d) => bytes.length + uptoBulk d + 1
  | (_, d) => uptoBulk d + 1
 end
def uptoSmall : (H : Type) → List (DataW H) → Bool := fun _ ds => decide (uptoBulkAll ds ≤ 1048576)
def OpenSpec.upto (s : _root_.Go.ChangeSpec) : _root_.Go.OpenSpec := { _root_.Go.OpenSpec.ofChange s with cond := some uptoSmall }

/-- 'calamuslaw19.GlueBadness', WHERE WHAT IT READS IS OF BULK AT MOST 1048576: true; the input reads as it did. -/
def glueBadnessUptoRow : OpenClaim := { program := "ytciflfejkncdeaa", sum := "2f343e80b21a114ee6142b79a989dca25ba03df9fbaaf3e42aeb62a1df0bf5d6", func := "calamus/calamuslaw19.GlueBadness", spec := "glueBadness", unfollowed := true, recurses := true, named := ["math/bits.divideError", "math/bits.overflowError"], apart := false, narrowed := true }
def GlueBadnessUptoSaid : Prop := glueBadnessUptoRow.holds Try.pinned (OpenSpec.upto glueBadnessSpec)

/-- 'calamuslaw19.GlueSpreads', WHERE WHAT IT READS IS OF BULK AT MOST 1048576: true; the input reads as it did. -/
def glueSpreadsUptoRow : OpenClaim := { program := "ytciflfejkncdeaa", sum := "2f343e80b21a114ee6142b79a989dca25ba03df9fbaaf3e42aeb62a1df0bf5d6", func := "calamus/calamuslaw19.GlueSpreads", spec := "glueSpreads", unfollowed := true, recurses := true, named := ["math/bits.divideError", "math/bits.overflowError"], apart := false, narrowed := true }
def GlueSpreadsUptoSaid : Prop := glueSpreadsUptoRow.holds Try.pinned (OpenSpec.upto glueSpreadsSpec)

/-- 'calamuslaw19.GlueSums', WHERE WHAT IT READS IS OF BULK AT MOST 1048576: true; the input reads as it did. -/
def glueSumsUptoRow : OpenClaim := { program := "ytciflfejkncdeaa", sum := "2f343e80b21a114ee6142b79a989dca25ba03df9fbaaf3e42aeb62a1df0bf5d6", func := "calamus/calamuslaw19.GlueSums", spec := "glueSums", unfollowed := true, recurses := true, named := ["math/bits.divideError", "math/bits.overflowError"], apart := false, narrowed := true }
def GlueSumsUptoSaid : Prop := glueSumsUptoRow.holds Try.pinned (OpenSpec.upto glueSumsSpec)

/-- 'calamuslaw19.GlueGrows', WHERE WHAT IT READS IS OF BULK AT MOST 1048576: true; the input reads as it did. -/
def glueGrowsUptoRow : OpenClaim := { program := "ytciflfejkncdeaa", sum := "2f343e80b21a114ee6142b79a989dca25ba03df9fbaaf3e42aeb62a1df0bf5d6", func := "calamus/calamuslaw19.GlueGrows", spec := "glueGrows", unfollowed := true, recurses := true, named := ["math/bits.divideError", "math/bits.overflowError"], apart := false, narrowed := true }
def GlueGrowsUptoSaid : Prop := glueGrowsUptoRow.holds Try.pinned (OpenSpec.upto glueGrowsSpec)

/-- 'calamuslaw19.GlueDemerits', WHERE WHAT IT READS IS OF BULK AT MOST 1048576: true; the input reads as it did. -/
def glueDemeritsUptoRow : OpenClaim := { program := "ytciflfejkncdeaa", sum := "2f343e80b21a114ee6142b79a989dca25ba03df9fbaaf3e42aeb62a1df0bf5d6", func := "calamus/calamuslaw19.GlueDemerits", spec := "glueDemerits", unfollowed := true, recurses := true, named := ["math/bits.divideError", "math/bits.overflowError"], apart := false, narrowed := true }
def GlueDemeritsUptoSaid : Prop := glueDemeritsUptoRow.holds Try.pinned (OpenSpec.upto glueDemeritsSpec)

/-- 'calamuslaw19.GlueKnown', WHERE WHAT IT READS IS OF BULK AT MOST 1048576: true; the input reads as it did. -/
def glueKnownUptoRow : OpenClaim := { program := "ytciflfejkncdeaa", sum := "2f343e80b21a114ee6142b79a989dca25ba03df9fbaaf3e42aeb62a1df0bf5d6", func := "calamus/calamuslaw19.GlueKnown", spec := "glueKnown", unfollowed := true, recurses := true, named := ["math/bits.divideError", "math/bits.overflowError"], apart := false, narrowed := true }
def GlueKnownUptoSaid : Prop := glueKnownUptoRow.holds Try.pinned (OpenSpec.upto glueKnownSpec)

end Rows
end Go.Proofs.Ytciflfejkncdeaa
