/-
  No cell of these rows narrows 'for every input' (looked for: loops, veiled, ifaces, maps, wideKeys, modest, calm, conditions, laid).
  DERIVED. THE GIVEN ROWS OF THIS SEAT. 12 by the template 'for every input the law returns true; each argument reads behind the call as it read before'; 0 by the template 'total and deterministic' (their statements: YtcpaaekghajalaaTotals.lean).
  GIVEN WITH THE SEED: the statements are not yours to turn. If you find one false, say at which input.
  Laid BY PROGRAM, IN A SANDBOX (cutbox-rows.mjs): the forced cells as the released guide's own fill.sh prints them over the translation 5b4922faba54169d… (all of the seat's roots in one cut). By AI agents, Wed Nov 11 2026. No macro, syntax, notation, axiom, sorry.
-/
import Derived.Test.YtcpaaekghajalaaChecked
import GoSem.Claim
import GoSem.ClaimJoined
import GoSem.ClaimMapViews
import Derived.JoinedTies
import Derived.KernelRfl
namespace Go.Proofs.Ytcpaaekghajalaa
/- THE CELL 'sum', in the pinned program and in every row, IS THE sha256 OF THE DUMP (.gsa) THAT YtcpaaekghajalaaProg.lean LOADS. Nothing in Lean hashes anything: it is a label: what it is worth is what the hold of that sum in a sandbox is worth. -/
noncomputable def Try.pinned : Pinned := { name := "ytcpaaekghajalaa", sum := "5b4922faba54169dbd7c9851c56766a4cc23963f2c3379dd11244caed729ad38", checked := Try.checked }
namespace Rows
def none {H : Type} : Left H := { results := [], args := [] }

/-- 'calamuslaw11.ResolveNeutral': WHATEVER THE INPUT: true; the input reads as it did. -/
def resolveNeutralSpec : ChangeSpec := { name := "resolveNeutral", fn := fun _ => fun
  | [d1, d2, d3, d4] => { results := [.lit (.bool true)], args := [d1, d2, d3, d4] }
  | _ => none }
def resolveNeutralRow : OpenClaim := { program := "ytcpaaekghajalaa", sum := "5b4922faba54169dbd7c9851c56766a4cc23963f2c3379dd11244caed729ad38", func := "calamus/calamuslaw11.ResolveNeutral", spec := "resolveNeutral", unfollowed := true, recurses := true, apart := false }
def ResolveNeutralSaid : Prop := resolveNeutralRow.holds Try.pinned (OpenSpec.ofChange resolveNeutralSpec)

/-- ITS FALSE NEIGHBOUR: 'it returns false'. Refute it at one input. -/
def resolveNeutralWrong : ChangeSpec := { name := "resolveNeutral", fn := fun _ => fun
  | [d1, d2, d3, d4] => { results := [.lit (.bool false)], args := [d1, d2, d3, d4] }
  | _ => none }
def ResolveNeutralWrongFalsely : Prop := resolveNeutralRow.holds Try.pinned (OpenSpec.ofChange resolveNeutralWrong)

/-- 'calamuslaw11.ResolveLevels': WHATEVER THE INPUT: true; the input reads as it did. -/
def resolveLevelsSpec : ChangeSpec := { name := "resolveLevels", fn := fun _ => fun
  | [d1, d2] => { results := [.lit (.bool true)], args := [d1, d2] }
  | _ => none }
def resolveLevelsRow : OpenClaim := { program := "ytcpaaekghajalaa", sum := "5b4922faba54169dbd7c9851c56766a4cc23963f2c3379dd11244caed729ad38", func := "calamus/calamuslaw11.ResolveLevels", spec := "resolveLevels", unfollowed := true, recurses := true, apart := false }
def ResolveLevelsSaid : Prop := resolveLevelsRow.holds Try.pinned (OpenSpec.ofChange resolveLevelsSpec)

/-- ITS FALSE NEIGHBOUR: 'it returns false'. Refute it at one input. -/
def resolveLevelsWrong : ChangeSpec := { name := "resolveLevels", fn := fun _ => fun
  | [d1, d2] => { results := [.lit (.bool false)], args := [d1, d2] }
  | _ => none }
def ResolveLevelsWrongFalsely : Prop := resolveLevelsRow.holds Try.pinned (OpenSpec.ofChange resolveLevelsWrong)

/-- 'calamuslaw11.ResolveEnds': WHATEVER THE INPUT: true; the input reads as it did. -/
def resolveEndsSpec : ChangeSpec := { name := "resolveEnds", fn := fun _ => fun
  | [d1, d2, d3, d4] => { results := [.lit (.bool true)], args := [d1, d2, d3, d4] }
  | _ => none }
def resolveEndsRow : OpenClaim := { program := "ytcpaaekghajalaa", sum := "5b4922faba54169dbd7c9851c56766a4cc23963f2c3379dd11244caed729ad38", func := "calamus/calamuslaw11.ResolveEnds", spec := "resolveEnds", unfollowed := true, recurses := true, apart := false }
def ResolveEndsSaid : Prop := resolveEndsRow.holds Try.pinned (OpenSpec.ofChange resolveEndsSpec)

/-- ITS FALSE NEIGHBOUR: 'it returns false'. Refute it at one input. -/
def resolveEndsWrong : ChangeSpec := { name := "resolveEnds", fn := fun _ => fun
  | [d1, d2, d3, d4] => { results := [.lit (.bool false)], args := [d1, d2, d3, d4] }
  | _ => none }
def ResolveEndsWrongFalsely : Prop := resolveEndsRow.holds Try.pinned (OpenSpec.ofChange resolveEndsWrong)

/-- 'calamuslaw11.ResolvePassed': WHATEVER THE INPUT: true; the input reads as it did. -/
def resolvePassedSpec : ChangeSpec := { name := "resolvePassed", fn := fun _ => fun
  | [d1, d2, d3, d4, d5] => { results := [.lit (.bool true)], args := [d1, d2, d3, d4, d5] }
  | _ => none }
def resolvePassedRow : OpenClaim := { program := "ytcpaaekghajalaa", sum := "5b4922faba54169dbd7c9851c56766a4cc23963f2c3379dd11244caed729ad38", func := "calamus/calamuslaw11.ResolvePassed", spec := "resolvePassed", unfollowed := true, recurses := true, apart := false }
def ResolvePassedSaid : Prop := resolvePassedRow.holds Try.pinned (OpenSpec.ofChange resolvePassedSpec)

/-- ITS FALSE NEIGHBOUR: 'it returns false'. Refute it at one input. -/
def resolvePassedWrong : ChangeSpec := { name := "resolvePassed", fn := fun _ => fun
  | [d1, d2, d3, d4, d5] => { results := [.lit (.bool false)], args := [d1, d2, d3, d4, d5] }
  | _ => none }
def ResolvePassedWrongFalsely : Prop := resolvePassedRow.holds Try.pinned (OpenSpec.ofChange resolvePassedWrong)

/-- 'calamuslaw11.ResolveCuts': WHATEVER THE INPUT: true; the input reads as it did. -/
def resolveCutsSpec : ChangeSpec := { name := "resolveCuts", fn := fun _ => fun
  | [d1, d2, d3, d4, d5, d6] => { results := [.lit (.bool true)], args := [d1, d2, d3, d4, d5, d6] }
  | _ => none }
def resolveCutsRow : OpenClaim := { program := "ytcpaaekghajalaa", sum := "5b4922faba54169dbd7c9851c56766a4cc23963f2c3379dd11244caed729ad38", func := "calamus/calamuslaw11.ResolveCuts", spec := "resolveCuts", unfollowed := true, recurses := true, apart := false }
def ResolveCutsSaid : Prop := resolveCutsRow.holds Try.pinned (OpenSpec.ofChange resolveCutsSpec)

/-- ITS FALSE NEIGHBOUR: 'it returns false'. Refute it at one input. -/
def resolveCutsWrong : ChangeSpec := { name := "resolveCuts", fn := fun _ => fun
  | [d1, d2, d3, d4, d5, d6] => { results := [.lit (.bool false)], args := [d1, d2, d3, d4, d5, d6] }
  | _ => none }
def ResolveCutsWrongFalsely : Prop := resolveCutsRow.holds Try.pinned (OpenSpec.ofChange resolveCutsWrong)

/-- 'calamuslaw11.ResolveKnown': WHATEVER THE INPUT: true; the input reads as it did. -/
def resolveKnownSpec : ChangeSpec := { name := "resolveKnown", fn := fun _ => fun
  | [] => { results := [.lit (.bool true)], args := [] }
  | _ => none }
def resolveKnownRow : OpenClaim := { program := "ytcpaaekghajalaa", sum := "5b4922faba54169dbd7c9851c56766a4cc23963f2c3379dd11244caed729ad38", func := "calamus/calamuslaw11.ResolveKnown", spec := "resolveKnown", unfollowed := true, recurses := true, apart := false }
def ResolveKnownSaid : Prop := resolveKnownRow.holds Try.pinned (OpenSpec.ofChange resolveKnownSpec)

/-- ITS FALSE NEIGHBOUR: 'it returns false'. Refute it at one input. -/
def resolveKnownWrong : ChangeSpec := { name := "resolveKnown", fn := fun _ => fun
  | [] => { results := [.lit (.bool false)], args := [] }
  | _ => none }
def ResolveKnownWrongFalsely : Prop := resolveKnownRow.holds Try.pinned (OpenSpec.ofChange resolveKnownWrong)

/-- 'calamuslaw11.ResolveWeak': WHATEVER THE INPUT: true; the input reads as it did. -/
def resolveWeakSpec : ChangeSpec := { name := "resolveWeak", fn := fun _ => fun
  | [d1, d2] => { results := [.lit (.bool true)], args := [d1, d2] }
  | _ => none }
def resolveWeakRow : OpenClaim := { program := "ytcpaaekghajalaa", sum := "5b4922faba54169dbd7c9851c56766a4cc23963f2c3379dd11244caed729ad38", func := "calamus/calamuslaw11.ResolveWeak", spec := "resolveWeak", unfollowed := true, recurses := true, apart := false }
def ResolveWeakSaid : Prop := resolveWeakRow.holds Try.pinned (OpenSpec.ofChange resolveWeakSpec)

/-- ITS FALSE NEIGHBOUR: 'it returns false'. Refute it at one input. -/
def resolveWeakWrong : ChangeSpec := { name := "resolveWeak", fn := fun _ => fun
  | [d1, d2] => { results := [.lit (.bool false)], args := [d1, d2] }
  | _ => none }
def ResolveWeakWrongFalsely : Prop := resolveWeakRow.holds Try.pinned (OpenSpec.ofChange resolveWeakWrong)

/-- 'calamuslaw11.ResolveWeakEnds': WHATEVER THE INPUT: true; the input reads as it did. -/
def resolveWeakEndsSpec : ChangeSpec := { name := "resolveWeakEnds", fn := fun _ => fun
  | [d1, d2] => { results := [.lit (.bool true)], args := [d1, d2] }
  | _ => none }
def resolveWeakEndsRow : OpenClaim := { program := "ytcpaaekghajalaa", sum := "5b4922faba54169dbd7c9851c56766a4cc23963f2c3379dd11244caed729ad38", func := "calamus/calamuslaw11.ResolveWeakEnds", spec := "resolveWeakEnds", unfollowed := true, recurses := true, apart := false }
def ResolveWeakEndsSaid : Prop := resolveWeakEndsRow.holds Try.pinned (OpenSpec.ofChange resolveWeakEndsSpec)

/-- ITS FALSE NEIGHBOUR: 'it returns false'. Refute it at one input. -/
def resolveWeakEndsWrong : ChangeSpec := { name := "resolveWeakEnds", fn := fun _ => fun
  | [d1, d2] => { results := [.lit (.bool false)], args := [d1, d2] }
  | _ => none }
def ResolveWeakEndsWrongFalsely : Prop := resolveWeakEndsRow.holds Try.pinned (OpenSpec.ofChange resolveWeakEndsWrong)

/-- 'calamuslaw11.ResolveWeakPassed': WHATEVER THE INPUT: true; the input reads as it did. -/
def resolveWeakPassedSpec : ChangeSpec := { name := "resolveWeakPassed", fn := fun _ => fun
  | [d1, d2, d3] => { results := [.lit (.bool true)], args := [d1, d2, d3] }
  | _ => none }
def resolveWeakPassedRow : OpenClaim := { program := "ytcpaaekghajalaa", sum := "5b4922faba54169dbd7c9851c56766a4cc23963f2c3379dd11244caed729ad38", func := "calamus/calamuslaw11.ResolveWeakPassed", spec := "resolveWeakPassed", unfollowed := true, recurses := true, apart := false }
def ResolveWeakPassedSaid : Prop := resolveWeakPassedRow.holds Try.pinned (OpenSpec.ofChange resolveWeakPassedSpec)

/-- ITS FALSE NEIGHBOUR: 'it returns false'. Refute it at one input. -/
def resolveWeakPassedWrong : ChangeSpec := { name := "resolveWeakPassed", fn := fun _ => fun
  | [d1, d2, d3] => { results := [.lit (.bool false)], args := [d1, d2, d3] }
  | _ => none }
def ResolveWeakPassedWrongFalsely : Prop := resolveWeakPassedRow.holds Try.pinned (OpenSpec.ofChange resolveWeakPassedWrong)

/-- 'calamuslaw11.ResolveWeakCuts': WHATEVER THE INPUT: true; the input reads as it did. -/
def resolveWeakCutsSpec : ChangeSpec := { name := "resolveWeakCuts", fn := fun _ => fun
  | [d1, d2, d3, d4] => { results := [.lit (.bool true)], args := [d1, d2, d3, d4] }
  | _ => none }
def resolveWeakCutsRow : OpenClaim := { program := "ytcpaaekghajalaa", sum := "5b4922faba54169dbd7c9851c56766a4cc23963f2c3379dd11244caed729ad38", func := "calamus/calamuslaw11.ResolveWeakCuts", spec := "resolveWeakCuts", unfollowed := true, recurses := true, apart := false }
def ResolveWeakCutsSaid : Prop := resolveWeakCutsRow.holds Try.pinned (OpenSpec.ofChange resolveWeakCutsSpec)

/-- ITS FALSE NEIGHBOUR: 'it returns false'. Refute it at one input. -/
def resolveWeakCutsWrong : ChangeSpec := { name := "resolveWeakCuts", fn := fun _ => fun
  | [d1, d2, d3, d4] => { results := [.lit (.bool false)], args := [d1, d2, d3, d4] }
  | _ => none }
def ResolveWeakCutsWrongFalsely : Prop := resolveWeakCutsRow.holds Try.pinned (OpenSpec.ofChange resolveWeakCutsWrong)

/-- 'calamuslaw11.ResolveWeakAgain': WHATEVER THE INPUT: true; the input reads as it did. -/
def resolveWeakAgainSpec : ChangeSpec := { name := "resolveWeakAgain", fn := fun _ => fun
  | [d1, d2] => { results := [.lit (.bool true)], args := [d1, d2] }
  | _ => none }
def resolveWeakAgainRow : OpenClaim := { program := "ytcpaaekghajalaa", sum := "5b4922faba54169dbd7c9851c56766a4cc23963f2c3379dd11244caed729ad38", func := "calamus/calamuslaw11.ResolveWeakAgain", spec := "resolveWeakAgain", unfollowed := true, recurses := true, apart := false }
def ResolveWeakAgainSaid : Prop := resolveWeakAgainRow.holds Try.pinned (OpenSpec.ofChange resolveWeakAgainSpec)

/-- ITS FALSE NEIGHBOUR: 'it returns false'. Refute it at one input. -/
def resolveWeakAgainWrong : ChangeSpec := { name := "resolveWeakAgain", fn := fun _ => fun
  | [d1, d2] => { results := [.lit (.bool false)], args := [d1, d2] }
  | _ => none }
def ResolveWeakAgainWrongFalsely : Prop := resolveWeakAgainRow.holds Try.pinned (OpenSpec.ofChange resolveWeakAgainWrong)

/-- 'calamuslaw11.ResolveWeakKnown': WHATEVER THE INPUT: true; the input reads as it did. -/
def resolveWeakKnownSpec : ChangeSpec := { name := "resolveWeakKnown", fn := fun _ => fun
  | [] => { results := [.lit (.bool true)], args := [] }
  | _ => none }
def resolveWeakKnownRow : OpenClaim := { program := "ytcpaaekghajalaa", sum := "5b4922faba54169dbd7c9851c56766a4cc23963f2c3379dd11244caed729ad38", func := "calamus/calamuslaw11.ResolveWeakKnown", spec := "resolveWeakKnown", unfollowed := true, recurses := true, apart := false }
def ResolveWeakKnownSaid : Prop := resolveWeakKnownRow.holds Try.pinned (OpenSpec.ofChange resolveWeakKnownSpec)

/-- ITS FALSE NEIGHBOUR: 'it returns false'. Refute it at one input. -/
def resolveWeakKnownWrong : ChangeSpec := { name := "resolveWeakKnown", fn := fun _ => fun
  | [] => { results := [.lit (.bool false)], args := [] }
  | _ => none }
def ResolveWeakKnownWrongFalsely : Prop := resolveWeakKnownRow.holds Try.pinned (OpenSpec.ofChange resolveWeakKnownWrong)

/- THE SECOND FORM. 'bulk': how many values and letters a reading holds, each counted each time it is reached (what is shared counts as often as it is met; a slice's spare places count too). A statement '..UptoSaid' is the law's where the arguments, and the package variables that the reading takes, are together of bulk at most 1048576: NARROWER than '..Said'. Prove '..Said' where nothing that the law and all that it calls make is longer than what came in: it says more and counts as full. Else prove '..UptoSaid'. A law counts once. -/
mutual
def uptoBulk {H : Type} : DataW H → Nat
  | .lit (.string bytes) => bytes.length + 1
  | .lit _ => 1
  | .nil => 1
  | .ptr d => uptoBulk d + 1
  | .slice elems spare => uptoBulkAll elems + uptoBulkAll spare + 1
  | .agg parts => uptoBulkAll parts + 1
  | .iface _ d => uptoBulk d + 1
  | .map entries => uptoBulkEntries entries + 1
  | .held _ => 1
def uptoBulkAll {H : Type} : List (DataW H) → Nat
  | [] => 0
  | d :: r => uptoBulk d + uptoBulkAll r
def uptoBulkEntries {H : Type} : List (Lit × DataW H) → Nat
  | [] => 0
  | x :: r => uptoBulkEntry x + uptoBulkEntries r
def uptoBulkEntry {H : Type} : Lit × DataW H → Nat
  | (.string bytes, d) => bytes.length + uptoBulk d + 1
  | (_, d) => uptoBulk d + 1
 end
def uptoSmall : (H : Type) → List (DataW H) → Bool := fun _ ds => decide (uptoBulkAll ds ≤ 1048576)
def OpenSpec.upto (s : _root_.Go.ChangeSpec) : _root_.Go.OpenSpec := { _root_.Go.OpenSpec.ofChange s with cond := some uptoSmall }

/-- 'calamuslaw11.ResolveNeutral', WHERE WHAT IT READS IS OF BULK AT MOST 1048576: true; the input reads as it did. -/
def resolveNeutralUptoRow : OpenClaim := { program := "ytcpaaekghajalaa", sum := "5b4922faba54169dbd7c9851c56766a4cc23963f2c3379dd11244caed729ad38", func := "calamus/calamuslaw11.ResolveNeutral", spec := "resolveNeutral", unfollowed := true, recurses := true, apart := false, narrowed := true }
def ResolveNeutralUptoSaid : Prop := resolveNeutralUptoRow.holds Try.pinned (OpenSpec.upto resolveNeutralSpec)

/-- 'calamuslaw11.ResolveLevels', WHERE WHAT IT READS IS OF BULK AT MOST 1048576: true; the input reads as it did. -/
def resolveLevelsUptoRow : OpenClaim := { program := "ytcpaaekghajalaa", sum := "5b4922faba54169dbd7c9851c56766a4cc23963f2c3379dd11244caed729ad38", func := "calamus/calamuslaw11.ResolveLevels", spec := "resolveLevels", unfollowed := true, recurses := true, apart := false, narrowed := true }
def ResolveLevelsUptoSaid : Prop := resolveLevelsUptoRow.holds Try.pinned (OpenSpec.upto resolveLevelsSpec)

/-- 'calamuslaw11.ResolveEnds', WHERE WHAT IT READS IS OF BULK AT MOST 1048576: true; the input reads as it did. -/
def resolveEndsUptoRow : OpenClaim := { program := "ytcpaaekghajalaa", sum := "5b4922faba54169dbd7c9851c56766a4cc23963f2c3379dd11244caed729ad38", func := "calamus/calamuslaw11.ResolveEnds", spec := "resolveEnds", unfollowed := true, recurses := true, apart := false, narrowed := true }
def ResolveEndsUptoSaid : Prop := resolveEndsUptoRow.holds Try.pinned (OpenSpec.upto resolveEndsSpec)

/-- 'calamuslaw11.ResolvePassed', WHERE WHAT IT READS IS OF BULK AT MOST 1048576: true; the input reads as it did. -/
def resolvePassedUptoRow : OpenClaim := { program := "ytcpaaekghajalaa", sum := "5b4922faba54169dbd7c9851c56766a4cc23963f2c3379dd11244caed729ad38", func := "calamus/calamuslaw11.ResolvePassed", spec := "resolvePassed", unfollowed := true, recurses := true, apart := false, narrowed := true }
def ResolvePassedUptoSaid : Prop := resolvePassedUptoRow.holds Try.pinned (OpenSpec.upto resolvePassedSpec)

/-- 'calamuslaw11.ResolveCuts', WHERE WHAT IT READS IS OF BULK AT MOST 1048576: true; the input reads as it did. -/
def resolveCutsUptoRow : OpenClaim := { program := "ytcpaaekghajalaa", sum := "5b4922faba54169dbd7c9851c56766a4cc23963f2c3379dd11244caed729ad38", func := "calamus/calamuslaw11.ResolveCuts", spec := "resolveCuts", unfollowed := true, recurses := true, apart := false, narrowed := true }
def ResolveCutsUptoSaid : Prop := resolveCutsUptoRow.holds Try.pinned (OpenSpec.upto resolveCutsSpec)

/-- 'calamuslaw11.ResolveKnown', WHERE WHAT IT READS IS OF BULK AT MOST 1048576: true; the input reads as it did. -/
def resolveKnownUptoRow : OpenClaim := { program := "ytcpaaekghajalaa", sum := "5b4922faba54169dbd7c9851c56766a4cc23963f2c3379dd11244caed729ad38", func := "calamus/calamuslaw11.ResolveKnown", spec := "resolveKnown", unfollowed := true, recurses := true, apart := false, narrowed := true }
def ResolveKnownUptoSaid : Prop := resolveKnownUptoRow.holds Try.pinned (OpenSpec.upto resolveKnownSpec)

/-- 'calamuslaw11.ResolveWeak', WHERE WHAT IT READS IS OF BULK AT MOST 1048576: true; the input reads as it did. -/
def resolveWeakUptoRow : OpenClaim := { program := "ytcpaaekghajalaa", sum := "5b4922faba54169dbd7c9851c56766a4cc23963f2c3379dd11244caed729ad38", func := "calamus/calamuslaw11.ResolveWeak", spec := "resolveWeak", unfollowed := true, recurses := true, apart := false, narrowed := true }
def ResolveWeakUptoSaid : Prop := resolveWeakUptoRow.holds Try.pinned (OpenSpec.upto resolveWeakSpec)

/-- 'calamuslaw11.ResolveWeakEnds', WHERE WHAT IT READS IS OF BULK AT MOST 1048576: true; the input reads as it did. -/
def resolveWeakEndsUptoRow : OpenClaim := { program := "ytcpaaekghajalaa", sum := "5b4922faba54169dbd7c9851c56766a4cc23963f2c3379dd11244caed729ad38", func := "calamus/calamuslaw11.ResolveWeakEnds", spec := "resolveWeakEnds", unfollowed := true, recurses := true, apart := false, narrowed := true }
def ResolveWeakEndsUptoSaid : Prop := resolveWeakEndsUptoRow.holds Try.pinned (OpenSpec.upto resolveWeakEndsSpec)

/-- 'calamuslaw11.ResolveWeakPassed', WHERE WHAT IT READS IS OF BULK AT MOST 1048576: true; the input reads as it did. -/
def resolveWeakPassedUptoRow : OpenClaim := { program := "ytcpaaekghajalaa", sum := "5b4922faba54169dbd7c9851c56766a4cc23963f2c3379dd11244caed729ad38", func := "calamus/calamuslaw11.ResolveWeakPassed", spec := "resolveWeakPassed", unfollowed := true, recurses := true, apart := false, narrowed := true }
def ResolveWeakPassedUptoSaid : Prop := resolveWeakPassedUptoRow.holds Try.pinned (OpenSpec.upto resolveWeakPassedSpec)

/-- 'calamuslaw11.ResolveWeakCuts', WHERE WHAT IT READS IS OF BULK AT MOST 1048576: true; the input reads as it did. -/
def resolveWeakCutsUptoRow : OpenClaim := { program := "ytcpaaekghajalaa", sum := "5b4922faba54169dbd7c9851c56766a4cc23963f2c3379dd11244caed729ad38", func := "calamus/calamuslaw11.ResolveWeakCuts", spec := "resolveWeakCuts", unfollowed := true, recurses := true, apart := false, narrowed := true }
def ResolveWeakCutsUptoSaid : Prop := resolveWeakCutsUptoRow.holds Try.pinned (OpenSpec.upto resolveWeakCutsSpec)

/-- 'calamuslaw11.ResolveWeakAgain', WHERE WHAT IT READS IS OF BULK AT MOST 1048576: true; the input reads as it did. -/
def resolveWeakAgainUptoRow : OpenClaim := { program := "ytcpaaekghajalaa", sum := "5b4922faba54169dbd7c9851c56766a4cc23963f2c3379dd11244caed729ad38", func := "calamus/calamuslaw11.ResolveWeakAgain", spec := "resolveWeakAgain", unfollowed := true, recurses := true, apart := false, narrowed := true }
def ResolveWeakAgainUptoSaid : Prop := resolveWeakAgainUptoRow.holds Try.pinned (OpenSpec.upto resolveWeakAgainSpec)

/-- 'calamuslaw11.ResolveWeakKnown', WHERE WHAT IT READS IS OF BULK AT MOST 1048576: true; the input reads as it did. -/
def resolveWeakKnownUptoRow : OpenClaim := { program := "ytcpaaekghajalaa", sum := "5b4922faba54169dbd7c9851c56766a4cc23963f2c3379dd11244caed729ad38", func := "calamus/calamuslaw11.ResolveWeakKnown", spec := "resolveWeakKnown", unfollowed := true, recurses := true, apart := false, narrowed := true }
def ResolveWeakKnownUptoSaid : Prop := resolveWeakKnownUptoRow.holds Try.pinned (OpenSpec.upto resolveWeakKnownSpec)

end Rows
end Go.Proofs.Ytcpaaekghajalaa
