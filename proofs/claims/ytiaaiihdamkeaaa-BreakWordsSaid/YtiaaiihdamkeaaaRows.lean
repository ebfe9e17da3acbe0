/-
  No cell of these rows narrows 'for every input' (looked for: loops, veiled, ifaces, maps, wideKeys, modest, calm, conditions, laid).
  DERIVED. THE GIVEN ROWS OF THIS SEAT. 4 by the template 'for every input the law returns true; each argument reads behind the call as it read before'; 0 by the template 'total and deterministic' (their statements: YtiaaiihdamkeaaaTotals.lean).
  GIVEN WITH THE SEED: the statements are not yours to turn. If you find one false, say at which input.
  Laid BY PROGRAM, IN A SANDBOX (cutbox-rows.mjs): the forced cells as the released guide's own fill.sh prints them over the translation 72e233925ce8ed56… (all of the seat's roots in one cut). By AI agents, Wed Nov 11 2026. No macro, syntax, notation, axiom, sorry.
-/
import Derived.Test.YtiaaiihdamkeaaaChecked
import GoSem.Claim
import GoSem.ClaimJoined
import GoSem.ClaimMapViews
import Derived.JoinedTies
import Derived.KernelRfl
namespace Go.Proofs.Ytiaaiihdamkeaaa
/- THE CELL 'sum', in the pinned program and in every row, IS THE sha256 OF THE DUMP (.gsa) THAT YtiaaiihdamkeaaaProg.lean LOADS. Nothing in Lean hashes anything: it is a label: what it is worth is what the hold of that sum in a sandbox is worth. -/
noncomputable def Try.pinned : Pinned := { name := "ytiaaiihdamkeaaa", sum := "72e233925ce8ed56c49523b8e78d159f40abfa983f889a084a88e7ee786220aa", checked := Try.checked }
namespace Rows
def none {H : Type} : Left H := { results := [], args := [] }

/-- 'calamuslaw20.BreakNone': WHATEVER THE INPUT: true; the input reads as it did. -/
def breakNoneSpec : ChangeSpec := { name := "breakNone", fn := fun _ => fun
  | [d1, d2, d3, d4] => { results := [.lit (.bool true)], args := [d1, d2, d3, d4] }
  | _ => none }
def breakNoneRow : OpenClaim := { program := "ytiaaiihdamkeaaa", sum := "72e233925ce8ed56c49523b8e78d159f40abfa983f889a084a88e7ee786220aa", func := "calamus/calamuslaw20.BreakNone", spec := "breakNone", unfollowed := true, recurses := true, named := ["math/bits.divideError", "math/bits.overflowError"], plainKeys := false, apart := false }
def BreakNoneSaid : Prop := breakNoneRow.holds Try.pinned (OpenSpec.ofChange breakNoneSpec)

/-- ITS FALSE NEIGHBOUR: 'it returns false'. Refute it at one input. -/
def breakNoneWrong : ChangeSpec := { name := "breakNone", fn := fun _ => fun
  | [d1, d2, d3, d4] => { results := [.lit (.bool false)], args := [d1, d2, d3, d4] }
  | _ => none }
def BreakNoneWrongFalsely : Prop := breakNoneRow.holds Try.pinned (OpenSpec.ofChange breakNoneWrong)

/-- 'calamuslaw20.BreakWords': WHATEVER THE INPUT: true; the input reads as it did. -/
def breakWordsSpec : ChangeSpec := { name := "breakWords", fn := fun _ => fun
  | [d1, d2] => { results := [.lit (.bool true)], args := [d1, d2] }
  | _ => none }
def breakWordsRow : OpenClaim := { program := "ytiaaiihdamkeaaa", sum := "72e233925ce8ed56c49523b8e78d159f40abfa983f889a084a88e7ee786220aa", func := "calamus/calamuslaw20.BreakWords", spec := "breakWords", unfollowed := true, recurses := true, named := ["math/bits.divideError", "math/bits.overflowError"], plainKeys := false, apart := false }
def BreakWordsSaid : Prop := breakWordsRow.holds Try.pinned (OpenSpec.ofChange breakWordsSpec)

/-- ITS FALSE NEIGHBOUR: 'it returns false'. Refute it at one input. -/
def breakWordsWrong : ChangeSpec := { name := "breakWords", fn := fun _ => fun
  | [d1, d2] => { results := [.lit (.bool false)], args := [d1, d2] }
  | _ => none }
def BreakWordsWrongFalsely : Prop := breakWordsRow.holds Try.pinned (OpenSpec.ofChange breakWordsWrong)

/-- 'calamuslaw20.BreakMore': WHATEVER THE INPUT: true; the input reads as it did. -/
def breakMoreSpec : ChangeSpec := { name := "breakMore", fn := fun _ => fun
  | [d1, d2, d3, d4] => { results := [.lit (.bool true)], args := [d1, d2, d3, d4] }
  | _ => none }
def breakMoreRow : OpenClaim := { program := "ytiaaiihdamkeaaa", sum := "72e233925ce8ed56c49523b8e78d159f40abfa983f889a084a88e7ee786220aa", func := "calamus/calamuslaw20.BreakMore", spec := "breakMore", unfollowed := true, recurses := true, named := ["math/bits.divideError", "math/bits.overflowError"], plainKeys := false, apart := false }
def BreakMoreSaid : Prop := breakMoreRow.holds Try.pinned (OpenSpec.ofChange breakMoreSpec)

/-- ITS FALSE NEIGHBOUR: 'it returns false'. Refute it at one input. -/
def breakMoreWrong : ChangeSpec := { name := "breakMore", fn := fun _ => fun
  | [d1, d2, d3, d4] => { results := [.lit (.bool false)], args := [d1, d2, d3, d4] }
  | _ => none }
def BreakMoreWrongFalsely : Prop := breakMoreRow.holds Try.pinned (OpenSpec.ofChange breakMoreWrong)

/-- 'calamuslaw20.BreakAll': WHATEVER THE INPUT: true; the input reads as it did. -/
def breakAllSpec : ChangeSpec := { name := "breakAll", fn := fun _ => fun
  | [d1, d2, d3] => { results := [.lit (.bool true)], args := [d1, d2, d3] }
  | _ => none }
def breakAllRow : OpenClaim := { program := "ytiaaiihdamkeaaa", sum := "72e233925ce8ed56c49523b8e78d159f40abfa983f889a084a88e7ee786220aa", func := "calamus/calamuslaw20.BreakAll", spec := "breakAll", unfollowed := true, recurses := true, named := ["math/bits.divideError", "math/bits.overflowError"], plainKeys := false, apart := false }
def BreakAllSaid : Prop := breakAllRow.holds Try.pinned (OpenSpec.ofChange breakAllSpec)

/-- ITS FALSE NEIGHBOUR: 'it returns false'. Refute it at one input. -/
def breakAllWrong : ChangeSpec := { name := "breakAll", fn := fun _ => fun
  | [d1, d2, d3] => { results := [.lit (.bool false)], args := [d1, d2, d3] }
  | _ => none }
def BreakAllWrongFalsely : Prop := breakAllRow.holds Try.pinned (OpenSpec.ofChange breakAllWrong)

/- THE SECOND FORM. 'bulk': how many values and letters a reading holds, each counted each time it is reached (what is shared counts as often as it is met; a slice's spare places count too). A statement '..UptoSaid' is the law's where the arguments, and the package variables that the reading takes, are together of bulk at most 1048576: NARROWER than '..Said'. Prove '..Said' where nothing that the law and all that it calls make is longer than what came in: it says more and counts as full. Else prove '..UptoSaid'. A law counts once. -/
mutual
def uptoBulk {H : Type} : DataW H → Nat
  | .lit (.string bytes) => bytes.length + 1
  | .lit _ => 1
  | .nil => 1
  | .ptr d => uptoBulk d + 1
  | .slice elems spare => uptoBulkAll elems + uptoBulkAll spare + 1
  | .agg parts => uptoBulkAll parts + 1
  | .iface _ d => uptoBulk d + 1
  | .map entries => uptoBulkEntries entries + 1
  | .held _ => 1
def uptoBulkAll {H : Type} : List (DataW H) → Nat
  | [] => 0
  | d :: r => uptoBulk d + uptoBulkAll r
def uptoBulkEntries {H : Type} : List (Lit × DataW H) → Nat
  | [] => 0
  | x :: r => uptoBulkEntry x + uptoBulkEntries r
def uptoBulkEntry {H : Type} : Lit × DataW H → Nat
  | (.string bytes, d) => bytes.length + uptoBulk d + 1
  | (_, d) => uptoBulk d + 1
 end
def uptoSmall : (H : Type) → List (DataW H) → Bool := fun _ ds => decide (uptoBulkAll ds ≤ 1048576)
def OpenSpec.upto (s : _root_.Go.ChangeSpec) : _root_.Go.OpenSpec := { _root_.Go.OpenSpec.ofChange s with cond := some uptoSmall }

/-- 'calamuslaw20.BreakNone', WHERE WHAT IT READS IS OF BULK AT MOST 1048576: true; the input reads as it did. -/
def breakNoneUptoRow : OpenClaim := { program := "ytiaaiihdamkeaaa", sum := "72e233925ce8ed56c49523b8e78d159f40abfa983f889a084a88e7ee786220aa", func := "calamus/calamuslaw20.BreakNone", spec := "breakNone", unfollowed := true, recurses := true, named := ["math/bits.divideError", "math/bits.overflowError"], plainKeys := false, apart := false, narrowed := true }
def BreakNoneUptoSaid : Prop := breakNoneUptoRow.holds Try.pinned (OpenSpec.upto breakNoneSpec)

/-- 'calamuslaw20.BreakWords', WHERE WHAT IT READS IS OF BULK AT MOST 1048576: true; the input reads as it did. -/
def breakWordsUptoRow : OpenClaim := { program := "ytiaaiihdamkeaaa", sum := "72e233925ce8ed56c49523b8e78d159f40abfa983f889a084a88e7ee786220aa", func := "calamus/calamuslaw20.BreakWords", spec := "breakWords", unfollowed := true, recurses := true, named := ["math/bits.divideError", "math/bits.overflowError"], plainKeys := false, apart := false, narrowed := true }
def BreakWordsUptoSaid : Prop := breakWordsUptoRow.holds Try.pinned (OpenSpec.upto breakWordsSpec)

/-- 'calamuslaw20.BreakMore', WHERE WHAT IT READS IS OF BULK AT MOST 1048576: true; the input reads as it did. -/
def breakMoreUptoRow : OpenClaim := { program := "ytiaaiihdamkeaaa", sum := "72e233925ce8ed56c49523b8e78d159f40abfa983f889a084a88e7ee786220aa", func := "calamus/calamuslaw20.BreakMore", spec := "breakMore", unfollowed := true, recurses := true, named := ["math/bits.divideError", "math/bits.overflowError"], plainKeys := false, apart := false, narrowed := true }
def BreakMoreUptoSaid : Prop := breakMoreUptoRow.holds Try.pinned (OpenSpec.upto breakMoreSpec)

/-- 'calamuslaw20.BreakAll', WHERE WHAT IT READS IS OF BULK AT MOST 1048576: true; the input reads as it did. -/
def breakAllUptoRow : OpenClaim := { program := "ytiaaiihdamkeaaa", sum := "72e233925ce8ed56c49523b8e78d159f40abfa983f889a084a88e7ee786220aa", func := "calamus/calamuslaw20.BreakAll", spec := "breakAll", unfollowed := true, recurses := true, named := ["math/bits.divideError", "math/bits.overflowError"], plainKeys := false, apart := false, narrowed := true }
def BreakAllUptoSaid : Prop := breakAllUptoRow.holds Try.pinned (OpenSpec.upto breakAllSpec)

end Rows
end Go.Proofs.Ytiaaiihdamkeaaa
