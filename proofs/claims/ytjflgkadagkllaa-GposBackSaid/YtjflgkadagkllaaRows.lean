/-
  No cell of these rows narrows 'for every input' (looked for: loops, veiled, ifaces, maps, wideKeys, modest, calm, conditions, laid).
  DERIVED. THE GIVEN ROWS OF THIS SEAT. 3 by the template 'for every input the law returns true; each argument reads behind the call as it read before'; 0 by the template 'total and deterministic' (their statements: YtjflgkadagkllaaTotals.lean).
  GIVEN WITH THE SEED: the statements are not yours to turn. If you find one false, say at which input.
  Laid BY PROGRAM, IN A SANDBOX (cutbox-rows.mjs): the forced cells as the released guide's own fill.sh prints them over the translation b3669103f8fa3069… (all of the seat's roots in one cut). By AI agents, Wed Nov 11 2026. No macro, syntax, notation, axiom, sorry.
-/
import Derived.Test.YtjflgkadagkllaaChecked
import GoSem.Claim
import GoSem.ClaimJoined
import GoSem.ClaimMapViews
import Derived.JoinedTies
import Derived.KernelRfl
namespace Go.Proofs.Ytjflgkadagkllaa
/- THE CELL 'sum', in the pinned program and in every row, IS THE sha256 OF THE DUMP (.gsa) THAT YtjflgkadagkllaaProg.lean LOADS. Nothing in Lean hashes anything: it is a label: what it is worth is what the hold of that sum in a sandbox is worth. -/
noncomputable def Try.pinned : Pinned := { name := "ytjflgkadagkllaa", sum := "b3669103f8fa3069498893dbd05acde09722abc4072e186419b4cc95e6194c90", checked := Try.checked }
namespace Rows
def none {H : Type} : Left H := { results := [], args := [] }

/-- 'calamuslaw08.GposParses': WHATEVER THE INPUT: true; the input reads as it did. -/
def gposParsesSpec : ChangeSpec := { name := "gposParses", fn := fun _ => fun
  | [d1, d2] => { results := [.lit (.bool true)], args := [d1, d2] }
  | _ => none }
def gposParsesRow : OpenClaim := { program := "ytjflgkadagkllaa", sum := "b3669103f8fa3069498893dbd05acde09722abc4072e186419b4cc95e6194c90", func := "calamus/calamuslaw08.GposParses", spec := "gposParses", unfollowed := true, recurses := true, apart := false }
def GposParsesSaid : Prop := gposParsesRow.holds Try.pinned (OpenSpec.ofChange gposParsesSpec)

/-- ITS FALSE NEIGHBOUR: 'it returns false'. Refute it at one input. -/
def gposParsesWrong : ChangeSpec := { name := "gposParses", fn := fun _ => fun
  | [d1, d2] => { results := [.lit (.bool false)], args := [d1, d2] }
  | _ => none }
def GposParsesWrongFalsely : Prop := gposParsesRow.holds Try.pinned (OpenSpec.ofChange gposParsesWrong)

/-- 'calamuslaw08.GposRight': WHATEVER THE INPUT: true; the input reads as it did. -/
def gposRightSpec : ChangeSpec := { name := "gposRight", fn := fun _ => fun
  | [d1, d2] => { results := [.lit (.bool true)], args := [d1, d2] }
  | _ => none }
def gposRightRow : OpenClaim := { program := "ytjflgkadagkllaa", sum := "b3669103f8fa3069498893dbd05acde09722abc4072e186419b4cc95e6194c90", func := "calamus/calamuslaw08.GposRight", spec := "gposRight", unfollowed := true, recurses := true, apart := false }
def GposRightSaid : Prop := gposRightRow.holds Try.pinned (OpenSpec.ofChange gposRightSpec)

/-- ITS FALSE NEIGHBOUR: 'it returns false'. Refute it at one input. -/
def gposRightWrong : ChangeSpec := { name := "gposRight", fn := fun _ => fun
  | [d1, d2] => { results := [.lit (.bool false)], args := [d1, d2] }
  | _ => none }
def GposRightWrongFalsely : Prop := gposRightRow.holds Try.pinned (OpenSpec.ofChange gposRightWrong)

/-- 'calamuslaw08.GposBack': WHATEVER THE INPUT: true; the input reads as it did. -/
def gposBackSpec : ChangeSpec := { name := "gposBack", fn := fun _ => fun
  | [d1, d2, d3] => { results := [.lit (.bool true)], args := [d1, d2, d3] }
  | _ => none }
def gposBackRow : OpenClaim := { program := "ytjflgkadagkllaa", sum := "b3669103f8fa3069498893dbd05acde09722abc4072e186419b4cc95e6194c90", func := "calamus/calamuslaw08.GposBack", spec := "gposBack", unfollowed := true, recurses := true, apart := false }
def GposBackSaid : Prop := gposBackRow.holds Try.pinned (OpenSpec.ofChange gposBackSpec)

/-- ITS FALSE NEIGHBOUR: 'it returns false'. Refute it at one input. -/
def gposBackWrong : ChangeSpec := { name := "gposBack", fn := fun _ => fun
  | [d1, d2, d3] => { results := [.lit (.bool false)], args := [d1, d2, d3] }
  | _ => none }
def GposBackWrongFalsely : Prop := gposBackRow.holds Try.pinned (OpenSpec.ofChange gposBackWrong)

/- THE SECOND FORM. 'bulk': how many values and letters a reading holds, each counted each time it is reached (what is shared counts as often as it is met; a slice's spare places count too). A statement '..UptoSaid' is the law's where the arguments, and the package variables that the reading takes, are together of bulk at most 1048576: NARROWER than '..Said'. Prove '..Said' where nothing that the law and all that it calls make is longer than what came in: it says more and counts as full. Else prove '..UptoSaid'. A law counts once. -/
mutual
def uptoBulk {H : Type} : DataW H → Nat
  | .lit (.string bytes) => bytes.length + 1
  | .lit _ => 1
  | .nil => 1
  | .ptr d => uptoBulk d + 1
  | .slice elems spare => uptoBulkAll elems + uptoBulkAll spare + 1
  | .agg parts => uptoBulkAll parts + 1
  | .iface _ d => uptoBulk d + 1
  | .map entries => uptoBulkEntries entries + 1
  | .held _ => 1
def uptoBulkAll {H : Type} : List (DataW H) → Nat
  | [] => 0
  | d :: r => uptoBulk d + uptoBulkAll r
def uptoBulkEntries {H : Type} : List (Lit × DataW H) → Nat
  | [] => 0
  | x :: r => uptoBulkEntry x + uptoBulkEntries r
def uptoBulkEntry {H : Type} : Lit × DataW H → Nat
  | (.string bytes, d) => bytes.length + uptoBulk d + 1
  | (_, d) => uptoBulk d + 1
 end
def uptoSmall : (H : Type) → List (DataW H) → Bool := fun _ ds => decide (uptoBulkAll ds ≤ 1048576)
def OpenSpec.upto (s : _root_.Go.ChangeSpec) : _root_.Go.OpenSpec := { _root_.Go.OpenSpec.ofChange s with cond := some uptoSmall }

/-- 'calamuslaw08.GposParses', WHERE WHAT IT READS IS OF BULK AT MOST 1048576: true; the input reads as it did. -/
def gposParsesUptoRow : OpenClaim := { program := "ytjflgkadagkllaa", sum := "b3669103f8fa3069498893dbd05acde09722abc4072e186419b4cc95e6194c90", func := "calamus/calamuslaw08.GposParses", spec := "gposParses", unfollowed := true, recurses := true, apart := false, narrowed := true }
def GposParsesUptoSaid : Prop := gposParsesUptoRow.holds Try.pinned (OpenSpec.upto gposParsesSpec)

/-- 'calamuslaw08.GposRight', WHERE WHAT IT READS IS OF BULK AT MOST 1048576: true; the input reads as it did. -/
def gposRightUptoRow : OpenClaim := { program := "ytjflgkadagkllaa", sum := "b3669103f8fa3069498893dbd05acde09722abc4072e186419b4cc95e6194c90", func := "calamus/calamuslaw08.GposRight", spec := "gposRight", unfollowed := true, recurses := true, apart := false, narrowed := true }
def GposRightUptoSaid : Prop := gposRightUptoRow.holds Try.pinned (OpenSpec.upto gposRightSpec)

/-- 'calamuslaw08.GposBack', WHERE WHAT IT READS IS OF BULK AT MOST 1048576: true; the input reads as it did. -/
def gposBackUptoRow : OpenClaim := { program := "ytjflgkadagkllaa", sum := "b3669103f8fa3069498893dbd05acde09722abc4072e186419b4cc95e6194c90", func := "calamus/calamuslaw08.GposBack", spec := "gposBack", unfollowed := true, recurses := true, apart := false, narrowed := true }
def GposBackUptoSaid : Prop := gposBackUptoRow.holds Try.pinned (OpenSpec.upto gposBackSpec)

end Rows
end Go.Proofs.Ytjflgkadagkllaa
