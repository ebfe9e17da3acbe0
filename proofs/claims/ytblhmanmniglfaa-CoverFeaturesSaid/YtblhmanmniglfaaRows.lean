/-
  No cell of these rows narrows 'for every input' (looked for: loops, veiled, ifaces, maps, wideKeys, modest, calm, conditions, laid).
  DERIVED. THE GIVEN ROWS OF THIS SEAT. 4 by the template 'for every input the law returns true; each argument reads behind the call as it read before'; 0 by the template 'total and deterministic' (their statements: YtblhmanmniglfaaTotals.lean).
  GIVEN WITH THE SEED: the statements are not yours to turn. If you find one false, say at which input.
  Laid BY PROGRAM, IN A SANDBOX (cutbox-rows.mjs): the forced cells as the released guide's own fill.sh prints them over the translation f7e171767ce05a24… (all of the seat's roots in one cut). By AI agents, Wed Nov 11 2026. No macro, syntax, notation, axiom, sorry.
-/
import Derived.Test.YtblhmanmniglfaaChecked
import GoSem.Claim
import GoSem.ClaimJoined
import GoSem.ClaimMapViews
import Derived.JoinedTies
import Derived.KernelRfl
namespace Go.Proofs.Ytblhmanmniglfaa
/- THE CELL 'sum', in the pinned program and in every row, IS THE sha256 OF THE DUMP (.gsa) THAT YtblhmanmniglfaaProg.lean LOADS. Nothing in Lean hashes anything: it is a label: what it is worth is what the hold of that sum in a sandbox is worth. -/
noncomputable def Try.pinned : Pinned := { name := "ytblhmanmniglfaa", sum := "f7e171767ce05a2459712e8cf52aced2fc76983e47a8fbbaaf98f00d2f8c808c", checked := Try.checked }
namespace Rows
def none {H : Type} : Left H := { results := [], args := [] }

/-- 'calamuslaw06.CoverBoth': WHATEVER THE INPUT: true; the input reads as it did. -/
def coverBothSpec : ChangeSpec := { name := "coverBoth", fn := fun _ => fun
  | [d] => { results := [.lit (.bool true)], args := [d] }
  | _ => none }
def coverBothRow : OpenClaim := { program := "ytblhmanmniglfaa", sum := "f7e171767ce05a2459712e8cf52aced2fc76983e47a8fbbaaf98f00d2f8c808c", func := "calamus/calamuslaw06.CoverBoth", spec := "coverBoth", unfollowed := true, recurses := true, apart := false }
def CoverBothSaid : Prop := coverBothRow.holds Try.pinned (OpenSpec.ofChange coverBothSpec)

/-- ITS FALSE NEIGHBOUR: 'it returns false'. Refute it at one input. -/
def coverBothWrong : ChangeSpec := { name := "coverBoth", fn := fun _ => fun
  | [d] => { results := [.lit (.bool false)], args := [d] }
  | _ => none }
def CoverBothWrongFalsely : Prop := coverBothRow.holds Try.pinned (OpenSpec.ofChange coverBothWrong)

/-- 'calamuslaw06.CoverAt': WHATEVER THE INPUT: true; the input reads as it did. -/
def coverAtSpec : ChangeSpec := { name := "coverAt", fn := fun _ => fun
  | [d1, d2, d3] => { results := [.lit (.bool true)], args := [d1, d2, d3] }
  | _ => none }
def coverAtRow : OpenClaim := { program := "ytblhmanmniglfaa", sum := "f7e171767ce05a2459712e8cf52aced2fc76983e47a8fbbaaf98f00d2f8c808c", func := "calamus/calamuslaw06.CoverAt", spec := "coverAt", unfollowed := true, recurses := true, apart := false }
def CoverAtSaid : Prop := coverAtRow.holds Try.pinned (OpenSpec.ofChange coverAtSpec)

/-- ITS FALSE NEIGHBOUR: 'it returns false'. Refute it at one input. -/
def coverAtWrong : ChangeSpec := { name := "coverAt", fn := fun _ => fun
  | [d1, d2, d3] => { results := [.lit (.bool false)], args := [d1, d2, d3] }
  | _ => none }
def CoverAtWrongFalsely : Prop := coverAtRow.holds Try.pinned (OpenSpec.ofChange coverAtWrong)

/-- 'calamuslaw06.CoverPuts': WHATEVER THE INPUT: true; the input reads as it did. -/
def coverPutsSpec : ChangeSpec := { name := "coverPuts", fn := fun _ => fun
  | [d1, d2] => { results := [.lit (.bool true)], args := [d1, d2] }
  | _ => none }
def coverPutsRow : OpenClaim := { program := "ytblhmanmniglfaa", sum := "f7e171767ce05a2459712e8cf52aced2fc76983e47a8fbbaaf98f00d2f8c808c", func := "calamus/calamuslaw06.CoverPuts", spec := "coverPuts", unfollowed := true, recurses := true, apart := false }
def CoverPutsSaid : Prop := coverPutsRow.holds Try.pinned (OpenSpec.ofChange coverPutsSpec)

/-- ITS FALSE NEIGHBOUR: 'it returns false'. Refute it at one input. -/
def coverPutsWrong : ChangeSpec := { name := "coverPuts", fn := fun _ => fun
  | [d1, d2] => { results := [.lit (.bool false)], args := [d1, d2] }
  | _ => none }
def CoverPutsWrongFalsely : Prop := coverPutsRow.holds Try.pinned (OpenSpec.ofChange coverPutsWrong)

/-- 'calamuslaw06.CoverFeatures': WHATEVER THE INPUT: true; the input reads as it did. -/
def coverFeaturesSpec : ChangeSpec := { name := "coverFeatures", fn := fun _ => fun
  | [d1, d2, d3] => { results := [.lit (.bool true)], args := [d1, d2, d3] }
  | _ => none }
def coverFeaturesRow : OpenClaim := { program := "ytblhmanmniglfaa", sum := "f7e171767ce05a2459712e8cf52aced2fc76983e47a8fbbaaf98f00d2f8c808c", func := "calamus/calamuslaw06.CoverFeatures", spec := "coverFeatures", unfollowed := true, recurses := true, apart := false }
def CoverFeaturesSaid : Prop := coverFeaturesRow.holds Try.pinned (OpenSpec.ofChange coverFeaturesSpec)

/-- ITS FALSE NEIGHBOUR: 'it returns false'. Refute it at one input. -/
def coverFeaturesWrong : ChangeSpec := { name := "coverFeatures", fn := fun _ => fun
  | [d1, d2, d3] => { results := [.lit (.bool false)], args := [d1, d2, d3] }
  | _ => none }
def CoverFeaturesWrongFalsely : Prop := coverFeaturesRow.holds Try.pinned (OpenSpec.ofChange coverFeaturesWrong)

/- THE SECOND FORM. 'bulk': how many values and letters a reading holds, each counted each time it is reached (what is shared counts as often as it is met; a slice's spare places count too). A statement '..UptoSaid' is the law's where the arguments, and the package variables that the reading takes, are together of bulk at most 1048576: NARROWER than '..Said'. Prove '..Said' where nothing that the law and all that it calls make is longer than what came in: it says more and counts as full. Else prove '..UptoSaid'. A law counts once. -/
mutual
def uptoBulk {H : Type} : DataW H → Nat
  | .lit (.string bytes) => bytes.length + 1
  | .lit _ => 1
  | .nil => 1
  | .ptr d => uptoBulk d + 1
  | .slice elems spare => uptoBulkAll elems + uptoBulkAll spare + 1
  | .agg parts => uptoBulkAll parts + 1
  | .iface _ d => uptoBulk d + 1
  | .map entries => uptoBulkEntries entries + 1
  | .held _ => 1
def uptoBulkAll {H : Type} : List (DataW H) → Nat
  | [] => 0
  | d :: r => uptoBulk d + uptoBulkAll r
def uptoBulkEntries {H : Type} : List (Lit × DataW H) → Nat
  | [] => 0
  | x :: r => uptoBulkEntry x + uptoBulkEntries r
def uptoBulkEntry {H : Type} : Lit × DataW H → Nat
  | (.string bytes, d) => bytes.length + uptoBulk d + 1
  | (_, d) => uptoBulk d + 1
 end
def uptoSmall : (H : Type) → List (DataW H) → Bool := fun _ ds => decide (uptoBulkAll ds ≤ 1048576)
def OpenSpec.upto (s : _root_.Go.ChangeSpec) : _root_.Go.OpenSpec := { _root_.Go.OpenSpec.ofChange s with cond := some uptoSmall }

/-- 'calamuslaw06.CoverBoth', WHERE WHAT IT READS IS OF BULK AT MOST 1048576: true; the input reads as it did. -/
def coverBothUptoRow : OpenClaim := { program := "ytblhmanmniglfaa", sum := "f7e171767ce05a2459712e8cf52aced2fc76983e47a8fbbaaf98f00d2f8c808c", func := "calamus/calamuslaw06.CoverBoth", spec := "coverBoth", unfollowed := true, recurses := true, apart := false, narrowed := true }
def CoverBothUptoSaid : Prop := coverBothUptoRow.holds Try.pinned (OpenSpec.upto coverBothSpec)

/-- 'calamuslaw06.CoverAt', WHERE WHAT IT READS IS OF BULK AT MOST 1048576: true; the input reads as it did. -/
def coverAtUptoRow : OpenClaim := { program := "ytblhmanmniglfaa", sum := "f7e171767ce05a2459712e8cf52aced2fc76983e47a8fbbaaf98f00d2f8c808c", func := "calamus/calamuslaw06.CoverAt", spec := "coverAt", unfollowed := true, recurses := true, apart := false, narrowed := true }
def CoverAtUptoSaid : Prop := coverAtUptoRow.holds Try.pinned (OpenSpec.upto coverAtSpec)

/-- 'calamuslaw06.CoverPuts', WHERE WHAT IT READS IS OF BULK AT MOST 1048576: true; the input reads as it did. -/
def coverPutsUptoRow : OpenClaim := { program := "ytblhmanmniglfaa", sum := "f7e171767ce05a2459712e8cf52aced2fc76983e47a8fbbaaf98f00d2f8c808c", func := "calamus/calamuslaw06.CoverPuts", spec := "coverPuts", unfollowed := true, recurses := true, apart := false, narrowed := true }
def CoverPutsUptoSaid : Prop := coverPutsUptoRow.holds Try.pinned (OpenSpec.upto coverPutsSpec)

/-- 'calamuslaw06.CoverFeatures', WHERE WHAT IT READS IS OF BULK AT MOST 1048576: true; the input reads as it did. -/
def coverFeaturesUptoRow : OpenClaim := { program := "ytblhmanmniglfaa", sum := "f7e171767ce05a2459712e8cf52aced2fc76983e47a8fbbaaf98f00d2f8c808c", func := "calamus/calamuslaw06.CoverFeatures", spec := "coverFeatures", unfollowed := true, recurses := true, apart := false, narrowed := true }
def CoverFeaturesUptoSaid : Prop := coverFeaturesUptoRow.holds Try.pinned (OpenSpec.upto coverFeaturesSpec)

end Rows
end Go.Proofs.Ytblhmanmniglfaa
