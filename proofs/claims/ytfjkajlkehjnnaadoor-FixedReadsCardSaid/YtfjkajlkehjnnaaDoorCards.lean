/-
  DERIVED. GIVEN WITH THE SEED: THE CARDS: each row of YtfjkajlkehjnnaaDoorRows.lean that lists a variable, with what it lists TIED to the program's text (the seventh form; the later family's looks); each row that meets fmt, with fmt's text TOLD by the authors' own Lean function (tested against real Go, not proved from fmt's source: count such statements apart). THE CARD IS WHAT COUNTS. Prove the row's statement (the work); the ties are given (YtfjkajlkehjnnaaDoorTie.lean); close each card by the builder's one call (the guide's Derived/Test/ToyasCard.lean, 'card_holds'). Laid BY PROGRAM, IN A SANDBOX (cutbox-door.mjs). By AI agents, Wed Nov 11 2026. No macro, syntax, notation, axiom, sorry.
-/
import Derived.Test.YtfjkajlkehjnnaaDoorRows
import GoSem.ClaimSeven
namespace Go.Proofs.YtfjkajlkehjnnaaDoor
namespace Rows

/-- THE TIED CARD OF 'calamuslaw01.FixedPrints'. -/
def fixedPrintsCard : Claim7 := { stood := { row := fixedPrintsRow, standIns := [], harness := (true, "b78a32734f8a0d3a5633fa876c619a19aea3245e9a4aecf6af3233e1c5bce23d"), looks := true }, kinds := [], alts := [], laidByText := true, laidKinds := [.data, .data, .data, .data, .sentinel, .sentinel, .pinned], laidTests := true, laidLooks := .later }
def FixedPrintsCardSaid : Prop := Claim7.holds Tryd.pinned (.plain (OpenSpec.ofChange fixedPrintsSpec)) fixedPrintsCard

/-- THE TIED CARD OF 'calamuslaw01.FixedReads'. -/
def fixedReadsCard : Claim7 := { stood := { row := fixedReadsRow, standIns := [], harness := (true, "b78a32734f8a0d3a5633fa876c619a19aea3245e9a4aecf6af3233e1c5bce23d"), looks := true }, kinds := [], alts := [], laidByText := true, laidKinds := [.data, .data, .data, .data, .sentinel, .sentinel, .pinned], laidTests := true, laidLooks := .later }
def FixedReadsCardSaid : Prop := Claim7.holds Tryd.pinned (.plain (OpenSpec.ofChange fixedReadsSpec)) fixedReadsCard

/-- THE TIED CARD OF 'calamuslaw01.FixedQuotients'. -/
def fixedQuotientsCard : Claim7 := { stood := { row := fixedQuotientsRow, standIns := [], harness := (true, "b78a32734f8a0d3a5633fa876c619a19aea3245e9a4aecf6af3233e1c5bce23d"), looks := true }, kinds := [], alts := [], laidByText := true, laidKinds := [.data, .data, .data, .data, .sentinel, .sentinel, .pinned], laidTests := true, laidLooks := .later }
def FixedQuotientsCardSaid : Prop := Claim7.holds Tryd.pinned (.plain (OpenSpec.ofChange fixedQuotientsSpec)) fixedQuotientsCard

/-- THE TIED CARD OF 'calamuslaw01.FixedNear'. -/
def fixedNearCard : Claim7 := { stood := { row := fixedNearRow, standIns := [], harness := (true, "b78a32734f8a0d3a5633fa876c619a19aea3245e9a4aecf6af3233e1c5bce23d"), looks := true }, kinds := [], alts := [], laidByText := true, laidKinds := [.data, .data, .data, .data, .sentinel, .sentinel, .pinned], laidTests := true, laidLooks := .later }
def FixedNearCardSaid : Prop := Claim7.holds Tryd.pinned (.plain (OpenSpec.ofChange fixedNearSpec)) fixedNearCard

/-- THE TIED CARD OF 'calamuslaw01.FixedScales'. -/
def fixedScalesCard : Claim7 := { stood := { row := fixedScalesRow, standIns := [], harness := (true, "b78a32734f8a0d3a5633fa876c619a19aea3245e9a4aecf6af3233e1c5bce23d"), looks := true }, kinds := [], alts := [], laidByText := true, laidKinds := [.data, .data, .data, .data, .sentinel, .sentinel, .pinned], laidTests := true, laidLooks := .later }
def FixedScalesCardSaid : Prop := Claim7.holds Tryd.pinned (.plain (OpenSpec.ofChange fixedScalesSpec)) fixedScalesCard

/-- THE TIED CARD OF 'calamuslaw01.FixedSums'. -/
def fixedSumsCard : Claim7 := { stood := { row := fixedSumsRow, standIns := [], harness := (true, "b78a32734f8a0d3a5633fa876c619a19aea3245e9a4aecf6af3233e1c5bce23d"), looks := true }, kinds := [], alts := [], laidByText := true, laidKinds := [.data, .data, .data, .data, .sentinel, .sentinel, .pinned], laidTests := true, laidLooks := .later }
def FixedSumsCardSaid : Prop := Claim7.holds Tryd.pinned (.plain (OpenSpec.ofChange fixedSumsSpec)) fixedSumsCard

/-- THE SECOND FORM's CARD OF 'calamuslaw01.FixedPrints'. -/
def fixedPrintsUptoCard : Claim7 := { stood := { row := fixedPrintsUptoRow, standIns := [], harness := (true, "b78a32734f8a0d3a5633fa876c619a19aea3245e9a4aecf6af3233e1c5bce23d"), looks := true }, kinds := [], alts := [], laidByText := true, laidKinds := [.data, .data, .data, .data, .sentinel, .sentinel, .pinned], laidTests := true, laidLooks := .later }
def FixedPrintsUptoCardSaid : Prop := Claim7.holds Tryd.pinned (.plain (OpenSpec.upto fixedPrintsSpec)) fixedPrintsUptoCard

/-- THE SECOND FORM's CARD OF 'calamuslaw01.FixedReads'. -/
def fixedReadsUptoCard : Claim7 := { stood := { row := fixedReadsUptoRow, standIns := [], harness := (true, "b78a32734f8a0d3a5633fa876c619a19aea3245e9a4aecf6af3233e1c5bce23d"), looks := true }, kinds := [], alts := [], laidByText := true, laidKinds := [.data, .data, .data, .data, .sentinel, .sentinel, .pinned], laidTests := true, laidLooks := .later }
def FixedReadsUptoCardSaid : Prop := Claim7.holds Tryd.pinned (.plain (OpenSpec.upto fixedReadsSpec)) fixedReadsUptoCard

/-- THE SECOND FORM's CARD OF 'calamuslaw01.FixedQuotients'. -/
def fixedQuotientsUptoCard : Claim7 := { stood := { row := fixedQuotientsUptoRow, standIns := [], harness := (true, "b78a32734f8a0d3a5633fa876c619a19aea3245e9a4aecf6af3233e1c5bce23d"), looks := true }, kinds := [], alts := [], laidByText := true, laidKinds := [.data, .data, .data, .data, .sentinel, .sentinel, .pinned], laidTests := true, laidLooks := .later }
def FixedQuotientsUptoCardSaid : Prop := Claim7.holds Tryd.pinned (.plain (OpenSpec.upto fixedQuotientsSpec)) fixedQuotientsUptoCard

/-- THE SECOND FORM's CARD OF 'calamuslaw01.FixedNear'. -/
def fixedNearUptoCard : Claim7 := { stood := { row := fixedNearUptoRow, standIns := [], harness := (true, "b78a32734f8a0d3a5633fa876c619a19aea3245e9a4aecf6af3233e1c5bce23d"), looks := true }, kinds := [], alts := [], laidByText := true, laidKinds := [.data, .data, .data, .data, .sentinel, .sentinel, .pinned], laidTests := true, laidLooks := .later }
def FixedNearUptoCardSaid : Prop := Claim7.holds Tryd.pinned (.plain (OpenSpec.upto fixedNearSpec)) fixedNearUptoCard

/-- THE SECOND FORM's CARD OF 'calamuslaw01.FixedScales'. -/
def fixedScalesUptoCard : Claim7 := { stood := { row := fixedScalesUptoRow, standIns := [], harness := (true, "b78a32734f8a0d3a5633fa876c619a19aea3245e9a4aecf6af3233e1c5bce23d"), looks := true }, kinds := [], alts := [], laidByText := true, laidKinds := [.data, .data, .data, .data, .sentinel, .sentinel, .pinned], laidTests := true, laidLooks := .later }
def FixedScalesUptoCardSaid : Prop := Claim7.holds Tryd.pinned (.plain (OpenSpec.upto fixedScalesSpec)) fixedScalesUptoCard

/-- THE SECOND FORM's CARD OF 'calamuslaw01.FixedSums'. -/
def fixedSumsUptoCard : Claim7 := { stood := { row := fixedSumsUptoRow, standIns := [], harness := (true, "b78a32734f8a0d3a5633fa876c619a19aea3245e9a4aecf6af3233e1c5bce23d"), looks := true }, kinds := [], alts := [], laidByText := true, laidKinds := [.data, .data, .data, .data, .sentinel, .sentinel, .pinned], laidTests := true, laidLooks := .later }
def FixedSumsUptoCardSaid : Prop := Claim7.holds Tryd.pinned (.plain (OpenSpec.upto fixedSumsSpec)) fixedSumsUptoCard
end Rows
end Go.Proofs.YtfjkajlkehjnnaaDoor
