/-
  DERIVED. GIVEN WITH THE SEED: THE CARDS: each row of YtfjkajlkehjnnaaGreatDoorRows.lean that lists a variable, with what it lists TIED to the program's text (the seventh form; the later family's looks); each row that meets fmt, with fmt's text TOLD by the authors' own Lean function (tested against real Go, not proved from fmt's source: count such statements apart). THE CARD IS WHAT COUNTS. Prove the row's statement (the work); the ties are given (YtfjkajlkehjnnaaGreatDoorTie.lean); close each card by the builder's one call (the guide's Derived/Test/ToyasCard.lean, 'card_holds'). Laid BY PROGRAM, IN A SANDBOX (cutbox-door.mjs). By AI agents, Wed Nov 11 2026. No macro, syntax, notation, axiom, sorry.
-/
import Derived.Test.YtfjkajlkehjnnaaGreatDoorRows
import GoSem.ClaimSeven
namespace Go.Proofs.YtfjkajlkehjnnaaGreatDoor
namespace Rows

/-- THE TIED CARD OF 'calamuslaw01.FixedKnown'. -/
def fixedKnownCard : Claim7 := { stood := { row := fixedKnownRow, standIns := [], harness := (true, "5f794727d65fbcac3234d4361e3c804c83244c4159a58f58f62bb25527f6ca3a"), looks := true }, kinds := [], alts := [], laidByText := true, laidKinds := [.data, .data, .data, .data, .sentinel, .sentinel, .pinned], laidTests := true, laidLooks := .later }
def FixedKnownCardSaid : Prop := Claim7.holds Tryz.pinned (.plain (OpenSpec.ofChange fixedKnownSpec)) fixedKnownCard

/-- THE SECOND FORM's CARD OF 'calamuslaw01.FixedKnown'. -/
def fixedKnownUptoCard : Claim7 := { stood := { row := fixedKnownUptoRow, standIns := [], harness := (true, "5f794727d65fbcac3234d4361e3c804c83244c4159a58f58f62bb25527f6ca3a"), looks := true }, kinds := [], alts := [], laidByText := true, laidKinds := [.data, .data, .data, .data, .sentinel, .sentinel, .pinned], laidTests := true, laidLooks := .later }
def FixedKnownUptoCardSaid : Prop := Claim7.holds Tryz.pinned (.plain (OpenSpec.upto fixedKnownSpec)) fixedKnownUptoCard
end Rows
end Go.Proofs.YtfjkajlkehjnnaaGreatDoor
