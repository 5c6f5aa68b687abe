/-
  DERIVED. GIVEN WITH THE SEED: THE CARDS: each row of YtagncjnbabdbmaaGreatDoorRows.lean that lists a variable, with what it lists TIED to the program's text (the seventh form; the later family's looks); each row that meets fmt, with fmt's text TOLD by the authors' own Lean function (tested against real Go, not proved from fmt's source: count such statements apart). THE CARD IS WHAT COUNTS. Prove the row's statement (the work); the ties are given (YtagncjnbabdbmaaGreatDoorTie.lean); close each card by the builder's one call (the guide's Derived/Test/ToyasCard.lean, 'card_holds'). Laid BY PROGRAM, IN A SANDBOX (cutbox-door.mjs). By AI agents, Wed Nov 11 2026. No macro, syntax, notation, axiom, sorry.
-/
import Derived.Test.YtagncjnbabdbmaaGreatDoorRows
import GoSem.ClaimSeven
namespace Go.Proofs.YtagncjnbabdbmaaGreatDoor
namespace Rows

/-- THE TIED CARD OF 'inkhornlaw05.UcdPrints'. -/
def ucdPrintsCard : Claim7 := { stood := { row := ucdPrintsRow, standIns := [], harness := (true, "591aad271d6a36cc03b8ef0fbfecfa24b5e34031d4321804eeef937e5c62e7c9"), looks := false }, kinds := [], alts := [], laidByText := true, laidKinds := [.data, .data, .data, .data, .pinned], laidTests := true, laidLooks := .later }
def UcdPrintsCardSaid : Prop := Claim7.holds Tryz.pinned (.plain (OpenSpec.ofChange ucdPrintsSpec)) ucdPrintsCard

/-- THE SECOND FORM's CARD OF 'inkhornlaw05.UcdPrints'. -/
def ucdPrintsUptoCard : Claim7 := { stood := { row := ucdPrintsUptoRow, standIns := [], harness := (true, "591aad271d6a36cc03b8ef0fbfecfa24b5e34031d4321804eeef937e5c62e7c9"), looks := false }, kinds := [], alts := [], laidByText := true, laidKinds := [.data, .data, .data, .data, .pinned], laidTests := true, laidLooks := .later }
def UcdPrintsUptoCardSaid : Prop := Claim7.holds Tryz.pinned (.plain (OpenSpec.upto ucdPrintsSpec)) ucdPrintsUptoCard
end Rows
end Go.Proofs.YtagncjnbabdbmaaGreatDoor
