/-
  DERIVED. GIVEN WITH THE SEED: THE CARDS: each row of YtobleaiecnpcoaaGreatDoorRows.lean that lists a variable, with what it lists TIED to the program's text (the seventh form; the later family's looks); each row that meets fmt, with fmt's text TOLD by the authors' own Lean function (tested against real Go, not proved from fmt's source: count such statements apart). THE CARD IS WHAT COUNTS. Prove the row's statement (the work); the ties are given (YtobleaiecnpcoaaGreatDoorTie.lean); close each card by the builder's one call (the guide's Derived/Test/ToyasCard.lean, 'card_holds'). Laid BY PROGRAM, IN A SANDBOX (cutbox-door.mjs). By AI agents, Wed Nov 11 2026. No macro, syntax, notation, axiom, sorry.
-/
import Derived.Test.YtobleaiecnpcoaaGreatDoorRows
import GoSem.ClaimSeven
namespace Go.Proofs.YtobleaiecnpcoaaGreatDoor
namespace Rows

/-- THE TIED CARD OF 'inkhornlaw10.ComposeJoins'. -/
def composeJoinsCard : Claim7 := { stood := { row := composeJoinsRow, standIns := [], harness := (true, "6856e333dc2bb3ea4e2755329b1dece45efad3ac9db535e4ad027c29e5fb9838"), looks := false }, kinds := [], alts := [], laidByText := true, laidKinds := [.data, .data, .pinned], laidTests := true, laidLooks := .later }
def ComposeJoinsCardSaid : Prop := Claim7.holds Tryz.pinned (.plain (OpenSpec.ofChange composeJoinsSpec)) composeJoinsCard

/-- THE TIED CARD OF 'inkhornlaw10.ComposeBlocks'. -/
def composeBlocksCard : Claim7 := { stood := { row := composeBlocksRow, standIns := [], harness := (true, "6856e333dc2bb3ea4e2755329b1dece45efad3ac9db535e4ad027c29e5fb9838"), looks := false }, kinds := [], alts := [], laidByText := true, laidKinds := [.data, .data, .pinned], laidTests := true, laidLooks := .later }
def ComposeBlocksCardSaid : Prop := Claim7.holds Tryz.pinned (.plain (OpenSpec.ofChange composeBlocksSpec)) composeBlocksCard

/-- THE TIED CARD OF 'inkhornlaw10.ComposeNil'. -/
def composeNilCard : Claim7 := { stood := { row := composeNilRow, standIns := [], harness := (true, "6856e333dc2bb3ea4e2755329b1dece45efad3ac9db535e4ad027c29e5fb9838"), looks := false }, kinds := [], alts := [], laidByText := true, laidKinds := [.data, .data, .pinned], laidTests := true, laidLooks := .later }
def ComposeNilCardSaid : Prop := Claim7.holds Tryz.pinned (.plain (OpenSpec.ofChange composeNilSpec)) composeNilCard

/-- THE TIED CARD OF 'inkhornlaw10.ComposeParts'. -/
def composePartsCard : Claim7 := { stood := { row := composePartsRow, standIns := [], harness := (true, "6856e333dc2bb3ea4e2755329b1dece45efad3ac9db535e4ad027c29e5fb9838"), looks := false }, kinds := [], alts := [], laidByText := true, laidKinds := [.data, .data, .pinned], laidTests := true, laidLooks := .later }
def ComposePartsCardSaid : Prop := Claim7.holds Tryz.pinned (.plain (OpenSpec.ofChange composePartsSpec)) composePartsCard

/-- THE TIED CARD OF 'inkhornlaw10.ComposeBack'. -/
def composeBackCard : Claim7 := { stood := { row := composeBackRow, standIns := [], harness := (true, "6856e333dc2bb3ea4e2755329b1dece45efad3ac9db535e4ad027c29e5fb9838"), looks := false }, kinds := [], alts := [], laidByText := true, laidKinds := [.data, .data, .pinned], laidTests := true, laidLooks := .later }
def ComposeBackCardSaid : Prop := Claim7.holds Tryz.pinned (.plain (OpenSpec.ofChange composeBackSpec)) composeBackCard

/-- THE SECOND FORM's CARD OF 'inkhornlaw10.ComposeJoins'. -/
def composeJoinsUptoCard : Claim7 := { stood := { row := composeJoinsUptoRow, standIns := [], harness := (true, "6856e333dc2bb3ea4e2755329b1dece45efad3ac9db535e4ad027c29e5fb9838"), looks := false }, kinds := [], alts := [], laidByText := true, laidKinds := [.data, .data, .pinned], laidTests := true, laidLooks := .later }
def ComposeJoinsUptoCardSaid : Prop := Claim7.holds Tryz.pinned (.plain (OpenSpec.upto composeJoinsSpec)) composeJoinsUptoCard

/-- THE SECOND FORM's CARD OF 'inkhornlaw10.ComposeBlocks'. -/
def composeBlocksUptoCard : Claim7 := { stood := { row := composeBlocksUptoRow, standIns := [], harness := (true, "6856e333dc2bb3ea4e2755329b1dece45efad3ac9db535e4ad027c29e5fb9838"), looks := false }, kinds := [], alts := [], laidByText := true, laidKinds := [.data, .data, .pinned], laidTests := true, laidLooks := .later }
def ComposeBlocksUptoCardSaid : Prop := Claim7.holds Tryz.pinned (.plain (OpenSpec.upto composeBlocksSpec)) composeBlocksUptoCard

/-- THE SECOND FORM's CARD OF 'inkhornlaw10.ComposeNil'. -/
def composeNilUptoCard : Claim7 := { stood := { row := composeNilUptoRow, standIns := [], harness := (true, "6856e333dc2bb3ea4e2755329b1dece45efad3ac9db535e4ad027c29e5fb9838"), looks := false }, kinds := [], alts := [], laidByText := true, laidKinds := [.data, .data, .pinned], laidTests := true, laidLooks := .later }
def ComposeNilUptoCardSaid : Prop := Claim7.holds Tryz.pinned (.plain (OpenSpec.upto composeNilSpec)) composeNilUptoCard

/-- THE SECOND FORM's CARD OF 'inkhornlaw10.ComposeParts'. -/
def composePartsUptoCard : Claim7 := { stood := { row := composePartsUptoRow, standIns := [], harness := (true, "6856e333dc2bb3ea4e2755329b1dece45efad3ac9db535e4ad027c29e5fb9838"), looks := false }, kinds := [], alts := [], laidByText := true, laidKinds := [.data, .data, .pinned], laidTests := true, laidLooks := .later }
def ComposePartsUptoCardSaid : Prop := Claim7.holds Tryz.pinned (.plain (OpenSpec.upto composePartsSpec)) composePartsUptoCard

/-- THE SECOND FORM's CARD OF 'inkhornlaw10.ComposeBack'. -/
def composeBackUptoCard : Claim7 := { stood := { row := composeBackUptoRow, standIns := [], harness := (true, "6856e333dc2bb3ea4e2755329b1dece45efad3ac9db535e4ad027c29e5fb9838"), looks := false }, kinds := [], alts := [], laidByText := true, laidKinds := [.data, .data, .pinned], laidTests := true, laidLooks := .later }
def ComposeBackUptoCardSaid : Prop := Claim7.holds Tryz.pinned (.plain (OpenSpec.upto composeBackSpec)) composeBackUptoCard
end Rows
end Go.Proofs.YtobleaiecnpcoaaGreatDoor
