/-
  DERIVED. GIVEN WITH THE SEED: THE CARDS: each row of YtajkjaciooijjaaGreatDoorRows.lean that lists a variable, with what it lists TIED to the program's text (the seventh form; the later family's looks); each row that meets fmt, with fmt's text TOLD by the authors' own Lean function (tested against real Go, not proved from fmt's source: count such statements apart). THE CARD IS WHAT COUNTS. Prove the row's statement (the work); the ties are given (YtajkjaciooijjaaGreatDoorTie.lean); close each card by the builder's one call (the guide's Derived/Test/ToyasCard.lean, 'card_holds'). Laid BY PROGRAM, IN A SANDBOX (cutbox-door.mjs). By AI agents, Wed Nov 11 2026. No macro, syntax, notation, axiom, sorry.
-/
import Derived.Test.YtajkjaciooijjaaGreatDoorRows
import GoSem.ClaimSeven
namespace Go.Proofs.YtajkjaciooijjaaGreatDoor
namespace Rows

/-- THE TIED CARD OF 'inkhornlaw09.DecompOne'. -/
def decompOneCard : Claim7 := { stood := { row := decompOneRow, standIns := [], harness := (true, "c4a3fc745ce1b07ce73d90ff1d243bff024fe1053fa857c7693fa3a610ea67cd"), looks := false }, kinds := [], alts := [], laidByText := true, laidKinds := [.data, .data, .pinned], laidTests := true, laidLooks := .later }
def DecompOneCardSaid : Prop := Claim7.holds Tryz.pinned (.plain (OpenSpec.ofChange decompOneSpec)) decompOneCard

/-- THE TIED CARD OF 'inkhornlaw09.DecompJoins'. -/
def decompJoinsCard : Claim7 := { stood := { row := decompJoinsRow, standIns := [], harness := (true, "c4a3fc745ce1b07ce73d90ff1d243bff024fe1053fa857c7693fa3a610ea67cd"), looks := false }, kinds := [], alts := [], laidByText := true, laidKinds := [.data, .data, .pinned], laidTests := true, laidLooks := .later }
def DecompJoinsCardSaid : Prop := Claim7.holds Tryz.pinned (.plain (OpenSpec.ofChange decompJoinsSpec)) decompJoinsCard

/-- THE TIED CARD OF 'inkhornlaw09.DecompFull'. -/
def decompFullCard : Claim7 := { stood := { row := decompFullRow, standIns := [], harness := (true, "c4a3fc745ce1b07ce73d90ff1d243bff024fe1053fa857c7693fa3a610ea67cd"), looks := false }, kinds := [], alts := [], laidByText := true, laidKinds := [.data, .data, .pinned], laidTests := true, laidLooks := .later }
def DecompFullCardSaid : Prop := Claim7.holds Tryz.pinned (.plain (OpenSpec.ofChange decompFullSpec)) decompFullCard

/-- THE TIED CARD OF 'inkhornlaw09.DecompRuns'. -/
def decompRunsCard : Claim7 := { stood := { row := decompRunsRow, standIns := [], harness := (true, "c4a3fc745ce1b07ce73d90ff1d243bff024fe1053fa857c7693fa3a610ea67cd"), looks := false }, kinds := [], alts := [], laidByText := true, laidKinds := [.data, .data, .pinned], laidTests := true, laidLooks := .later }
def DecompRunsCardSaid : Prop := Claim7.holds Tryz.pinned (.plain (OpenSpec.ofChange decompRunsSpec)) decompRunsCard

/-- THE TIED CARD OF 'inkhornlaw09.DecompAgain'. -/
def decompAgainCard : Claim7 := { stood := { row := decompAgainRow, standIns := [], harness := (true, "c4a3fc745ce1b07ce73d90ff1d243bff024fe1053fa857c7693fa3a610ea67cd"), looks := false }, kinds := [], alts := [], laidByText := true, laidKinds := [.data, .data, .pinned], laidTests := true, laidLooks := .later }
def DecompAgainCardSaid : Prop := Claim7.holds Tryz.pinned (.plain (OpenSpec.ofChange decompAgainSpec)) decompAgainCard

/-- THE TIED CARD OF 'inkhornlaw09.DecompOrder'. -/
def decompOrderCard : Claim7 := { stood := { row := decompOrderRow, standIns := [], harness := (true, "c4a3fc745ce1b07ce73d90ff1d243bff024fe1053fa857c7693fa3a610ea67cd"), looks := false }, kinds := [], alts := [], laidByText := true, laidKinds := [.data, .data, .pinned], laidTests := true, laidLooks := .later }
def DecompOrderCardSaid : Prop := Claim7.holds Tryz.pinned (.plain (OpenSpec.ofChange decompOrderSpec)) decompOrderCard

/-- THE TIED CARD OF 'inkhornlaw09.DecompNil'. -/
def decompNilCard : Claim7 := { stood := { row := decompNilRow, standIns := [], harness := (true, "c4a3fc745ce1b07ce73d90ff1d243bff024fe1053fa857c7693fa3a610ea67cd"), looks := false }, kinds := [], alts := [], laidByText := true, laidKinds := [.data, .data, .pinned], laidTests := true, laidLooks := .later }
def DecompNilCardSaid : Prop := Claim7.holds Tryz.pinned (.plain (OpenSpec.ofChange decompNilSpec)) decompNilCard

/-- THE SECOND FORM's CARD OF 'inkhornlaw09.DecompOne'. -/
def decompOneUptoCard : Claim7 := { stood := { row := decompOneUptoRow, standIns := [], harness := (true, "c4a3fc745ce1b07ce73d90ff1d243bff024fe1053fa857c7693fa3a610ea67cd"), looks := false }, kinds := [], alts := [], laidByText := true, laidKinds := [.data, .data, .pinned], laidTests := true, laidLooks := .later }
def DecompOneUptoCardSaid : Prop := Claim7.holds Tryz.pinned (.plain (OpenSpec.upto decompOneSpec)) decompOneUptoCard

/-- THE SECOND FORM's CARD OF 'inkhornlaw09.DecompJoins'. -/
def decompJoinsUptoCard : Claim7 := { stood := { row := decompJoinsUptoRow, standIns := [], harness := (true, "c4a3fc745ce1b07ce73d90ff1d243bff024fe1053fa857c7693fa3a610ea67cd"), looks := false }, kinds := [], alts := [], laidByText := true, laidKinds := [.data, .data, .pinned], laidTests := true, laidLooks := .later }
def DecompJoinsUptoCardSaid : Prop := Claim7.holds Tryz.pinned (.plain (OpenSpec.upto decompJoinsSpec)) decompJoinsUptoCard

/-- THE SECOND FORM's CARD OF 'inkhornlaw09.DecompFull'. -/
def decompFullUptoCard : Claim7 := { stood := { row := decompFullUptoRow, standIns := [], harness := (true, "c4a3fc745ce1b07ce73d90ff1d243bff024fe1053fa857c7693fa3a610ea67cd"), looks := false }, kinds := [], alts := [], laidByText := true, laidKinds := [.data, .data, .pinned], laidTests := true, laidLooks := .later }
def DecompFullUptoCardSaid : Prop := Claim7.holds Tryz.pinned (.plain (OpenSpec.upto decompFullSpec)) decompFullUptoCard

/-- THE SECOND FORM's CARD OF 'inkhornlaw09.DecompRuns'. -/
def decompRunsUptoCard : Claim7 := { stood := { row := decompRunsUptoRow, standIns := [], harness := (true, "c4a3fc745ce1b07ce73d90ff1d243bff024fe1053fa857c7693fa3a610ea67cd"), looks := false }, kinds := [], alts := [], laidByText := true, laidKinds := [.data, .data, .pinned], laidTests := true, laidLooks := .later }
def DecompRunsUptoCardSaid : Prop := Claim7.holds Tryz.pinned (.plain (OpenSpec.upto decompRunsSpec)) decompRunsUptoCard

/-- THE SECOND FORM's CARD OF 'inkhornlaw09.DecompAgain'. -/
def decompAgainUptoCard : Claim7 := { stood := { row := decompAgainUptoRow, standIns := [], harness := (true, "c4a3fc745ce1b07ce73d90ff1d243bff024fe1053fa857c7693fa3a610ea67cd"), looks := false }, kinds := [], alts := [], laidByText := true, laidKinds := [.data, .data, .pinned], laidTests := true, laidLooks := .later }
def DecompAgainUptoCardSaid : Prop := Claim7.holds Tryz.pinned (.plain (OpenSpec.upto decompAgainSpec)) decompAgainUptoCard

/-- THE SECOND FORM's CARD OF 'inkhornlaw09.DecompOrder'. -/
def decompOrderUptoCard : Claim7 := { stood := { row := decompOrderUptoRow, standIns := [], harness := (true, "c4a3fc745ce1b07ce73d90ff1d243bff024fe1053fa857c7693fa3a610ea67cd"), looks := false }, kinds := [], alts := [], laidByText := true, laidKinds := [.data, .data, .pinned], laidTests := true, laidLooks := .later }
def DecompOrderUptoCardSaid : Prop := Claim7.holds Tryz.pinned (.plain (OpenSpec.upto decompOrderSpec)) decompOrderUptoCard

/-- THE SECOND FORM's CARD OF 'inkhornlaw09.DecompNil'. -/
def decompNilUptoCard : Claim7 := { stood := { row := decompNilUptoRow, standIns := [], harness := (true, "c4a3fc745ce1b07ce73d90ff1d243bff024fe1053fa857c7693fa3a610ea67cd"), looks := false }, kinds := [], alts := [], laidByText := true, laidKinds := [.data, .data, .pinned], laidTests := true, laidLooks := .later }
def DecompNilUptoCardSaid : Prop := Claim7.holds Tryz.pinned (.plain (OpenSpec.upto decompNilSpec)) decompNilUptoCard
end Rows
end Go.Proofs.YtajkjaciooijjaaGreatDoor
