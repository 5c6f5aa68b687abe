/-
  DERIVED. GIVEN WITH THE SEED: THE CARDS: each row of YtkocaoeednmkpaaGreatDoorRows.lean that lists a variable, with what it lists TIED to the program's text (the seventh form; the later family's looks); each row that meets fmt, with fmt's text TOLD by the authors' own Lean function (tested against real Go, not proved from fmt's source: count such statements apart). THE CARD IS WHAT COUNTS. Prove the row's statement (the work); the ties are given (YtkocaoeednmkpaaGreatDoorTie.lean); close each card by the builder's one call (the guide's Derived/Test/ToyasCard.lean, 'card_holds'). Laid BY PROGRAM, IN A SANDBOX (cutbox-door.mjs). By AI agents, Wed Nov 11 2026. No macro, syntax, notation, axiom, sorry.
-/
import Derived.Test.YtkocaoeednmkpaaGreatDoorRows
import GoSem.ClaimSeven
namespace Go.Proofs.YtkocaoeednmkpaaGreatDoor
namespace Rows

/-- THE TIED CARD OF 'inkhornlaw11.QuickKinds'. -/
def quickKindsCard : Claim7 := { stood := { row := quickKindsRow, standIns := [], harness := (true, "831d666ca15142d4e380b8158eac7e3160debf95376edde3e8255ade69beebb9"), looks := false }, kinds := [], alts := [], laidByText := true, laidKinds := [.data, .data, .pinned], laidTests := true, laidLooks := .later }
def QuickKindsCardSaid : Prop := Claim7.holds Tryz.pinned (.plain (OpenSpec.ofChange quickKindsSpec)) quickKindsCard

/-- THE TIED CARD OF 'inkhornlaw11.QuickCuts'. -/
def quickCutsCard : Claim7 := { stood := { row := quickCutsRow, standIns := [], harness := (true, "831d666ca15142d4e380b8158eac7e3160debf95376edde3e8255ade69beebb9"), looks := false }, kinds := [], alts := [], laidByText := true, laidKinds := [.data, .data, .pinned], laidTests := true, laidLooks := .later }
def QuickCutsCardSaid : Prop := Claim7.holds Tryz.pinned (.plain (OpenSpec.ofChange quickCutsSpec)) quickCutsCard

/-- THE TIED CARD OF 'inkhornlaw11.QuickChecks'. -/
def quickChecksCard : Claim7 := { stood := { row := quickChecksRow, standIns := [], harness := (true, "831d666ca15142d4e380b8158eac7e3160debf95376edde3e8255ade69beebb9"), looks := false }, kinds := [], alts := [], laidByText := true, laidKinds := [.data, .data, .pinned], laidTests := true, laidLooks := .later }
def QuickChecksCardSaid : Prop := Claim7.holds Tryz.pinned (.plain (OpenSpec.ofChange quickChecksSpec)) quickChecksCard

/-- THE TIED CARD OF 'inkhornlaw11.QuickSure'. -/
def quickSureCard : Claim7 := { stood := { row := quickSureRow, standIns := [], harness := (true, "831d666ca15142d4e380b8158eac7e3160debf95376edde3e8255ade69beebb9"), looks := false }, kinds := [], alts := [], laidByText := true, laidKinds := [.data, .data, .pinned], laidTests := true, laidLooks := .later }
def QuickSureCardSaid : Prop := Claim7.holds Tryz.pinned (.plain (OpenSpec.ofChange quickSureSpec)) quickSureCard

/-- THE TIED CARD OF 'inkhornlaw11.QuickNil'. -/
def quickNilCard : Claim7 := { stood := { row := quickNilRow, standIns := [], harness := (true, "831d666ca15142d4e380b8158eac7e3160debf95376edde3e8255ade69beebb9"), looks := false }, kinds := [], alts := [], laidByText := true, laidKinds := [.data, .data, .pinned], laidTests := true, laidLooks := .later }
def QuickNilCardSaid : Prop := Claim7.holds Tryz.pinned (.plain (OpenSpec.ofChange quickNilSpec)) quickNilCard

/-- THE TIED CARD OF 'inkhornlaw11.QuickParts'. -/
def quickPartsCard : Claim7 := { stood := { row := quickPartsRow, standIns := [], harness := (true, "831d666ca15142d4e380b8158eac7e3160debf95376edde3e8255ade69beebb9"), looks := false }, kinds := [], alts := [], laidByText := true, laidKinds := [.data, .data, .pinned], laidTests := true, laidLooks := .later }
def QuickPartsCardSaid : Prop := Claim7.holds Tryz.pinned (.plain (OpenSpec.ofChange quickPartsSpec)) quickPartsCard

/-- THE TIED CARD OF 'inkhornlaw12.NormParts'. -/
def normPartsCard : Claim7 := { stood := { row := normPartsRow, standIns := [], harness := (true, "831d666ca15142d4e380b8158eac7e3160debf95376edde3e8255ade69beebb9"), looks := false }, kinds := [], alts := [], laidByText := true, laidKinds := [.data, .data, .pinned], laidTests := true, laidLooks := .later }
def NormPartsCardSaid : Prop := Claim7.holds Tryz.pinned (.plain (OpenSpec.ofChange normPartsSpec)) normPartsCard

/-- THE TIED CARD OF 'inkhornlaw12.NormJoins'. -/
def normJoinsCard : Claim7 := { stood := { row := normJoinsRow, standIns := [], harness := (true, "831d666ca15142d4e380b8158eac7e3160debf95376edde3e8255ade69beebb9"), looks := false }, kinds := [], alts := [], laidByText := true, laidKinds := [.data, .data, .pinned], laidTests := true, laidLooks := .later }
def NormJoinsCardSaid : Prop := Claim7.holds Tryz.pinned (.plain (OpenSpec.ofChange normJoinsSpec)) normJoinsCard

/-- THE TIED CARD OF 'inkhornlaw12.NormFeeds'. -/
def normFeedsCard : Claim7 := { stood := { row := normFeedsRow, standIns := [], harness := (true, "831d666ca15142d4e380b8158eac7e3160debf95376edde3e8255ade69beebb9"), looks := false }, kinds := [], alts := [], laidByText := true, laidKinds := [.data, .data, .pinned], laidTests := true, laidLooks := .later }
def NormFeedsCardSaid : Prop := Claim7.holds Tryz.pinned (.plain (OpenSpec.ofChange normFeedsSpec)) normFeedsCard

/-- THE TIED CARD OF 'inkhornlaw12.NormNil'. -/
def normNilCard : Claim7 := { stood := { row := normNilRow, standIns := [], harness := (true, "831d666ca15142d4e380b8158eac7e3160debf95376edde3e8255ade69beebb9"), looks := false }, kinds := [], alts := [], laidByText := true, laidKinds := [.data, .data, .pinned], laidTests := true, laidLooks := .later }
def NormNilCardSaid : Prop := Claim7.holds Tryz.pinned (.plain (OpenSpec.ofChange normNilSpec)) normNilCard

/-- THE TIED CARD OF 'inkhornlaw12.NormSame'. -/
def normSameCard : Claim7 := { stood := { row := normSameRow, standIns := [], harness := (true, "831d666ca15142d4e380b8158eac7e3160debf95376edde3e8255ade69beebb9"), looks := false }, kinds := [], alts := [], laidByText := true, laidKinds := [.data, .data, .pinned], laidTests := true, laidLooks := .later }
def NormSameCardSaid : Prop := Claim7.holds Tryz.pinned (.plain (OpenSpec.ofChange normSameSpec)) normSameCard

/-- THE TIED CARD OF 'inkhornlaw12.NormEqual'. -/
def normEqualCard : Claim7 := { stood := { row := normEqualRow, standIns := [], harness := (true, "831d666ca15142d4e380b8158eac7e3160debf95376edde3e8255ade69beebb9"), looks := false }, kinds := [], alts := [], laidByText := true, laidKinds := [.data, .data, .pinned], laidTests := true, laidLooks := .later }
def NormEqualCardSaid : Prop := Claim7.holds Tryz.pinned (.plain (OpenSpec.ofChange normEqualSpec)) normEqualCard

/-- THE TIED CARD OF 'inkhornlaw12.NormForms'. -/
def normFormsCard : Claim7 := { stood := { row := normFormsRow, standIns := [], harness := (true, "831d666ca15142d4e380b8158eac7e3160debf95376edde3e8255ade69beebb9"), looks := false }, kinds := [], alts := [], laidByText := true, laidKinds := [.data, .data, .pinned], laidTests := true, laidLooks := .later }
def NormFormsCardSaid : Prop := Claim7.holds Tryz.pinned (.plain (OpenSpec.ofChange normFormsSpec)) normFormsCard

/-- THE TIED CARD OF 'inkhornlaw12.NormAgain'. -/
def normAgainCard : Claim7 := { stood := { row := normAgainRow, standIns := [], harness := (true, "831d666ca15142d4e380b8158eac7e3160debf95376edde3e8255ade69beebb9"), looks := false }, kinds := [], alts := [], laidByText := true, laidKinds := [.data, .data, .pinned], laidTests := true, laidLooks := .later }
def NormAgainCardSaid : Prop := Claim7.holds Tryz.pinned (.plain (OpenSpec.ofChange normAgainSpec)) normAgainCard

/-- THE SECOND FORM's CARD OF 'inkhornlaw11.QuickKinds'. -/
def quickKindsUptoCard : Claim7 := { stood := { row := quickKindsUptoRow, standIns := [], harness := (true, "831d666ca15142d4e380b8158eac7e3160debf95376edde3e8255ade69beebb9"), looks := false }, kinds := [], alts := [], laidByText := true, laidKinds := [.data, .data, .pinned], laidTests := true, laidLooks := .later }
def QuickKindsUptoCardSaid : Prop := Claim7.holds Tryz.pinned (.plain (OpenSpec.upto quickKindsSpec)) quickKindsUptoCard

/-- THE SECOND FORM's CARD OF 'inkhornlaw11.QuickCuts'. -/
def quickCutsUptoCard : Claim7 := { stood := { row := quickCutsUptoRow, standIns := [], harness := (true, "831d666ca15142d4e380b8158eac7e3160debf95376edde3e8255ade69beebb9"), looks := false }, kinds := [], alts := [], laidByText := true, laidKinds := [.data, .data, .pinned], laidTests := true, laidLooks := .later }
def QuickCutsUptoCardSaid : Prop := Claim7.holds Tryz.pinned (.plain (OpenSpec.upto quickCutsSpec)) quickCutsUptoCard

/-- THE SECOND FORM's CARD OF 'inkhornlaw11.QuickChecks'. -/
def quickChecksUptoCard : Claim7 := { stood := { row := quickChecksUptoRow, standIns := [], harness := (true, "831d666ca15142d4e380b8158eac7e3160debf95376edde3e8255ade69beebb9"), looks := false }, kinds := [], alts := [], laidByText := true, laidKinds := [.data, .data, .pinned], laidTests := true, laidLooks := .later }
def QuickChecksUptoCardSaid : Prop := Claim7.holds Tryz.pinned (.plain (OpenSpec.upto quickChecksSpec)) quickChecksUptoCard

/-- THE SECOND FORM's CARD OF 'inkhornlaw11.QuickSure'. -/
def quickSureUptoCard : Claim7 := { stood := { row := quickSureUptoRow, standIns := [], harness := (true, "831d666ca15142d4e380b8158eac7e3160debf95376edde3e8255ade69beebb9"), looks := false }, kinds := [], alts := [], laidByText := true, laidKinds := [.data, .data, .pinned], laidTests := true, laidLooks := .later }
def QuickSureUptoCardSaid : Prop := Claim7.holds Tryz.pinned (.plain (OpenSpec.upto quickSureSpec)) quickSureUptoCard

/-- THE SECOND FORM's CARD OF 'inkhornlaw11.QuickNil'. -/
def quickNilUptoCard : Claim7 := { stood := { row := quickNilUptoRow, standIns := [], harness := (true, "831d666ca15142d4e380b8158eac7e3160debf95376edde3e8255ade69beebb9"), looks := false }, kinds := [], alts := [], laidByText := true, laidKinds := [.data, .data, .pinned], laidTests := true, laidLooks := .later }
def QuickNilUptoCardSaid : Prop := Claim7.holds Tryz.pinned (.plain (OpenSpec.upto quickNilSpec)) quickNilUptoCard

/-- THE SECOND FORM's CARD OF 'inkhornlaw11.QuickParts'. -/
def quickPartsUptoCard : Claim7 := { stood := { row := quickPartsUptoRow, standIns := [], harness := (true, "831d666ca15142d4e380b8158eac7e3160debf95376edde3e8255ade69beebb9"), looks := false }, kinds := [], alts := [], laidByText := true, laidKinds := [.data, .data, .pinned], laidTests := true, laidLooks := .later }
def QuickPartsUptoCardSaid : Prop := Claim7.holds Tryz.pinned (.plain (OpenSpec.upto quickPartsSpec)) quickPartsUptoCard

/-- THE SECOND FORM's CARD OF 'inkhornlaw12.NormParts'. -/
def normPartsUptoCard : Claim7 := { stood := { row := normPartsUptoRow, standIns := [], harness := (true, "831d666ca15142d4e380b8158eac7e3160debf95376edde3e8255ade69beebb9"), looks := false }, kinds := [], alts := [], laidByText := true, laidKinds := [.data, .data, .pinned], laidTests := true, laidLooks := .later }
def NormPartsUptoCardSaid : Prop := Claim7.holds Tryz.pinned (.plain (OpenSpec.upto normPartsSpec)) normPartsUptoCard

/-- THE SECOND FORM's CARD OF 'inkhornlaw12.NormJoins'. -/
def normJoinsUptoCard : Claim7 := { stood := { row := normJoinsUptoRow, standIns := [], harness := (true, "831d666ca15142d4e380b8158eac7e3160debf95376edde3e8255ade69beebb9"), looks := false }, kinds := [], alts := [], laidByText := true, laidKinds := [.data, .data, .pinned], laidTests := true, laidLooks := .later }
def NormJoinsUptoCardSaid : Prop := Claim7.holds Tryz.pinned (.plain (OpenSpec.upto normJoinsSpec)) normJoinsUptoCard

/-- THE SECOND FORM's CARD OF 'inkhornlaw12.NormFeeds'. -/
def normFeedsUptoCard : Claim7 := { stood := { row := normFeedsUptoRow, standIns := [], harness := (true, "831d666ca15142d4e380b8158eac7e3160debf95376edde3e8255ade69beebb9"), looks := false }, kinds := [], alts := [], laidByText := true, laidKinds := [.data, .data, .pinned], laidTests := true, laidLooks := .later }
def NormFeedsUptoCardSaid : Prop := Claim7.holds Tryz.pinned (.plain (OpenSpec.upto normFeedsSpec)) normFeedsUptoCard

/-- THE SECOND FORM's CARD OF 'inkhornlaw12.NormNil'. -/
def normNilUptoCard : Claim7 := { stood := { row := normNilUptoRow, standIns := [], harness := (true, "831d666ca15142d4e380b8158eac7e3160debf95376edde3e8255ade69beebb9"), looks := false }, kinds := [], alts := [], laidByText := true, laidKinds := [.data, .data, .pinned], laidTests := true, laidLooks := .later }
def NormNilUptoCardSaid : Prop := Claim7.holds Tryz.pinned (.plain (OpenSpec.upto normNilSpec)) normNilUptoCard

/-- THE SECOND FORM's CARD OF 'inkhornlaw12.NormSame'. -/
def normSameUptoCard : Claim7 := { stood := { row := normSameUptoRow, standIns := [], harness := (true, "831d666ca15142d4e380b8158eac7e3160debf95376edde3e8255ade69beebb9"), looks := false }, kinds := [], alts := [], laidByText := true, laidKinds := [.data, .data, .pinned], laidTests := true, laidLooks := .later }
def NormSameUptoCardSaid : Prop := Claim7.holds Tryz.pinned (.plain (OpenSpec.upto normSameSpec)) normSameUptoCard

/-- THE SECOND FORM's CARD OF 'inkhornlaw12.NormEqual'. -/
def normEqualUptoCard : Claim7 := { stood := { row := normEqualUptoRow, standIns := [], harness := (true, "831d666ca15142d4e380b8158eac7e3160debf95376edde3e8255ade69beebb9"), looks := false }, kinds := [], alts := [], laidByText := true, laidKinds := [.data, .data, .pinned], laidTests := true, laidLooks := .later }
def NormEqualUptoCardSaid : Prop := Claim7.holds Tryz.pinned (.plain (OpenSpec.upto normEqualSpec)) normEqualUptoCard

/-- THE SECOND FORM's CARD OF 'inkhornlaw12.NormForms'. -/
def normFormsUptoCard : Claim7 := { stood := { row := normFormsUptoRow, standIns := [], harness := (true, "831d666ca15142d4e380b8158eac7e3160debf95376edde3e8255ade69beebb9"), looks := false }, kinds := [], alts := [], laidByText := true, laidKinds := [.data, .data, .pinned], laidTests := true, laidLooks := .later }
def NormFormsUptoCardSaid : Prop := Claim7.holds Tryz.pinned (.plain (OpenSpec.upto normFormsSpec)) normFormsUptoCard

/-- THE SECOND FORM's CARD OF 'inkhornlaw12.NormAgain'. -/
def normAgainUptoCard : Claim7 := { stood := { row := normAgainUptoRow, standIns := [], harness := (true, "831d666ca15142d4e380b8158eac7e3160debf95376edde3e8255ade69beebb9"), looks := false }, kinds := [], alts := [], laidByText := true, laidKinds := [.data, .data, .pinned], laidTests := true, laidLooks := .later }
def NormAgainUptoCardSaid : Prop := Claim7.holds Tryz.pinned (.plain (OpenSpec.upto normAgainSpec)) normAgainUptoCard
end Rows
end Go.Proofs.YtkocaoeednmkpaaGreatDoor
