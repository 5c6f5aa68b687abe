/-
  DERIVED. GIVEN WITH THE SEED: THE CARDS: each row of YtcfnncapdkjlnaaDoorRows.lean that lists a variable, with what it lists TIED to the program's text (the seventh form; the later family's looks); each row that meets fmt, with fmt's text TOLD by the authors' own Lean function (tested against real Go, not proved from fmt's source: count such statements apart). THE CARD IS WHAT COUNTS. Prove the row's statement (the work); the ties are given (YtcfnncapdkjlnaaDoorTie.lean); close each card by the builder's one call (the guide's Derived/Test/ToyasCard.lean, 'card_holds'). Laid BY PROGRAM, IN A SANDBOX (cutbox-door.mjs). By AI agents, Wed Nov 11 2026. No macro, syntax, notation, axiom, sorry.
-/
import Derived.Test.YtcfnncapdkjlnaaDoorRows
import GoSem.ClaimSeven
namespace Go.Proofs.YtcfnncapdkjlnaaDoor
namespace Rows

/-- THE TIED CARD OF 'inkhornlaw07.HangulSplits'. -/
def hangulSplitsCard : Claim7 := { stood := { row := hangulSplitsRow, standIns := [], harness := (true, "ed0f85aab624cfc168762ced4cc64827f8fbc6e4aba3b593b50546f5c03402e9"), looks := false }, kinds := [], alts := [], laidByText := true, laidKinds := [.data], laidTests := true, laidLooks := .later }
def HangulSplitsCardSaid : Prop := Claim7.holds Tryd.pinned (.plain (OpenSpec.ofChange hangulSplitsSpec)) hangulSplitsCard

/-- THE TIED CARD OF 'inkhornlaw07.HangulJoins'. -/
def hangulJoinsCard : Claim7 := { stood := { row := hangulJoinsRow, standIns := [], harness := (true, "ed0f85aab624cfc168762ced4cc64827f8fbc6e4aba3b593b50546f5c03402e9"), looks := false }, kinds := [], alts := [], laidByText := true, laidKinds := [.data], laidTests := true, laidLooks := .later }
def HangulJoinsCardSaid : Prop := Claim7.holds Tryd.pinned (.plain (OpenSpec.ofChange hangulJoinsSpec)) hangulJoinsCard

/-- THE TIED CARD OF 'inkhornlaw07.HangulBack'. -/
def hangulBackCard : Claim7 := { stood := { row := hangulBackRow, standIns := [], harness := (true, "ed0f85aab624cfc168762ced4cc64827f8fbc6e4aba3b593b50546f5c03402e9"), looks := false }, kinds := [], alts := [], laidByText := true, laidKinds := [.data], laidTests := true, laidLooks := .later }
def HangulBackCardSaid : Prop := Claim7.holds Tryd.pinned (.plain (OpenSpec.ofChange hangulBackSpec)) hangulBackCard

/-- THE TIED CARD OF 'inkhornlaw07.HangulFull'. -/
def hangulFullCard : Claim7 := { stood := { row := hangulFullRow, standIns := [], harness := (true, "ed0f85aab624cfc168762ced4cc64827f8fbc6e4aba3b593b50546f5c03402e9"), looks := false }, kinds := [], alts := [], laidByText := true, laidKinds := [.data], laidTests := true, laidLooks := .later }
def HangulFullCardSaid : Prop := Claim7.holds Tryd.pinned (.plain (OpenSpec.ofChange hangulFullSpec)) hangulFullCard

/-- THE TIED CARD OF 'inkhornlaw07.HangulTexts'. -/
def hangulTextsCard : Claim7 := { stood := { row := hangulTextsRow, standIns := [], harness := (true, "ed0f85aab624cfc168762ced4cc64827f8fbc6e4aba3b593b50546f5c03402e9"), looks := false }, kinds := [], alts := [], laidByText := true, laidKinds := [.data], laidTests := true, laidLooks := .later }
def HangulTextsCardSaid : Prop := Claim7.holds Tryd.pinned (.plain (OpenSpec.ofChange hangulTextsSpec)) hangulTextsCard

/-- THE TIED CARD OF 'inkhornlaw07.HangulRounds'. -/
def hangulRoundsCard : Claim7 := { stood := { row := hangulRoundsRow, standIns := [], harness := (true, "ed0f85aab624cfc168762ced4cc64827f8fbc6e4aba3b593b50546f5c03402e9"), looks := false }, kinds := [], alts := [], laidByText := true, laidKinds := [.data], laidTests := true, laidLooks := .later }
def HangulRoundsCardSaid : Prop := Claim7.holds Tryd.pinned (.plain (OpenSpec.ofChange hangulRoundsSpec)) hangulRoundsCard

/-- THE SECOND FORM's CARD OF 'inkhornlaw07.HangulSplits'. -/
def hangulSplitsUptoCard : Claim7 := { stood := { row := hangulSplitsUptoRow, standIns := [], harness := (true, "ed0f85aab624cfc168762ced4cc64827f8fbc6e4aba3b593b50546f5c03402e9"), looks := false }, kinds := [], alts := [], laidByText := true, laidKinds := [.data], laidTests := true, laidLooks := .later }
def HangulSplitsUptoCardSaid : Prop := Claim7.holds Tryd.pinned (.plain (OpenSpec.upto hangulSplitsSpec)) hangulSplitsUptoCard

/-- THE SECOND FORM's CARD OF 'inkhornlaw07.HangulJoins'. -/
def hangulJoinsUptoCard : Claim7 := { stood := { row := hangulJoinsUptoRow, standIns := [], harness := (true, "ed0f85aab624cfc168762ced4cc64827f8fbc6e4aba3b593b50546f5c03402e9"), looks := false }, kinds := [], alts := [], laidByText := true, laidKinds := [.data], laidTests := true, laidLooks := .later }
def HangulJoinsUptoCardSaid : Prop := Claim7.holds Tryd.pinned (.plain (OpenSpec.upto hangulJoinsSpec)) hangulJoinsUptoCard

/-- THE SECOND FORM's CARD OF 'inkhornlaw07.HangulBack'. -/
def hangulBackUptoCard : Claim7 := { stood := { row := hangulBackUptoRow, standIns := [], harness := (true, "ed0f85aab624cfc168762ced4cc64827f8fbc6e4aba3b593b50546f5c03402e9"), looks := false }, kinds := [], alts := [], laidByText := true, laidKinds := [.data], laidTests := true, laidLooks := .later }
def HangulBackUptoCardSaid : Prop := Claim7.holds Tryd.pinned (.plain (OpenSpec.upto hangulBackSpec)) hangulBackUptoCard

/-- THE SECOND FORM's CARD OF 'inkhornlaw07.HangulFull'. -/
def hangulFullUptoCard : Claim7 := { stood := { row := hangulFullUptoRow, standIns := [], harness := (true, "ed0f85aab624cfc168762ced4cc64827f8fbc6e4aba3b593b50546f5c03402e9"), looks := false }, kinds := [], alts := [], laidByText := true, laidKinds := [.data], laidTests := true, laidLooks := .later }
def HangulFullUptoCardSaid : Prop := Claim7.holds Tryd.pinned (.plain (OpenSpec.upto hangulFullSpec)) hangulFullUptoCard

/-- THE SECOND FORM's CARD OF 'inkhornlaw07.HangulTexts'. -/
def hangulTextsUptoCard : Claim7 := { stood := { row := hangulTextsUptoRow, standIns := [], harness := (true, "ed0f85aab624cfc168762ced4cc64827f8fbc6e4aba3b593b50546f5c03402e9"), looks := false }, kinds := [], alts := [], laidByText := true, laidKinds := [.data], laidTests := true, laidLooks := .later }
def HangulTextsUptoCardSaid : Prop := Claim7.holds Tryd.pinned (.plain (OpenSpec.upto hangulTextsSpec)) hangulTextsUptoCard

/-- THE SECOND FORM's CARD OF 'inkhornlaw07.HangulRounds'. -/
def hangulRoundsUptoCard : Claim7 := { stood := { row := hangulRoundsUptoRow, standIns := [], harness := (true, "ed0f85aab624cfc168762ced4cc64827f8fbc6e4aba3b593b50546f5c03402e9"), looks := false }, kinds := [], alts := [], laidByText := true, laidKinds := [.data], laidTests := true, laidLooks := .later }
def HangulRoundsUptoCardSaid : Prop := Claim7.holds Tryd.pinned (.plain (OpenSpec.upto hangulRoundsSpec)) hangulRoundsUptoCard
end Rows
end Go.Proofs.YtcfnncapdkjlnaaDoor
