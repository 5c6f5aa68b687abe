/-
  DERIVED. GIVEN WITH THE SEED: THE CARDS: each row of YthfakejhkbelhaaDoorRows.lean that lists a variable, with what it lists TIED to the program's text (the seventh form; the later family's looks); each row that meets fmt, with fmt's text TOLD by the authors' own Lean function (tested against real Go, not proved from fmt's source: count such statements apart). THE CARD IS WHAT COUNTS. Prove the row's statement (the work); the ties are given (YthfakejhkbelhaaDoorTie.lean); close each card by the builder's one call (the guide's Derived/Test/ToyasCard.lean, 'card_holds'). Laid BY PROGRAM, IN A SANDBOX (cutbox-door.mjs). By AI agents, Wed Nov 11 2026. No macro, syntax, notation, axiom, sorry.
-/
import Derived.Test.YthfakejhkbelhaaDoorRows
import GoSem.ClaimSeven
namespace Go.Proofs.YthfakejhkbelhaaDoor
namespace Rows

/-- THE TIED CARD OF 'inkhornlaw21.NamesPlain'. -/
def namesPlainCard : Claim7 := { stood := { row := namesPlainRow, standIns := [], harness := (true, "4a9270fc5b6d1403a8de26fca712ce5ba044b68030f51caf471b327dafc10700"), looks := false }, kinds := [], alts := [], laidByText := true, laidKinds := [.data, .pinned, .pinned], laidTests := true, laidLooks := .later }
def NamesPlainCardSaid : Prop := Claim7.holds Tryd.pinned (.plain (OpenSpec.ofChange namesPlainSpec)) namesPlainCard

/-- THE TIED CARD OF 'inkhornlaw21.NamesKeeps'. -/
def namesKeepsCard : Claim7 := { stood := { row := namesKeepsRow, standIns := [], harness := (true, "4a9270fc5b6d1403a8de26fca712ce5ba044b68030f51caf471b327dafc10700"), looks := false }, kinds := [], alts := [], laidByText := true, laidKinds := [.data, .pinned, .pinned], laidTests := true, laidLooks := .later }
def NamesKeepsCardSaid : Prop := Claim7.holds Tryd.pinned (.plain (OpenSpec.ofChange namesKeepsSpec)) namesKeepsCard

/-- THE TIED CARD OF 'inkhornlaw21.NamesNil'. -/
def namesNilCard : Claim7 := { stood := { row := namesNilRow, standIns := [], harness := (true, "4a9270fc5b6d1403a8de26fca712ce5ba044b68030f51caf471b327dafc10700"), looks := false }, kinds := [], alts := [], laidByText := true, laidKinds := [.data, .pinned, .pinned], laidTests := true, laidLooks := .later }
def NamesNilCardSaid : Prop := Claim7.holds Tryd.pinned (.plain (OpenSpec.ofChange namesNilSpec)) namesNilCard

/-- THE TIED CARD OF 'inkhornlaw21.NamesPlays'. -/
def namesPlaysCard : Claim7 := { stood := { row := namesPlaysRow, standIns := [], harness := (true, "4a9270fc5b6d1403a8de26fca712ce5ba044b68030f51caf471b327dafc10700"), looks := false }, kinds := [], alts := [], laidByText := true, laidKinds := [.data, .pinned, .pinned], laidTests := true, laidLooks := .later }
def NamesPlaysCardSaid : Prop := Claim7.holds Tryd.pinned (.plain (OpenSpec.ofChange namesPlaysSpec)) namesPlaysCard

/-- THE TIED CARD OF 'inkhornlaw21.NamesAdds'. -/
def namesAddsCard : Claim7 := { stood := { row := namesAddsRow, standIns := [], harness := (true, "4a9270fc5b6d1403a8de26fca712ce5ba044b68030f51caf471b327dafc10700"), looks := false }, kinds := [], alts := [], laidByText := true, laidKinds := [.data, .pinned, .pinned], laidTests := true, laidLooks := .later }
def NamesAddsCardSaid : Prop := Claim7.holds Tryd.pinned (.plain (OpenSpec.ofChange namesAddsSpec)) namesAddsCard

/-- THE SECOND FORM's CARD OF 'inkhornlaw21.NamesPlain'. -/
def namesPlainUptoCard : Claim7 := { stood := { row := namesPlainUptoRow, standIns := [], harness := (true, "4a9270fc5b6d1403a8de26fca712ce5ba044b68030f51caf471b327dafc10700"), looks := false }, kinds := [], alts := [], laidByText := true, laidKinds := [.data, .pinned, .pinned], laidTests := true, laidLooks := .later }
def NamesPlainUptoCardSaid : Prop := Claim7.holds Tryd.pinned (.plain (OpenSpec.upto namesPlainSpec)) namesPlainUptoCard

/-- THE SECOND FORM's CARD OF 'inkhornlaw21.NamesKeeps'. -/
def namesKeepsUptoCard : Claim7 := { stood := { row := namesKeepsUptoRow, standIns := [], harness := (true, "4a9270fc5b6d1403a8de26fca712ce5ba044b68030f51caf471b327dafc10700"), looks := false }, kinds := [], alts := [], laidByText := true, laidKinds := [.data, .pinned, .pinned], laidTests := true, laidLooks := .later }
def NamesKeepsUptoCardSaid : Prop := Claim7.holds Tryd.pinned (.plain (OpenSpec.upto namesKeepsSpec)) namesKeepsUptoCard

/-- THE SECOND FORM's CARD OF 'inkhornlaw21.NamesNil'. -/
def namesNilUptoCard : Claim7 := { stood := { row := namesNilUptoRow, standIns := [], harness := (true, "4a9270fc5b6d1403a8de26fca712ce5ba044b68030f51caf471b327dafc10700"), looks := false }, kinds := [], alts := [], laidByText := true, laidKinds := [.data, .pinned, .pinned], laidTests := true, laidLooks := .later }
def NamesNilUptoCardSaid : Prop := Claim7.holds Tryd.pinned (.plain (OpenSpec.upto namesNilSpec)) namesNilUptoCard

/-- THE SECOND FORM's CARD OF 'inkhornlaw21.NamesPlays'. -/
def namesPlaysUptoCard : Claim7 := { stood := { row := namesPlaysUptoRow, standIns := [], harness := (true, "4a9270fc5b6d1403a8de26fca712ce5ba044b68030f51caf471b327dafc10700"), looks := false }, kinds := [], alts := [], laidByText := true, laidKinds := [.data, .pinned, .pinned], laidTests := true, laidLooks := .later }
def NamesPlaysUptoCardSaid : Prop := Claim7.holds Tryd.pinned (.plain (OpenSpec.upto namesPlaysSpec)) namesPlaysUptoCard

/-- THE SECOND FORM's CARD OF 'inkhornlaw21.NamesAdds'. -/
def namesAddsUptoCard : Claim7 := { stood := { row := namesAddsUptoRow, standIns := [], harness := (true, "4a9270fc5b6d1403a8de26fca712ce5ba044b68030f51caf471b327dafc10700"), looks := false }, kinds := [], alts := [], laidByText := true, laidKinds := [.data, .pinned, .pinned], laidTests := true, laidLooks := .later }
def NamesAddsUptoCardSaid : Prop := Claim7.holds Tryd.pinned (.plain (OpenSpec.upto namesAddsSpec)) namesAddsUptoCard
end Rows
end Go.Proofs.YthfakejhkbelhaaDoor
