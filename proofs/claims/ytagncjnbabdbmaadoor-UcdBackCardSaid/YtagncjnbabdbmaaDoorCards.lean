/-
  DERIVED. GIVEN WITH THE SEED: THE CARDS: each row of YtagncjnbabdbmaaDoorRows.lean that lists a variable, with what it lists TIED to the program's text (the seventh form; the later family's looks); each row that meets fmt, with fmt's text TOLD by the authors' own Lean function (tested against real Go, not proved from fmt's source: count such statements apart). THE CARD IS WHAT COUNTS. Prove the row's statement (the work); the ties are given (YtagncjnbabdbmaaDoorTie.lean); close each card by the builder's one call (the guide's Derived/Test/ToyasCard.lean, 'card_holds'). Laid BY PROGRAM, IN A SANDBOX (cutbox-door.mjs). By AI agents, Wed Nov 11 2026. No macro, syntax, notation, axiom, sorry.
-/
import Derived.Test.YtagncjnbabdbmaaDoorRows
import GoSem.ClaimSeven
namespace Go.Proofs.YtagncjnbabdbmaaDoor
namespace Rows

/-- THE TIED CARD OF 'inkhornlaw04.FieldsLines'. -/
def fieldsLinesCard : Claim7 := { stood := { row := fieldsLinesRow, standIns := [], harness := (true, "0d0fe723c2c3e42bb1d8210bc432c425a56bcf0afa61b235ad738880c6cc4260"), looks := false }, kinds := [], alts := [], laidByText := true, laidKinds := [.data, .pinned], laidTests := true, laidLooks := .later }
def FieldsLinesCardSaid : Prop := Claim7.holds Tryd.pinned (.plain (OpenSpec.ofChange fieldsLinesSpec)) fieldsLinesCard

/-- THE TIED CARD OF 'inkhornlaw04.FieldsJoins'. -/
def fieldsJoinsCard : Claim7 := { stood := { row := fieldsJoinsRow, standIns := [], harness := (true, "0d0fe723c2c3e42bb1d8210bc432c425a56bcf0afa61b235ad738880c6cc4260"), looks := false }, kinds := [], alts := [], laidByText := true, laidKinds := [.data, .pinned], laidTests := true, laidLooks := .later }
def FieldsJoinsCardSaid : Prop := Claim7.holds Tryd.pinned (.plain (OpenSpec.ofChange fieldsJoinsSpec)) fieldsJoinsCard

/-- THE TIED CARD OF 'inkhornlaw04.FieldsHex'. -/
def fieldsHexCard : Claim7 := { stood := { row := fieldsHexRow, standIns := [], harness := (true, "0d0fe723c2c3e42bb1d8210bc432c425a56bcf0afa61b235ad738880c6cc4260"), looks := false }, kinds := [], alts := [], laidByText := true, laidKinds := [.data, .pinned], laidTests := true, laidLooks := .later }
def FieldsHexCardSaid : Prop := Claim7.holds Tryd.pinned (.plain (OpenSpec.ofChange fieldsHexSpec)) fieldsHexCard

/-- THE TIED CARD OF 'inkhornlaw04.FieldsSame'. -/
def fieldsSameCard : Claim7 := { stood := { row := fieldsSameRow, standIns := [], harness := (true, "0d0fe723c2c3e42bb1d8210bc432c425a56bcf0afa61b235ad738880c6cc4260"), looks := false }, kinds := [], alts := [], laidByText := true, laidKinds := [.data, .pinned], laidTests := true, laidLooks := .later }
def FieldsSameCardSaid : Prop := Claim7.holds Tryd.pinned (.plain (OpenSpec.ofChange fieldsSameSpec)) fieldsSameCard

/-- THE TIED CARD OF 'inkhornlaw04.FieldsBytes'. -/
def fieldsBytesCard : Claim7 := { stood := { row := fieldsBytesRow, standIns := [], harness := (true, "0d0fe723c2c3e42bb1d8210bc432c425a56bcf0afa61b235ad738880c6cc4260"), looks := false }, kinds := [], alts := [], laidByText := true, laidKinds := [.data, .pinned], laidTests := true, laidLooks := .later }
def FieldsBytesCardSaid : Prop := Claim7.holds Tryd.pinned (.plain (OpenSpec.ofChange fieldsBytesSpec)) fieldsBytesCard

/-- THE TIED CARD OF 'inkhornlaw04.FieldsBack'. -/
def fieldsBackCard : Claim7 := { stood := { row := fieldsBackRow, standIns := [], harness := (true, "0d0fe723c2c3e42bb1d8210bc432c425a56bcf0afa61b235ad738880c6cc4260"), looks := false }, kinds := [], alts := [], laidByText := true, laidKinds := [.data, .pinned], laidTests := true, laidLooks := .later }
def FieldsBackCardSaid : Prop := Claim7.holds Tryd.pinned (.plain (OpenSpec.ofChange fieldsBackSpec)) fieldsBackCard

/-- THE TIED CARD OF 'inkhornlaw05.UcdRows'. -/
def ucdRowsCard : Claim7 := { stood := { row := ucdRowsRow, standIns := [], harness := (true, "0d0fe723c2c3e42bb1d8210bc432c425a56bcf0afa61b235ad738880c6cc4260"), looks := false }, kinds := [], alts := [], laidByText := true, laidKinds := [.data, .pinned], laidTests := true, laidLooks := .later }
def UcdRowsCardSaid : Prop := Claim7.holds Tryd.pinned (.plain (OpenSpec.ofChange ucdRowsSpec)) ucdRowsCard

/-- THE TIED CARD OF 'inkhornlaw05.UcdJoins'. -/
def ucdJoinsCard : Claim7 := { stood := { row := ucdJoinsRow, standIns := [], harness := (true, "0d0fe723c2c3e42bb1d8210bc432c425a56bcf0afa61b235ad738880c6cc4260"), looks := false }, kinds := [], alts := [], laidByText := true, laidKinds := [.data, .pinned], laidTests := true, laidLooks := .later }
def UcdJoinsCardSaid : Prop := Claim7.holds Tryd.pinned (.plain (OpenSpec.ofChange ucdJoinsSpec)) ucdJoinsCard

/-- THE TIED CARD OF 'inkhornlaw05.UcdBack'. -/
def ucdBackCard : Claim7 := { stood := { row := ucdBackRow, standIns := [], harness := (true, "0d0fe723c2c3e42bb1d8210bc432c425a56bcf0afa61b235ad738880c6cc4260"), looks := false }, kinds := [], alts := [], laidByText := true, laidKinds := [.data, .data, .data, .data, .pinned], laidTests := true, laidLooks := .later }
def UcdBackCardSaid : Prop := Claim7.holds Tryd.pinned (.plain (OpenSpec.ofChange ucdBackSpec)) ucdBackCard

/-- THE TIED CARD OF 'inkhornlaw05.UcdSets'. -/
def ucdSetsCard : Claim7 := { stood := { row := ucdSetsRow, standIns := [], harness := (true, "0d0fe723c2c3e42bb1d8210bc432c425a56bcf0afa61b235ad738880c6cc4260"), looks := false }, kinds := [], alts := [], laidByText := true, laidKinds := [.data, .pinned], laidTests := true, laidLooks := .later }
def UcdSetsCardSaid : Prop := Claim7.holds Tryd.pinned (.plain (OpenSpec.ofChange ucdSetsSpec)) ucdSetsCard

/-- THE TIED CARD OF 'inkhornlaw05.UcdOrder'. -/
def ucdOrderCard : Claim7 := { stood := { row := ucdOrderRow, standIns := [], harness := (true, "0d0fe723c2c3e42bb1d8210bc432c425a56bcf0afa61b235ad738880c6cc4260"), looks := false }, kinds := [], alts := [], laidByText := true, laidKinds := [.data, .pinned], laidTests := true, laidLooks := .later }
def UcdOrderCardSaid : Prop := Claim7.holds Tryd.pinned (.plain (OpenSpec.ofChange ucdOrderSpec)) ucdOrderCard

/-- THE SECOND FORM's CARD OF 'inkhornlaw04.FieldsLines'. -/
def fieldsLinesUptoCard : Claim7 := { stood := { row := fieldsLinesUptoRow, standIns := [], harness := (true, "0d0fe723c2c3e42bb1d8210bc432c425a56bcf0afa61b235ad738880c6cc4260"), looks := false }, kinds := [], alts := [], laidByText := true, laidKinds := [.data, .pinned], laidTests := true, laidLooks := .later }
def FieldsLinesUptoCardSaid : Prop := Claim7.holds Tryd.pinned (.plain (OpenSpec.upto fieldsLinesSpec)) fieldsLinesUptoCard

/-- THE SECOND FORM's CARD OF 'inkhornlaw04.FieldsJoins'. -/
def fieldsJoinsUptoCard : Claim7 := { stood := { row := fieldsJoinsUptoRow, standIns := [], harness := (true, "0d0fe723c2c3e42bb1d8210bc432c425a56bcf0afa61b235ad738880c6cc4260"), looks := false }, kinds := [], alts := [], laidByText := true, laidKinds := [.data, .pinned], laidTests := true, laidLooks := .later }
def FieldsJoinsUptoCardSaid : Prop := Claim7.holds Tryd.pinned (.plain (OpenSpec.upto fieldsJoinsSpec)) fieldsJoinsUptoCard

/-- THE SECOND FORM's CARD OF 'inkhornlaw04.FieldsHex'. -/
def fieldsHexUptoCard : Claim7 := { stood := { row := fieldsHexUptoRow, standIns := [], harness := (true, "0d0fe723c2c3e42bb1d8210bc432c425a56bcf0afa61b235ad738880c6cc4260"), looks := false }, kinds := [], alts := [], laidByText := true, laidKinds := [.data, .pinned], laidTests := true, laidLooks := .later }
def FieldsHexUptoCardSaid : Prop := Claim7.holds Tryd.pinned (.plain (OpenSpec.upto fieldsHexSpec)) fieldsHexUptoCard

/-- THE SECOND FORM's CARD OF 'inkhornlaw04.FieldsSame'. -/
def fieldsSameUptoCard : Claim7 := { stood := { row := fieldsSameUptoRow, standIns := [], harness := (true, "0d0fe723c2c3e42bb1d8210bc432c425a56bcf0afa61b235ad738880c6cc4260"), looks := false }, kinds := [], alts := [], laidByText := true, laidKinds := [.data, .pinned], laidTests := true, laidLooks := .later }
def FieldsSameUptoCardSaid : Prop := Claim7.holds Tryd.pinned (.plain (OpenSpec.upto fieldsSameSpec)) fieldsSameUptoCard

/-- THE SECOND FORM's CARD OF 'inkhornlaw04.FieldsBytes'. -/
def fieldsBytesUptoCard : Claim7 := { stood := { row := fieldsBytesUptoRow, standIns := [], harness := (true, "0d0fe723c2c3e42bb1d8210bc432c425a56bcf0afa61b235ad738880c6cc4260"), looks := false }, kinds := [], alts := [], laidByText := true, laidKinds := [.data, .pinned], laidTests := true, laidLooks := .later }
def FieldsBytesUptoCardSaid : Prop := Claim7.holds Tryd.pinned (.plain (OpenSpec.upto fieldsBytesSpec)) fieldsBytesUptoCard

/-- THE SECOND FORM's CARD OF 'inkhornlaw04.FieldsBack'. -/
def fieldsBackUptoCard : Claim7 := { stood := { row := fieldsBackUptoRow, standIns := [], harness := (true, "0d0fe723c2c3e42bb1d8210bc432c425a56bcf0afa61b235ad738880c6cc4260"), looks := false }, kinds := [], alts := [], laidByText := true, laidKinds := [.data, .pinned], laidTests := true, laidLooks := .later }
def FieldsBackUptoCardSaid : Prop := Claim7.holds Tryd.pinned (.plain (OpenSpec.upto fieldsBackSpec)) fieldsBackUptoCard

/-- THE SECOND FORM's CARD OF 'inkhornlaw05.UcdRows'. -/
def ucdRowsUptoCard : Claim7 := { stood := { row := ucdRowsUptoRow, standIns := [], harness := (true, "0d0fe723c2c3e42bb1d8210bc432c425a56bcf0afa61b235ad738880c6cc4260"), looks := false }, kinds := [], alts := [], laidByText := true, laidKinds := [.data, .pinned], laidTests := true, laidLooks := .later }
def UcdRowsUptoCardSaid : Prop := Claim7.holds Tryd.pinned (.plain (OpenSpec.upto ucdRowsSpec)) ucdRowsUptoCard

/-- THE SECOND FORM's CARD OF 'inkhornlaw05.UcdJoins'. -/
def ucdJoinsUptoCard : Claim7 := { stood := { row := ucdJoinsUptoRow, standIns := [], harness := (true, "0d0fe723c2c3e42bb1d8210bc432c425a56bcf0afa61b235ad738880c6cc4260"), looks := false }, kinds := [], alts := [], laidByText := true, laidKinds := [.data, .pinned], laidTests := true, laidLooks := .later }
def UcdJoinsUptoCardSaid : Prop := Claim7.holds Tryd.pinned (.plain (OpenSpec.upto ucdJoinsSpec)) ucdJoinsUptoCard

/-- THE SECOND FORM's CARD OF 'inkhornlaw05.UcdBack'. -/
def ucdBackUptoCard : Claim7 := { stood := { row := ucdBackUptoRow, standIns := [], harness := (true, "0d0fe723c2c3e42bb1d8210bc432c425a56bcf0afa61b235ad738880c6cc4260"), looks := false }, kinds := [], alts := [], laidByText := true, laidKinds := [.data, .data, .data, .data, .pinned], laidTests := true, laidLooks := .later }
def UcdBackUptoCardSaid : Prop := Claim7.holds Tryd.pinned (.plain (OpenSpec.upto ucdBackSpec)) ucdBackUptoCard

/-- THE SECOND FORM's CARD OF 'inkhornlaw05.UcdSets'. -/
def ucdSetsUptoCard : Claim7 := { stood := { row := ucdSetsUptoRow, standIns := [], harness := (true, "0d0fe723c2c3e42bb1d8210bc432c425a56bcf0afa61b235ad738880c6cc4260"), looks := false }, kinds := [], alts := [], laidByText := true, laidKinds := [.data, .pinned], laidTests := true, laidLooks := .later }
def UcdSetsUptoCardSaid : Prop := Claim7.holds Tryd.pinned (.plain (OpenSpec.upto ucdSetsSpec)) ucdSetsUptoCard

/-- THE SECOND FORM's CARD OF 'inkhornlaw05.UcdOrder'. -/
def ucdOrderUptoCard : Claim7 := { stood := { row := ucdOrderUptoRow, standIns := [], harness := (true, "0d0fe723c2c3e42bb1d8210bc432c425a56bcf0afa61b235ad738880c6cc4260"), looks := false }, kinds := [], alts := [], laidByText := true, laidKinds := [.data, .pinned], laidTests := true, laidLooks := .later }
def UcdOrderUptoCardSaid : Prop := Claim7.holds Tryd.pinned (.plain (OpenSpec.upto ucdOrderSpec)) ucdOrderUptoCard
end Rows
end Go.Proofs.YtagncjnbabdbmaaDoor
