/-
  NARROWER THAN 'FOR EVERY INPUT', by the rows' own cells (each row's printed sentence says how): FieldsLines: laid · FieldsJoins: laid · FieldsHex: laid · FieldsSame: laid · FieldsBytes: laid · FieldsBack: laid · UcdRows: laid · UcdJoins: laid · UcdBack: laid · UcdSets: laid · UcdOrder: laid.
  DERIVED. THE GIVEN ROWS OF THIS SEAT. 11 by the template 'for every input the law returns true; each argument reads behind the call as it read before'; 0 by the template 'total and deterministic' (their statements: YtagncjnbabdbmaaDoorTotals.lean).
  GIVEN WITH THE SEED: the statements are not yours to turn. If you find one false, say at which input.
  Laid BY PROGRAM, IN A SANDBOX (cutbox-rows.mjs): the forced cells as the released guide's own fill.sh prints them over the translation b23ee253820fe59e… (all of the seat's roots in one cut). By AI agents, Wed Nov 11 2026. No macro, syntax, notation, axiom, sorry.
-/
import Derived.Test.YtagncjnbabdbmaaDoorChecked
import GoSem.PinnedTables
import GoSem.Claim
import GoSem.ClaimJoined
import GoSem.ClaimMapViews
import Derived.JoinedTies
import Derived.KernelRfl
namespace Go.Proofs.YtagncjnbabdbmaaDoor
/- THE CELL 'sum', in the pinned program and in every row, IS THE sha256 OF THE DUMP (.gsa) THAT YtagncjnbabdbmaaDoorProg.lean LOADS. Nothing in Lean hashes anything: it is a label: what it is worth is what the hold of that sum in a sandbox is worth. -/
noncomputable def Tryd.pinned : Pinned := { name := "ytagncjnbabdbmaadoor", sum := "b23ee253820fe59ed47b2f0b62cd5e5a228721e23c44e1fc58a8f78f919eef63", checked := Tryd.checked }
namespace Rows
def none {H : Type} : Left H := { results := [], args := [] }

/- WHAT THE LISTED PACKAGE-LEVEL VARIABLES READ AS WHEN THE CALL BEGINS. Each datum BY PROGRAM (the guide's laid-datum.mjs) off the statement by which the dump's own 'gosem.cut.vars' lays the variable. In a bare row this is a premise. The card (YtagncjnbabdbmaaDoorCards.lean) ties it to the program's text. -/
def laid_unicode_utf8_acceptRanges {H : Type} : DataW H := .agg [.agg [.lit (.int .u8 128), .lit (.int .u8 191)], .agg [.lit (.int .u8 160), .lit (.int .u8 191)], .agg [.lit (.int .u8 128), .lit (.int .u8 159)], .agg [.lit (.int .u8 144), .lit (.int .u8 191)], .agg [.lit (.int .u8 128), .lit (.int .u8 143)], .agg [.lit (.int .u8 0), .lit (.int .u8 0)], .agg [.lit (.int .u8 0), .lit (.int .u8 0)], .agg [.lit (.int .u8 0), .lit (.int .u8 0)], .agg [.lit (.int .u8 0), .lit (.int .u8 0)], .agg [.lit (.int .u8 0), .lit (.int .u8 0)], .agg [.lit (.int .u8 0), .lit (.int .u8 0)], .agg [.lit (.int .u8 0), .lit (.int .u8 0)], .agg [.lit (.int .u8 0), .lit (.int .u8 0)], .agg [.lit (.int .u8 0), .lit (.int .u8 0)], .agg [.lit (.int .u8 0), .lit (.int .u8 0)], .agg [.lit (.int .u8 0), .lit (.int .u8 0)]]
/-- One of Go's own tables, pinned by name: the form's constant. -/
def laid_unicode_utf8_first : DataW Unit := Go.Pinned.utf8First
def laid_math_bits_deBruijn32tab {H : Type} : DataW H := .agg [.lit (.int .u8 0), .lit (.int .u8 1), .lit (.int .u8 28), .lit (.int .u8 2), .lit (.int .u8 29), .lit (.int .u8 14), .lit (.int .u8 24), .lit (.int .u8 3), .lit (.int .u8 30), .lit (.int .u8 22), .lit (.int .u8 20), .lit (.int .u8 15), .lit (.int .u8 25), .lit (.int .u8 17), .lit (.int .u8 4), .lit (.int .u8 8), .lit (.int .u8 31), .lit (.int .u8 27), .lit (.int .u8 13), .lit (.int .u8 23), .lit (.int .u8 21), .lit (.int .u8 19), .lit (.int .u8 16), .lit (.int .u8 7), .lit (.int .u8 26), .lit (.int .u8 12), .lit (.int .u8 18), .lit (.int .u8 6), .lit (.int .u8 11), .lit (.int .u8 5), .lit (.int .u8 10), .lit (.int .u8 9)]
def laid_math_bits_deBruijn64tab {H : Type} : DataW H := .agg [.lit (.int .u8 0), .lit (.int .u8 1), .lit (.int .u8 56), .lit (.int .u8 2), .lit (.int .u8 57), .lit (.int .u8 49), .lit (.int .u8 28), .lit (.int .u8 3), .lit (.int .u8 61), .lit (.int .u8 58), .lit (.int .u8 42), .lit (.int .u8 50), .lit (.int .u8 38), .lit (.int .u8 29), .lit (.int .u8 17), .lit (.int .u8 4), .lit (.int .u8 62), .lit (.int .u8 47), .lit (.int .u8 59), .lit (.int .u8 36), .lit (.int .u8 45), .lit (.int .u8 43), .lit (.int .u8 51), .lit (.int .u8 22), .lit (.int .u8 53), .lit (.int .u8 39), .lit (.int .u8 33), .lit (.int .u8 30), .lit (.int .u8 24), .lit (.int .u8 18), .lit (.int .u8 12), .lit (.int .u8 5), .lit (.int .u8 63), .lit (.int .u8 55), .lit (.int .u8 48), .lit (.int .u8 27), .lit (.int .u8 60), .lit (.int .u8 41), .lit (.int .u8 37), .lit (.int .u8 16), .lit (.int .u8 46), .lit (.int .u8 35), .lit (.int .u8 44), .lit (.int .u8 21), .lit (.int .u8 52), .lit (.int .u8 32), .lit (.int .u8 23), .lit (.int .u8 11), .lit (.int .u8 54), .lit (.int .u8 26), .lit (.int .u8 40), .lit (.int .u8 15), .lit (.int .u8 34), .lit (.int .u8 20), .lit (.int .u8 31), .lit (.int .u8 10), .lit (.int .u8 25), .lit (.int .u8 14), .lit (.int .u8 19), .lit (.int .u8 9), .lit (.int .u8 13), .lit (.int .u8 8), .lit (.int .u8 7), .lit (.int .u8 6)]
def laid_internal_strconv_uint64pow10 {H : Type} : DataW H := .agg [.lit (.int .u64 1), .lit (.int .u64 10), .lit (.int .u64 100), .lit (.int .u64 1000), .lit (.int .u64 10000), .lit (.int .u64 100000), .lit (.int .u64 1000000), .lit (.int .u64 10000000), .lit (.int .u64 100000000), .lit (.int .u64 1000000000), .lit (.int .u64 10000000000), .lit (.int .u64 100000000000), .lit (.int .u64 1000000000000), .lit (.int .u64 10000000000000), .lit (.int .u64 100000000000000), .lit (.int .u64 1000000000000000), .lit (.int .u64 10000000000000000), .lit (.int .u64 100000000000000000), .lit (.int .u64 1000000000000000000), .lit (.int .u64 10000000000000000000)]

/-- 'inkhornlaw04.FieldsLines': WHATEVER THE INPUT: true; the input reads as it did. -/
def fieldsLinesSpec : ChangeSpec := { name := "fieldsLines", fn := fun _ => fun
  | [d1, d2] => { results := [.lit (.bool true)], args := [d1, d2] }
  | _ => none }
def fieldsLinesRow : OpenClaim := { program := "ytagncjnbabdbmaadoor", sum := "b23ee253820fe59ed47b2f0b62cd5e5a228721e23c44e1fc58a8f78f919eef63", func := "inkhorn/inkhornlaw04.FieldsLines", spec := "fieldsLines", inPlace := ["internal/bytealg.CountString", "internal/bytealg.IndexByteString", "internal/bytealg.IndexString"], unfollowed := true, recurses := true, named := ["unicode/utf8.first", "unicode/utf8.acceptRanges", "internal/bytealg.MaxLen"], apart := false, laid := [("unicode/utf8.acceptRanges", laid_unicode_utf8_acceptRanges), ("unicode/utf8.first", laid_unicode_utf8_first)] }
def FieldsLinesSaid : Prop := fieldsLinesRow.holds Tryd.pinned (OpenSpec.ofChange fieldsLinesSpec)

/-- ITS FALSE NEIGHBOUR: 'it returns false'. Refute it at one input. -/
def fieldsLinesWrong : ChangeSpec := { name := "fieldsLines", fn := fun _ => fun
  | [d1, d2] => { results := [.lit (.bool false)], args := [d1, d2] }
  | _ => none }
def FieldsLinesWrongFalsely : Prop := fieldsLinesRow.holds Tryd.pinned (OpenSpec.ofChange fieldsLinesWrong)

/-- 'inkhornlaw04.FieldsJoins': WHATEVER THE INPUT: true; the input reads as it did. -/
def fieldsJoinsSpec : ChangeSpec := { name := "fieldsJoins", fn := fun _ => fun
  | [d1, d2] => { results := [.lit (.bool true)], args := [d1, d2] }
  | _ => none }
def fieldsJoinsRow : OpenClaim := { program := "ytagncjnbabdbmaadoor", sum := "b23ee253820fe59ed47b2f0b62cd5e5a228721e23c44e1fc58a8f78f919eef63", func := "inkhorn/inkhornlaw04.FieldsJoins", spec := "fieldsJoins", inPlace := ["internal/bytealg.CountString", "internal/bytealg.IndexByteString", "internal/bytealg.IndexString"], unfollowed := true, recurses := true, named := ["unicode/utf8.first", "unicode/utf8.acceptRanges", "internal/bytealg.MaxLen"], apart := false, laid := [("unicode/utf8.acceptRanges", laid_unicode_utf8_acceptRanges), ("unicode/utf8.first", laid_unicode_utf8_first)] }
def FieldsJoinsSaid : Prop := fieldsJoinsRow.holds Tryd.pinned (OpenSpec.ofChange fieldsJoinsSpec)

/-- ITS FALSE NEIGHBOUR: 'it returns false'. Refute it at one input. -/
def fieldsJoinsWrong : ChangeSpec := { name := "fieldsJoins", fn := fun _ => fun
  | [d1, d2] => { results := [.lit (.bool false)], args := [d1, d2] }
  | _ => none }
def FieldsJoinsWrongFalsely : Prop := fieldsJoinsRow.holds Tryd.pinned (OpenSpec.ofChange fieldsJoinsWrong)

/-- 'inkhornlaw04.FieldsHex': WHATEVER THE INPUT: true; the input reads as it did. -/
def fieldsHexSpec : ChangeSpec := { name := "fieldsHex", fn := fun _ => fun
  | [d] => { results := [.lit (.bool true)], args := [d] }
  | _ => none }
def fieldsHexRow : OpenClaim := { program := "ytagncjnbabdbmaadoor", sum := "b23ee253820fe59ed47b2f0b62cd5e5a228721e23c44e1fc58a8f78f919eef63", func := "inkhorn/inkhornlaw04.FieldsHex", spec := "fieldsHex", inPlace := ["internal/bytealg.CountString", "internal/bytealg.IndexByteString", "internal/bytealg.IndexString"], unfollowed := true, recurses := true, named := ["unicode/utf8.first", "unicode/utf8.acceptRanges", "internal/bytealg.MaxLen"], apart := false, laid := [("unicode/utf8.acceptRanges", laid_unicode_utf8_acceptRanges), ("unicode/utf8.first", laid_unicode_utf8_first)] }
def FieldsHexSaid : Prop := fieldsHexRow.holds Tryd.pinned (OpenSpec.ofChange fieldsHexSpec)

/-- ITS FALSE NEIGHBOUR: 'it returns false'. Refute it at one input. -/
def fieldsHexWrong : ChangeSpec := { name := "fieldsHex", fn := fun _ => fun
  | [d] => { results := [.lit (.bool false)], args := [d] }
  | _ => none }
def FieldsHexWrongFalsely : Prop := fieldsHexRow.holds Tryd.pinned (OpenSpec.ofChange fieldsHexWrong)

/-- 'inkhornlaw04.FieldsSame': WHATEVER THE INPUT: true; the input reads as it did. -/
def fieldsSameSpec : ChangeSpec := { name := "fieldsSame", fn := fun _ => fun
  | [d1, d2] => { results := [.lit (.bool true)], args := [d1, d2] }
  | _ => none }
def fieldsSameRow : OpenClaim := { program := "ytagncjnbabdbmaadoor", sum := "b23ee253820fe59ed47b2f0b62cd5e5a228721e23c44e1fc58a8f78f919eef63", func := "inkhorn/inkhornlaw04.FieldsSame", spec := "fieldsSame", inPlace := ["internal/bytealg.CountString", "internal/bytealg.IndexByteString", "internal/bytealg.IndexString"], unfollowed := true, recurses := true, named := ["unicode/utf8.first", "unicode/utf8.acceptRanges", "internal/bytealg.MaxLen"], apart := false, laid := [("unicode/utf8.acceptRanges", laid_unicode_utf8_acceptRanges), ("unicode/utf8.first", laid_unicode_utf8_first)] }
def FieldsSameSaid : Prop := fieldsSameRow.holds Tryd.pinned (OpenSpec.ofChange fieldsSameSpec)

/-- ITS FALSE NEIGHBOUR: 'it returns false'. Refute it at one input. -/
def fieldsSameWrong : ChangeSpec := { name := "fieldsSame", fn := fun _ => fun
  | [d1, d2] => { results := [.lit (.bool false)], args := [d1, d2] }
  | _ => none }
def FieldsSameWrongFalsely : Prop := fieldsSameRow.holds Tryd.pinned (OpenSpec.ofChange fieldsSameWrong)

/-- 'inkhornlaw04.FieldsBytes': WHATEVER THE INPUT: true; the input reads as it did. -/
def fieldsBytesSpec : ChangeSpec := { name := "fieldsBytes", fn := fun _ => fun
  | [d1, d2, d3] => { results := [.lit (.bool true)], args := [d1, d2, d3] }
  | _ => none }
def fieldsBytesRow : OpenClaim := { program := "ytagncjnbabdbmaadoor", sum := "b23ee253820fe59ed47b2f0b62cd5e5a228721e23c44e1fc58a8f78f919eef63", func := "inkhorn/inkhornlaw04.FieldsBytes", spec := "fieldsBytes", inPlace := ["internal/bytealg.CountString", "internal/bytealg.IndexByteString", "internal/bytealg.IndexString", "internal/abi.NoEscape", "internal/bytealg.MakeNoZero"], unfollowed := true, recurses := true, named := ["unicode/utf8.first", "unicode/utf8.acceptRanges", "internal/bytealg.MaxLen"], apart := false, laid := [("unicode/utf8.acceptRanges", laid_unicode_utf8_acceptRanges), ("unicode/utf8.first", laid_unicode_utf8_first)] }
def FieldsBytesSaid : Prop := fieldsBytesRow.holds Tryd.pinned (OpenSpec.ofChange fieldsBytesSpec)

/-- ITS FALSE NEIGHBOUR: 'it returns false'. Refute it at one input. -/
def fieldsBytesWrong : ChangeSpec := { name := "fieldsBytes", fn := fun _ => fun
  | [d1, d2, d3] => { results := [.lit (.bool false)], args := [d1, d2, d3] }
  | _ => none }
def FieldsBytesWrongFalsely : Prop := fieldsBytesRow.holds Tryd.pinned (OpenSpec.ofChange fieldsBytesWrong)

/-- 'inkhornlaw04.FieldsBack': WHATEVER THE INPUT: true; the input reads as it did. -/
def fieldsBackSpec : ChangeSpec := { name := "fieldsBack", fn := fun _ => fun
  | [d] => { results := [.lit (.bool true)], args := [d] }
  | _ => none }
def fieldsBackRow : OpenClaim := { program := "ytagncjnbabdbmaadoor", sum := "b23ee253820fe59ed47b2f0b62cd5e5a228721e23c44e1fc58a8f78f919eef63", func := "inkhorn/inkhornlaw04.FieldsBack", spec := "fieldsBack", inPlace := ["internal/bytealg.CountString", "internal/bytealg.IndexByteString", "internal/bytealg.IndexString", "internal/abi.NoEscape", "internal/bytealg.MakeNoZero"], unfollowed := true, recurses := true, named := ["unicode/utf8.first", "unicode/utf8.acceptRanges", "internal/bytealg.MaxLen"], apart := false, laid := [("unicode/utf8.acceptRanges", laid_unicode_utf8_acceptRanges), ("unicode/utf8.first", laid_unicode_utf8_first)] }
def FieldsBackSaid : Prop := fieldsBackRow.holds Tryd.pinned (OpenSpec.ofChange fieldsBackSpec)

/-- ITS FALSE NEIGHBOUR: 'it returns false'. Refute it at one input. -/
def fieldsBackWrong : ChangeSpec := { name := "fieldsBack", fn := fun _ => fun
  | [d] => { results := [.lit (.bool false)], args := [d] }
  | _ => none }
def FieldsBackWrongFalsely : Prop := fieldsBackRow.holds Tryd.pinned (OpenSpec.ofChange fieldsBackWrong)

/-- 'inkhornlaw05.UcdRows': WHATEVER THE INPUT: true; the input reads as it did. -/
def ucdRowsSpec : ChangeSpec := { name := "ucdRows", fn := fun _ => fun
  | [d] => { results := [.lit (.bool true)], args := [d] }
  | _ => none }
def ucdRowsRow : OpenClaim := { program := "ytagncjnbabdbmaadoor", sum := "b23ee253820fe59ed47b2f0b62cd5e5a228721e23c44e1fc58a8f78f919eef63", func := "inkhorn/inkhornlaw05.UcdRows", spec := "ucdRows", inPlace := ["internal/bytealg.CountString", "internal/bytealg.IndexByteString", "internal/bytealg.IndexString"], unfollowed := true, recurses := true, named := ["unicode/utf8.first", "unicode/utf8.acceptRanges", "internal/bytealg.MaxLen"], apart := false, laid := [("unicode/utf8.acceptRanges", laid_unicode_utf8_acceptRanges), ("unicode/utf8.first", laid_unicode_utf8_first)] }
def UcdRowsSaid : Prop := ucdRowsRow.holds Tryd.pinned (OpenSpec.ofChange ucdRowsSpec)

/-- ITS FALSE NEIGHBOUR: 'it returns false'. Refute it at one input. -/
def ucdRowsWrong : ChangeSpec := { name := "ucdRows", fn := fun _ => fun
  | [d] => { results := [.lit (.bool false)], args := [d] }
  | _ => none }
def UcdRowsWrongFalsely : Prop := ucdRowsRow.holds Tryd.pinned (OpenSpec.ofChange ucdRowsWrong)

/-- 'inkhornlaw05.UcdJoins': WHATEVER THE INPUT: true; the input reads as it did. -/
def ucdJoinsSpec : ChangeSpec := { name := "ucdJoins", fn := fun _ => fun
  | [d1, d2] => { results := [.lit (.bool true)], args := [d1, d2] }
  | _ => none }
def ucdJoinsRow : OpenClaim := { program := "ytagncjnbabdbmaadoor", sum := "b23ee253820fe59ed47b2f0b62cd5e5a228721e23c44e1fc58a8f78f919eef63", func := "inkhorn/inkhornlaw05.UcdJoins", spec := "ucdJoins", inPlace := ["internal/bytealg.CountString", "internal/bytealg.IndexByteString", "internal/bytealg.IndexString"], unfollowed := true, recurses := true, named := ["unicode/utf8.first", "unicode/utf8.acceptRanges", "internal/bytealg.MaxLen"], apart := false, laid := [("unicode/utf8.acceptRanges", laid_unicode_utf8_acceptRanges), ("unicode/utf8.first", laid_unicode_utf8_first)] }
def UcdJoinsSaid : Prop := ucdJoinsRow.holds Tryd.pinned (OpenSpec.ofChange ucdJoinsSpec)

/-- ITS FALSE NEIGHBOUR: 'it returns false'. Refute it at one input. -/
def ucdJoinsWrong : ChangeSpec := { name := "ucdJoins", fn := fun _ => fun
  | [d1, d2] => { results := [.lit (.bool false)], args := [d1, d2] }
  | _ => none }
def UcdJoinsWrongFalsely : Prop := ucdJoinsRow.holds Tryd.pinned (OpenSpec.ofChange ucdJoinsWrong)

/-- 'inkhornlaw05.UcdBack': WHATEVER THE INPUT: true; the input reads as it did. -/
def ucdBackSpec : ChangeSpec := { name := "ucdBack", fn := fun _ => fun
  | [d] => { results := [.lit (.bool true)], args := [d] }
  | _ => none }
def ucdBackRow : OpenClaim := { program := "ytagncjnbabdbmaadoor", sum := "b23ee253820fe59ed47b2f0b62cd5e5a228721e23c44e1fc58a8f78f919eef63", func := "inkhorn/inkhornlaw05.UcdBack", spec := "ucdBack", inPlace := ["internal/bytealg.CountString", "internal/bytealg.IndexByteString", "internal/bytealg.IndexString", "internal/abi.NoEscape", "internal/bytealg.MakeNoZero"], unfollowed := true, recurses := true, named := ["unicode/utf8.first", "unicode/utf8.acceptRanges", "internal/bytealg.MaxLen", "internal/strconv.uint64pow10", "math/bits.deBruijn32tab", "math/bits.deBruijn64tab"], apart := false, laid := [("math/bits.deBruijn32tab", laid_math_bits_deBruijn32tab), ("math/bits.deBruijn64tab", laid_math_bits_deBruijn64tab), ("internal/strconv.uint64pow10", laid_internal_strconv_uint64pow10), ("unicode/utf8.acceptRanges", laid_unicode_utf8_acceptRanges), ("unicode/utf8.first", laid_unicode_utf8_first)] }
def UcdBackSaid : Prop := ucdBackRow.holds Tryd.pinned (OpenSpec.ofChange ucdBackSpec)

/-- ITS FALSE NEIGHBOUR: 'it returns false'. Refute it at one input. -/
def ucdBackWrong : ChangeSpec := { name := "ucdBack", fn := fun _ => fun
  | [d] => { results := [.lit (.bool false)], args := [d] }
  | _ => none }
def UcdBackWrongFalsely : Prop := ucdBackRow.holds Tryd.pinned (OpenSpec.ofChange ucdBackWrong)

/-- 'inkhornlaw05.UcdSets': WHATEVER THE INPUT: true; the input reads as it did. -/
def ucdSetsSpec : ChangeSpec := { name := "ucdSets", fn := fun _ => fun
  | [d] => { results := [.lit (.bool true)], args := [d] }
  | _ => none }
def ucdSetsRow : OpenClaim := { program := "ytagncjnbabdbmaadoor", sum := "b23ee253820fe59ed47b2f0b62cd5e5a228721e23c44e1fc58a8f78f919eef63", func := "inkhorn/inkhornlaw05.UcdSets", spec := "ucdSets", inPlace := ["internal/bytealg.CountString", "internal/bytealg.IndexByteString", "internal/bytealg.IndexString"], unfollowed := true, recurses := true, named := ["unicode/utf8.first", "unicode/utf8.acceptRanges", "internal/bytealg.MaxLen"], apart := false, laid := [("unicode/utf8.acceptRanges", laid_unicode_utf8_acceptRanges), ("unicode/utf8.first", laid_unicode_utf8_first)] }
def UcdSetsSaid : Prop := ucdSetsRow.holds Tryd.pinned (OpenSpec.ofChange ucdSetsSpec)

/-- ITS FALSE NEIGHBOUR: 'it returns false'. Refute it at one input. -/
def ucdSetsWrong : ChangeSpec := { name := "ucdSets", fn := fun _ => fun
  | [d] => { results := [.lit (.bool false)], args := [d] }
  | _ => none }
def UcdSetsWrongFalsely : Prop := ucdSetsRow.holds Tryd.pinned (OpenSpec.ofChange ucdSetsWrong)

/-- 'inkhornlaw05.UcdOrder': WHATEVER THE INPUT: true; the input reads as it did. -/
def ucdOrderSpec : ChangeSpec := { name := "ucdOrder", fn := fun _ => fun
  | [d] => { results := [.lit (.bool true)], args := [d] }
  | _ => none }
def ucdOrderRow : OpenClaim := { program := "ytagncjnbabdbmaadoor", sum := "b23ee253820fe59ed47b2f0b62cd5e5a228721e23c44e1fc58a8f78f919eef63", func := "inkhorn/inkhornlaw05.UcdOrder", spec := "ucdOrder", inPlace := ["internal/bytealg.CountString", "internal/bytealg.IndexByteString", "internal/bytealg.IndexString"], unfollowed := true, recurses := true, named := ["unicode/utf8.first", "unicode/utf8.acceptRanges", "internal/bytealg.MaxLen"], apart := false, laid := [("unicode/utf8.acceptRanges", laid_unicode_utf8_acceptRanges), ("unicode/utf8.first", laid_unicode_utf8_first)] }
def UcdOrderSaid : Prop := ucdOrderRow.holds Tryd.pinned (OpenSpec.ofChange ucdOrderSpec)

/-- ITS FALSE NEIGHBOUR: 'it returns false'. Refute it at one input. -/
def ucdOrderWrong : ChangeSpec := { name := "ucdOrder", fn := fun _ => fun
  | [d] => { results := [.lit (.bool false)], args := [d] }
  | _ => none }
def UcdOrderWrongFalsely : Prop := ucdOrderRow.holds Tryd.pinned (OpenSpec.ofChange ucdOrderWrong)

/- THE SECOND FORM. 'bulk': how many values and letters a reading holds, each counted each time it is reached (what is shared counts as often as it is met; a slice's spare places count too). A statement '..UptoSaid' is the law's where the arguments, and the package variables that the reading takes, are together of bulk at most 1048576: NARROWER than '..Said'. Prove '..Said' where nothing that the law and all that it calls make is longer than what came in: it says more and counts as full. Else prove '..UptoSaid'. A law counts once. -/
mutual
def uptoBulk {H : Type} : DataW H → Nat
  | .lit (.string bytes) => bytes.length + 1
  | .lit _ => 1
  | .nil => 1
  | .ptr d => uptoBulk d + 1
  | .slice elems spare => uptoBulkAll elems + uptoBulkAll spare + 1
  | .agg parts => uptoBulkAll parts + 1
  | .iface _ d => uptoBulk d + 1
  | .map entries => uptoBulkEntries entries + 1
  | .held _ => 1
def uptoBulkAll {H : Type} : List (DataW H) → Nat
  | [] => 0
  | d :: r => uptoBulk d + uptoBulkAll r
def uptoBulkEntries {H : Type} : List (Lit × DataW H) → Nat
  | [] => 0
  | x :: r => uptoBulkEntry x + uptoBulkEntries r
def uptoBulkEntry {H : Type} : Lit × DataW H → Nat
  | (.string bytes, d) => bytes.length + uptoBulk d + 1
  | (_, d) => uptoBulk d + 1
 end
def uptoSmall : (H : Type) → List (DataW H) → Bool := fun _ ds => decide (uptoBulkAll ds ≤ 1048576)
def OpenSpec.upto (s : _root_.Go.ChangeSpec) : _root_.Go.OpenSpec := { _root_.Go.OpenSpec.ofChange s with cond := some uptoSmall }

/-- 'inkhornlaw04.FieldsLines', WHERE WHAT IT READS IS OF BULK AT MOST 1048576: true; the input reads as it did. -/
def fieldsLinesUptoRow : OpenClaim := { program := "ytagncjnbabdbmaadoor", sum := "b23ee253820fe59ed47b2f0b62cd5e5a228721e23c44e1fc58a8f78f919eef63", func := "inkhorn/inkhornlaw04.FieldsLines", spec := "fieldsLines", inPlace := ["internal/bytealg.CountString", "internal/bytealg.IndexByteString", "internal/bytealg.IndexString"], unfollowed := true, recurses := true, named := ["unicode/utf8.first", "unicode/utf8.acceptRanges", "internal/bytealg.MaxLen"], apart := false, laid := [("unicode/utf8.acceptRanges", laid_unicode_utf8_acceptRanges), ("unicode/utf8.first", laid_unicode_utf8_first)], narrowed := true }
def FieldsLinesUptoSaid : Prop := fieldsLinesUptoRow.holds Tryd.pinned (OpenSpec.upto fieldsLinesSpec)

/-- 'inkhornlaw04.FieldsJoins', WHERE WHAT IT READS IS OF BULK AT MOST 1048576: true; the input reads as it did. -/
def fieldsJoinsUptoRow : OpenClaim := { program := "ytagncjnbabdbmaadoor", sum := "b23ee253820fe59ed47b2f0b62cd5e5a228721e23c44e1fc58a8f78f919eef63", func := "inkhorn/inkhornlaw04.FieldsJoins", spec := "fieldsJoins", inPlace := ["internal/bytealg.CountString", "internal/bytealg.IndexByteString", "internal/bytealg.IndexString"], unfollowed := true, recurses := true, named := ["unicode/utf8.first", "unicode/utf8.acceptRanges", "internal/bytealg.MaxLen"], apart := false, laid := [("unicode/utf8.acceptRanges", laid_unicode_utf8_acceptRanges), ("unicode/utf8.first", laid_unicode_utf8_first)], narrowed := true }
def FieldsJoinsUptoSaid : Prop := fieldsJoinsUptoRow.holds Tryd.pinned (OpenSpec.upto fieldsJoinsSpec)

/-- 'inkhornlaw04.FieldsHex', WHERE WHAT IT READS IS OF BULK AT MOST 1048576: true; the input reads as it did. -/
def fieldsHexUptoRow : OpenClaim := { program := "ytagncjnbabdbmaadoor", sum := "b23ee253820fe59ed47b2f0b62cd5e5a228721e23c44e1fc58a8f78f919eef63", func := "inkhorn/inkhornlaw04.FieldsHex", spec := "fieldsHex", inPlace := ["internal/bytealg.CountString", "internal/bytealg.IndexByteString", "internal/bytealg.IndexString"], unfollowed := true, recurses := true, named := ["unicode/utf8.first", "unicode/utf8.acceptRanges", "internal/bytealg.MaxLen"], apart := false, laid := [("unicode/utf8.acceptRanges", laid_unicode_utf8_acceptRanges), ("unicode/utf8.first", laid_unicode_utf8_first)], narrowed := true }
def FieldsHexUptoSaid : Prop := fieldsHexUptoRow.holds Tryd.pinned (OpenSpec.upto fieldsHexSpec)

/-- 'inkhornlaw04.FieldsSame', WHERE WHAT IT READS IS OF BULK AT MOST 1048576: true; the input reads as it did. -/
def fieldsSameUptoRow : OpenClaim := { program := "ytagncjnbabdbmaadoor", sum := "b23ee253820fe59ed47b2f0b62cd5e5a228721e23c44e1fc58a8f78f919eef63", func := "inkhorn/inkhornlaw04.FieldsSame", spec := "fieldsSame", inPlace := ["internal/bytealg.CountString", "internal/bytealg.IndexByteString", "internal/bytealg.IndexString"], unfollowed := true, recurses := true, named := ["unicode/utf8.first", "unicode/utf8.acceptRanges", "internal/bytealg.MaxLen"], apart := false, laid := [("unicode/utf8.acceptRanges", laid_unicode_utf8_acceptRanges), ("unicode/utf8.first", laid_unicode_utf8_first)], narrowed := true }
def FieldsSameUptoSaid : Prop := fieldsSameUptoRow.holds Tryd.pinned (OpenSpec.upto fieldsSameSpec)

/-- 'inkhornlaw04.FieldsBytes', WHERE WHAT IT READS IS OF BULK AT MOST 1048576: true; the input reads as it did. -/
def fieldsBytesUptoRow : OpenClaim := { program := "ytagncjnbabdbmaadoor", sum := "b23ee253820fe59ed47b2f0b62cd5e5a228721e23c44e1fc58a8f78f919eef63", func := "inkhorn/inkhornlaw04.FieldsBytes", spec := "fieldsBytes", inPlace := ["internal/bytealg.CountString", "internal/bytealg.IndexByteString", "internal/bytealg.IndexString", "internal/abi.NoEscape", "internal/bytealg.MakeNoZero"], unfollowed := true, recurses := true, named := ["unicode/utf8.first", "unicode/utf8.acceptRanges", "internal/bytealg.MaxLen"], apart := false, laid := [("unicode/utf8.acceptRanges", laid_unicode_utf8_acceptRanges), ("unicode/utf8.first", laid_unicode_utf8_first)], narrowed := true }
def FieldsBytesUptoSaid : Prop := fieldsBytesUptoRow.holds Tryd.pinned (OpenSpec.upto fieldsBytesSpec)

/-- 'inkhornlaw04.FieldsBack', WHERE WHAT IT READS IS OF BULK AT MOST 1048576: true; the input reads as it did. -/
def fieldsBackUptoRow : OpenClaim := { program := "ytagncjnbabdbmaadoor", sum := "b23ee253820fe59ed47b2f0b62cd5e5a228721e23c44e1fc58a8f78f919eef63", func := "inkhorn/inkhornlaw04.FieldsBack", spec := "fieldsBack", inPlace := ["internal/bytealg.CountString", "internal/bytealg.IndexByteString", "internal/bytealg.IndexString", "internal/abi.NoEscape", "internal/bytealg.MakeNoZero"], unfollowed := true, recurses := true, named := ["unicode/utf8.first", "unicode/utf8.acceptRanges", "internal/bytealg.MaxLen"], apart := false, laid := [("unicode/utf8.acceptRanges", laid_unicode_utf8_acceptRanges), ("unicode/utf8.first", laid_unicode_utf8_first)], narrowed := true }
def FieldsBackUptoSaid : Prop := fieldsBackUptoRow.holds Tryd.pinned (OpenSpec.upto fieldsBackSpec)

/-- 'inkhornlaw05.UcdRows', WHERE WHAT IT READS IS OF BULK AT MOST 1048576: true; the input reads as it did. -/
def ucdRowsUptoRow : OpenClaim := { program := "ytagncjnbabdbmaadoor", sum := "b23ee253820fe59ed47b2f0b62cd5e5a228721e23c44e1fc58a8f78f919eef63", func := "inkhorn/inkhornlaw05.UcdRows", spec := "ucdRows", inPlace := ["internal/bytealg.CountString", "internal/bytealg.IndexByteString", "internal/bytealg.IndexString"], unfollowed := true, recurses := true, named := ["unicode/utf8.first", "unicode/utf8.acceptRanges", "internal/bytealg.MaxLen"], apart := false, laid := [("unicode/utf8.acceptRanges", laid_unicode_utf8_acceptRanges), ("unicode/utf8.first", laid_unicode_utf8_first)], narrowed := true }
def UcdRowsUptoSaid : Prop := ucdRowsUptoRow.holds Tryd.pinned (OpenSpec.upto ucdRowsSpec)

/-- 'inkhornlaw05.UcdJoins', WHERE WHAT IT READS IS OF BULK AT MOST 1048576: true; the input reads as it did. -/
def ucdJoinsUptoRow : OpenClaim := { program := "ytagncjnbabdbmaadoor", sum := "b23ee253820fe59ed47b2f0b62cd5e5a228721e23c44e1fc58a8f78f919eef63", func := "inkhorn/inkhornlaw05.UcdJoins", spec := "ucdJoins", inPlace := ["internal/bytealg.CountString", "internal/bytealg.IndexByteString", "internal/bytealg.IndexString"], unfollowed := true, recurses := true, named := ["unicode/utf8.first", "unicode/utf8.acceptRanges", "internal/bytealg.MaxLen"], apart := false, laid := [("unicode/utf8.acceptRanges", laid_unicode_utf8_acceptRanges), ("unicode/utf8.first", laid_unicode_utf8_first)], narrowed := true }
def UcdJoinsUptoSaid : Prop := ucdJoinsUptoRow.holds Tryd.pinned (OpenSpec.upto ucdJoinsSpec)

/-- 'inkhornlaw05.UcdBack', WHERE WHAT IT READS IS OF BULK AT MOST 1048576: true; the input reads as it did. -/
def ucdBackUptoRow : OpenClaim := { program := "ytagncjnbabdbmaadoor", sum := "b23ee253820fe59ed47b2f0b62cd5e5a228721e23c44e1fc58a8f78f919eef63", func := "inkhorn/inkhornlaw05.UcdBack", spec := "ucdBack", inPlace := ["internal/bytealg.CountString", "internal/bytealg.IndexByteString", "internal/bytealg.IndexString", "internal/abi.NoEscape", "internal/bytealg.MakeNoZero"], unfollowed := true, recurses := true, named := ["unicode/utf8.first", "unicode/utf8.acceptRanges", "internal/bytealg.MaxLen", "internal/strconv.uint64pow10", "math/bits.deBruijn32tab", "math/bits.deBruijn64tab"], apart := false, laid := [("math/bits.deBruijn32tab", laid_math_bits_deBruijn32tab), ("math/bits.deBruijn64tab", laid_math_bits_deBruijn64tab), ("internal/strconv.uint64pow10", laid_internal_strconv_uint64pow10), ("unicode/utf8.acceptRanges", laid_unicode_utf8_acceptRanges), ("unicode/utf8.first", laid_unicode_utf8_first)], narrowed := true }
def UcdBackUptoSaid : Prop := ucdBackUptoRow.holds Tryd.pinned (OpenSpec.upto ucdBackSpec)

/-- 'inkhornlaw05.UcdSets', WHERE WHAT IT READS IS OF BULK AT MOST 1048576: true; the input reads as it did. -/
def ucdSetsUptoRow : OpenClaim := { program := "ytagncjnbabdbmaadoor", sum := "b23ee253820fe59ed47b2f0b62cd5e5a228721e23c44e1fc58a8f78f919eef63", func := "inkhorn/inkhornlaw05.UcdSets", spec := "ucdSets", inPlace := ["internal/bytealg.CountString", "internal/bytealg.IndexByteString", "internal/bytealg.IndexString"], unfollowed := true, recurses := true, named := ["unicode/utf8.first", "unicode/utf8.acceptRanges", "internal/bytealg.MaxLen"], apart := false, laid := [("unicode/utf8.acceptRanges", laid_unicode_utf8_acceptRanges), ("unicode/utf8.first", laid_unicode_utf8_first)], narrowed := true }
def UcdSetsUptoSaid : Prop := ucdSetsUptoRow.holds Tryd.pinned (OpenSpec.upto ucdSetsSpec)

/-- 'inkhornlaw05.UcdOrder', WHERE WHAT IT READS IS OF BULK AT MOST 1048576: true; the input reads as it did. -/
def ucdOrderUptoRow : OpenClaim := { program := "ytagncjnbabdbmaadoor", sum := "b23ee253820fe59ed47b2f0b62cd5e5a228721e23c44e1fc58a8f78f919eef63", func := "inkhorn/inkhornlaw05.UcdOrder", spec := "ucdOrder", inPlace := ["internal/bytealg.CountString", "internal/bytealg.IndexByteString", "internal/bytealg.IndexString"], unfollowed := true, recurses := true, named := ["unicode/utf8.first", "unicode/utf8.acceptRanges", "internal/bytealg.MaxLen"], apart := false, laid := [("unicode/utf8.acceptRanges", laid_unicode_utf8_acceptRanges), ("unicode/utf8.first", laid_unicode_utf8_first)], narrowed := true }
def UcdOrderUptoSaid : Prop := ucdOrderUptoRow.holds Tryd.pinned (OpenSpec.upto ucdOrderSpec)

end Rows
end Go.Proofs.YtagncjnbabdbmaaDoor
