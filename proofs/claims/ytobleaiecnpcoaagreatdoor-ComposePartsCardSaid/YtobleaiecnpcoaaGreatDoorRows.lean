/-
  NARROWER THAN 'FOR EVERY INPUT', by the rows' own cells (each row's printed sentence says how): ComposeJoins: laid · ComposeBlocks: laid · ComposeNil: laid · ComposeParts: laid · ComposeBack: laid.
  DERIVED. THE GIVEN ROWS OF THIS SEAT. 5 by the template 'for every input the law returns true; each argument reads behind the call as it read before'; 0 by the template 'total and deterministic' (their statements: YtobleaiecnpcoaaGreatDoorTotals.lean).
  GIVEN WITH THE SEED: the statements are not yours to turn. If you find one false, say at which input.
  Laid BY PROGRAM, IN A SANDBOX (cutbox-rows.mjs): the forced cells as the released guide's own fill.sh prints them over the translation 5d56fd301ac40d5a… (all of the seat's roots in one cut). By AI agents, Wed Nov 11 2026. No macro, syntax, notation, axiom, sorry.
-/
import Derived.Test.YtobleaiecnpcoaaGreatDoorChecked
import GoSem.PinnedTables
import GoSem.Claim
import GoSem.ClaimJoined
import GoSem.ClaimMapViews
import Derived.JoinedTies
import Derived.KernelRfl
namespace Go.Proofs.YtobleaiecnpcoaaGreatDoor
/- THE CELL 'sum', in the pinned program and in every row, IS THE sha256 OF THE DUMP (.gsa) THAT YtobleaiecnpcoaaGreatDoorProg.lean LOADS. Nothing in Lean hashes anything: it is a label: what it is worth is what the hold of that sum in a sandbox is worth. -/
noncomputable def Tryz.pinned : Pinned := { name := "ytobleaiecnpcoaagreatdoor", sum := "5d56fd301ac40d5a91cc731ae7178fa09a5247017ae213b1ede3a5b5faf2c5e6", checked := Tryz.checked }
namespace Rows
def none {H : Type} : Left H := { results := [], args := [] }

/- WHAT THE LISTED PACKAGE-LEVEL VARIABLES READ AS WHEN THE CALL BEGINS. Each datum BY PROGRAM (the guide's laid-datum.mjs) off the statement by which the dump's own 'gosem.cut.vars' lays the variable. In a bare row this is a premise. The card (YtobleaiecnpcoaaGreatDoorCards.lean) ties it to the program's text. -/
def laid_inkhorn_hangul_kinds {H : Type} : DataW H := .agg [.agg [.lit (.int .i32 4352), .lit (.int .i32 19)], .agg [.lit (.int .i32 4449), .lit (.int .i32 21)], .agg [.lit (.int .i32 4519), .lit (.int .i32 28)]]
def laid_unicode_utf8_acceptRanges {H : Type} : DataW H := .agg [.agg [.lit (.int .u8 128), .lit (.int .u8 191)], .agg [.lit (.int .u8 160), .lit (.int .u8 191)], .agg [.lit (.int .u8 128), .lit (.int .u8 159)], .agg [.lit (.int .u8 144), .lit (.int .u8 191)], .agg [.lit (.int .u8 128), .lit (.int .u8 143)], .agg [.lit (.int .u8 0), .lit (.int .u8 0)], .agg [.lit (.int .u8 0), .lit (.int .u8 0)], .agg [.lit (.int .u8 0), .lit (.int .u8 0)], .agg [.lit (.int .u8 0), .lit (.int .u8 0)], .agg [.lit (.int .u8 0), .lit (.int .u8 0)], .agg [.lit (.int .u8 0), .lit (.int .u8 0)], .agg [.lit (.int .u8 0), .lit (.int .u8 0)], .agg [.lit (.int .u8 0), .lit (.int .u8 0)], .agg [.lit (.int .u8 0), .lit (.int .u8 0)], .agg [.lit (.int .u8 0), .lit (.int .u8 0)], .agg [.lit (.int .u8 0), .lit (.int .u8 0)]]
/-- One of Go's own tables, pinned by name: the form's constant. -/
def laid_unicode_utf8_first : DataW Unit := Go.Pinned.utf8First

/-- 'inkhornlaw10.ComposeJoins': WHATEVER THE INPUT: true; the input reads as it did. -/
def composeJoinsSpec : ChangeSpec := { name := "composeJoins", fn := fun _ => fun
  | [d1, d2] => { results := [.lit (.bool true)], args := [d1, d2] }
  | _ => none }
def composeJoinsRow : OpenClaim := { program := "ytobleaiecnpcoaagreatdoor", sum := "5d56fd301ac40d5a91cc731ae7178fa09a5247017ae213b1ede3a5b5faf2c5e6", func := "inkhorn/inkhornlaw10.ComposeJoins", spec := "composeJoins", inPlace := ["internal/bytealg.CountString", "internal/bytealg.IndexByteString", "internal/bytealg.IndexString"], unfollowed := true, recurses := true, named := ["unicode/utf8.first", "unicode/utf8.acceptRanges", "internal/bytealg.MaxLen", "inkhorn/hangul.kinds"], plainKeys := false, apart := false, laid := [("inkhorn/hangul.kinds", laid_inkhorn_hangul_kinds), ("unicode/utf8.acceptRanges", laid_unicode_utf8_acceptRanges), ("unicode/utf8.first", laid_unicode_utf8_first)] }
def ComposeJoinsSaid : Prop := composeJoinsRow.holds Tryz.pinned (OpenSpec.ofChange composeJoinsSpec)

/-- ITS FALSE NEIGHBOUR: 'it returns false'. Refute it at one input. -/
def composeJoinsWrong : ChangeSpec := { name := "composeJoins", fn := fun _ => fun
  | [d1, d2] => { results := [.lit (.bool false)], args := [d1, d2] }
  | _ => none }
def ComposeJoinsWrongFalsely : Prop := composeJoinsRow.holds Tryz.pinned (OpenSpec.ofChange composeJoinsWrong)

/-- 'inkhornlaw10.ComposeBlocks': WHATEVER THE INPUT: true; the input reads as it did. -/
def composeBlocksSpec : ChangeSpec := { name := "composeBlocks", fn := fun _ => fun
  | [d1, d2, d3] => { results := [.lit (.bool true)], args := [d1, d2, d3] }
  | _ => none }
def composeBlocksRow : OpenClaim := { program := "ytobleaiecnpcoaagreatdoor", sum := "5d56fd301ac40d5a91cc731ae7178fa09a5247017ae213b1ede3a5b5faf2c5e6", func := "inkhorn/inkhornlaw10.ComposeBlocks", spec := "composeBlocks", inPlace := ["internal/bytealg.CountString", "internal/bytealg.IndexByteString", "internal/bytealg.IndexString"], unfollowed := true, recurses := true, named := ["unicode/utf8.first", "unicode/utf8.acceptRanges", "internal/bytealg.MaxLen", "inkhorn/hangul.kinds"], plainKeys := false, apart := false, laid := [("inkhorn/hangul.kinds", laid_inkhorn_hangul_kinds), ("unicode/utf8.acceptRanges", laid_unicode_utf8_acceptRanges), ("unicode/utf8.first", laid_unicode_utf8_first)] }
def ComposeBlocksSaid : Prop := composeBlocksRow.holds Tryz.pinned (OpenSpec.ofChange composeBlocksSpec)

/-- ITS FALSE NEIGHBOUR: 'it returns false'. Refute it at one input. -/
def composeBlocksWrong : ChangeSpec := { name := "composeBlocks", fn := fun _ => fun
  | [d1, d2, d3] => { results := [.lit (.bool false)], args := [d1, d2, d3] }
  | _ => none }
def ComposeBlocksWrongFalsely : Prop := composeBlocksRow.holds Tryz.pinned (OpenSpec.ofChange composeBlocksWrong)

/-- 'inkhornlaw10.ComposeNil': WHATEVER THE INPUT: true; the input reads as it did. -/
def composeNilSpec : ChangeSpec := { name := "composeNil", fn := fun _ => fun
  | [d] => { results := [.lit (.bool true)], args := [d] }
  | _ => none }
def composeNilRow : OpenClaim := { program := "ytobleaiecnpcoaagreatdoor", sum := "5d56fd301ac40d5a91cc731ae7178fa09a5247017ae213b1ede3a5b5faf2c5e6", func := "inkhorn/inkhornlaw10.ComposeNil", spec := "composeNil", inPlace := ["internal/bytealg.CountString", "internal/bytealg.IndexByteString", "internal/bytealg.IndexString"], unfollowed := true, recurses := true, named := ["unicode/utf8.first", "unicode/utf8.acceptRanges", "internal/bytealg.MaxLen", "inkhorn/hangul.kinds"], plainKeys := false, apart := false, laid := [("inkhorn/hangul.kinds", laid_inkhorn_hangul_kinds), ("unicode/utf8.acceptRanges", laid_unicode_utf8_acceptRanges), ("unicode/utf8.first", laid_unicode_utf8_first)] }
def ComposeNilSaid : Prop := composeNilRow.holds Tryz.pinned (OpenSpec.ofChange composeNilSpec)

/-- ITS FALSE NEIGHBOUR: 'it returns false'. Refute it at one input. -/
def composeNilWrong : ChangeSpec := { name := "composeNil", fn := fun _ => fun
  | [d] => { results := [.lit (.bool false)], args := [d] }
  | _ => none }
def ComposeNilWrongFalsely : Prop := composeNilRow.holds Tryz.pinned (OpenSpec.ofChange composeNilWrong)

/-- 'inkhornlaw10.ComposeParts': WHATEVER THE INPUT: true; the input reads as it did. -/
def composePartsSpec : ChangeSpec := { name := "composeParts", fn := fun _ => fun
  | [d1, d2, d3] => { results := [.lit (.bool true)], args := [d1, d2, d3] }
  | _ => none }
def composePartsRow : OpenClaim := { program := "ytobleaiecnpcoaagreatdoor", sum := "5d56fd301ac40d5a91cc731ae7178fa09a5247017ae213b1ede3a5b5faf2c5e6", func := "inkhorn/inkhornlaw10.ComposeParts", spec := "composeParts", inPlace := ["internal/bytealg.CountString", "internal/bytealg.IndexByteString", "internal/bytealg.IndexString"], unfollowed := true, recurses := true, named := ["unicode/utf8.first", "unicode/utf8.acceptRanges", "internal/bytealg.MaxLen", "inkhorn/hangul.kinds"], plainKeys := false, apart := false, laid := [("inkhorn/hangul.kinds", laid_inkhorn_hangul_kinds), ("unicode/utf8.acceptRanges", laid_unicode_utf8_acceptRanges), ("unicode/utf8.first", laid_unicode_utf8_first)] }
def ComposePartsSaid : Prop := composePartsRow.holds Tryz.pinned (OpenSpec.ofChange composePartsSpec)

/-- ITS FALSE NEIGHBOUR: 'it returns false'. Refute it at one input. -/
def composePartsWrong : ChangeSpec := { name := "composeParts", fn := fun _ => fun
  | [d1, d2, d3] => { results := [.lit (.bool false)], args := [d1, d2, d3] }
  | _ => none }
def ComposePartsWrongFalsely : Prop := composePartsRow.holds Tryz.pinned (OpenSpec.ofChange composePartsWrong)

/-- 'inkhornlaw10.ComposeBack': WHATEVER THE INPUT: true; the input reads as it did. -/
def composeBackSpec : ChangeSpec := { name := "composeBack", fn := fun _ => fun
  | [d1, d2] => { results := [.lit (.bool true)], args := [d1, d2] }
  | _ => none }
def composeBackRow : OpenClaim := { program := "ytobleaiecnpcoaagreatdoor", sum := "5d56fd301ac40d5a91cc731ae7178fa09a5247017ae213b1ede3a5b5faf2c5e6", func := "inkhorn/inkhornlaw10.ComposeBack", spec := "composeBack", inPlace := ["internal/bytealg.CountString", "internal/bytealg.IndexByteString", "internal/bytealg.IndexString"], unfollowed := true, recurses := true, named := ["unicode/utf8.first", "unicode/utf8.acceptRanges", "internal/bytealg.MaxLen", "inkhorn/hangul.kinds"], plainKeys := false, apart := false, laid := [("inkhorn/hangul.kinds", laid_inkhorn_hangul_kinds), ("unicode/utf8.acceptRanges", laid_unicode_utf8_acceptRanges), ("unicode/utf8.first", laid_unicode_utf8_first)] }
def ComposeBackSaid : Prop := composeBackRow.holds Tryz.pinned (OpenSpec.ofChange composeBackSpec)

/-- ITS FALSE NEIGHBOUR: 'it returns false'. Refute it at one input. -/
def composeBackWrong : ChangeSpec := { name := "composeBack", fn := fun _ => fun
  | [d1, d2] => { results := [.lit (.bool false)], args := [d1, d2] }
  | _ => none }
def ComposeBackWrongFalsely : Prop := composeBackRow.holds Tryz.pinned (OpenSpec.ofChange composeBackWrong)

/- THE SECOND FORM. 'bulk': how many values and letters a reading holds, each counted each time it is reached (what is shared counts as often as it is met; a slice's spare places count too). A statement '..UptoSaid' is the law's where the arguments, and the package variables that the reading takes, are together of bulk at most 1048576: NARROWER than '..Said'. Prove '..Said' where nothing that the law and all that it calls make is longer than what came in: it says more and counts as full. Else prove '..UptoSaid'. A law counts once. -/
mutual
def uptoBulk {H : Type} : DataW H → Nat
  | .lit (.string bytes) => bytes.length + 1
  | .lit _ => 1
  | .nil => 1
  | .ptr d => uptoBulk d + 1
  | .slice elems spare => uptoBulkAll elems + uptoBulkAll spare + 1
  | .agg parts => uptoBulkAll parts + 1
  | .iface _ d => uptoBulk d + 1
  | .map entries => uptoBulkEntries entries + 1
  | .held _ => 1
def uptoBulkAll {H : Type} : List (DataW H) → Nat
  | [] => 0
  | d :: r => uptoBulk d + uptoBulkAll r
def uptoBulkEntries {H : Type} : List (Lit × DataW H) → Nat
  | [] => 0
  | x :: r => uptoBulkEntry x + uptoBulkEntries r
def uptoBulkEntry {H : Type} : Lit × DataW H → Nat
  | (.string bytes, d) => bytes.length + uptoBulk d + 1
  | (_, d) => uptoBulk d + 1
 end
def uptoSmall : (H : Type) → List (DataW H) → Bool := fun _ ds => decide (uptoBulkAll ds ≤ 1048576)
def OpenSpec.upto (s : _root_.Go.ChangeSpec) : _root_.Go.OpenSpec := { _root_.Go.OpenSpec.ofChange s with cond := some uptoSmall }

/-- 'inkhornlaw10.ComposeJoins', WHERE WHAT IT READS IS OF BULK AT MOST 1048576: true; the input reads as it did. -/
def composeJoinsUptoRow : OpenClaim := { program := "ytobleaiecnpcoaagreatdoor", sum := "5d56fd301ac40d5a91cc731ae7178fa09a5247017ae213b1ede3a5b5faf2c5e6", func := "inkhorn/inkhornlaw10.ComposeJoins", spec := "composeJoins", inPlace := ["internal/bytealg.CountString", "internal/bytealg.IndexByteString", "internal/bytealg.IndexString"], unfollowed := true, recurses := true, named := ["unicode/utf8.first", "unicode/utf8.acceptRanges", "internal/bytealg.MaxLen", "inkhorn/hangul.kinds"], plainKeys := false, apart := false, laid := [("inkhorn/hangul.kinds", laid_inkhorn_hangul_kinds), ("unicode/utf8.acceptRanges", laid_unicode_utf8_acceptRanges), ("unicode/utf8.first", laid_unicode_utf8_first)], narrowed := true }
def ComposeJoinsUptoSaid : Prop := composeJoinsUptoRow.holds Tryz.pinned (OpenSpec.upto composeJoinsSpec)

/-- 'inkhornlaw10.ComposeBlocks', WHERE WHAT IT READS IS OF BULK AT MOST 1048576: true; the input reads as it did. -/
def composeBlocksUptoRow : OpenClaim := { program := "ytobleaiecnpcoaagreatdoor", sum := "5d56fd301ac40d5a91cc731ae7178fa09a5247017ae213b1ede3a5b5faf2c5e6", func := "inkhorn/inkhornlaw10.ComposeBlocks", spec := "composeBlocks", inPlace := ["internal/bytealg.CountString", "internal/bytealg.IndexByteString", "internal/bytealg.IndexString"], unfollowed := true, recurses := true, named := ["unicode/utf8.first", "unicode/utf8.acceptRanges", "internal/bytealg.MaxLen", "inkhorn/hangul.kinds"], plainKeys := false, apart := false, laid := [("inkhorn/hangul.kinds", laid_inkhorn_hangul_kinds), ("unicode/utf8.acceptRanges", laid_unicode_utf8_acceptRanges), ("unicode/utf8.first", laid_unicode_utf8_first)], narrowed := true }
def ComposeBlocksUptoSaid : Prop := composeBlocksUptoRow.holds Tryz.pinned (OpenSpec.upto composeBlocksSpec)

/-- 'inkhornlaw10.ComposeNil', WHERE WHAT IT READS IS OF BULK AT MOST 1048576: true; the input reads as it did. -/
def composeNilUptoRow : OpenClaim := { program := "ytobleaiecnpcoaagreatdoor", sum := "5d56fd301ac40d5a91cc731ae7178fa09a5247017ae213b1ede3a5b5faf2c5e6", func := "inkhorn/inkhornlaw10.ComposeNil", spec := "composeNil", inPlace := ["internal/bytealg.CountString", "internal/bytealg.IndexByteString", "internal/bytealg.IndexString"], unfollowed := true, recurses := true, named := ["unicode/utf8.first", "unicode/utf8.acceptRanges", "internal/bytealg.MaxLen", "inkhorn/hangul.kinds"], plainKeys := false, apart := false, laid := [("inkhorn/hangul.kinds", laid_inkhorn_hangul_kinds), ("unicode/utf8.acceptRanges", laid_unicode_utf8_acceptRanges), ("unicode/utf8.first", laid_unicode_utf8_first)], narrowed := true }
def ComposeNilUptoSaid : Prop := composeNilUptoRow.holds Tryz.pinned (OpenSpec.upto composeNilSpec)

/-- 'inkhornlaw10.ComposeParts', WHERE WHAT IT READS IS OF BULK AT MOST 1048576: true; the input reads as it did. -/
def composePartsUptoRow : OpenClaim := { program := "ytobleaiecnpcoaagreatdoor", sum := "5d56fd301ac40d5a91cc731ae7178fa09a5247017ae213b1ede3a5b5faf2c5e6", func := "inkhorn/inkhornlaw10.ComposeParts", spec := "composeParts", inPlace := ["internal/bytealg.CountString", "internal/bytealg.IndexByteString", "internal/bytealg.IndexString"], unfollowed := true, recurses := true, named := ["unicode/utf8.first", "unicode/utf8.acceptRanges", "internal/bytealg.MaxLen", "inkhorn/hangul.kinds"], plainKeys := false, apart := false, laid := [("inkhorn/hangul.kinds", laid_inkhorn_hangul_kinds), ("unicode/utf8.acceptRanges", laid_unicode_utf8_acceptRanges), ("unicode/utf8.first", laid_unicode_utf8_first)], narrowed := true }
def ComposePartsUptoSaid : Prop := composePartsUptoRow.holds Tryz.pinned (OpenSpec.upto composePartsSpec)

/-- 'inkhornlaw10.ComposeBack', WHERE WHAT IT READS IS OF BULK AT MOST 1048576: true; the input reads as it did. -/
def composeBackUptoRow : OpenClaim := { program := "ytobleaiecnpcoaagreatdoor", sum := "5d56fd301ac40d5a91cc731ae7178fa09a5247017ae213b1ede3a5b5faf2c5e6", func := "inkhorn/inkhornlaw10.ComposeBack", spec := "composeBack", inPlace := ["internal/bytealg.CountString", "internal/bytealg.IndexByteString", "internal/bytealg.IndexString"], unfollowed := true, recurses := true, named := ["unicode/utf8.first", "unicode/utf8.acceptRanges", "internal/bytealg.MaxLen", "inkhorn/hangul.kinds"], plainKeys := false, apart := false, laid := [("inkhorn/hangul.kinds", laid_inkhorn_hangul_kinds), ("unicode/utf8.acceptRanges", laid_unicode_utf8_acceptRanges), ("unicode/utf8.first", laid_unicode_utf8_first)], narrowed := true }
def ComposeBackUptoSaid : Prop := composeBackUptoRow.holds Tryz.pinned (OpenSpec.upto composeBackSpec)

end Rows
end Go.Proofs.YtobleaiecnpcoaaGreatDoor
