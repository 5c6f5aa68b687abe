/-
  NARROWER THAN 'FOR EVERY INPUT', by the rows' own cells (each row's printed sentence says how): QuickKinds: laid · QuickCuts: laid · QuickChecks: laid · QuickSure: laid · QuickNil: laid · QuickParts: laid · NormParts: laid · NormJoins: laid · NormFeeds: laid · NormNil: laid · NormSame: laid · NormEqual: laid · NormForms: laid · NormAgain: laid.
  DERIVED. THE GIVEN ROWS OF THIS SEAT. 14 by the template 'for every input the law returns true; each argument reads behind the call as it read before'; 0 by the template 'total and deterministic' (their statements: YtkocaoeednmkpaaGreatDoorTotals.lean).
  GIVEN WITH THE SEED: the statements are not yours to turn. If you find one false, say at which input.
  Laid BY PROGRAM, IN A SANDBOX (cutbox-rows.mjs): the forced cells as the released guide's own fill.sh prints them over the translation e77ffbe5a4eb6a44… (all of the seat's roots in one cut). By AI agents, Wed Nov 11 2026. No macro, syntax, notation, axiom, sorry.
-/
import Derived.Test.YtkocaoeednmkpaaGreatDoorChecked
import GoSem.PinnedTables
import GoSem.Claim
import GoSem.ClaimJoined
import GoSem.ClaimMapViews
import Derived.JoinedTies
import Derived.KernelRfl
namespace Go.Proofs.YtkocaoeednmkpaaGreatDoor
/- THE CELL 'sum', in the pinned program and in every row, IS THE sha256 OF THE DUMP (.gsa) THAT YtkocaoeednmkpaaGreatDoorProg.lean LOADS. Nothing in Lean hashes anything: it is a label: what it is worth is what the hold of that sum in a sandbox is worth. -/
noncomputable def Tryz.pinned : Pinned := { name := "ytkocaoeednmkpaagreatdoor", sum := "e77ffbe5a4eb6a441c554bc58c1f2788a3e688441456ef8ffdae10c677ec0bf5", checked := Tryz.checked }
namespace Rows
def none {H : Type} : Left H := { results := [], args := [] }

/- WHAT THE LISTED PACKAGE-LEVEL VARIABLES READ AS WHEN THE CALL BEGINS. Each datum BY PROGRAM (the guide's laid-datum.mjs) off the statement by which the dump's own 'gosem.cut.vars' lays the variable. In a bare row this is a premise. The card (YtkocaoeednmkpaaGreatDoorCards.lean) ties it to the program's text. -/
def laid_inkhorn_hangul_kinds {H : Type} : DataW H := .agg [.agg [.lit (.int .i32 4352), .lit (.int .i32 19)], .agg [.lit (.int .i32 4449), .lit (.int .i32 21)], .agg [.lit (.int .i32 4519), .lit (.int .i32 28)]]
def laid_unicode_utf8_acceptRanges {H : Type} : DataW H := .agg [.agg [.lit (.int .u8 128), .lit (.int .u8 191)], .agg [.lit (.int .u8 160), .lit (.int .u8 191)], .agg [.lit (.int .u8 128), .lit (.int .u8 159)], .agg [.lit (.int .u8 144), .lit (.int .u8 191)], .agg [.lit (.int .u8 128), .lit (.int .u8 143)], .agg [.lit (.int .u8 0), .lit (.int .u8 0)], .agg [.lit (.int .u8 0), .lit (.int .u8 0)], .agg [.lit (.int .u8 0), .lit (.int .u8 0)], .agg [.lit (.int .u8 0), .lit (.int .u8 0)], .agg [.lit (.int .u8 0), .lit (.int .u8 0)], .agg [.lit (.int .u8 0), .lit (.int .u8 0)], .agg [.lit (.int .u8 0), .lit (.int .u8 0)], .agg [.lit (.int .u8 0), .lit (.int .u8 0)], .agg [.lit (.int .u8 0), .lit (.int .u8 0)], .agg [.lit (.int .u8 0), .lit (.int .u8 0)], .agg [.lit (.int .u8 0), .lit (.int .u8 0)]]
/-- One of Go's own tables, pinned by name: the form's constant. -/
def laid_unicode_utf8_first : DataW Unit := Go.Pinned.utf8First

/-- 'inkhornlaw11.QuickKinds': WHATEVER THE INPUT: true; the input reads as it did. -/
def quickKindsSpec : ChangeSpec := { name := "quickKinds", fn := fun _ => fun
  | [d1, d2, d3] => { results := [.lit (.bool true)], args := [d1, d2, d3] }
  | _ => none }
def quickKindsRow : OpenClaim := { program := "ytkocaoeednmkpaagreatdoor", sum := "e77ffbe5a4eb6a441c554bc58c1f2788a3e688441456ef8ffdae10c677ec0bf5", func := "inkhorn/inkhornlaw11.QuickKinds", spec := "quickKinds", inPlace := ["internal/bytealg.CountString", "internal/bytealg.IndexByteString", "internal/bytealg.IndexString"], unfollowed := true, recurses := true, named := ["unicode/utf8.first", "unicode/utf8.acceptRanges", "internal/bytealg.MaxLen", "inkhorn/hangul.kinds"], plainKeys := false, apart := false, laid := [("inkhorn/hangul.kinds", laid_inkhorn_hangul_kinds), ("unicode/utf8.acceptRanges", laid_unicode_utf8_acceptRanges), ("unicode/utf8.first", laid_unicode_utf8_first)] }
def QuickKindsSaid : Prop := quickKindsRow.holds Tryz.pinned (OpenSpec.ofChange quickKindsSpec)

/-- ITS FALSE NEIGHBOUR: 'it returns false'. Refute it at one input. -/
def quickKindsWrong : ChangeSpec := { name := "quickKinds", fn := fun _ => fun
  | [d1, d2, d3] => { results := [.lit (.bool false)], args := [d1, d2, d3] }
  | _ => none }
def QuickKindsWrongFalsely : Prop := quickKindsRow.holds Tryz.pinned (OpenSpec.ofChange quickKindsWrong)

/-- 'inkhornlaw11.QuickCuts': WHATEVER THE INPUT: true; the input reads as it did. -/
def quickCutsSpec : ChangeSpec := { name := "quickCuts", fn := fun _ => fun
  | [d1, d2, d3] => { results := [.lit (.bool true)], args := [d1, d2, d3] }
  | _ => none }
def quickCutsRow : OpenClaim := { program := "ytkocaoeednmkpaagreatdoor", sum := "e77ffbe5a4eb6a441c554bc58c1f2788a3e688441456ef8ffdae10c677ec0bf5", func := "inkhorn/inkhornlaw11.QuickCuts", spec := "quickCuts", inPlace := ["internal/bytealg.CountString", "internal/bytealg.IndexByteString", "internal/bytealg.IndexString"], unfollowed := true, recurses := true, named := ["unicode/utf8.first", "unicode/utf8.acceptRanges", "internal/bytealg.MaxLen", "inkhorn/hangul.kinds"], plainKeys := false, apart := false, laid := [("inkhorn/hangul.kinds", laid_inkhorn_hangul_kinds), ("unicode/utf8.acceptRanges", laid_unicode_utf8_acceptRanges), ("unicode/utf8.first", laid_unicode_utf8_first)] }
def QuickCutsSaid : Prop := quickCutsRow.holds Tryz.pinned (OpenSpec.ofChange quickCutsSpec)

/-- ITS FALSE NEIGHBOUR: 'it returns false'. Refute it at one input. -/
def quickCutsWrong : ChangeSpec := { name := "quickCuts", fn := fun _ => fun
  | [d1, d2, d3] => { results := [.lit (.bool false)], args := [d1, d2, d3] }
  | _ => none }
def QuickCutsWrongFalsely : Prop := quickCutsRow.holds Tryz.pinned (OpenSpec.ofChange quickCutsWrong)

/-- 'inkhornlaw11.QuickChecks': WHATEVER THE INPUT: true; the input reads as it did. -/
def quickChecksSpec : ChangeSpec := { name := "quickChecks", fn := fun _ => fun
  | [d1, d2, d3] => { results := [.lit (.bool true)], args := [d1, d2, d3] }
  | _ => none }
def quickChecksRow : OpenClaim := { program := "ytkocaoeednmkpaagreatdoor", sum := "e77ffbe5a4eb6a441c554bc58c1f2788a3e688441456ef8ffdae10c677ec0bf5", func := "inkhorn/inkhornlaw11.QuickChecks", spec := "quickChecks", inPlace := ["internal/bytealg.CountString", "internal/bytealg.IndexByteString", "internal/bytealg.IndexString"], unfollowed := true, recurses := true, named := ["unicode/utf8.first", "unicode/utf8.acceptRanges", "internal/bytealg.MaxLen", "inkhorn/hangul.kinds"], plainKeys := false, apart := false, laid := [("inkhorn/hangul.kinds", laid_inkhorn_hangul_kinds), ("unicode/utf8.acceptRanges", laid_unicode_utf8_acceptRanges), ("unicode/utf8.first", laid_unicode_utf8_first)] }
def QuickChecksSaid : Prop := quickChecksRow.holds Tryz.pinned (OpenSpec.ofChange quickChecksSpec)

/-- ITS FALSE NEIGHBOUR: 'it returns false'. Refute it at one input. -/
def quickChecksWrong : ChangeSpec := { name := "quickChecks", fn := fun _ => fun
  | [d1, d2, d3] => { results := [.lit (.bool false)], args := [d1, d2, d3] }
  | _ => none }
def QuickChecksWrongFalsely : Prop := quickChecksRow.holds Tryz.pinned (OpenSpec.ofChange quickChecksWrong)

/-- 'inkhornlaw11.QuickSure': WHATEVER THE INPUT: true; the input reads as it did. -/
def quickSureSpec : ChangeSpec := { name := "quickSure", fn := fun _ => fun
  | [d1, d2, d3] => { results := [.lit (.bool true)], args := [d1, d2, d3] }
  | _ => none }
def quickSureRow : OpenClaim := { program := "ytkocaoeednmkpaagreatdoor", sum := "e77ffbe5a4eb6a441c554bc58c1f2788a3e688441456ef8ffdae10c677ec0bf5", func := "inkhorn/inkhornlaw11.QuickSure", spec := "quickSure", inPlace := ["internal/bytealg.CountString", "internal/bytealg.IndexByteString", "internal/bytealg.IndexString"], unfollowed := true, recurses := true, named := ["unicode/utf8.first", "unicode/utf8.acceptRanges", "internal/bytealg.MaxLen", "inkhorn/hangul.kinds"], plainKeys := false, apart := false, laid := [("inkhorn/hangul.kinds", laid_inkhorn_hangul_kinds), ("unicode/utf8.acceptRanges", laid_unicode_utf8_acceptRanges), ("unicode/utf8.first", laid_unicode_utf8_first)] }
def QuickSureSaid : Prop := quickSureRow.holds Tryz.pinned (OpenSpec.ofChange quickSureSpec)

/-- ITS FALSE NEIGHBOUR: 'it returns false'. Refute it at one input. -/
def quickSureWrong : ChangeSpec := { name := "quickSure", fn := fun _ => fun
  | [d1, d2, d3] => { results := [.lit (.bool false)], args := [d1, d2, d3] }
  | _ => none }
def QuickSureWrongFalsely : Prop := quickSureRow.holds Tryz.pinned (OpenSpec.ofChange quickSureWrong)

/-- 'inkhornlaw11.QuickNil': WHATEVER THE INPUT: true; the input reads as it did. -/
def quickNilSpec : ChangeSpec := { name := "quickNil", fn := fun _ => fun
  | [d1, d2] => { results := [.lit (.bool true)], args := [d1, d2] }
  | _ => none }
def quickNilRow : OpenClaim := { program := "ytkocaoeednmkpaagreatdoor", sum := "e77ffbe5a4eb6a441c554bc58c1f2788a3e688441456ef8ffdae10c677ec0bf5", func := "inkhorn/inkhornlaw11.QuickNil", spec := "quickNil", inPlace := ["internal/bytealg.CountString", "internal/bytealg.IndexByteString", "internal/bytealg.IndexString"], unfollowed := true, recurses := true, named := ["unicode/utf8.first", "unicode/utf8.acceptRanges", "internal/bytealg.MaxLen", "inkhorn/hangul.kinds"], plainKeys := false, apart := false, laid := [("inkhorn/hangul.kinds", laid_inkhorn_hangul_kinds), ("unicode/utf8.acceptRanges", laid_unicode_utf8_acceptRanges), ("unicode/utf8.first", laid_unicode_utf8_first)] }
def QuickNilSaid : Prop := quickNilRow.holds Tryz.pinned (OpenSpec.ofChange quickNilSpec)

/-- ITS FALSE NEIGHBOUR: 'it returns false'. Refute it at one input. -/
def quickNilWrong : ChangeSpec := { name := "quickNil", fn := fun _ => fun
  | [d1, d2] => { results := [.lit (.bool false)], args := [d1, d2] }
  | _ => none }
def QuickNilWrongFalsely : Prop := quickNilRow.holds Tryz.pinned (OpenSpec.ofChange quickNilWrong)

/-- 'inkhornlaw11.QuickParts': WHATEVER THE INPUT: true; the input reads as it did. -/
def quickPartsSpec : ChangeSpec := { name := "quickParts", fn := fun _ => fun
  | [d1, d2, d3] => { results := [.lit (.bool true)], args := [d1, d2, d3] }
  | _ => none }
def quickPartsRow : OpenClaim := { program := "ytkocaoeednmkpaagreatdoor", sum := "e77ffbe5a4eb6a441c554bc58c1f2788a3e688441456ef8ffdae10c677ec0bf5", func := "inkhorn/inkhornlaw11.QuickParts", spec := "quickParts", inPlace := ["internal/bytealg.CountString", "internal/bytealg.IndexByteString", "internal/bytealg.IndexString"], unfollowed := true, recurses := true, named := ["unicode/utf8.first", "unicode/utf8.acceptRanges", "internal/bytealg.MaxLen", "inkhorn/hangul.kinds"], plainKeys := false, apart := false, laid := [("inkhorn/hangul.kinds", laid_inkhorn_hangul_kinds), ("unicode/utf8.acceptRanges", laid_unicode_utf8_acceptRanges), ("unicode/utf8.first", laid_unicode_utf8_first)] }
def QuickPartsSaid : Prop := quickPartsRow.holds Tryz.pinned (OpenSpec.ofChange quickPartsSpec)

/-- ITS FALSE NEIGHBOUR: 'it returns false'. Refute it at one input. -/
def quickPartsWrong : ChangeSpec := { name := "quickParts", fn := fun _ => fun
  | [d1, d2, d3] => { results := [.lit (.bool false)], args := [d1, d2, d3] }
  | _ => none }
def QuickPartsWrongFalsely : Prop := quickPartsRow.holds Tryz.pinned (OpenSpec.ofChange quickPartsWrong)

/-- 'inkhornlaw12.NormParts': WHATEVER THE INPUT: true; the input reads as it did. -/
def normPartsSpec : ChangeSpec := { name := "normParts", fn := fun _ => fun
  | [d1, d2] => { results := [.lit (.bool true)], args := [d1, d2] }
  | _ => none }
def normPartsRow : OpenClaim := { program := "ytkocaoeednmkpaagreatdoor", sum := "e77ffbe5a4eb6a441c554bc58c1f2788a3e688441456ef8ffdae10c677ec0bf5", func := "inkhorn/inkhornlaw12.NormParts", spec := "normParts", inPlace := ["internal/bytealg.CountString", "internal/bytealg.IndexByteString", "internal/bytealg.IndexString"], unfollowed := true, recurses := true, named := ["unicode/utf8.first", "unicode/utf8.acceptRanges", "internal/bytealg.MaxLen", "inkhorn/hangul.kinds"], plainKeys := false, apart := false, laid := [("inkhorn/hangul.kinds", laid_inkhorn_hangul_kinds), ("unicode/utf8.acceptRanges", laid_unicode_utf8_acceptRanges), ("unicode/utf8.first", laid_unicode_utf8_first)] }
def NormPartsSaid : Prop := normPartsRow.holds Tryz.pinned (OpenSpec.ofChange normPartsSpec)

/-- ITS FALSE NEIGHBOUR: 'it returns false'. Refute it at one input. -/
def normPartsWrong : ChangeSpec := { name := "normParts", fn := fun _ => fun
  | [d1, d2] => { results := [.lit (.bool false)], args := [d1, d2] }
  | _ => none }
def NormPartsWrongFalsely : Prop := normPartsRow.holds Tryz.pinned (OpenSpec.ofChange normPartsWrong)

/-- 'inkhornlaw12.NormJoins': WHATEVER THE INPUT: true; the input reads as it did. -/
def normJoinsSpec : ChangeSpec := { name := "normJoins", fn := fun _ => fun
  | [d1, d2, d3] => { results := [.lit (.bool true)], args := [d1, d2, d3] }
  | _ => none }
def normJoinsRow : OpenClaim := { program := "ytkocaoeednmkpaagreatdoor", sum := "e77ffbe5a4eb6a441c554bc58c1f2788a3e688441456ef8ffdae10c677ec0bf5", func := "inkhorn/inkhornlaw12.NormJoins", spec := "normJoins", inPlace := ["internal/bytealg.CountString", "internal/bytealg.IndexByteString", "internal/bytealg.IndexString"], unfollowed := true, recurses := true, named := ["unicode/utf8.first", "unicode/utf8.acceptRanges", "internal/bytealg.MaxLen", "inkhorn/hangul.kinds"], plainKeys := false, apart := false, laid := [("inkhorn/hangul.kinds", laid_inkhorn_hangul_kinds), ("unicode/utf8.acceptRanges", laid_unicode_utf8_acceptRanges), ("unicode/utf8.first", laid_unicode_utf8_first)] }
def NormJoinsSaid : Prop := normJoinsRow.holds Tryz.pinned (OpenSpec.ofChange normJoinsSpec)

/-- ITS FALSE NEIGHBOUR: 'it returns false'. Refute it at one input. -/
def normJoinsWrong : ChangeSpec := { name := "normJoins", fn := fun _ => fun
  | [d1, d2, d3] => { results := [.lit (.bool false)], args := [d1, d2, d3] }
  | _ => none }
def NormJoinsWrongFalsely : Prop := normJoinsRow.holds Tryz.pinned (OpenSpec.ofChange normJoinsWrong)

/-- 'inkhornlaw12.NormFeeds': WHATEVER THE INPUT: true; the input reads as it did. -/
def normFeedsSpec : ChangeSpec := { name := "normFeeds", fn := fun _ => fun
  | [d1, d2] => { results := [.lit (.bool true)], args := [d1, d2] }
  | _ => none }
def normFeedsRow : OpenClaim := { program := "ytkocaoeednmkpaagreatdoor", sum := "e77ffbe5a4eb6a441c554bc58c1f2788a3e688441456ef8ffdae10c677ec0bf5", func := "inkhorn/inkhornlaw12.NormFeeds", spec := "normFeeds", inPlace := ["internal/bytealg.CountString", "internal/bytealg.IndexByteString", "internal/bytealg.IndexString"], unfollowed := true, recurses := true, named := ["unicode/utf8.first", "unicode/utf8.acceptRanges", "internal/bytealg.MaxLen", "inkhorn/hangul.kinds"], plainKeys := false, apart := false, laid := [("inkhorn/hangul.kinds", laid_inkhorn_hangul_kinds), ("unicode/utf8.acceptRanges", laid_unicode_utf8_acceptRanges), ("unicode/utf8.first", laid_unicode_utf8_first)] }
def NormFeedsSaid : Prop := normFeedsRow.holds Tryz.pinned (OpenSpec.ofChange normFeedsSpec)

/-- ITS FALSE NEIGHBOUR: 'it returns false'. Refute it at one input. -/
def normFeedsWrong : ChangeSpec := { name := "normFeeds", fn := fun _ => fun
  | [d1, d2] => { results := [.lit (.bool false)], args := [d1, d2] }
  | _ => none }
def NormFeedsWrongFalsely : Prop := normFeedsRow.holds Tryz.pinned (OpenSpec.ofChange normFeedsWrong)

/-- 'inkhornlaw12.NormNil': WHATEVER THE INPUT: true; the input reads as it did. -/
def normNilSpec : ChangeSpec := { name := "normNil", fn := fun _ => fun
  | [d] => { results := [.lit (.bool true)], args := [d] }
  | _ => none }
def normNilRow : OpenClaim := { program := "ytkocaoeednmkpaagreatdoor", sum := "e77ffbe5a4eb6a441c554bc58c1f2788a3e688441456ef8ffdae10c677ec0bf5", func := "inkhorn/inkhornlaw12.NormNil", spec := "normNil", inPlace := ["internal/bytealg.CountString", "internal/bytealg.IndexByteString", "internal/bytealg.IndexString"], unfollowed := true, recurses := true, named := ["unicode/utf8.first", "unicode/utf8.acceptRanges", "internal/bytealg.MaxLen", "inkhorn/hangul.kinds"], plainKeys := false, apart := false, laid := [("inkhorn/hangul.kinds", laid_inkhorn_hangul_kinds), ("unicode/utf8.acceptRanges", laid_unicode_utf8_acceptRanges), ("unicode/utf8.first", laid_unicode_utf8_first)] }
def NormNilSaid : Prop := normNilRow.holds Tryz.pinned (OpenSpec.ofChange normNilSpec)

/-- ITS FALSE NEIGHBOUR: 'it returns false'. Refute it at one input. -/
def normNilWrong : ChangeSpec := { name := "normNil", fn := fun _ => fun
  | [d] => { results := [.lit (.bool false)], args := [d] }
  | _ => none }
def NormNilWrongFalsely : Prop := normNilRow.holds Tryz.pinned (OpenSpec.ofChange normNilWrong)

/-- 'inkhornlaw12.NormSame': WHATEVER THE INPUT: true; the input reads as it did. -/
def normSameSpec : ChangeSpec := { name := "normSame", fn := fun _ => fun
  | [d1, d2, d3] => { results := [.lit (.bool true)], args := [d1, d2, d3] }
  | _ => none }
def normSameRow : OpenClaim := { program := "ytkocaoeednmkpaagreatdoor", sum := "e77ffbe5a4eb6a441c554bc58c1f2788a3e688441456ef8ffdae10c677ec0bf5", func := "inkhorn/inkhornlaw12.NormSame", spec := "normSame", inPlace := ["internal/bytealg.CountString", "internal/bytealg.IndexByteString", "internal/bytealg.IndexString"], unfollowed := true, recurses := true, named := ["unicode/utf8.first", "unicode/utf8.acceptRanges", "internal/bytealg.MaxLen", "inkhorn/hangul.kinds"], plainKeys := false, apart := false, laid := [("inkhorn/hangul.kinds", laid_inkhorn_hangul_kinds), ("unicode/utf8.acceptRanges", laid_unicode_utf8_acceptRanges), ("unicode/utf8.first", laid_unicode_utf8_first)] }
def NormSameSaid : Prop := normSameRow.holds Tryz.pinned (OpenSpec.ofChange normSameSpec)

/-- ITS FALSE NEIGHBOUR: 'it returns false'. Refute it at one input. -/
def normSameWrong : ChangeSpec := { name := "normSame", fn := fun _ => fun
  | [d1, d2, d3] => { results := [.lit (.bool false)], args := [d1, d2, d3] }
  | _ => none }
def NormSameWrongFalsely : Prop := normSameRow.holds Tryz.pinned (OpenSpec.ofChange normSameWrong)

/-- 'inkhornlaw12.NormEqual': WHATEVER THE INPUT: true; the input reads as it did. -/
def normEqualSpec : ChangeSpec := { name := "normEqual", fn := fun _ => fun
  | [d1, d2, d3] => { results := [.lit (.bool true)], args := [d1, d2, d3] }
  | _ => none }
def normEqualRow : OpenClaim := { program := "ytkocaoeednmkpaagreatdoor", sum := "e77ffbe5a4eb6a441c554bc58c1f2788a3e688441456ef8ffdae10c677ec0bf5", func := "inkhorn/inkhornlaw12.NormEqual", spec := "normEqual", inPlace := ["internal/bytealg.CountString", "internal/bytealg.IndexByteString", "internal/bytealg.IndexString"], unfollowed := true, recurses := true, named := ["unicode/utf8.first", "unicode/utf8.acceptRanges", "internal/bytealg.MaxLen", "inkhorn/hangul.kinds"], plainKeys := false, apart := false, laid := [("inkhorn/hangul.kinds", laid_inkhorn_hangul_kinds), ("unicode/utf8.acceptRanges", laid_unicode_utf8_acceptRanges), ("unicode/utf8.first", laid_unicode_utf8_first)] }
def NormEqualSaid : Prop := normEqualRow.holds Tryz.pinned (OpenSpec.ofChange normEqualSpec)

/-- ITS FALSE NEIGHBOUR: 'it returns false'. Refute it at one input. -/
def normEqualWrong : ChangeSpec := { name := "normEqual", fn := fun _ => fun
  | [d1, d2, d3] => { results := [.lit (.bool false)], args := [d1, d2, d3] }
  | _ => none }
def NormEqualWrongFalsely : Prop := normEqualRow.holds Tryz.pinned (OpenSpec.ofChange normEqualWrong)

/-- 'inkhornlaw12.NormForms': WHATEVER THE INPUT: true; the input reads as it did. -/
def normFormsSpec : ChangeSpec := { name := "normForms", fn := fun _ => fun
  | [d1, d2, d3] => { results := [.lit (.bool true)], args := [d1, d2, d3] }
  | _ => none }
def normFormsRow : OpenClaim := { program := "ytkocaoeednmkpaagreatdoor", sum := "e77ffbe5a4eb6a441c554bc58c1f2788a3e688441456ef8ffdae10c677ec0bf5", func := "inkhorn/inkhornlaw12.NormForms", spec := "normForms", inPlace := ["internal/bytealg.CountString", "internal/bytealg.IndexByteString", "internal/bytealg.IndexString"], unfollowed := true, recurses := true, named := ["unicode/utf8.first", "unicode/utf8.acceptRanges", "internal/bytealg.MaxLen", "inkhorn/hangul.kinds"], plainKeys := false, apart := false, laid := [("inkhorn/hangul.kinds", laid_inkhorn_hangul_kinds), ("unicode/utf8.acceptRanges", laid_unicode_utf8_acceptRanges), ("unicode/utf8.first", laid_unicode_utf8_first)] }
def NormFormsSaid : Prop := normFormsRow.holds Tryz.pinned (OpenSpec.ofChange normFormsSpec)

/-- ITS FALSE NEIGHBOUR: 'it returns false'. Refute it at one input. -/
def normFormsWrong : ChangeSpec := { name := "normForms", fn := fun _ => fun
  | [d1, d2, d3] => { results := [.lit (.bool false)], args := [d1, d2, d3] }
  | _ => none }
def NormFormsWrongFalsely : Prop := normFormsRow.holds Tryz.pinned (OpenSpec.ofChange normFormsWrong)

/-- 'inkhornlaw12.NormAgain': WHATEVER THE INPUT: true; the input reads as it did. -/
def normAgainSpec : ChangeSpec := { name := "normAgain", fn := fun _ => fun
  | [d1, d2] => { results := [.lit (.bool true)], args := [d1, d2] }
  | _ => none }
def normAgainRow : OpenClaim := { program := "ytkocaoeednmkpaagreatdoor", sum := "e77ffbe5a4eb6a441c554bc58c1f2788a3e688441456ef8ffdae10c677ec0bf5", func := "inkhorn/inkhornlaw12.NormAgain", spec := "normAgain", inPlace := ["internal/bytealg.CountString", "internal/bytealg.IndexByteString", "internal/bytealg.IndexString"], unfollowed := true, recurses := true, named := ["unicode/utf8.first", "unicode/utf8.acceptRanges", "internal/bytealg.MaxLen", "inkhorn/hangul.kinds"], plainKeys := false, apart := false, laid := [("inkhorn/hangul.kinds", laid_inkhorn_hangul_kinds), ("unicode/utf8.acceptRanges", laid_unicode_utf8_acceptRanges), ("unicode/utf8.first", laid_unicode_utf8_first)] }
def NormAgainSaid : Prop := normAgainRow.holds Tryz.pinned (OpenSpec.ofChange normAgainSpec)

/-- ITS FALSE NEIGHBOUR: 'it returns false'. Refute it at one input. -/
def normAgainWrong : ChangeSpec := { name := "normAgain", fn := fun _ => fun
  | [d1, d2] => { results := [.lit (.bool false)], args := [d1, d2] }
  | _ => none }
def NormAgainWrongFalsely : Prop := normAgainRow.holds Tryz.pinned (OpenSpec.ofChange normAgainWrong)

/- THE SECOND FORM. 'bulk': how many values and letters a reading holds, each counted each time it is reached (what is shared counts as often as it is met; a slice's spare places count too). A statement '..UptoSaid' is the law's where the arguments, and the package variables that the reading takes, are together of bulk at most 1048576: NARROWER than '..Said'. Prove '..Said' where nothing that the law and all that it calls make is longer than what came in: it says more and counts as full. Else prove '..UptoSaid'. A law counts once. -/
mutual
def uptoBulk {H : Type} : DataW H → Nat
  | .lit (.string bytes) => bytes.length + 1
  | .lit _ => 1
  | .nil => 1
  | .ptr d => uptoBulk d + 1
  | .slice elems spare => uptoBulkAll elems + uptoBulkAll spare + 1
  | .agg parts => uptoBulkAll parts + 1
  | .iface _ d => uptoBulk d + 1
  | .map entries => uptoBulkEntries entries + 1
  | .held _ => 1
def uptoBulkAll {H : Type} : List (DataW H) → Nat
  | [] => 0
  | d :: r => uptoBulk d + uptoBulkAll r
def uptoBulkEntries {H : Type} : List (Lit × DataW H) → Nat
  | [] => 0
  | x :: r => uptoBulkEntry x + uptoBulkEntries r
def uptoBulkEntry {H : Type} : Lit × DataW H → Nat
  | (.string bytes, d) => bytes.length + uptoBulk d + 1
  | (_, d) => uptoBulk d + 1
 end
def uptoSmall : (H : Type) → List (DataW H) → Bool := fun _ ds => decide (uptoBulkAll ds ≤ 1048576)
def OpenSpec.upto (s : _root_.Go.ChangeSpec) : _root_.Go.OpenSpec := { _root_.Go.OpenSpec.ofChange s with cond := some uptoSmall }

/-- 'inkhornlaw11.QuickKinds', WHERE WHAT IT READS IS OF BULK AT MOST 1048576: true; the input reads as it did. -/
def quickKindsUptoRow : OpenClaim := { program := "ytkocaoeednmkpaagreatdoor", sum := "e77ffbe5a4eb6a441c554bc58c1f2788a3e688441456ef8ffdae10c677ec0bf5", func := "inkhorn/inkhornlaw11.QuickKinds", spec := "quickKinds", inPlace := ["internal/bytealg.CountString", "internal/bytealg.IndexByteString", "internal/bytealg.IndexString"], unfollowed := true, recurses := true, named := ["unicode/utf8.first", "unicode/utf8.acceptRanges", "internal/bytealg.MaxLen", "inkhorn/hangul.kinds"], plainKeys := false, apart := false, laid := [("inkhorn/hangul.kinds", laid_inkhorn_hangul_kinds), ("unicode/utf8.acceptRanges", laid_unicode_utf8_acceptRanges), ("unicode/utf8.first", laid_unicode_utf8_first)], narrowed := true }
def QuickKindsUptoSaid : Prop := quickKindsUptoRow.holds Tryz.pinned (OpenSpec.upto quickKindsSpec)

/-- 'inkhornlaw11.QuickCuts', WHERE WHAT IT READS IS OF BULK AT MOST 1048576: true; the input reads as it did. -/
def quickCutsUptoRow : OpenClaim := { program := "ytkocaoeednmkpaagreatdoor", sum := "e77ffbe5a4eb6a441c554bc58c1f2788a3e688441456ef8ffdae10c677ec0bf5", func := "inkhorn/inkhornlaw11.QuickCuts", spec := "quickCuts", inPlace := ["internal/bytealg.CountString", "internal/bytealg.IndexByteString", "internal/bytealg.IndexString"], unfollowed := true, recurses := true, named := ["unicode/utf8.first", "unicode/utf8.acceptRanges", "internal/bytealg.MaxLen", "inkhorn/hangul.kinds"], plainKeys := false, apart := false, laid := [("inkhorn/hangul.kinds", laid_inkhorn_hangul_kinds), ("unicode/utf8.acceptRanges", laid_unicode_utf8_acceptRanges), ("unicode/utf8.first", laid_unicode_utf8_first)], narrowed := true }
def QuickCutsUptoSaid : Prop := quickCutsUptoRow.holds Tryz.pinned (OpenSpec.upto quickCutsSpec)

/-- 'inkhornlaw11.QuickChecks', WHERE WHAT IT READS IS OF BULK AT MOST 1048576: true; the input reads as it did. -/
def quickChecksUptoRow : OpenClaim := { program := "ytkocaoeednmkpaagreatdoor", sum := "e77ffbe5a4eb6a441c554bc58c1f2788a3e688441456ef8ffdae10c677ec0bf5", func := "inkhorn/inkhornlaw11.QuickChecks", spec := "quickChecks", inPlace := ["internal/bytealg.CountString", "internal/bytealg.IndexByteString", "internal/bytealg.IndexString"], unfollowed := true, recurses := true, named := ["unicode/utf8.first", "unicode/utf8.acceptRanges", "internal/bytealg.MaxLen", "inkhorn/hangul.kinds"], plainKeys := false, apart := false, laid := [("inkhorn/hangul.kinds", laid_inkhorn_hangul_kinds), ("unicode/utf8.acceptRanges", laid_unicode_utf8_acceptRanges), ("unicode/utf8.first", laid_unicode_utf8_first)], narrowed := true }
def QuickChecksUptoSaid : Prop := quickChecksUptoRow.holds Tryz.pinned (OpenSpec.upto quickChecksSpec)

/-- 'inkhornlaw11.QuickSure', WHERE WHAT IT READS IS OF BULK AT MOST 1048576: true; the input reads as it did. -/
def quickSureUptoRow : OpenClaim := { program := "ytkocaoeednmkpaagreatdoor", sum := "e77ffbe5a4eb6a441c554bc58c1f2788a3e688441456ef8ffdae10c677ec0bf5", func := "inkhorn/inkhornlaw11.QuickSure", spec := "quickSure", inPlace := ["internal/bytealg.CountString", "internal/bytealg.IndexByteString", "internal/bytealg.IndexString"], unfollowed := true, recurses := true, named := ["unicode/utf8.first", "unicode/utf8.acceptRanges", "internal/bytealg.MaxLen", "inkhorn/hangul.kinds"], plainKeys := false, apart := false, laid := [("inkhorn/hangul.kinds", laid_inkhorn_hangul_kinds), ("unicode/utf8.acceptRanges", laid_unicode_utf8_acceptRanges), ("unicode/utf8.first", laid_unicode_utf8_first)], narrowed := true }
def QuickSureUptoSaid : Prop := quickSureUptoRow.holds Tryz.pinned (OpenSpec.upto quickSureSpec)

/-- 'inkhornlaw11.QuickNil', WHERE WHAT IT READS IS OF BULK AT MOST 1048576: true; the input reads as it did. -/
def quickNilUptoRow : OpenClaim := { program := "ytkocaoeednmkpaagreatdoor", sum := "e77ffbe5a4eb6a441c554bc58c1f2788a3e688441456ef8ffdae10c677ec0bf5", func := "inkhorn/inkhornlaw11.QuickNil", spec := "quickNil", inPlace := ["internal/bytealg.CountString", "internal/bytealg.IndexByteString", "internal/bytealg.IndexString"], unfollowed := true, recurses := true, named := ["unicode/utf8.first", "unicode/utf8.acceptRanges", "internal/bytealg.MaxLen", "inkhorn/hangul.kinds"], plainKeys := false, apart := false, laid := [("inkhorn/hangul.kinds", laid_inkhorn_hangul_kinds), ("unicode/utf8.acceptRanges", laid_unicode_utf8_acceptRanges), ("unicode/utf8.first", laid_unicode_utf8_first)], narrowed := true }
def QuickNilUptoSaid : Prop := quickNilUptoRow.holds Tryz.pinned (OpenSpec.upto quickNilSpec)

/-- 'inkhornlaw11.QuickParts', WHERE WHAT IT READS IS OF BULK AT MOST 1048576: true; the input reads as it did. -/
def quickPartsUptoRow : OpenClaim := { program := "ytkocaoeednmkpaagreatdoor", sum := "e77ffbe5a4eb6a441c554bc58c1f2788a3e688441456ef8ffdae10c677ec0bf5", func := "inkhorn/inkhornlaw11.QuickParts", spec := "quickParts", inPlace := ["internal/bytealg.CountString", "internal/bytealg.IndexByteString", "internal/bytealg.IndexString"], unfollowed := true, recurses := true, named := ["unicode/utf8.first", "unicode/utf8.acceptRanges", "internal/bytealg.MaxLen", "inkhorn/hangul.kinds"], plainKeys := false, apart := false, laid := [("inkhorn/hangul.kinds", laid_inkhorn_hangul_kinds), ("unicode/utf8.acceptRanges", laid_unicode_utf8_acceptRanges), ("unicode/utf8.first", laid_unicode_utf8_first)], narrowed := true }
def QuickPartsUptoSaid : Prop := quickPartsUptoRow.holds Tryz.pinned (OpenSpec.upto quickPartsSpec)

/-- 'inkhornlaw12.NormParts', WHERE WHAT IT READS IS OF BULK AT MOST 1048576: true; the input reads as it did. -/
def normPartsUptoRow : OpenClaim := { program := "ytkocaoeednmkpaagreatdoor", sum := "e77ffbe5a4eb6a441c554bc58c1f2788a3e688441456ef8ffdae10c677ec0bf5", func := "inkhorn/inkhornlaw12.NormParts", spec := "normParts", inPlace := ["internal/bytealg.CountString", "internal/bytealg.IndexByteString", "internal/bytealg.IndexString"], unfollowed := true, recurses := true, named := ["unicode/utf8.first", "unicode/utf8.acceptRanges", "internal/bytealg.MaxLen", "inkhorn/hangul.kinds"], plainKeys := false, apart := false, laid := [("inkhorn/hangul.kinds", laid_inkhorn_hangul_kinds), ("unicode/utf8.acceptRanges", laid_unicode_utf8_acceptRanges), ("unicode/utf8.first", laid_unicode_utf8_first)], narrowed := true }
def NormPartsUptoSaid : Prop := normPartsUptoRow.holds Tryz.pinned (OpenSpec.upto normPartsSpec)

/-- 'inkhornlaw12.NormJoins', WHERE WHAT IT READS IS OF BULK AT MOST 1048576: true; the input reads as it did. -/
def normJoinsUptoRow : OpenClaim := { program := "ytkocaoeednmkpaagreatdoor", sum := "e77ffbe5a4eb6a441c554bc58c1f2788a3e688441456ef8ffdae10c677ec0bf5", func := "inkhorn/inkhornlaw12.NormJoins", spec := "normJoins", inPlace := ["internal/bytealg.CountString", "internal/bytealg.IndexByteString", "internal/bytealg.IndexString"], unfollowed := true, recurses := true, named := ["unicode/utf8.first", "unicode/utf8.acceptRanges", "internal/bytealg.MaxLen", "inkhorn/hangul.kinds"], plainKeys := false, apart := false, laid := [("inkhorn/hangul.kinds", laid_inkhorn_hangul_kinds), ("unicode/utf8.acceptRanges", laid_unicode_utf8_acceptRanges), ("unicode/utf8.first", laid_unicode_utf8_first)], narrowed := true }
def NormJoinsUptoSaid : Prop := normJoinsUptoRow.holds Tryz.pinned (OpenSpec.upto normJoinsSpec)

/-- 'inkhornlaw12.NormFeeds', WHERE WHAT IT READS IS OF BULK AT MOST 1048576: true; the input reads as it did. -/
def normFeedsUptoRow : OpenClaim := { program := "ytkocaoeednmkpaagreatdoor", sum := "e77ffbe5a4eb6a441c554bc58c1f2788a3e688441456ef8ffdae10c677ec0bf5", func := "inkhorn/inkhornlaw12.NormFeeds", spec := "normFeeds", inPlace := ["internal/bytealg.CountString", "internal/bytealg.IndexByteString", "internal/bytealg.IndexString"], unfollowed := true, recurses := true, named := ["unicode/utf8.first", "unicode/utf8.acceptRanges", "internal/bytealg.MaxLen", "inkhorn/hangul.kinds"], plainKeys := false, apart := false, laid := [("inkhorn/hangul.kinds", laid_inkhorn_hangul_kinds), ("unicode/utf8.acceptRanges", laid_unicode_utf8_acceptRanges), ("unicode/utf8.first", laid_unicode_utf8_first)], narrowed := true }
def NormFeedsUptoSaid : Prop := normFeedsUptoRow.holds Tryz.pinned (OpenSpec.upto normFeedsSpec)

/-- 'inkhornlaw12.NormNil', WHERE WHAT IT READS IS OF BULK AT MOST 1048576: true; the input reads as it did. -/
def normNilUptoRow : OpenClaim := { program := "ytkocaoeednmkpaagreatdoor", sum := "e77ffbe5a4eb6a441c554bc58c1f2788a3e688441456ef8ffdae10c677ec0bf5", func := "inkhorn/inkhornlaw12.NormNil", spec := "normNil", inPlace := ["internal/bytealg.CountString", "internal/bytealg.IndexByteString", "internal/bytealg.IndexString"], unfollowed := true, recurses := true, named := ["unicode/utf8.first", "unicode/utf8.acceptRanges", "internal/bytealg.MaxLen", "inkhorn/hangul.kinds"], plainKeys := false, apart := false, laid := [("inkhorn/hangul.kinds", laid_inkhorn_hangul_kinds), ("unicode/utf8.acceptRanges", laid_unicode_utf8_acceptRanges), ("unicode/utf8.first", laid_unicode_utf8_first)], narrowed := true }
def NormNilUptoSaid : Prop := normNilUptoRow.holds Tryz.pinned (OpenSpec.upto normNilSpec)

/-- 'inkhornlaw12.NormSame', WHERE WHAT IT READS IS OF BULK AT MOST 1048576: true; the input reads as it did. -/
def normSameUptoRow : OpenClaim := { program := "ytkocaoeednmkpaagreatdoor", sum := "e77ffbe5a4eb6a441c554bc58c1f2788a3e688441456ef8ffdae10c677ec0bf5", func := "inkhorn/inkhornlaw12.NormSame", spec := "normSame", inPlace := ["internal/bytealg.CountString", "internal/bytealg.IndexByteString", "internal/bytealg.IndexString"], unfollowed := true, recurses := true, named := ["unicode/utf8.first", "unicode/utf8.acceptRanges", "internal/bytealg.MaxLen", "inkhorn/hangul.kinds"], plainKeys := false, apart := false, laid := [("inkhorn/hangul.kinds", laid_inkhorn_hangul_kinds), ("unicode/utf8.acceptRanges", laid_unicode_utf8_acceptRanges), ("unicode/utf8.first", laid_unicode_utf8_first)], narrowed := true }
def NormSameUptoSaid : Prop := normSameUptoRow.holds Tryz.pinned (OpenSpec.upto normSameSpec)

/-- 'inkhornlaw12.NormEqual', WHERE WHAT IT READS IS OF BULK AT MOST 1048576: true; the input reads as it did. -/
def normEqualUptoRow : OpenClaim := { program := "ytkocaoeednmkpaagreatdoor", sum := "e77ffbe5a4eb6a441c554bc58c1f2788a3e688441456ef8ffdae10c677ec0bf5", func := "inkhorn/inkhornlaw12.NormEqual", spec := "normEqual", inPlace := ["internal/bytealg.CountString", "internal/bytealg.IndexByteString", "internal/bytealg.IndexString"], unfollowed := true, recurses := true, named := ["unicode/utf8.first", "unicode/utf8.acceptRanges", "internal/bytealg.MaxLen", "inkhorn/hangul.kinds"], plainKeys := false, apart := false, laid := [("inkhorn/hangul.kinds", laid_inkhorn_hangul_kinds), ("unicode/utf8.acceptRanges", laid_unicode_utf8_acceptRanges), ("unicode/utf8.first", laid_unicode_utf8_first)], narrowed := true }
def NormEqualUptoSaid : Prop := normEqualUptoRow.holds Tryz.pinned (OpenSpec.upto normEqualSpec)

/-- 'inkhornlaw12.NormForms', WHERE WHAT IT READS IS OF BULK AT MOST 1048576: true; the input reads as it did. -/
def normFormsUptoRow : OpenClaim := { program := "ytkocaoeednmkpaagreatdoor", sum := "e77ffbe5a4eb6a441c554bc58c1f2788a3e688441456ef8ffdae10c677ec0bf5", func := "inkhorn/inkhornlaw12.NormForms", spec := "normForms", inPlace := ["internal/bytealg.CountString", "internal/bytealg.IndexByteString", "internal/bytealg.IndexString"], unfollowed := true, recurses := true, named := ["unicode/utf8.first", "unicode/utf8.acceptRanges", "internal/bytealg.MaxLen", "inkhorn/hangul.kinds"], plainKeys := false, apart := false, laid := [("inkhorn/hangul.kinds", laid_inkhorn_hangul_kinds), ("unicode/utf8.acceptRanges", laid_unicode_utf8_acceptRanges), ("unicode/utf8.first", laid_unicode_utf8_first)], narrowed := true }
def NormFormsUptoSaid : Prop := normFormsUptoRow.holds Tryz.pinned (OpenSpec.upto normFormsSpec)

/-- 'inkhornlaw12.NormAgain', WHERE WHAT IT READS IS OF BULK AT MOST 1048576: true; the input reads as it did. -/
def normAgainUptoRow : OpenClaim := { program := "ytkocaoeednmkpaagreatdoor", sum := "e77ffbe5a4eb6a441c554bc58c1f2788a3e688441456ef8ffdae10c677ec0bf5", func := "inkhorn/inkhornlaw12.NormAgain", spec := "normAgain", inPlace := ["internal/bytealg.CountString", "internal/bytealg.IndexByteString", "internal/bytealg.IndexString"], unfollowed := true, recurses := true, named := ["unicode/utf8.first", "unicode/utf8.acceptRanges", "internal/bytealg.MaxLen", "inkhorn/hangul.kinds"], plainKeys := false, apart := false, laid := [("inkhorn/hangul.kinds", laid_inkhorn_hangul_kinds), ("unicode/utf8.acceptRanges", laid_unicode_utf8_acceptRanges), ("unicode/utf8.first", laid_unicode_utf8_first)], narrowed := true }
def NormAgainUptoSaid : Prop := normAgainUptoRow.holds Tryz.pinned (OpenSpec.upto normAgainSpec)

end Rows
end Go.Proofs.YtkocaoeednmkpaaGreatDoor
