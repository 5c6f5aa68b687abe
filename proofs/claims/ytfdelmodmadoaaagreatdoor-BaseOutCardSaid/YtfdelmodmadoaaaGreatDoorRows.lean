/-
  NARROWER THAN 'FOR EVERY INPUT', by the rows' own cells (each row's printed sentence says how): BaseEnds: laid · BaseOut: laid · NormParts: laid · NormFeeds: laid.
  DERIVED. THE GIVEN ROWS OF THIS SEAT. 4 by the template 'for every input the law returns true; each argument reads behind the call as it read before'; 0 by the template 'total and deterministic' (their statements: YtfdelmodmadoaaaGreatDoorTotals.lean).
  GIVEN WITH THE SEED: the statements are not yours to turn. If you find one false, say at which input.
  Laid BY PROGRAM, IN A SANDBOX (cutbox-rows.mjs): the forced cells as the released guide's own fill.sh prints them over the translation 433932cc6d683b17… (all of the seat's roots in one cut). By AI agents, Wed Nov 11 2026. No macro, syntax, notation, axiom, sorry.
-/
import Derived.Test.YtfdelmodmadoaaaGreatDoorChecked
import GoSem.PinnedTables
import GoSem.Claim
import GoSem.ClaimJoined
import GoSem.ClaimMapViews
import Derived.JoinedTies
import Derived.KernelRfl
namespace Go.Proofs.YtfdelmodmadoaaaGreatDoor
/- THE CELL 'sum', in the pinned program and in every row, IS THE sha256 OF THE DUMP (.gsa) THAT YtfdelmodmadoaaaGreatDoorProg.lean LOADS. Nothing in Lean hashes anything: it is a label: what it is worth is what the hold of that sum in a sandbox is worth. -/
noncomputable def Tryz.pinned : Pinned := { name := "ytfdelmodmadoaaagreatdoor", sum := "433932cc6d683b17bec2e65285d9fc079d0d66a39f94b25935fe0bab6afea244", checked := Tryz.checked }
namespace Rows
def none {H : Type} : Left H := { results := [], args := [] }

/- WHAT THE LISTED PACKAGE-LEVEL VARIABLES READ AS WHEN THE CALL BEGINS. Each datum BY PROGRAM (the guide's laid-datum.mjs) off the statement by which the dump's own 'gosem.cut.vars' lays the variable. In a bare row this is a premise. The card (YtfdelmodmadoaaaGreatDoorCards.lean) ties it to the program's text. -/
def laid_inkhorn_hangul_kinds {H : Type} : DataW H := .agg [.agg [.lit (.int .i32 4352), .lit (.int .i32 19)], .agg [.lit (.int .i32 4449), .lit (.int .i32 21)], .agg [.lit (.int .i32 4519), .lit (.int .i32 28)]]
def laid_unicode_utf8_acceptRanges {H : Type} : DataW H := .agg [.agg [.lit (.int .u8 128), .lit (.int .u8 191)], .agg [.lit (.int .u8 160), .lit (.int .u8 191)], .agg [.lit (.int .u8 128), .lit (.int .u8 159)], .agg [.lit (.int .u8 144), .lit (.int .u8 191)], .agg [.lit (.int .u8 128), .lit (.int .u8 143)], .agg [.lit (.int .u8 0), .lit (.int .u8 0)], .agg [.lit (.int .u8 0), .lit (.int .u8 0)], .agg [.lit (.int .u8 0), .lit (.int .u8 0)], .agg [.lit (.int .u8 0), .lit (.int .u8 0)], .agg [.lit (.int .u8 0), .lit (.int .u8 0)], .agg [.lit (.int .u8 0), .lit (.int .u8 0)], .agg [.lit (.int .u8 0), .lit (.int .u8 0)], .agg [.lit (.int .u8 0), .lit (.int .u8 0)], .agg [.lit (.int .u8 0), .lit (.int .u8 0)], .agg [.lit (.int .u8 0), .lit (.int .u8 0)], .agg [.lit (.int .u8 0), .lit (.int .u8 0)]]
/-- One of Go's own tables, pinned by name: the form's constant. -/
def laid_unicode_utf8_first : DataW Unit := Go.Pinned.utf8First

/-- 'inkhornlaw08.BaseEnds': WHATEVER THE INPUT: true; the input reads as it did. -/
def baseEndsSpec : ChangeSpec := { name := "baseEnds", fn := fun _ => fun
  | [d] => { results := [.lit (.bool true)], args := [d] }
  | _ => none }
def baseEndsRow : OpenClaim := { program := "ytfdelmodmadoaaagreatdoor", sum := "433932cc6d683b17bec2e65285d9fc079d0d66a39f94b25935fe0bab6afea244", func := "inkhorn/inkhornlaw08.BaseEnds", spec := "baseEnds", inPlace := ["internal/bytealg.CountString", "internal/bytealg.IndexByteString", "internal/bytealg.IndexString"], unfollowed := true, recurses := true, named := ["unicode/utf8.first", "unicode/utf8.acceptRanges", "internal/bytealg.MaxLen", "inkhorn/hangul.kinds"], plainKeys := false, apart := false, laid := [("inkhorn/hangul.kinds", laid_inkhorn_hangul_kinds), ("unicode/utf8.acceptRanges", laid_unicode_utf8_acceptRanges), ("unicode/utf8.first", laid_unicode_utf8_first)] }
def BaseEndsSaid : Prop := baseEndsRow.holds Tryz.pinned (OpenSpec.ofChange baseEndsSpec)

/-- ITS FALSE NEIGHBOUR: 'it returns false'. Refute it at one input. -/
def baseEndsWrong : ChangeSpec := { name := "baseEnds", fn := fun _ => fun
  | [d] => { results := [.lit (.bool false)], args := [d] }
  | _ => none }
def BaseEndsWrongFalsely : Prop := baseEndsRow.holds Tryz.pinned (OpenSpec.ofChange baseEndsWrong)

/-- 'inkhornlaw08.BaseOut': WHATEVER THE INPUT: true; the input reads as it did. -/
def baseOutSpec : ChangeSpec := { name := "baseOut", fn := fun _ => fun
  | [d1, d2, d3] => { results := [.lit (.bool true)], args := [d1, d2, d3] }
  | _ => none }
def baseOutRow : OpenClaim := { program := "ytfdelmodmadoaaagreatdoor", sum := "433932cc6d683b17bec2e65285d9fc079d0d66a39f94b25935fe0bab6afea244", func := "inkhorn/inkhornlaw08.BaseOut", spec := "baseOut", inPlace := ["internal/bytealg.CountString", "internal/bytealg.IndexByteString", "internal/bytealg.IndexString"], unfollowed := true, recurses := true, named := ["unicode/utf8.first", "unicode/utf8.acceptRanges", "internal/bytealg.MaxLen", "inkhorn/hangul.kinds"], plainKeys := false, apart := false, laid := [("inkhorn/hangul.kinds", laid_inkhorn_hangul_kinds), ("unicode/utf8.acceptRanges", laid_unicode_utf8_acceptRanges), ("unicode/utf8.first", laid_unicode_utf8_first)] }
def BaseOutSaid : Prop := baseOutRow.holds Tryz.pinned (OpenSpec.ofChange baseOutSpec)

/-- ITS FALSE NEIGHBOUR: 'it returns false'. Refute it at one input. -/
def baseOutWrong : ChangeSpec := { name := "baseOut", fn := fun _ => fun
  | [d1, d2, d3] => { results := [.lit (.bool false)], args := [d1, d2, d3] }
  | _ => none }
def BaseOutWrongFalsely : Prop := baseOutRow.holds Tryz.pinned (OpenSpec.ofChange baseOutWrong)

/-- 'inkhornlaw12.NormParts': WHATEVER THE INPUT: true; the input reads as it did. -/
def normPartsSpec : ChangeSpec := { name := "normParts", fn := fun _ => fun
  | [d1, d2] => { results := [.lit (.bool true)], args := [d1, d2] }
  | _ => none }
def normPartsRow : OpenClaim := { program := "ytfdelmodmadoaaagreatdoor", sum := "433932cc6d683b17bec2e65285d9fc079d0d66a39f94b25935fe0bab6afea244", func := "inkhorn/inkhornlaw12.NormParts", spec := "normParts", inPlace := ["internal/bytealg.CountString", "internal/bytealg.IndexByteString", "internal/bytealg.IndexString"], unfollowed := true, recurses := true, named := ["unicode/utf8.first", "unicode/utf8.acceptRanges", "internal/bytealg.MaxLen", "inkhorn/hangul.kinds"], plainKeys := false, apart := false, laid := [("inkhorn/hangul.kinds", laid_inkhorn_hangul_kinds), ("unicode/utf8.acceptRanges", laid_unicode_utf8_acceptRanges), ("unicode/utf8.first", laid_unicode_utf8_first)] }
def NormPartsSaid : Prop := normPartsRow.holds Tryz.pinned (OpenSpec.ofChange normPartsSpec)

/-- ITS FALSE NEIGHBOUR: 'it returns false'. Refute it at one input. -/
def normPartsWrong : ChangeSpec := { name := "normParts", fn := fun _ => fun
  | [d1, d2] => { results := [.lit (.bool false)], args := [d1, d2] }
  | _ => none }
def NormPartsWrongFalsely : Prop := normPartsRow.holds Tryz.pinned (OpenSpec.ofChange normPartsWrong)

/-- 'inkhornlaw12.NormFeeds': WHATEVER THE INPUT: true; the input reads as it did. -/
def normFeedsSpec : ChangeSpec := { name := "normFeeds", fn := fun _ => fun
  | [d1, d2] => { results := [.lit (.bool true)], args := [d1, d2] }
  | _ => none }
def normFeedsRow : OpenClaim := { program := "ytfdelmodmadoaaagreatdoor", sum := "433932cc6d683b17bec2e65285d9fc079d0d66a39f94b25935fe0bab6afea244", func := "inkhorn/inkhornlaw12.NormFeeds", spec := "normFeeds", inPlace := ["internal/bytealg.CountString", "internal/bytealg.IndexByteString", "internal/bytealg.IndexString"], unfollowed := true, recurses := true, named := ["unicode/utf8.first", "unicode/utf8.acceptRanges", "internal/bytealg.MaxLen", "inkhorn/hangul.kinds"], plainKeys := false, apart := false, laid := [("inkhorn/hangul.kinds", laid_inkhorn_hangul_kinds), ("unicode/utf8.acceptRanges", laid_unicode_utf8_acceptRanges), ("unicode/utf8.first", laid_unicode_utf8_first)] }
def NormFeedsSaid : Prop := normFeedsRow.holds Tryz.pinned (OpenSpec.ofChange normFeedsSpec)

/-- ITS FALSE NEIGHBOUR: 'it returns false'. Refute it at one input. -/
def normFeedsWrong : ChangeSpec := { name := "normFeeds", fn := fun _ => fun
  | [d1, d2] => { results := [.lit (.bool false)], args := [d1, d2] }
  | _ => none }
def NormFeedsWrongFalsely : Prop := normFeedsRow.holds Tryz.pinned (OpenSpec.ofChange normFeedsWrong)

/- THE SECOND FORM. 'bulk': how many values and letters a reading holds, each counted each time it is reached (what is shared counts as often as it is met; a slice's spare places count too). A statement '..UptoSaid' is the law's where the arguments, and the package variables that the reading takes, are together of bulk at most 1048576: NARROWER than '..Said'. Prove '..Said' where nothing that the law and all that it calls make is longer than what came in: it says more and counts as full. Else prove '..UptoSaid'. A law counts once. -/
mutual
def uptoBulk {H : Type} : DataW H → Nat
  | .lit (.string bytes) => bytes.length + 1
  | .lit _ => 1
  | .nil => 1
  | .ptr d => uptoBulk d + 1
  | .slice elems spare => uptoBulkAll elems + uptoBulkAll spare + 1
  | .agg parts => uptoBulkAll parts + 1
  | .iface _ d => uptoBulk d + 1
  | .map entries => uptoBulkEntries entries + 1
  | .held _ => 1
def uptoBulkAll {H : Type} : List (DataW H) → Nat
  | [] => 0
  | d :: r => uptoBulk d + uptoBulkAll r
def uptoBulkEntries {H : Type} : List (Lit × DataW H) → Nat
  | [] => 0
  | x :: r => uptoBulkEntry x + uptoBulkEntries r
def uptoBulkEntry {H : Type} : Lit × DataW H → Nat
  | (.string bytes, d) => bytes.length + uptoBulk d + 1
  | (_, d) => uptoBulk d + 1
 end
def uptoSmall : (H : Type) → List (DataW H) → Bool := fun _ ds => decide (uptoBulkAll ds ≤ 1048576)
def OpenSpec.upto (s : _root_.Go.ChangeSpec) : _root_.Go.OpenSpec := { _root_.Go.OpenSpec.ofChange s with cond := some uptoSmall }

/-- 'inkhornlaw08.BaseEnds', WHERE WHAT IT READS IS OF BULK AT MOST 1048576: true; the input reads as it did. -/
def baseEndsUptoRow : OpenClaim := { program := "ytfdelmodmadoaaagreatdoor", sum := "433932cc6d683b17bec2e65285d9fc079d0d66a39f94b25935fe0bab6afea244", func := "inkhorn/inkhornlaw08.BaseEnds", spec := "baseEnds", inPlace := ["internal/bytealg.CountString", "internal/bytealg.IndexByteString", "internal/bytealg.IndexString"], unfollowed := true, recurses := true, named := ["unicode/utf8.first", "unicode/utf8.acceptRanges", "internal/bytealg.MaxLen", "inkhorn/hangul.kinds"], plainKeys := false, apart := false, laid := [("inkhorn/hangul.kinds", laid_inkhorn_hangul_kinds), ("unicode/utf8.acceptRanges", laid_unicode_utf8_acceptRanges), ("unicode/utf8.first", laid_unicode_utf8_first)], narrowed := true }
def BaseEndsUptoSaid : Prop := baseEndsUptoRow.holds Tryz.pinned (OpenSpec.upto baseEndsSpec)

/-- 'inkhornlaw08.BaseOut', WHERE WHAT IT READS IS OF BULK AT MOST 1048576: true; the input reads as it did. -/
def baseOutUptoRow : OpenClaim := { program := "ytfdelmodmadoaaagreatdoor", sum := "433932cc6d683b17bec2e65285d9fc079d0d66a39f94b25935fe0bab6afea244", func := "inkhorn/inkhornlaw08.BaseOut", spec := "baseOut", inPlace := ["internal/bytealg.CountString", "internal/bytealg.IndexByteString", "internal/bytealg.IndexString"], unfollowed := true, recurses := true, named := ["unicode/utf8.first", "unicode/utf8.acceptRanges", "internal/bytealg.MaxLen", "inkhorn/hangul.kinds"], plainKeys := false, apart := false, laid := [("inkhorn/hangul.kinds", laid_inkhorn_hangul_kinds), ("unicode/utf8.acceptRanges", laid_unicode_utf8_acceptRanges), ("unicode/utf8.first", laid_unicode_utf8_first)], narrowed := true }
def BaseOutUptoSaid : Prop := baseOutUptoRow.holds Tryz.pinned (OpenSpec.upto baseOutSpec)

/-- 'inkhornlaw12.NormParts', WHERE WHAT IT READS IS OF BULK AT MOST 1048576: true; the input reads as it did. -/
def normPartsUptoRow : OpenClaim := { program := "ytfdelmodmadoaaagreatdoor", sum := "433932cc6d683b17bec2e65285d9fc079d0d66a39f94b25935fe0bab6afea244", func := "inkhorn/inkhornlaw12.NormParts", spec := "normParts", inPlace := ["internal/bytealg.CountString", "internal/bytealg.IndexByteString", "internal/bytealg.IndexString"], unfollowed := true, recurses := true, named := ["unicode/utf8.first", "unicode/utf8.acceptRanges", "internal/bytealg.MaxLen", "inkhorn/hangul.kinds"], plainKeys := false, apart := false, laid := [("inkhorn/hangul.kinds", laid_inkhorn_hangul_kinds), ("unicode/utf8.acceptRanges", laid_unicode_utf8_acceptRanges), ("unicode/utf8.first", laid_unicode_utf8_first)], narrowed := true }
def NormPartsUptoSaid : Prop := normPartsUptoRow.holds Tryz.pinned (OpenSpec.upto normPartsSpec)

/-- 'inkhornlaw12.NormFeeds', WHERE WHAT IT READS IS OF BULK AT MOST 1048576: true; the input reads as it did. -/
def normFeedsUptoRow : OpenClaim := { program := "ytfdelmodmadoaaagreatdoor", sum := "433932cc6d683b17bec2e65285d9fc079d0d66a39f94b25935fe0bab6afea244", func := "inkhorn/inkhornlaw12.NormFeeds", spec := "normFeeds", inPlace := ["internal/bytealg.CountString", "internal/bytealg.IndexByteString", "internal/bytealg.IndexString"], unfollowed := true, recurses := true, named := ["unicode/utf8.first", "unicode/utf8.acceptRanges", "internal/bytealg.MaxLen", "inkhorn/hangul.kinds"], plainKeys := false, apart := false, laid := [("inkhorn/hangul.kinds", laid_inkhorn_hangul_kinds), ("unicode/utf8.acceptRanges", laid_unicode_utf8_acceptRanges), ("unicode/utf8.first", laid_unicode_utf8_first)], narrowed := true }
def NormFeedsUptoSaid : Prop := normFeedsUptoRow.holds Tryz.pinned (OpenSpec.upto normFeedsSpec)

end Rows
end Go.Proofs.YtfdelmodmadoaaaGreatDoor
