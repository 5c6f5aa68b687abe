/-
  NARROWER THAN 'FOR EVERY INPUT', by the rows' own cells (each row's printed sentence says how): DecompOne: laid · DecompJoins: laid · DecompFull: laid · DecompRuns: laid · DecompAgain: laid · DecompOrder: laid · DecompNil: laid.
  DERIVED. THE GIVEN ROWS OF THIS SEAT. 7 by the template 'for every input the law returns true; each argument reads behind the call as it read before'; 0 by the template 'total and deterministic' (their statements: YtajkjaciooijjaaGreatDoorTotals.lean).
  GIVEN WITH THE SEED: the statements are not yours to turn. If you find one false, say at which input.
  Laid BY PROGRAM, IN A SANDBOX (cutbox-rows.mjs): the forced cells as the released guide's own fill.sh prints them over the translation 51339f7f79a49aea… (all of the seat's roots in one cut). By AI agents, Wed Nov 11 2026. No macro, syntax, notation, axiom, sorry.
-/
import Derived.Test.YtajkjaciooijjaaGreatDoorChecked
import GoSem.PinnedTables
import GoSem.Claim
import GoSem.ClaimJoined
import GoSem.ClaimMapViews
import Derived.JoinedTies
import Derived.KernelRfl
namespace Go.Proofs.YtajkjaciooijjaaGreatDoor
/- THE CELL 'sum', in the pinned program and in every row, IS THE sha256 OF THE DUMP (.gsa) THAT YtajkjaciooijjaaGreatDoorProg.lean LOADS. Nothing in Lean hashes anything: it is a label: what it is worth is what the hold of that sum in a sandbox is worth. -/
noncomputable def Tryz.pinned : Pinned := { name := "ytajkjaciooijjaagreatdoor", sum := "51339f7f79a49aeaff64bbc08eeaebf9f460e1d8ec282466a75e0abe71613dd4", checked := Tryz.checked }
namespace Rows
def none {H : Type} : Left H := { results := [], args := [] }

/- WHAT THE LISTED PACKAGE-LEVEL VARIABLES READ AS WHEN THE CALL BEGINS. Each datum BY PROGRAM (the guide's laid-datum.mjs) off the statement by which the dump's own 'gosem.cut.vars' lays the variable. In a bare row this is a premise. The card (YtajkjaciooijjaaGreatDoorCards.lean) ties it to the program's text. -/
def laid_inkhorn_hangul_kinds {H : Type} : DataW H := .agg [.agg [.lit (.int .i32 4352), .lit (.int .i32 19)], .agg [.lit (.int .i32 4449), .lit (.int .i32 21)], .agg [.lit (.int .i32 4519), .lit (.int .i32 28)]]
def laid_unicode_utf8_acceptRanges {H : Type} : DataW H := .agg [.agg [.lit (.int .u8 128), .lit (.int .u8 191)], .agg [.lit (.int .u8 160), .lit (.int .u8 191)], .agg [.lit (.int .u8 128), .lit (.int .u8 159)], .agg [.lit (.int .u8 144), .lit (.int .u8 191)], .agg [.lit (.int .u8 128), .lit (.int .u8 143)], .agg [.lit (.int .u8 0), .lit (.int .u8 0)], .agg [.lit (.int .u8 0), .lit (.int .u8 0)], .agg [.lit (.int .u8 0), .lit (.int .u8 0)], .agg [.lit (.int .u8 0), .lit (.int .u8 0)], .agg [.lit (.int .u8 0), .lit (.int .u8 0)], .agg [.lit (.int .u8 0), .lit (.int .u8 0)], .agg [.lit (.int .u8 0), .lit (.int .u8 0)], .agg [.lit (.int .u8 0), .lit (.int .u8 0)], .agg [.lit (.int .u8 0), .lit (.int .u8 0)], .agg [.lit (.int .u8 0), .lit (.int .u8 0)], .agg [.lit (.int .u8 0), .lit (.int .u8 0)]]
/-- One of Go's own tables, pinned by name: the form's constant. -/
def laid_unicode_utf8_first : DataW Unit := Go.Pinned.utf8First

/-- 'inkhornlaw09.DecompOne': WHATEVER THE INPUT: true; the input reads as it did. -/
def decompOneSpec : ChangeSpec := { name := "decompOne", fn := fun _ => fun
  | [d1, d2, d3] => { results := [.lit (.bool true)], args := [d1, d2, d3] }
  | _ => none }
def decompOneRow : OpenClaim := { program := "ytajkjaciooijjaagreatdoor", sum := "51339f7f79a49aeaff64bbc08eeaebf9f460e1d8ec282466a75e0abe71613dd4", func := "inkhorn/inkhornlaw09.DecompOne", spec := "decompOne", inPlace := ["internal/bytealg.CountString", "internal/bytealg.IndexByteString", "internal/bytealg.IndexString"], unfollowed := true, recurses := true, named := ["unicode/utf8.first", "unicode/utf8.acceptRanges", "internal/bytealg.MaxLen", "inkhorn/hangul.kinds"], plainKeys := false, apart := false, laid := [("inkhorn/hangul.kinds", laid_inkhorn_hangul_kinds), ("unicode/utf8.acceptRanges", laid_unicode_utf8_acceptRanges), ("unicode/utf8.first", laid_unicode_utf8_first)] }
def DecompOneSaid : Prop := decompOneRow.holds Tryz.pinned (OpenSpec.ofChange decompOneSpec)

/-- ITS FALSE NEIGHBOUR: 'it returns false'. Refute it at one input. -/
def decompOneWrong : ChangeSpec := { name := "decompOne", fn := fun _ => fun
  | [d1, d2, d3] => { results := [.lit (.bool false)], args := [d1, d2, d3] }
  | _ => none }
def DecompOneWrongFalsely : Prop := decompOneRow.holds Tryz.pinned (OpenSpec.ofChange decompOneWrong)

/-- 'inkhornlaw09.DecompJoins': WHATEVER THE INPUT: true; the input reads as it did. -/
def decompJoinsSpec : ChangeSpec := { name := "decompJoins", fn := fun _ => fun
  | [d1, d2, d3] => { results := [.lit (.bool true)], args := [d1, d2, d3] }
  | _ => none }
def decompJoinsRow : OpenClaim := { program := "ytajkjaciooijjaagreatdoor", sum := "51339f7f79a49aeaff64bbc08eeaebf9f460e1d8ec282466a75e0abe71613dd4", func := "inkhorn/inkhornlaw09.DecompJoins", spec := "decompJoins", inPlace := ["internal/bytealg.CountString", "internal/bytealg.IndexByteString", "internal/bytealg.IndexString"], unfollowed := true, recurses := true, named := ["unicode/utf8.first", "unicode/utf8.acceptRanges", "internal/bytealg.MaxLen", "inkhorn/hangul.kinds"], plainKeys := false, apart := false, laid := [("inkhorn/hangul.kinds", laid_inkhorn_hangul_kinds), ("unicode/utf8.acceptRanges", laid_unicode_utf8_acceptRanges), ("unicode/utf8.first", laid_unicode_utf8_first)] }
def DecompJoinsSaid : Prop := decompJoinsRow.holds Tryz.pinned (OpenSpec.ofChange decompJoinsSpec)

/-- ITS FALSE NEIGHBOUR: 'it returns false'. Refute it at one input. -/
def decompJoinsWrong : ChangeSpec := { name := "decompJoins", fn := fun _ => fun
  | [d1, d2, d3] => { results := [.lit (.bool false)], args := [d1, d2, d3] }
  | _ => none }
def DecompJoinsWrongFalsely : Prop := decompJoinsRow.holds Tryz.pinned (OpenSpec.ofChange decompJoinsWrong)

/-- 'inkhornlaw09.DecompFull': WHATEVER THE INPUT: true; the input reads as it did. -/
def decompFullSpec : ChangeSpec := { name := "decompFull", fn := fun _ => fun
  | [d1, d2, d3] => { results := [.lit (.bool true)], args := [d1, d2, d3] }
  | _ => none }
def decompFullRow : OpenClaim := { program := "ytajkjaciooijjaagreatdoor", sum := "51339f7f79a49aeaff64bbc08eeaebf9f460e1d8ec282466a75e0abe71613dd4", func := "inkhorn/inkhornlaw09.DecompFull", spec := "decompFull", inPlace := ["internal/bytealg.CountString", "internal/bytealg.IndexByteString", "internal/bytealg.IndexString"], unfollowed := true, recurses := true, named := ["unicode/utf8.first", "unicode/utf8.acceptRanges", "internal/bytealg.MaxLen", "inkhorn/hangul.kinds"], plainKeys := false, apart := false, laid := [("inkhorn/hangul.kinds", laid_inkhorn_hangul_kinds), ("unicode/utf8.acceptRanges", laid_unicode_utf8_acceptRanges), ("unicode/utf8.first", laid_unicode_utf8_first)] }
def DecompFullSaid : Prop := decompFullRow.holds Tryz.pinned (OpenSpec.ofChange decompFullSpec)

/-- ITS FALSE NEIGHBOUR: 'it returns false'. Refute it at one input. -/
def decompFullWrong : ChangeSpec := { name := "decompFull", fn := fun _ => fun
  | [d1, d2, d3] => { results := [.lit (.bool false)], args := [d1, d2, d3] }
  | _ => none }
def DecompFullWrongFalsely : Prop := decompFullRow.holds Tryz.pinned (OpenSpec.ofChange decompFullWrong)

/-- 'inkhornlaw09.DecompRuns': WHATEVER THE INPUT: true; the input reads as it did. -/
def decompRunsSpec : ChangeSpec := { name := "decompRuns", fn := fun _ => fun
  | [d1, d2] => { results := [.lit (.bool true)], args := [d1, d2] }
  | _ => none }
def decompRunsRow : OpenClaim := { program := "ytajkjaciooijjaagreatdoor", sum := "51339f7f79a49aeaff64bbc08eeaebf9f460e1d8ec282466a75e0abe71613dd4", func := "inkhorn/inkhornlaw09.DecompRuns", spec := "decompRuns", inPlace := ["internal/bytealg.CountString", "internal/bytealg.IndexByteString", "internal/bytealg.IndexString"], unfollowed := true, recurses := true, named := ["unicode/utf8.first", "unicode/utf8.acceptRanges", "internal/bytealg.MaxLen", "inkhorn/hangul.kinds"], plainKeys := false, apart := false, laid := [("inkhorn/hangul.kinds", laid_inkhorn_hangul_kinds), ("unicode/utf8.acceptRanges", laid_unicode_utf8_acceptRanges), ("unicode/utf8.first", laid_unicode_utf8_first)] }
def DecompRunsSaid : Prop := decompRunsRow.holds Tryz.pinned (OpenSpec.ofChange decompRunsSpec)

/-- ITS FALSE NEIGHBOUR: 'it returns false'. Refute it at one input. -/
def decompRunsWrong : ChangeSpec := { name := "decompRuns", fn := fun _ => fun
  | [d1, d2] => { results := [.lit (.bool false)], args := [d1, d2] }
  | _ => none }
def DecompRunsWrongFalsely : Prop := decompRunsRow.holds Tryz.pinned (OpenSpec.ofChange decompRunsWrong)

/-- 'inkhornlaw09.DecompAgain': WHATEVER THE INPUT: true; the input reads as it did. -/
def decompAgainSpec : ChangeSpec := { name := "decompAgain", fn := fun _ => fun
  | [d1, d2, d3] => { results := [.lit (.bool true)], args := [d1, d2, d3] }
  | _ => none }
def decompAgainRow : OpenClaim := { program := "ytajkjaciooijjaagreatdoor", sum := "51339f7f79a49aeaff64bbc08eeaebf9f460e1d8ec282466a75e0abe71613dd4", func := "inkhorn/inkhornlaw09.DecompAgain", spec := "decompAgain", inPlace := ["internal/bytealg.CountString", "internal/bytealg.IndexByteString", "internal/bytealg.IndexString"], unfollowed := true, recurses := true, named := ["unicode/utf8.first", "unicode/utf8.acceptRanges", "internal/bytealg.MaxLen", "inkhorn/hangul.kinds"], plainKeys := false, apart := false, laid := [("inkhorn/hangul.kinds", laid_inkhorn_hangul_kinds), ("unicode/utf8.acceptRanges", laid_unicode_utf8_acceptRanges), ("unicode/utf8.first", laid_unicode_utf8_first)] }
def DecompAgainSaid : Prop := decompAgainRow.holds Tryz.pinned (OpenSpec.ofChange decompAgainSpec)

/-- ITS FALSE NEIGHBOUR: 'it returns false'. Refute it at one input. -/
def decompAgainWrong : ChangeSpec := { name := "decompAgain", fn := fun _ => fun
  | [d1, d2, d3] => { results := [.lit (.bool false)], args := [d1, d2, d3] }
  | _ => none }
def DecompAgainWrongFalsely : Prop := decompAgainRow.holds Tryz.pinned (OpenSpec.ofChange decompAgainWrong)

/-- 'inkhornlaw09.DecompOrder': WHATEVER THE INPUT: true; the input reads as it did. -/
def decompOrderSpec : ChangeSpec := { name := "decompOrder", fn := fun _ => fun
  | [d1, d2] => { results := [.lit (.bool true)], args := [d1, d2] }
  | _ => none }
def decompOrderRow : OpenClaim := { program := "ytajkjaciooijjaagreatdoor", sum := "51339f7f79a49aeaff64bbc08eeaebf9f460e1d8ec282466a75e0abe71613dd4", func := "inkhorn/inkhornlaw09.DecompOrder", spec := "decompOrder", inPlace := ["internal/bytealg.CountString", "internal/bytealg.IndexByteString", "internal/bytealg.IndexString"], unfollowed := true, recurses := true, named := ["unicode/utf8.first", "unicode/utf8.acceptRanges", "internal/bytealg.MaxLen", "inkhorn/hangul.kinds"], plainKeys := false, apart := false, laid := [("inkhorn/hangul.kinds", laid_inkhorn_hangul_kinds), ("unicode/utf8.acceptRanges", laid_unicode_utf8_acceptRanges), ("unicode/utf8.first", laid_unicode_utf8_first)] }
def DecompOrderSaid : Prop := decompOrderRow.holds Tryz.pinned (OpenSpec.ofChange decompOrderSpec)

/-- ITS FALSE NEIGHBOUR: 'it returns false'. Refute it at one input. -/
def decompOrderWrong : ChangeSpec := { name := "decompOrder", fn := fun _ => fun
  | [d1, d2] => { results := [.lit (.bool false)], args := [d1, d2] }
  | _ => none }
def DecompOrderWrongFalsely : Prop := decompOrderRow.holds Tryz.pinned (OpenSpec.ofChange decompOrderWrong)

/-- 'inkhornlaw09.DecompNil': WHATEVER THE INPUT: true; the input reads as it did. -/
def decompNilSpec : ChangeSpec := { name := "decompNil", fn := fun _ => fun
  | [d1, d2] => { results := [.lit (.bool true)], args := [d1, d2] }
  | _ => none }
def decompNilRow : OpenClaim := { program := "ytajkjaciooijjaagreatdoor", sum := "51339f7f79a49aeaff64bbc08eeaebf9f460e1d8ec282466a75e0abe71613dd4", func := "inkhorn/inkhornlaw09.DecompNil", spec := "decompNil", inPlace := ["internal/bytealg.CountString", "internal/bytealg.IndexByteString", "internal/bytealg.IndexString"], unfollowed := true, recurses := true, named := ["unicode/utf8.first", "unicode/utf8.acceptRanges", "internal/bytealg.MaxLen", "inkhorn/hangul.kinds"], plainKeys := false, apart := false, laid := [("inkhorn/hangul.kinds", laid_inkhorn_hangul_kinds), ("unicode/utf8.acceptRanges", laid_unicode_utf8_acceptRanges), ("unicode/utf8.first", laid_unicode_utf8_first)] }
def DecompNilSaid : Prop := decompNilRow.holds Tryz.pinned (OpenSpec.ofChange decompNilSpec)

/-- ITS FALSE NEIGHBOUR: 'it returns false'. Refute it at one input. -/
def decompNilWrong : ChangeSpec := { name := "decompNil", fn := fun _ => fun
  | [d1, d2] => { results := [.lit (.bool false)], args := [d1, d2] }
  | _ => none }
def DecompNilWrongFalsely : Prop := decompNilRow.holds Tryz.pinned (OpenSpec.ofChange decompNilWrong)

/- THE SECOND FORM. 'bulk': how many values and letters a reading holds, each counted each time it is reached (what is shared counts as often as it is met; a slice's spare places count too). A statement '..UptoSaid' is the law's where the arguments, and the package variables that the reading takes, are together of bulk at most 1048576: NARROWER than '..Said'. Prove '..Said' where nothing that the law and all that it calls make is longer than what came in: it says more and counts as full. Else prove '..UptoSaid'. A law counts once. -/
mutual
def uptoBulk {H : Type} : DataW H → Nat
  | .lit (.string bytes) => bytes.length + 1
  | .lit _ => 1
  | .nil => 1
  | .ptr d => uptoBulk d + 1
  | .slice elems spare => uptoBulkAll elems + uptoBulkAll spare + 1
  | .agg parts => uptoBulkAll parts + 1
  | .iface _ d => uptoBulk d + 1
  | .map entries => uptoBulkEntries entries + 1
  | .held _ => 1
def uptoBulkAll {H : Type} : List (DataW H) → Nat
  | [] => 0
  | d :: r => uptoBulk d + uptoBulkAll r
def uptoBulkEntries {H : Type} : List (Lit × DataW H) → Nat
  | [] => 0
  | x :: r => uptoBulkEntry x + uptoBulkEntries r
def uptoBulkEntry {H : Type} : Lit × DataW H → Nat
  | (.string bytes, d) => bytes.length + uptoBulk d + 1
  | (_, d) => uptoBulk d + 1
 end
def uptoSmall : (H : Type) → List (DataW H) → Bool := fun _ ds => decide (uptoBulkAll ds ≤ 1048576)
def OpenSpec.upto (s : _root_.Go.ChangeSpec) : _root_.Go.OpenSpec := { _root_.Go.OpenSpec.ofChange s with cond := some uptoSmall }

/-- 'inkhornlaw09.DecompOne', WHERE WHAT IT READS IS OF BULK AT MOST 1048576: true; the input reads as it did. -/
def decompOneUptoRow : OpenClaim := { program := "ytajkjaciooijjaagreatdoor", sum := "51339f7f79a49aeaff64bbc08eeaebf9f460e1d8ec282466a75e0abe71613dd4", func := "inkhorn/inkhornlaw09.DecompOne", spec := "decompOne", inPlace := ["internal/bytealg.CountString", "internal/bytealg.IndexByteString", "internal/bytealg.IndexString"], unfollowed := true, recurses := true, named := ["unicode/utf8.first", "unicode/utf8.acceptRanges", "internal/bytealg.MaxLen", "inkhorn/hangul.kinds"], plainKeys := false, apart := false, laid := [("inkhorn/hangul.kinds", laid_inkhorn_hangul_kinds), ("unicode/utf8.acceptRanges", laid_unicode_utf8_acceptRanges), ("unicode/utf8.first", laid_unicode_utf8_first)], narrowed := true }
def DecompOneUptoSaid : Prop := decompOneUptoRow.holds Tryz.pinned (OpenSpec.upto decompOneSpec)

/-- 'inkhornlaw09.DecompJoins', WHERE WHAT IT READS IS OF BULK AT MOST 1048576: true; the input reads as it did. -/
def decompJoinsUptoRow : OpenClaim := { program := "ytajkjaciooijjaagreatdoor", sum := "51339f7f79a49aeaff64bbc08eeaebf9f460e1d8ec282466a75e0abe71613dd4", func := "inkhorn/inkhornlaw09.DecompJoins", spec := "decompJoins", inPlace := ["internal/bytealg.CountString", "internal/bytealg.IndexByteString", "internal/bytealg.IndexString"], unfollowed := true, recurses := true, named := ["unicode/utf8.first", "unicode/utf8.acceptRanges", "internal/bytealg.MaxLen", "inkhorn/hangul.kinds"], plainKeys := false, apart := false, laid := [("inkhorn/hangul.kinds", laid_inkhorn_hangul_kinds), ("unicode/utf8.acceptRanges", laid_unicode_utf8_acceptRanges), ("unicode/utf8.first", laid_unicode_utf8_first)], narrowed := true }
def DecompJoinsUptoSaid : Prop := decompJoinsUptoRow.holds Tryz.pinned (OpenSpec.upto decompJoinsSpec)

/-- 'inkhornlaw09.DecompFull', WHERE WHAT IT READS IS OF BULK AT MOST 1048576: true; the input reads as it did. -/
def decompFullUptoRow : OpenClaim := { program := "ytajkjaciooijjaagreatdoor", sum := "51339f7f79a49aeaff64bbc08eeaebf9f460e1d8ec282466a75e0abe71613dd4", func := "inkhorn/inkhornlaw09.DecompFull", spec := "decompFull", inPlace := ["internal/bytealg.CountString", "internal/bytealg.IndexByteString", "internal/bytealg.IndexString"], unfollowed := true, recurses := true, named := ["unicode/utf8.first", "unicode/utf8.acceptRanges", "internal/bytealg.MaxLen", "inkhorn/hangul.kinds"], plainKeys := false, apart := false, laid := [("inkhorn/hangul.kinds", laid_inkhorn_hangul_kinds), ("unicode/utf8.acceptRanges", laid_unicode_utf8_acceptRanges), ("unicode/utf8.first", laid_unicode_utf8_first)], narrowed := true }
def DecompFullUptoSaid : Prop := decompFullUptoRow.holds Tryz.pinned (OpenSpec.upto decompFullSpec)

/-- 'inkhornlaw09.DecompRuns', WHERE WHAT IT READS IS OF BULK AT MOST 1048576: true; the input reads as it did. -/
def decompRunsUptoRow : OpenClaim := { program := "ytajkjaciooijjaagreatdoor", sum := "51339f7f79a49aeaff64bbc08eeaebf9f460e1d8ec282466a75e0abe71613dd4", func := "inkhorn/inkhornlaw09.DecompRuns", spec := "decompRuns", inPlace := ["internal/bytealg.CountString", "internal/bytealg.IndexByteString", "internal/bytealg.IndexString"], unfollowed := true, recurses := true, named := ["unicode/utf8.first", "unicode/utf8.acceptRanges", "internal/bytealg.MaxLen", "inkhorn/hangul.kinds"], plainKeys := false, apart := false, laid := [("inkhorn/hangul.kinds", laid_inkhorn_hangul_kinds), ("unicode/utf8.acceptRanges", laid_unicode_utf8_acceptRanges), ("unicode/utf8.first", laid_unicode_utf8_first)], narrowed := true }
def DecompRunsUptoSaid : Prop := decompRunsUptoRow.holds Tryz.pinned (OpenSpec.upto decompRunsSpec)

/-- 'inkhornlaw09.DecompAgain', WHERE WHAT IT READS IS OF BULK AT MOST 1048576: true; the input reads as it did. -/
def decompAgainUptoRow : OpenClaim := { program := "ytajkjaciooijjaagreatdoor", sum := "51339f7f79a49aeaff64bbc08eeaebf9f460e1d8ec282466a75e0abe71613dd4", func := "inkhorn/inkhornlaw09.DecompAgain", spec := "decompAgain", inPlace := ["internal/bytealg.CountString", "internal/bytealg.IndexByteString", "internal/bytealg.IndexString"], unfollowed := true, recurses := true, named := ["unicode/utf8.first", "unicode/utf8.acceptRanges", "internal/bytealg.MaxLen", "inkhorn/hangul.kinds"], plainKeys := false, apart := false, laid := [("inkhorn/hangul.kinds", laid_inkhorn_hangul_kinds), ("unicode/utf8.acceptRanges", laid_unicode_utf8_acceptRanges), ("unicode/utf8.first", laid_unicode_utf8_first)], narrowed := true }
def DecompAgainUptoSaid : Prop := decompAgainUptoRow.holds Tryz.pinned (OpenSpec.upto decompAgainSpec)

/-- 'inkhornlaw09.DecompOrder', WHERE WHAT IT READS IS OF BULK AT MOST 1048576: true; the input reads as it did. -/
def decompOrderUptoRow : OpenClaim := { program := "ytajkjaciooijjaagreatdoor", sum := "51339f7f79a49aeaff64bbc08eeaebf9f460e1d8ec282466a75e0abe71613dd4", func := "inkhorn/inkhornlaw09.DecompOrder", spec := "decompOrder", inPlace := ["internal/bytealg.CountString", "internal/bytealg.IndexByteString", "internal/bytealg.IndexString"], unfollowed := true, recurses := true, named := ["unicode/utf8.first", "unicode/utf8.acceptRanges", "internal/bytealg.MaxLen", "inkhorn/hangul.kinds"], plainKeys := false, apart := false, laid := [("inkhorn/hangul.kinds", laid_inkhorn_hangul_kinds), ("unicode/utf8.acceptRanges", laid_unicode_utf8_acceptRanges), ("unicode/utf8.first", laid_unicode_utf8_first)], narrowed := true }
def DecompOrderUptoSaid : Prop := decompOrderUptoRow.holds Tryz.pinned (OpenSpec.upto decompOrderSpec)

/-- 'inkhornlaw09.DecompNil', WHERE WHAT IT READS IS OF BULK AT MOST 1048576: true; the input reads as it did. -/
def decompNilUptoRow : OpenClaim := { program := "ytajkjaciooijjaagreatdoor", sum := "51339f7f79a49aeaff64bbc08eeaebf9f460e1d8ec282466a75e0abe71613dd4", func := "inkhorn/inkhornlaw09.DecompNil", spec := "decompNil", inPlace := ["internal/bytealg.CountString", "internal/bytealg.IndexByteString", "internal/bytealg.IndexString"], unfollowed := true, recurses := true, named := ["unicode/utf8.first", "unicode/utf8.acceptRanges", "internal/bytealg.MaxLen", "inkhorn/hangul.kinds"], plainKeys := false, apart := false, laid := [("inkhorn/hangul.kinds", laid_inkhorn_hangul_kinds), ("unicode/utf8.acceptRanges", laid_unicode_utf8_acceptRanges), ("unicode/utf8.first", laid_unicode_utf8_first)], narrowed := true }
def DecompNilUptoSaid : Prop := decompNilUptoRow.holds Tryz.pinned (OpenSpec.upto decompNilSpec)

end Rows
end Go.Proofs.YtajkjaciooijjaaGreatDoor
