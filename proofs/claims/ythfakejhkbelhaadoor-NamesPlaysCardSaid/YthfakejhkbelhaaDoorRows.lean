/-
  NARROWER THAN 'FOR EVERY INPUT', by the rows' own cells (each row's printed sentence says how): NamesPlain: laid · NamesKeeps: laid · NamesNil: laid · NamesPlays: laid · NamesAdds: laid.
  DERIVED. THE GIVEN ROWS OF THIS SEAT. 5 by the template 'for every input the law returns true; each argument reads behind the call as it read before'; 0 by the template 'total and deterministic' (their statements: YthfakejhkbelhaaDoorTotals.lean).
  GIVEN WITH THE SEED: the statements are not yours to turn. If you find one false, say at which input.
  Laid BY PROGRAM, IN A SANDBOX (cutbox-rows.mjs): the forced cells as the released guide's own fill.sh prints them over the translation d23bf96f314ba535… (all of the seat's roots in one cut). By AI agents, Wed Nov 11 2026. No macro, syntax, notation, axiom, sorry.
-/
import Derived.Test.YthfakejhkbelhaaDoorChecked
import GoSem.PinnedTables
import GoSem.Claim
import GoSem.ClaimJoined
import GoSem.ClaimMapViews
import Derived.JoinedTies
import Derived.KernelRfl
namespace Go.Proofs.YthfakejhkbelhaaDoor
/- THE CELL 'sum', in the pinned program and in every row, IS THE sha256 OF THE DUMP (.gsa) THAT YthfakejhkbelhaaDoorProg.lean LOADS. Nothing in Lean hashes anything: it is a label: what it is worth is what the hold of that sum in a sandbox is worth. -/
noncomputable def Tryd.pinned : Pinned := { name := "ythfakejhkbelhaadoor", sum := "d23bf96f314ba53563b4af5abb767e7e14b392b40e17330783d5aeb5c3eb8352", checked := Tryd.checked }
namespace Rows
def none {H : Type} : Left H := { results := [], args := [] }

/- WHAT THE LISTED PACKAGE-LEVEL VARIABLES READ AS WHEN THE CALL BEGINS. Each datum BY PROGRAM (the guide's laid-datum.mjs) off the statement by which the dump's own 'gosem.cut.vars' lays the variable. In a bare row this is a premise. The card (YthfakejhkbelhaaDoorCards.lean) ties it to the program's text. -/
def laid_unicode_utf8_acceptRanges {H : Type} : DataW H := .agg [.agg [.lit (.int .u8 128), .lit (.int .u8 191)], .agg [.lit (.int .u8 160), .lit (.int .u8 191)], .agg [.lit (.int .u8 128), .lit (.int .u8 159)], .agg [.lit (.int .u8 144), .lit (.int .u8 191)], .agg [.lit (.int .u8 128), .lit (.int .u8 143)], .agg [.lit (.int .u8 0), .lit (.int .u8 0)], .agg [.lit (.int .u8 0), .lit (.int .u8 0)], .agg [.lit (.int .u8 0), .lit (.int .u8 0)], .agg [.lit (.int .u8 0), .lit (.int .u8 0)], .agg [.lit (.int .u8 0), .lit (.int .u8 0)], .agg [.lit (.int .u8 0), .lit (.int .u8 0)], .agg [.lit (.int .u8 0), .lit (.int .u8 0)], .agg [.lit (.int .u8 0), .lit (.int .u8 0)], .agg [.lit (.int .u8 0), .lit (.int .u8 0)], .agg [.lit (.int .u8 0), .lit (.int .u8 0)], .agg [.lit (.int .u8 0), .lit (.int .u8 0)]]
/-- One of Go's own tables, pinned by name: the form's constant. -/
def laid_unicode_CaseRanges : DataW Unit := Go.Pinned.caseRanges
/-- One of Go's own tables, pinned by name: the form's constant. -/
def laid_unicode_utf8_first : DataW Unit := Go.Pinned.utf8First

/-- 'inkhornlaw21.NamesPlain': WHATEVER THE INPUT: true; the input reads as it did. -/
def namesPlainSpec : ChangeSpec := { name := "namesPlain", fn := fun _ => fun
  | [d1, d2] => { results := [.lit (.bool true)], args := [d1, d2] }
  | _ => none }
def namesPlainRow : OpenClaim := { program := "ythfakejhkbelhaadoor", sum := "d23bf96f314ba53563b4af5abb767e7e14b392b40e17330783d5aeb5c3eb8352", func := "inkhorn/inkhornlaw21.NamesPlain", spec := "namesPlain", inPlace := ["internal/abi.NoEscape", "internal/bytealg.MakeNoZero", "internal/bytealg.IndexByteString"], unfollowed := true, recurses := true, named := ["unicode/utf8.first", "unicode/utf8.acceptRanges", "unicode.CaseRanges"], apart := false, laid := [("unicode/utf8.acceptRanges", laid_unicode_utf8_acceptRanges), ("unicode.CaseRanges", laid_unicode_CaseRanges), ("unicode/utf8.first", laid_unicode_utf8_first)] }
def NamesPlainSaid : Prop := namesPlainRow.holds Tryd.pinned (OpenSpec.ofChange namesPlainSpec)

/-- ITS FALSE NEIGHBOUR: 'it returns false'. Refute it at one input. -/
def namesPlainWrong : ChangeSpec := { name := "namesPlain", fn := fun _ => fun
  | [d1, d2] => { results := [.lit (.bool false)], args := [d1, d2] }
  | _ => none }
def NamesPlainWrongFalsely : Prop := namesPlainRow.holds Tryd.pinned (OpenSpec.ofChange namesPlainWrong)

/-- 'inkhornlaw21.NamesKeeps': WHATEVER THE INPUT: true; the input reads as it did. -/
def namesKeepsSpec : ChangeSpec := { name := "namesKeeps", fn := fun _ => fun
  | [d1, d2] => { results := [.lit (.bool true)], args := [d1, d2] }
  | _ => none }
def namesKeepsRow : OpenClaim := { program := "ythfakejhkbelhaadoor", sum := "d23bf96f314ba53563b4af5abb767e7e14b392b40e17330783d5aeb5c3eb8352", func := "inkhorn/inkhornlaw21.NamesKeeps", spec := "namesKeeps", inPlace := ["internal/abi.NoEscape", "internal/bytealg.MakeNoZero", "internal/bytealg.IndexByteString"], unfollowed := true, recurses := true, named := ["unicode/utf8.first", "unicode/utf8.acceptRanges", "unicode.CaseRanges"], apart := false, laid := [("unicode/utf8.acceptRanges", laid_unicode_utf8_acceptRanges), ("unicode.CaseRanges", laid_unicode_CaseRanges), ("unicode/utf8.first", laid_unicode_utf8_first)] }
def NamesKeepsSaid : Prop := namesKeepsRow.holds Tryd.pinned (OpenSpec.ofChange namesKeepsSpec)

/-- ITS FALSE NEIGHBOUR: 'it returns false'. Refute it at one input. -/
def namesKeepsWrong : ChangeSpec := { name := "namesKeeps", fn := fun _ => fun
  | [d1, d2] => { results := [.lit (.bool false)], args := [d1, d2] }
  | _ => none }
def NamesKeepsWrongFalsely : Prop := namesKeepsRow.holds Tryd.pinned (OpenSpec.ofChange namesKeepsWrong)

/-- 'inkhornlaw21.NamesNil': WHATEVER THE INPUT: true; the input reads as it did. -/
def namesNilSpec : ChangeSpec := { name := "namesNil", fn := fun _ => fun
  | [d] => { results := [.lit (.bool true)], args := [d] }
  | _ => none }
def namesNilRow : OpenClaim := { program := "ythfakejhkbelhaadoor", sum := "d23bf96f314ba53563b4af5abb767e7e14b392b40e17330783d5aeb5c3eb8352", func := "inkhorn/inkhornlaw21.NamesNil", spec := "namesNil", inPlace := ["internal/abi.NoEscape", "internal/bytealg.MakeNoZero", "internal/bytealg.IndexByteString"], unfollowed := true, recurses := true, named := ["unicode/utf8.first", "unicode/utf8.acceptRanges", "unicode.CaseRanges"], apart := false, laid := [("unicode/utf8.acceptRanges", laid_unicode_utf8_acceptRanges), ("unicode.CaseRanges", laid_unicode_CaseRanges), ("unicode/utf8.first", laid_unicode_utf8_first)] }
def NamesNilSaid : Prop := namesNilRow.holds Tryd.pinned (OpenSpec.ofChange namesNilSpec)

/-- ITS FALSE NEIGHBOUR: 'it returns false'. Refute it at one input. -/
def namesNilWrong : ChangeSpec := { name := "namesNil", fn := fun _ => fun
  | [d] => { results := [.lit (.bool false)], args := [d] }
  | _ => none }
def NamesNilWrongFalsely : Prop := namesNilRow.holds Tryd.pinned (OpenSpec.ofChange namesNilWrong)

/-- 'inkhornlaw21.NamesPlays': WHATEVER THE INPUT: true; the input reads as it did. -/
def namesPlaysSpec : ChangeSpec := { name := "namesPlays", fn := fun _ => fun
  | [d1, d2] => { results := [.lit (.bool true)], args := [d1, d2] }
  | _ => none }
def namesPlaysRow : OpenClaim := { program := "ythfakejhkbelhaadoor", sum := "d23bf96f314ba53563b4af5abb767e7e14b392b40e17330783d5aeb5c3eb8352", func := "inkhorn/inkhornlaw21.NamesPlays", spec := "namesPlays", inPlace := ["internal/abi.NoEscape", "internal/bytealg.MakeNoZero", "internal/bytealg.IndexByteString"], unfollowed := true, recurses := true, named := ["unicode/utf8.first", "unicode/utf8.acceptRanges", "unicode.CaseRanges"], apart := false, laid := [("unicode/utf8.acceptRanges", laid_unicode_utf8_acceptRanges), ("unicode.CaseRanges", laid_unicode_CaseRanges), ("unicode/utf8.first", laid_unicode_utf8_first)] }
def NamesPlaysSaid : Prop := namesPlaysRow.holds Tryd.pinned (OpenSpec.ofChange namesPlaysSpec)

/-- ITS FALSE NEIGHBOUR: 'it returns false'. Refute it at one input. -/
def namesPlaysWrong : ChangeSpec := { name := "namesPlays", fn := fun _ => fun
  | [d1, d2] => { results := [.lit (.bool false)], args := [d1, d2] }
  | _ => none }
def NamesPlaysWrongFalsely : Prop := namesPlaysRow.holds Tryd.pinned (OpenSpec.ofChange namesPlaysWrong)

/-- 'inkhornlaw21.NamesAdds': WHATEVER THE INPUT: true; the input reads as it did. -/
def namesAddsSpec : ChangeSpec := { name := "namesAdds", fn := fun _ => fun
  | [d1, d2] => { results := [.lit (.bool true)], args := [d1, d2] }
  | _ => none }
def namesAddsRow : OpenClaim := { program := "ythfakejhkbelhaadoor", sum := "d23bf96f314ba53563b4af5abb767e7e14b392b40e17330783d5aeb5c3eb8352", func := "inkhorn/inkhornlaw21.NamesAdds", spec := "namesAdds", inPlace := ["internal/abi.NoEscape", "internal/bytealg.MakeNoZero", "internal/bytealg.IndexByteString"], unfollowed := true, recurses := true, named := ["unicode/utf8.first", "unicode/utf8.acceptRanges", "unicode.CaseRanges"], apart := false, laid := [("unicode/utf8.acceptRanges", laid_unicode_utf8_acceptRanges), ("unicode.CaseRanges", laid_unicode_CaseRanges), ("unicode/utf8.first", laid_unicode_utf8_first)] }
def NamesAddsSaid : Prop := namesAddsRow.holds Tryd.pinned (OpenSpec.ofChange namesAddsSpec)

/-- ITS FALSE NEIGHBOUR: 'it returns false'. Refute it at one input. -/
def namesAddsWrong : ChangeSpec := { name := "namesAdds", fn := fun _ => fun
  | [d1, d2] => { results := [.lit (.bool false)], args := [d1, d2] }
  | _ => none }
def NamesAddsWrongFalsely : Prop := namesAddsRow.holds Tryd.pinned (OpenSpec.ofChange namesAddsWrong)

/- THE SECOND FORM. 'bulk': how many values and letters a reading holds, each counted each time it is reached (what is shared counts as often as it is met; a slice's spare places count too). A statement '..UptoSaid' is the law's where the arguments, and the package variables that the reading takes, are together of bulk at most 1048576: NARROWER than '..Said'. Prove '..Said' where nothing that the law and all that it calls make is longer than what came in: it says more and counts as full. Else prove '..UptoSaid'. A law counts once. -/
mutual
def uptoBulk {H : Type} : DataW H → Nat
  | .lit (.string bytes) => bytes.length + 1
  | .lit _ => 1
  | .nil => 1
  | .ptr d => uptoBulk d + 1
  | .slice elems spare => uptoBulkAll elems + uptoBulkAll spare + 1
  | .agg parts => uptoBulkAll parts + 1
  | .iface _ d => uptoBulk d + 1
  | .map entries => uptoBulkEntries entries + 1
  | .held _ => 1
def uptoBulkAll {H : Type} : List (DataW H) → Nat
  | [] => 0
  | d :: r => uptoBulk d + uptoBulkAll r
def uptoBulkEntries {H : Type} : List (Lit × DataW H) → Nat
  | [] => 0
  | x :: r => uptoBulkEntry x + uptoBulkEntries r
def uptoBulkEntry {H : Type} : Lit × DataW H → Nat
  | (.string bytes, d) => bytes.length + uptoBulk d + 1
  | (_, d) => uptoBulk d + 1
 end
def uptoSmall : (H : Type) → List (DataW H) → Bool := fun _ ds => decide (uptoBulkAll ds ≤ 1048576)
def OpenSpec.upto (s : _root_.Go.ChangeSpec) : _root_.Go.OpenSpec := { _root_.Go.OpenSpec.ofChange s with cond := some uptoSmall }

/-- 'inkhornlaw21.NamesPlain', WHERE WHAT IT READS IS OF BULK AT MOST 1048576: true; the input reads as it did. -/
def namesPlainUptoRow : OpenClaim := { program := "ythfakejhkbelhaadoor", sum := "d23bf96f314ba53563b4af5abb767e7e14b392b40e17330783d5aeb5c3eb8352", func := "inkhorn/inkhornlaw21.NamesPlain", spec := "namesPlain", inPlace := ["internal/abi.NoEscape", "internal/bytealg.MakeNoZero", "internal/bytealg.IndexByteString"], unfollowed := true, recurses := true, named := ["unicode/utf8.first", "unicode/utf8.acceptRanges", "unicode.CaseRanges"], apart := false, laid := [("unicode/utf8.acceptRanges", laid_unicode_utf8_acceptRanges), ("unicode.CaseRanges", laid_unicode_CaseRanges), ("unicode/utf8.first", laid_unicode_utf8_first)], narrowed := true }
def NamesPlainUptoSaid : Prop := namesPlainUptoRow.holds Tryd.pinned (OpenSpec.upto namesPlainSpec)

/-- 'inkhornlaw21.NamesKeeps', WHERE WHAT IT READS IS OF BULK AT MOST 1048576: true; the input reads as it did. -/
def namesKeepsUptoRow : OpenClaim := { program := "ythfakejhkbelhaadoor", sum := "d23bf96f314ba53563b4af5abb767e7e14b392b40e17330783d5aeb5c3eb8352", func := "inkhorn/inkhornlaw21.NamesKeeps", spec := "namesKeeps", inPlace := ["internal/abi.NoEscape", "internal/bytealg.MakeNoZero", "internal/bytealg.IndexByteString"], unfollowed := true, recurses := true, named := ["unicode/utf8.first", "unicode/utf8.acceptRanges", "unicode.CaseRanges"], apart := false, laid := [("unicode/utf8.acceptRanges", laid_unicode_utf8_acceptRanges), ("unicode.CaseRanges", laid_unicode_CaseRanges), ("unicode/utf8.first", laid_unicode_utf8_first)], narrowed := true }
def NamesKeepsUptoSaid : Prop := namesKeepsUptoRow.holds Tryd.pinned (OpenSpec.upto namesKeepsSpec)

/-- 'inkhornlaw21.NamesNil', WHERE WHAT IT READS IS OF BULK AT MOST 1048576: true; the input reads as it did. -/
def namesNilUptoRow : OpenClaim := { program := "ythfakejhkbelhaadoor", sum := "d23bf96f314ba53563b4af5abb767e7e14b392b40e17330783d5aeb5c3eb8352", func := "inkhorn/inkhornlaw21.NamesNil", spec := "namesNil", inPlace := ["internal/abi.NoEscape", "internal/bytealg.MakeNoZero", "internal/bytealg.IndexByteString"], unfollowed := true, recurses := true, named := ["unicode/utf8.first", "unicode/utf8.acceptRanges", "unicode.CaseRanges"], apart := false, laid := [("unicode/utf8.acceptRanges", laid_unicode_utf8_acceptRanges), ("unicode.CaseRanges", laid_unicode_CaseRanges), ("unicode/utf8.first", laid_unicode_utf8_first)], narrowed := true }
def NamesNilUptoSaid : Prop := namesNilUptoRow.holds Tryd.pinned (OpenSpec.upto namesNilSpec)

/-- 'inkhornlaw21.NamesPlays', WHERE WHAT IT READS IS OF BULK AT MOST 1048576: true; the input reads as it did. -/
def namesPlaysUptoRow : OpenClaim := { program := "ythfakejhkbelhaadoor", sum := "d23bf96f314ba53563b4af5abb767e7e14b392b40e17330783d5aeb5c3eb8352", func := "inkhorn/inkhornlaw21.NamesPlays", spec := "namesPlays", inPlace := ["internal/abi.NoEscape", "internal/bytealg.MakeNoZero", "internal/bytealg.IndexByteString"], unfollowed := true, recurses := true, named := ["unicode/utf8.first", "unicode/utf8.acceptRanges", "unicode.CaseRanges"], apart := false, laid := [("unicode/utf8.acceptRanges", laid_unicode_utf8_acceptRanges), ("unicode.CaseRanges", laid_unicode_CaseRanges), ("unicode/utf8.first", laid_unicode_utf8_first)], narrowed := true }
def NamesPlaysUptoSaid : Prop := namesPlaysUptoRow.holds Tryd.pinned (OpenSpec.upto namesPlaysSpec)

/-- 'inkhornlaw21.NamesAdds', WHERE WHAT IT READS IS OF BULK AT MOST 1048576: true; the input reads as it did. -/
def namesAddsUptoRow : OpenClaim := { program := "ythfakejhkbelhaadoor", sum := "d23bf96f314ba53563b4af5abb767e7e14b392b40e17330783d5aeb5c3eb8352", func := "inkhorn/inkhornlaw21.NamesAdds", spec := "namesAdds", inPlace := ["internal/abi.NoEscape", "internal/bytealg.MakeNoZero", "internal/bytealg.IndexByteString"], unfollowed := true, recurses := true, named := ["unicode/utf8.first", "unicode/utf8.acceptRanges", "unicode.CaseRanges"], apart := false, laid := [("unicode/utf8.acceptRanges", laid_unicode_utf8_acceptRanges), ("unicode.CaseRanges", laid_unicode_CaseRanges), ("unicode/utf8.first", laid_unicode_utf8_first)], narrowed := true }
def NamesAddsUptoSaid : Prop := namesAddsUptoRow.holds Tryd.pinned (OpenSpec.upto namesAddsSpec)

end Rows
end Go.Proofs.YthfakejhkbelhaaDoor
