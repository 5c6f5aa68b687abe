/-
  NARROWER THAN 'FOR EVERY INPUT', by the rows' own cells (each row's printed sentence says how): HangulSplits: laid · HangulJoins: laid · HangulBack: laid · HangulFull: laid · HangulTexts: laid · HangulRounds: laid.
  DERIVED. THE GIVEN ROWS OF THIS SEAT. 6 by the template 'for every input the law returns true; each argument reads behind the call as it read before'; 0 by the template 'total and deterministic' (their statements: YtcfnncapdkjlnaaDoorTotals.lean).
  GIVEN WITH THE SEED: the statements are not yours to turn. If you find one false, say at which input.
  Laid BY PROGRAM, IN A SANDBOX (cutbox-rows.mjs): the forced cells as the released guide's own fill.sh prints them over the translation 1cc7c649cca42bff… (all of the seat's roots in one cut). By AI agents, Wed Nov 11 2026. No macro, syntax, notation, axiom, sorry.
-/
import Derived.Test.YtcfnncapdkjlnaaDoorChecked
import GoSem.Claim
import GoSem.ClaimJoined
import GoSem.ClaimMapViews
import Derived.JoinedTies
import Derived.KernelRfl
namespace Go.Proofs.YtcfnncapdkjlnaaDoor
/- THE CELL 'sum', in the pinned program and in every row, IS THE sha256 OF THE DUMP (.gsa) THAT YtcfnncapdkjlnaaDoorProg.lean LOADS. Nothing in Lean hashes anything: it is a label: what it is worth is what the hold of that sum in a sandbox is worth. -/
noncomputable def Tryd.pinned : Pinned := { name := "ytcfnncapdkjlnaadoor", sum := "1cc7c649cca42bffb784aa051b7de2cfe6c08e4d6c92e7332077362616522410", checked := Tryd.checked }
namespace Rows
def none {H : Type} : Left H := { results := [], args := [] }

/- WHAT THE LISTED PACKAGE-LEVEL VARIABLES READ AS WHEN THE CALL BEGINS. Each datum BY PROGRAM (the guide's laid-datum.mjs) off the statement by which the dump's own 'gosem.cut.vars' lays the variable. In a bare row this is a premise. The card (YtcfnncapdkjlnaaDoorCards.lean) ties it to the program's text. -/
def laid_inkhorn_hangul_kinds {H : Type} : DataW H := .agg [.agg [.lit (.int .i32 4352), .lit (.int .i32 19)], .agg [.lit (.int .i32 4449), .lit (.int .i32 21)], .agg [.lit (.int .i32 4519), .lit (.int .i32 28)]]

/-- 'inkhornlaw07.HangulSplits': WHATEVER THE INPUT: true; the input reads as it did. -/
def hangulSplitsSpec : ChangeSpec := { name := "hangulSplits", fn := fun _ => fun
  | [d] => { results := [.lit (.bool true)], args := [d] }
  | _ => none }
def hangulSplitsRow : OpenClaim := { program := "ytcfnncapdkjlnaadoor", sum := "1cc7c649cca42bffb784aa051b7de2cfe6c08e4d6c92e7332077362616522410", func := "inkhorn/inkhornlaw07.HangulSplits", spec := "hangulSplits", named := ["inkhorn/hangul.kinds"], apart := false, laid := [("inkhorn/hangul.kinds", laid_inkhorn_hangul_kinds)] }
def HangulSplitsSaid : Prop := hangulSplitsRow.holds Tryd.pinned (OpenSpec.ofChange hangulSplitsSpec)

/-- ITS FALSE NEIGHBOUR: 'it returns false'. Refute it at one input. -/
def hangulSplitsWrong : ChangeSpec := { name := "hangulSplits", fn := fun _ => fun
  | [d] => { results := [.lit (.bool false)], args := [d] }
  | _ => none }
def HangulSplitsWrongFalsely : Prop := hangulSplitsRow.holds Tryd.pinned (OpenSpec.ofChange hangulSplitsWrong)

/-- 'inkhornlaw07.HangulJoins': WHATEVER THE INPUT: true; the input reads as it did. -/
def hangulJoinsSpec : ChangeSpec := { name := "hangulJoins", fn := fun _ => fun
  | [d1, d2] => { results := [.lit (.bool true)], args := [d1, d2] }
  | _ => none }
def hangulJoinsRow : OpenClaim := { program := "ytcfnncapdkjlnaadoor", sum := "1cc7c649cca42bffb784aa051b7de2cfe6c08e4d6c92e7332077362616522410", func := "inkhorn/inkhornlaw07.HangulJoins", spec := "hangulJoins", named := ["inkhorn/hangul.kinds"], apart := false, laid := [("inkhorn/hangul.kinds", laid_inkhorn_hangul_kinds)] }
def HangulJoinsSaid : Prop := hangulJoinsRow.holds Tryd.pinned (OpenSpec.ofChange hangulJoinsSpec)

/-- ITS FALSE NEIGHBOUR: 'it returns false'. Refute it at one input. -/
def hangulJoinsWrong : ChangeSpec := { name := "hangulJoins", fn := fun _ => fun
  | [d1, d2] => { results := [.lit (.bool false)], args := [d1, d2] }
  | _ => none }
def HangulJoinsWrongFalsely : Prop := hangulJoinsRow.holds Tryd.pinned (OpenSpec.ofChange hangulJoinsWrong)

/-- 'inkhornlaw07.HangulBack': WHATEVER THE INPUT: true; the input reads as it did. -/
def hangulBackSpec : ChangeSpec := { name := "hangulBack", fn := fun _ => fun
  | [d1, d2, d3] => { results := [.lit (.bool true)], args := [d1, d2, d3] }
  | _ => none }
def hangulBackRow : OpenClaim := { program := "ytcfnncapdkjlnaadoor", sum := "1cc7c649cca42bffb784aa051b7de2cfe6c08e4d6c92e7332077362616522410", func := "inkhorn/inkhornlaw07.HangulBack", spec := "hangulBack", named := ["inkhorn/hangul.kinds"], apart := false, laid := [("inkhorn/hangul.kinds", laid_inkhorn_hangul_kinds)] }
def HangulBackSaid : Prop := hangulBackRow.holds Tryd.pinned (OpenSpec.ofChange hangulBackSpec)

/-- ITS FALSE NEIGHBOUR: 'it returns false'. Refute it at one input. -/
def hangulBackWrong : ChangeSpec := { name := "hangulBack", fn := fun _ => fun
  | [d1, d2, d3] => { results := [.lit (.bool false)], args := [d1, d2, d3] }
  | _ => none }
def HangulBackWrongFalsely : Prop := hangulBackRow.holds Tryd.pinned (OpenSpec.ofChange hangulBackWrong)

/-- 'inkhornlaw07.HangulFull': WHATEVER THE INPUT: true; the input reads as it did. -/
def hangulFullSpec : ChangeSpec := { name := "hangulFull", fn := fun _ => fun
  | [d1, d2] => { results := [.lit (.bool true)], args := [d1, d2] }
  | _ => none }
def hangulFullRow : OpenClaim := { program := "ytcfnncapdkjlnaadoor", sum := "1cc7c649cca42bffb784aa051b7de2cfe6c08e4d6c92e7332077362616522410", func := "inkhorn/inkhornlaw07.HangulFull", spec := "hangulFull", named := ["inkhorn/hangul.kinds"], apart := false, laid := [("inkhorn/hangul.kinds", laid_inkhorn_hangul_kinds)] }
def HangulFullSaid : Prop := hangulFullRow.holds Tryd.pinned (OpenSpec.ofChange hangulFullSpec)

/-- ITS FALSE NEIGHBOUR: 'it returns false'. Refute it at one input. -/
def hangulFullWrong : ChangeSpec := { name := "hangulFull", fn := fun _ => fun
  | [d1, d2] => { results := [.lit (.bool false)], args := [d1, d2] }
  | _ => none }
def HangulFullWrongFalsely : Prop := hangulFullRow.holds Tryd.pinned (OpenSpec.ofChange hangulFullWrong)

/-- 'inkhornlaw07.HangulTexts': WHATEVER THE INPUT: true; the input reads as it did. -/
def hangulTextsSpec : ChangeSpec := { name := "hangulTexts", fn := fun _ => fun
  | [d] => { results := [.lit (.bool true)], args := [d] }
  | _ => none }
def hangulTextsRow : OpenClaim := { program := "ytcfnncapdkjlnaadoor", sum := "1cc7c649cca42bffb784aa051b7de2cfe6c08e4d6c92e7332077362616522410", func := "inkhorn/inkhornlaw07.HangulTexts", spec := "hangulTexts", named := ["inkhorn/hangul.kinds"], apart := false, laid := [("inkhorn/hangul.kinds", laid_inkhorn_hangul_kinds)] }
def HangulTextsSaid : Prop := hangulTextsRow.holds Tryd.pinned (OpenSpec.ofChange hangulTextsSpec)

/-- ITS FALSE NEIGHBOUR: 'it returns false'. Refute it at one input. -/
def hangulTextsWrong : ChangeSpec := { name := "hangulTexts", fn := fun _ => fun
  | [d] => { results := [.lit (.bool false)], args := [d] }
  | _ => none }
def HangulTextsWrongFalsely : Prop := hangulTextsRow.holds Tryd.pinned (OpenSpec.ofChange hangulTextsWrong)

/-- 'inkhornlaw07.HangulRounds': WHATEVER THE INPUT: true; the input reads as it did. -/
def hangulRoundsSpec : ChangeSpec := { name := "hangulRounds", fn := fun _ => fun
  | [d] => { results := [.lit (.bool true)], args := [d] }
  | _ => none }
def hangulRoundsRow : OpenClaim := { program := "ytcfnncapdkjlnaadoor", sum := "1cc7c649cca42bffb784aa051b7de2cfe6c08e4d6c92e7332077362616522410", func := "inkhorn/inkhornlaw07.HangulRounds", spec := "hangulRounds", named := ["inkhorn/hangul.kinds"], apart := false, laid := [("inkhorn/hangul.kinds", laid_inkhorn_hangul_kinds)] }
def HangulRoundsSaid : Prop := hangulRoundsRow.holds Tryd.pinned (OpenSpec.ofChange hangulRoundsSpec)

/-- ITS FALSE NEIGHBOUR: 'it returns false'. Refute it at one input. -/
def hangulRoundsWrong : ChangeSpec := { name := "hangulRounds", fn := fun _ => fun
  | [d] => { results := [.lit (.bool false)], args := [d] }
  | _ => none }
def HangulRoundsWrongFalsely : Prop := hangulRoundsRow.holds Tryd.pinned (OpenSpec.ofChange hangulRoundsWrong)

/- THE SECOND FORM. 'bulk': how many values and letters a reading holds, each counted each time it is reached (what is shared counts as often as it is met; a slice's spare places count too). A statement '..UptoSaid' is the law's where the arguments, and the package variables that the reading takes, are together of bulk at most 1048576: NARROWER than '..Said'. Prove '..Said' where nothing that the law and all that it calls make is longer than what came in: it says more and counts as full. Else prove '..UptoSaid'. A law counts once. -/
mutual
def uptoBulk {H : Type} : DataW H → Nat
  | .lit (.string bytes) => bytes.length + 1
  | .lit _ => 1
  | .nil => 1
  | .ptr d => uptoBulk d + 1
  | .slice elems spare => uptoBulkAll elems + uptoBulkAll spare + 1
  | .agg parts => uptoBulkAll parts + 1
  | .iface _ d => uptoBulk d + 1
  | .map entries => uptoBulkEntries entries + 1
  | .held _ => 1
def uptoBulkAll {H : Type} : List (DataW H) → Nat
  | [] => 0
  | d :: r => uptoBulk d + uptoBulkAll r
def uptoBulkEntries {H : Type} : List (Lit × DataW H) → Nat
  | [] => 0
  | x :: r => uptoBulkEntry x + uptoBulkEntries r
def uptoBulkEntry {H : Type} : Lit × DataW H → Nat
  | (.string bytes, d) => bytes.length + uptoBulk d + 1
  | (_, d) => uptoBulk d + 1
 end
def uptoSmall : (H : Type) → List (DataW H) → Bool := fun _ ds => decide (uptoBulkAll ds ≤ 1048576)
def OpenSpec.upto (s : _root_.Go.ChangeSpec) : _root_.Go.OpenSpec := { _root_.Go.OpenSpec.ofChange s with cond := some uptoSmall }

/-- 'inkhornlaw07.HangulSplits', WHERE WHAT IT READS IS OF BULK AT MOST 1048576: true; the input reads as it did. -/
def hangulSplitsUptoRow : OpenClaim := { program := "ytcfnncapdkjlnaadoor", sum := "1cc7c649cca42bffb784aa051b7de2cfe6c08e4d6c92e7332077362616522410", func := "inkhorn/inkhornlaw07.HangulSplits", spec := "hangulSplits", named := ["inkhorn/hangul.kinds"], apart := false, laid := [("inkhorn/hangul.kinds", laid_inkhorn_hangul_kinds)], narrowed := true }
def HangulSplitsUptoSaid : Prop := hangulSplitsUptoRow.holds Tryd.pinned (OpenSpec.upto hangulSplitsSpec)

/-- 'inkhornlaw07.HangulJoins', WHERE WHAT IT READS IS OF BULK AT MOST 1048576: true; the input reads as it did. -/
def hangulJoinsUptoRow : OpenClaim := { program := "ytcfnncapdkjlnaadoor", sum := "1cc7c649cca42bffb784aa051b7de2cfe6c08e4d6c92e7332077362616522410", func := "inkhorn/inkhornlaw07.HangulJoins", spec := "hangulJoins", named := ["inkhorn/hangul.kinds"], apart := false, laid := [("inkhorn/hangul.kinds", laid_inkhorn_hangul_kinds)], narrowed := true }
def HangulJoinsUptoSaid : Prop := hangulJoinsUptoRow.holds Tryd.pinned (OpenSpec.upto hangulJoinsSpec)

/-- 'inkhornlaw07.HangulBack', WHERE WHAT IT READS IS OF BULK AT MOST 1048576: true; the input reads as it did. -/
def hangulBackUptoRow : OpenClaim := { program := "ytcfnncapdkjlnaadoor", sum := "1cc7c649cca42bffb784aa051b7de2cfe6c08e4d6c92e7332077362616522410", func := "inkhorn/inkhornlaw07.HangulBack", spec := "hangulBack", named := ["inkhorn/hangul.kinds"], apart := false, laid := [("inkhorn/hangul.kinds", laid_inkhorn_hangul_kinds)], narrowed := true }
def HangulBackUptoSaid : Prop := hangulBackUptoRow.holds Tryd.pinned (OpenSpec.upto hangulBackSpec)

/-- 'inkhornlaw07.HangulFull', WHERE WHAT IT READS IS OF BULK AT MOST 1048576: true; the input reads as it did. -/
def hangulFullUptoRow : OpenClaim := { program := "ytcfnncapdkjlnaadoor", sum := "1cc7c649cca42bffb784aa051b7de2cfe6c08e4d6c92e7332077362616522410", func := "inkhorn/inkhornlaw07.HangulFull", spec := "hangulFull", named := ["inkhorn/hangul.kinds"], apart := false, laid := [("inkhorn/hangul.kinds", laid_inkhorn_hangul_kinds)], narrowed := true }
def HangulFullUptoSaid : Prop := hangulFullUptoRow.holds Tryd.pinned (OpenSpec.upto hangulFullSpec)

/-- 'inkhornlaw07.HangulTexts', WHERE WHAT IT READS IS OF BULK AT MOST 1048576: true; the input reads as it did. -/
def hangulTextsUptoRow : OpenClaim := { program := "ytcfnncapdkjlnaadoor", sum := "1cc7c649cca42bffb784aa051b7de2cfe6c08e4d6c92e7332077362616522410", func := "inkhorn/inkhornlaw07.HangulTexts", spec := "hangulTexts", named := ["inkhorn/hangul.kinds"], apart := false, laid := [("inkhorn/hangul.kinds", laid_inkhorn_hangul_kinds)], narrowed := true }
def HangulTextsUptoSaid : Prop := hangulTextsUptoRow.holds Tryd.pinned (OpenSpec.upto hangulTextsSpec)

/-- 'inkhornlaw07.HangulRounds', WHERE WHAT IT READS IS OF BULK AT MOST 1048576: true; the input reads as it did. -/
def hangulRoundsUptoRow : OpenClaim := { program := "ytcfnncapdkjlnaadoor", sum := "1cc7c649cca42bffb784aa051b7de2cfe6c08e4d6c92e7332077362616522410", func := "inkhorn/inkhornlaw07.HangulRounds", spec := "hangulRounds", named := ["inkhorn/hangul.kinds"], apart := false, laid := [("inkhorn/hangul.kinds", laid_inkhorn_hangul_kinds)], narrowed := true }
def HangulRoundsUptoSaid : Prop := hangulRoundsUptoRow.holds Tryd.pinned (OpenSpec.upto hangulRoundsSpec)

end Rows
end Go.Proofs.YtcfnncapdkjlnaaDoor
