/- An argument that is lines of characters and of exclusions, opened. -/
import Derived.Test.YtfdelmodmadoaaaGreatDoorCards
import Derived.Test.YtfdelmodmadoaaaGreatDoorTie
import Derived.Lib.SmallJoins
import Derived.Deep.AppendLies
import Derived.BigQuiet
import Derived.Handy
import Derived.Lib.Hide
import Derived.Deep.RegionHeld
set_option linter.unusedSimpArgs false
set_option linter.unusedVariables false
set_option maxRecDepth 20000
set_option maxHeartbeats 4000000
namespace Go.Proofs.YtfdelmodmadoaaaGreatDoor
section
open Go.ChangeShapes Go.WideShapes Go.ChangeAt Go.RowKit Go.Lib
theorem txt_c : Tryz.prog.cellsOf 23 = 2 := by kernel_rfl
theorem txt_cs : Tryz.prog.cellsOf 9 = 1 := by kernel_rfl
theorem open_text {H : Type} {enc : TypeId × Value -> H} {W : World} {base base' : Nat} {sp : Nat -> Bool} {held : Bool} {v : Value} {d : DataW H} {p : List MemPlace} (hv : Value.okWide Tryz.prog W .any base' 23 v)
  (h : DataW.Trod enc Tryz.prog W base sp held 23 v d p) : ∃ (s o : ByteArray), v = .agg #[.string s, .string o] := by
 obtain ⟨cs, rfl, _⟩ := okWide_struct Tryz.underlying23 hv;obtain ⟨fuel, hf⟩ := h;obtain ⟨y0, y1, n, _, hl, g0, g1⟩ := Go.ChangeShapes.trod_struct2 Tryz.underlying23 hf;rw [txt_c] at hl;obtain ⟨l⟩ := cs;have hcl : (Value.agg ⟨l⟩).cells.toList = l := (by simp [Value.cells]);rw [hcl] at hl g0 g1;match l, hl with
 | [a, b], _ =>
  have g0' : DataW.trod enc Tryz.prog W base sp held n 9 (([a, b].drop 0).take (Tryz.prog.cellsOf 9)) = some y0 := g0;have g1' : DataW.trod enc Tryz.prog W base sp held n 9 (([a, b].drop 1).take (Tryz.prog.cellsOf 9)) = some y1 := g1;rw [txt_cs] at g0' g1';obtain ⟨s, e0, _, _⟩ := DataW.trod_string Tryz.underlying9 g0';obtain ⟨o, e1, _, _⟩ := DataW.trod_string Tryz.underlying9 g1';simp at e0 e1;subst e0 e1;exact ⟨s, o, rfl⟩
end
end Go.Proofs.YtfdelmodmadoaaaGreatDoor
