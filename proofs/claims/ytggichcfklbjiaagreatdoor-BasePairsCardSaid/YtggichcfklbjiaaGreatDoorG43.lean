/- An argument that is lines of characters and of exclusions, opened. What the rows' lists of variables give, at the layers above bases; arguments opened. -/
import Derived.Test.YtggichcfklbjiaaGreatDoorCards
import Derived.Test.YtggichcfklbjiaaGreatDoorTie
import Derived.ProofKit
import Derived.Test.YtggichcfklbjiaaGreatDoorG02
import Derived.SliceStrings
import Derived.Lib.SmallJoins
import Derived.Test.YtggichcfklbjiaaGreatDoorG25
import Derived.Test.YtggichcfklbjiaaGreatDoorG10
import Derived.OpenShut
import Derived.Deep.DeepHandedRow
import Derived.Deep.DeepWitnessRowRef
import Derived.Lay
import Derived.PinnedBridge
section
set_option linter.unusedSimpArgs false
set_option linter.unusedVariables false
namespace Go.Proofs.YtggichcfklbjiaaGreatDoor
open Go.ChangeShapes Go.WideShapes Go.ChangeAt Go.RowKit Go.Lib

theorem txt_c : Tryz.prog.cellsOf 23 = 2 := by kernel_rfl
theorem txt_cs : Tryz.prog.cellsOf 9 = 1 := by kernel_rfl
set_option maxRecDepth 100000 in
theorem open_text {H : Type} {enc : TypeId × Value → H} {W : World} {base base' : Nat} {sp : Nat → Bool} {held : Bool} {v : Value} {d : DataW H} {p : List MemPlace} (hv : Value.okWide Tryz.prog W .any base' 23 v)
    (h : DataW.Trod enc Tryz.prog W base sp held 23 v d p) : ∃ (s o : ByteArray), v = .agg #[.string s, .string o] := by
  obtain ⟨cs, rfl, _⟩ := okWide_struct Tryz.underlying23 hv
  obtain ⟨fuel, hf⟩ := h
  obtain ⟨y0, y1, n, _, hl, g0, g1⟩ := Go.ChangeShapes.trod_struct2 Tryz.underlying23 hf
  rw [txt_c] at hl
  obtain ⟨l⟩ := cs
  have hcl : (Value.agg ⟨l⟩).cells.toList = l := by simp [Value.cells]
  rw [hcl] at hl g0 g1
  match l, hl with
  | [a, b], _ =>
    have g0' : DataW.trod enc Tryz.prog W base sp held n 9 (([a, b].drop 0).take (Tryz.prog.cellsOf 9)) = some y0 := g0
    have g1' : DataW.trod enc Tryz.prog W base sp held n 9 (([a, b].drop 1).take (Tryz.prog.cellsOf 9)) = some y1 := g1
    rw [txt_cs] at g0' g1'
    obtain ⟨s, e0, _, _⟩ := DataW.trod_string Tryz.underlying9 g0'
    obtain ⟨o, e1, _, _⟩ := DataW.trod_string Tryz.underlying9 g1'
    simp at e0 e1
    subst e0 e1
    exact ⟨s, o, rfl⟩
end Go.Proofs.YtggichcfklbjiaaGreatDoor
end

section
namespace Go.Proofs.YtggichcfklbjiaaGreatDoor
open Go.ChangeShapes Go.WideShapes Go.ChangeAt Go.RowKit

theorem own_ : ownKnob Tryz.prog.godebug = none := by kernel_rfl
theorem laidOut_ : laidOutB Tryz.prog = true := by kernel_rfl
theorem env_of {W : World} (h : W.ShapedOpen Tryz.prog) : Env W := by
  obtain ⟨m, hm⟩ := Tryz.laysM146.s1_3 W h
  exact ⟨m, hm, World.block_lt_of_cell? W _ hm⟩
theorem kinds_g : Tryz.prog.globalNamed "inkhorn/hangul.kinds" = some 0 := by kernel_rfl
theorem kinds_t : (Tryz.prog.globals[0]?).map (·.type) = some 115 := by kernel_rfl
theorem kinds_c3 : Tryz.prog.cellsOf 115 = 6 := by kernel_rfl
theorem kinds_c1 : Tryz.prog.cellsOf 114 = 2 := by kernel_rfl
theorem kinds_c0 : Tryz.prog.cellsOf 21 = 1 := by kernel_rfl

set_option maxRecDepth 100000 in
theorem kind_of_trod {w : World} {fuel : Nat} {cs : List Value} {x : DataW Unit × List MemPlace} {a b : Int}
    (h : DataW.trod (fun _ => ()) Tryz.prog w 0 (fun _ => true) false fuel 114 cs = some x) (hx : x.1 = .agg [.lit (.int .i32 a), .lit (.int .i32 b)]) : cs = [.int .i32 a, .int .i32 b] := by
  obtain ⟨y0, y1, n, rfl, hl, h0, h1⟩ := trod_struct2 Tryz.underlying114 h
  rw [kinds_c1] at hl
  match cs, hl with
  | [c0, c1], _ =>
    obtain ⟨n0, e0, r0, _⟩ := DataW.trod_int Tryz.underlying21 (show DataW.trod _ _ _ _ _ _ n 21 (([c0, c1].drop 0).take (Tryz.prog.cellsOf 21)) = some y0 from h0)
    obtain ⟨n1, e1, r1, _⟩ := DataW.trod_int Tryz.underlying21 (show DataW.trod _ _ _ _ _ _ n 21 (([c0, c1].drop 1).take (Tryz.prog.cellsOf 21)) = some y1 from h1)
    rw [kinds_c0] at e0 e1
    simp at e0 e1
    subst e0 e1 r0 r1
    simp at hx
    rw [hx.1, hx.2]

set_option maxRecDepth 100000 in
theorem kinds_of_laid {W : World} {rest : List (String × DataW Unit)} (h : laidMet Tryz.prog (("inkhorn/hangul.kinds", Rows.laid_inkhorn_hangul_kinds) :: rest) W) : Kinds W := by
  obtain ⟨ps, ⟨g, t, cs, fuel, p, q, hg, ht, hvar, hd, _, _⟩, _⟩ := h
  obtain rfl := Option.some.inj (kinds_g.symm.trans hg)
  obtain rfl := Option.some.inj (kinds_t.symm.trans ht)
  obtain ⟨l⟩ := cs
  obtain ⟨xs, m, _, hx, hl, hlen, hi⟩ := DataW.trod_array Tryz.underlying115 hd
  rw [kinds_c3] at hl
  simp only [kinds_c1] at hi
  match xs, hlen with
  | [x0, x1, x2], _ =>
    have i0 := hi 0 (by omega)
    have i1 := hi 1 (by omega)
    have i2 := hi 2 (by omega)
    match l, hl with
    | [a, b, c, d, e, f], _ =>
      simp at i0 i1 i2
      simp only [Prod.mk.injEq, Rows.laid_inkhorn_hangul_kinds, DataW.agg.injEq, List.map_cons, List.map_nil, List.cons.injEq, and_true] at hx
      obtain ⟨⟨h0, h1, h2⟩, _⟩ := hx
      have j0 := kind_of_trod i0 h0.symm
      have j1 := kind_of_trod i1 h1.symm
      have j2 := kind_of_trod i2 h2.symm
      simp at j0 j1 j2
      obtain ⟨rfl, rfl⟩ := j0
      obtain ⟨rfl, rfl⟩ := j1
      obtain ⟨rfl, rfl⟩ := j2
      exact ⟨World.var?_cell hg hvar 0, World.var?_cell hg hvar 1, World.var?_cell hg hvar 2, World.var?_cell hg hvar 3, World.var?_cell hg hvar 4, World.var?_cell hg hvar 5⟩

end Go.Proofs.YtggichcfklbjiaaGreatDoor
end
