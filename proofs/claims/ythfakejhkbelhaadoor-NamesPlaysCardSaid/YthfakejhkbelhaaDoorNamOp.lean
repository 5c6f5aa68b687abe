/- An argument that is a call to be done, opened. -/
import Derived.Test.YthfakejhkbelhaaDoorNamLaid
import Derived.Test.YthfakejhkbelhaaDoorMem
import Derived.SliceStrings
import Derived.Lib.SmallJoins
set_option linter.unusedSimpArgs false
set_option linter.unusedVariables false
namespace Go.Proofs.YthfakejhkbelhaaDoor
open Go.ChangeShapes Go.WideShapes Go.ChangeAt Go.RowKit Go.Lib

theorem op_c : Tryd.prog.cellsOf 30 = 4 := by kernel_rfl
theorem op_ci : Tryd.prog.cellsOf 3 = 1 := by kernel_rfl
theorem op_cs : Tryd.prog.cellsOf 9 = 1 := by kernel_rfl
theorem op_cl : Tryd.prog.cellsOf 28 = 1 := by kernel_rfl
/-- A list of texts, opened. -/
theorem rd_strings {H : Type} {enc : TypeId × Value → H} {W : World} {base : Nat} {sp : Nat → Bool} {held : Bool} {fuel : Nat} {v : Value} {x : DataW H × List MemPlace}
    (h : DataW.trod enc Tryd.prog W base sp held fuel 28 [v] = some x) : ∃ (A : Option Addr) (n c : Nat) (ss : List ByteArray), v = .slice A n c ∧ Rd W A n (ss.map Value.string) := by
  rcases open_strings Tryd.underlying28 Tryd.underlying9 op_cs h with ⟨hcs, _⟩ | ⟨a, len, cap, ss, hcs, _, hl, hm, hz, _, hcell, _⟩
  · injection hcs with hcs _
    exact ⟨none, 0, 0, [], hcs, Rd.nil _ _⟩
  · injection hcs with hcs _
    have hlz : len ≤ ss.length := by rw [hz]; split <;> omega
    refine ⟨some a, len, cap, ss.take len, hcs, ⟨by simp; omega, fun hn => ?_⟩⟩
    obtain ⟨b, off, spot⟩ := a
    have hc := hcell 0 (by omega)
    have hspot : spot = none := by simpa [Addr.add] using World.cell?_spot hc
    subst hspot
    refine ⟨b, off, rfl, fun j u hu => ?_⟩
    rw [List.getElem?_map] at hu
    obtain ⟨y, hy, rfl⟩ := Option.map_eq_some_iff.1 hu
    rw [List.getElem?_take] at hy
    split at hy
    · have hjl : j < ss.length := (List.getElem?_eq_some_iff.1 hy).1
      have := hcell j hjl
      rw [Addr.add_lit] at this
      rw [this]
      simp [List.getD, hy]
    · cases hy
set_option maxRecDepth 100000 in
theorem open_op {H : Type} {enc : TypeId × Value → H} {W : World} {base base' : Nat} {sp : Nat → Bool} {held : Bool} {v : Value} {d : DataW H} {p : List MemPlace} (hv : Value.okWide Tryd.prog W .any base' 30 v)
    (h : DataW.Trod enc Tryd.prog W base sp held 30 v d p) : ∃ (k x : Int) (s : ByteArray) (A : Option Addr) (n c : Nat) (ss : List ByteArray), v = .agg #[.int .i64 k, .int .i64 x, .string s, .slice A n c] ∧ Rd W A n (ss.map Value.string) := by
  obtain ⟨cs, rfl, _⟩ := okWide_struct Tryd.underlying30 hv
  obtain ⟨fuel, hf⟩ := h
  obtain ⟨y0, y1, y2, y3, n, _, hl, g0, g1, g2, g3⟩ := Go.Joins.trod_struct4 Tryd.underlying30 hf
  rw [op_c] at hl
  obtain ⟨l⟩ := cs
  have hcl : (Value.agg ⟨l⟩).cells.toList = l := by simp [Value.cells]
  rw [hcl] at hl g0 g1 g2 g3
  match l, hl with
  | [a, b, c, e], _ =>
    have g0' : DataW.trod enc Tryd.prog W base sp held n 3 (([a, b, c, e].drop 0).take (Tryd.prog.cellsOf 3)) = some y0 := g0
    have g1' : DataW.trod enc Tryd.prog W base sp held n 3 (([a, b, c, e].drop 1).take (Tryd.prog.cellsOf 3)) = some y1 := g1
    have g2' : DataW.trod enc Tryd.prog W base sp held n 9 (([a, b, c, e].drop 2).take (Tryd.prog.cellsOf 9)) = some y2 := g2
    have g3' : DataW.trod enc Tryd.prog W base sp held n 28 (([a, b, c, e].drop 3).take (Tryd.prog.cellsOf 28)) = some y3 := g3
    rw [op_ci] at g0' g1'
    rw [op_cs] at g2'
    rw [op_cl] at g3'
    obtain ⟨k, e0, _, _⟩ := DataW.trod_int Tryd.underlying3 g0'
    obtain ⟨x, e1, _, _⟩ := DataW.trod_int Tryd.underlying3 g1'
    obtain ⟨s, e2, _, _⟩ := DataW.trod_string Tryd.underlying9 g2'
    obtain ⟨A, m, q, ss, e3, hr⟩ := rd_strings (show DataW.trod enc Tryd.prog W base sp held n 28 [e] = some y3 from g3')
    simp at e0 e1 e2
    subst e0 e1 e2 e3
    exact ⟨k, x, s, A, m, q, ss, rfl, hr⟩
end Go.Proofs.YthfakejhkbelhaaDoor
