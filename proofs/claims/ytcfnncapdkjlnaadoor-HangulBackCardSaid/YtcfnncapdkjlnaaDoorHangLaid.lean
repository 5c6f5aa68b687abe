/- What the rows' list of variables gives: the table of kinds holds its six numbers; and a world in which it does. -/
import Derived.Test.YtcfnncapdkjlnaaDoorCards
import Derived.Test.YtcfnncapdkjlnaaDoorTie
import Derived.Test.YtcfnncapdkjlnaaDoorHangLaw
import Derived.ProofKit
import Derived.OpenShut
import Derived.Deep.DeepHandedRow
namespace Go.Proofs.YtcfnncapdkjlnaaDoor
open Go.ChangeShapes Go.WideShapes Go.ChangeAt Go.RowKit

theorem own_ : ownKnob Tryd.prog.godebug = none := by kernel_rfl
theorem laidOut_ : laidOutB Tryd.prog = true := by kernel_rfl
theorem kinds_g : Tryd.prog.globalNamed "inkhorn/hangul.kinds" = some 0 := by kernel_rfl
theorem kinds_t : (Tryd.prog.globals[0]?).map (·.type) = some 40 := by kernel_rfl
theorem kinds_c3 : Tryd.prog.cellsOf 40 = 6 := by kernel_rfl
theorem kinds_c1 : Tryd.prog.cellsOf 39 = 2 := by kernel_rfl
theorem kinds_c0 : Tryd.prog.cellsOf 21 = 1 := by kernel_rfl

theorem kind_of_trod {w : World} {fuel : Nat} {cs : List Value} {x : DataW Unit × List MemPlace} {a b : Int}
    (h : DataW.trod (fun _ => ()) Tryd.prog w 0 (fun _ => true) false fuel 39 cs = some x) (hx : x.1 = .agg [.lit (.int .i32 a), .lit (.int .i32 b)]) : cs = [.int .i32 a, .int .i32 b] := by
  obtain ⟨y0, y1, n, rfl, hl, h0, h1⟩ := trod_struct2 Tryd.underlying39 h
  rw [kinds_c1] at hl
  match cs, hl with
  | [c0, c1], _ =>
    obtain ⟨n0, e0, r0, _⟩ := DataW.trod_int Tryd.underlying21 (show DataW.trod _ _ _ _ _ _ n 21 (([c0, c1].drop 0).take (Tryd.prog.cellsOf 21)) = some y0 from h0)
    obtain ⟨n1, e1, r1, _⟩ := DataW.trod_int Tryd.underlying21 (show DataW.trod _ _ _ _ _ _ n 21 (([c0, c1].drop 1).take (Tryd.prog.cellsOf 21)) = some y1 from h1)
    rw [kinds_c0] at e0 e1
    simp at e0 e1
    subst e0 e1 r0 r1
    simp at hx
    rw [hx.1, hx.2]

theorem kinds_of_laid {W : World} (h : laidMet Tryd.prog [("inkhorn/hangul.kinds", Rows.laid_inkhorn_hangul_kinds)] W) : Kinds W := by
  obtain ⟨ps, ⟨g, t, cs, fuel, p, q, hg, ht, hvar, hd, _, _⟩, _⟩ := h
  obtain rfl := Option.some.inj (kinds_g.symm.trans hg)
  obtain rfl := Option.some.inj (kinds_t.symm.trans ht)
  obtain ⟨l⟩ := cs
  obtain ⟨xs, m, _, hx, hl, hlen, hi⟩ := DataW.trod_array Tryd.underlying40 hd
  rw [kinds_c3] at hl
  simp only [kinds_c1] at hi
  match xs, hlen with
  | [x0, x1, x2], _ =>
    have i0 := hi 0 (by omega)
    have i1 := hi 1 (by omega)
    have i2 := hi 2 (by omega)
    match l, hl with
    | [a, b, c, d, e, f], _ =>
      simp at i0 i1 i2
      simp only [Prod.mk.injEq, Rows.laid_inkhorn_hangul_kinds, DataW.agg.injEq, List.map_cons, List.map_nil, List.cons.injEq, and_true] at hx
      obtain ⟨⟨h0, h1, h2⟩, _⟩ := hx
      have j0 := kind_of_trod i0 h0.symm
      have j1 := kind_of_trod i1 h1.symm
      have j2 := kind_of_trod i2 h2.symm
      simp at j0 j1 j2
      obtain ⟨rfl, rfl⟩ := j0
      obtain ⟨rfl, rfl⟩ := j1
      obtain ⟨rfl, rfl⟩ := j2
      exact ⟨World.var?_cell hg hvar 0, World.var?_cell hg hvar 1, World.var?_cell hg hvar 2, World.var?_cell hg hvar 3, World.var?_cell hg hvar 4, World.var?_cell hg hvar 5⟩

/-- An argument that is a list of characters, opened. -/
theorem open_runes {H : Type} {enc : TypeId × Value → H} {W : World} {base : Nat} {sp : Nat → Bool} {held : Bool} {A : Option Addr} {n c : Nat} {d : DataW H} {p : List MemPlace}
    (h : DataW.Trod enc Tryd.prog W base sp held 26 (.slice A n c) d p) : ∃ zs, Rd W A n (Rs zs) ∧ I32 zs ∧ n ≤ maxLen := by
  obtain ⟨fuel, hf⟩ := h
  rcases open_ints Tryd.underlying26 Tryd.underlying21 (by kernel_rfl) hf with ⟨hcs, _⟩ | ⟨x, l, cap, zs, hcs, _, hl, hm, hz, _, hcell, hwz⟩
  · simp [Value.cells] at hcs
    obtain ⟨rfl, rfl, rfl⟩ := hcs
    exact ⟨[], Rd.nil _ _, fun z hz => by simp at hz, by unfold maxLen; omega⟩
  · simp [Value.cells] at hcs
    obtain ⟨rfl, rfl, rfl⟩ := hcs
    have hlz : n ≤ zs.length := by rw [hz]; split <;> omega
    refine ⟨zs.take n, ⟨by simp; omega, fun hn => ?_⟩, fun z hzm => ?_, by omega⟩
    · obtain ⟨b, off, spot⟩ := x
      have hc := hcell 0 (by omega)
      have hspot : spot = none := by simpa [Addr.add] using World.cell?_spot hc
      subst hspot
      refine ⟨b, off, rfl, fun j u hu => ?_⟩
      rw [List.getElem?_map] at hu
      obtain ⟨y, hy, rfl⟩ := Option.map_eq_some_iff.1 hu
      rw [List.getElem?_take] at hy
      split at hy
      · have hjl : j < zs.length := (List.getElem?_eq_some_iff.1 hy).1
        have := hcell j hjl
        rw [Addr.add_lit] at this
        rw [this]
        simp [List.getD, hy]
      · cases hy
    · have := bounds_i32 (hwz z (List.mem_of_mem_take hzm))
      exact this

/-- A world for the witness: the settled one, the table holding what its initialiser lays. -/
noncomputable def laidWorld (os : Os) : World :=
  { World.holding Tryd.prog os ⟨#[], #[], []⟩ with heap := (World.holding Tryd.prog os ⟨#[], #[], []⟩).heap.modify 0 fun
      | .cells _ t frozen => .cells #[.int .i32 4352, .int .i32 19, .int .i32 4449, .int .i32 21, .int .i32 4519, .int .i32 28] t frozen
      | o => o }
end Go.Proofs.YtcfnncapdkjlnaaDoor
