/- What the rows' lists of variables give, and a world in which these are laid. -/
import Derived.Test.YtagncjnbabdbmaaGreatDoorCards
import Derived.Test.YtagncjnbabdbmaaGreatDoorTie
import Derived.Test.YtagncjnbabdbmaaGreatDoorFldC
import Derived.ProofKit
import Derived.OpenShut
import Derived.Deep.DeepHandedRow
namespace Go.Proofs.YtagncjnbabdbmaaGreatDoor
open Go.ChangeShapes Go.WideShapes Go.ChangeAt Go.RowKit

theorem own_ : ownKnob Tryz.prog.godebug = none := by kernel_rfl
theorem laidOut_ : laidOutB Tryz.prog = true := by kernel_rfl
theorem env_of {W : World} (h : W.ShapedOpen Tryz.prog) : Env W := by
  obtain ⟨m, hm⟩ := Tryz.laysM146.s1_3 W h
  exact ⟨m, hm, World.block_lt_of_cell? W _ hm⟩

def I32 (zs : List Int) : Prop := ∀ z ∈ zs, -2147483648 ≤ z ∧ z ≤ 2147483647
/-- An argument that is a list of characters, opened. -/
theorem open_runes {H : Type} {enc : TypeId × Value → H} {W : World} {base : Nat} {sp : Nat → Bool} {held : Bool} {A : Option Addr} {n c : Nat} {d : DataW H} {p : List MemPlace}
    (h : DataW.Trod enc Tryz.prog W base sp held 25 (.slice A n c) d p) : ∃ zs, Rd W A n (Rs zs) ∧ I32 zs ∧ n ≤ maxLen := by
  obtain ⟨fuel, hf⟩ := h
  rcases open_ints Tryz.underlying25 Tryz.underlying21 (by kernel_rfl) hf with ⟨hcs, _⟩ | ⟨x, l, cap, zs, hcs, _, hl, hm, hz, _, hcell, hwz⟩
  · simp [Value.cells] at hcs
    obtain ⟨rfl, rfl, rfl⟩ := hcs
    exact ⟨[], Rd.nil _ _, fun z hz => by simp at hz, by unfold maxLen; omega⟩
  · simp [Value.cells] at hcs
    obtain ⟨rfl, rfl, rfl⟩ := hcs
    have hlz : n ≤ zs.length := by rw [hz]; split <;> omega
    refine ⟨zs.take n, ⟨by simp; omega, fun hn => ?_⟩, fun z hzm => ?_, by omega⟩
    · obtain ⟨b, off, spot⟩ := x
      have hc := hcell 0 (by omega)
      have hspot : spot = none := by simpa [Addr.add] using World.cell?_spot hc
      subst hspot
      refine ⟨b, off, rfl, fun j u hu => ?_⟩
      rw [List.getElem?_map] at hu
      obtain ⟨y, hy, rfl⟩ := Option.map_eq_some_iff.1 hu
      rw [List.getElem?_take] at hy
      split at hy
      · have hjl : j < zs.length := (List.getElem?_eq_some_iff.1 hy).1
        have := hcell j hjl
        rw [Addr.add_lit] at this
        rw [this]
        simp [List.getD, hy]
      · cases hy
    · have := bounds_i32 (hwz z (List.mem_of_mem_take hzm))
      exact this

/-- A world for the witness: the settled one, the tables holding what their initialisers lay. -/
def layRow (l : List Nat) : Obj → Obj
  | .cells _ t frozen => .cells (l.map (fun (n : Nat) => Value.int .u8 n)).toArray t frozen
  | o => o
noncomputable def laidWorld (os : Os) : World :=
  { World.holding Tryz.prog os ⟨#[], #[], []⟩ with heap := ((World.holding Tryz.prog os ⟨#[], #[], []⟩).heap.modify 1 (layRow Go.Pinned.utf8FirstZ)).modify 2 (layRow ([128, 191, 160, 191, 128, 159, 144, 191, 128, 143] ++ List.replicate 22 0)) }
end Go.Proofs.YtagncjnbabdbmaaGreatDoor
