/- Lists of strings in memory: what a call hands back. The contracts of the document's answer for fields: blanks, and what stands between bytes. -/
import Derived.Test.YtggichcfklbjiaaGreatDoorRows
import Derived.Test.YtggichcfklbjiaaGreatDoorG02
import Derived.Test.YtggichcfklbjiaaGreatDoorG05
import Derived.Test.YtggichcfklbjiaaGreatDoorG06
section
set_option linter.unusedSimpArgs false
set_option linter.unusedVariables false
namespace Go.Proofs.YtggichcfklbjiaaGreatDoor
open Go.RowKit

abbrev Ss (ls : List (List UInt8)) : List Value := ls.map (fun l => Value.string (mk8 l))
theorem strElem : Elem Tryz.prog 99 9 (.string ByteArray.empty) 16 := ⟨Tryz.underlying99, by kernel_rfl, rfl⟩
/-- A new list of strings is handed back; what was there ahead of the call is as it was. -/
def FreshS (w : World) (ls : List (List UInt8)) (e : Ending) (w' : World) : Prop :=
  ∃ A c, e = .returned (.slice A ls.length c) ∧ w'.ownsRow w.heap.size 9 1 (.slice A ls.length c) ls.length (Ss ls) ∧ Below w.heap.size w w'
theorem FreshS.rd {w w' : World} {ls : List (List UInt8)} {e : Ending} (h : FreshS w ls e w') : ∃ A c, e = .returned (.slice A ls.length c) ∧ Rd w' A ls.length (Ss ls) ∧ Below w.heap.size w w' := by
  obtain ⟨A, c, he, hown, hb⟩ := h
  obtain ⟨A', c', e2, _, _, hr⟩ := Rd.of_own hown
  injection e2 with e2a _ _
  subst e2a
  exact ⟨A, c, he, hr, hb⟩
theorem Ss_one (ls : List (List UInt8)) : ∀ u ∈ Ss ls, u.oneCell' = true := by
  intro u hu
  obtain ⟨l, _, rfl⟩ := List.mem_map.1 hu
  rfl
theorem Ss_get {ls : List (List UInt8)} {k : Nat} {l : List UInt8} (h : ls[k]? = some l) : (Ss ls)[k]? = some (.string (mk8 l)) := by simp [h]
end Go.Proofs.YtggichcfklbjiaaGreatDoor
end

section
set_option linter.unusedSimpArgs false
set_option linter.unusedVariables false
namespace Go.Proofs.YtggichcfklbjiaaGreatDoor
open Go.RowKit

theorem ret_str {a b : ByteArray} (h : a = b) : Ending.returned (.string a) = .returned (.string b) := by rw [h]
theorem take_snoc' {α : Type} {l : List α} {k : Nat} {z : α} (h : l[k]? = some z) : l.take (k + 1) = l.take k ++ [z] := by
  rw [List.take_add_one, h]; rfl
end Go.Proofs.YtggichcfklbjiaaGreatDoor
end
