/- Lists of strings in memory: what a call hands back. -/
import Derived.Test.YthfakejhkbelhaaDoorRows
import Derived.Test.YthfakejhkbelhaaDoorMem
import Derived.Test.YthfakejhkbelhaaDoorFldSpec
set_option linter.unusedSimpArgs false
set_option linter.unusedVariables false
namespace Go.Proofs.YthfakejhkbelhaaDoor
open Go.RowKit

abbrev Ss (ls : List (List UInt8)) : List Value := ls.map (fun l => Value.string (mk8 l))
theorem strElem : Elem Tryd.prog 28 9 (.string ByteArray.empty) 16 := ⟨Tryd.underlying28, by kernel_rfl, rfl⟩
/-- A new list of strings is handed back; what was there ahead of the call is as it was. -/
def FreshS (w : World) (ls : List (List UInt8)) (e : Ending) (w' : World) : Prop :=
  ∃ A c, e = .returned (.slice A ls.length c) ∧ w'.ownsRow w.heap.size 9 1 (.slice A ls.length c) ls.length (Ss ls) ∧ Below w.heap.size w w'
theorem FreshS.rd {w w' : World} {ls : List (List UInt8)} {e : Ending} (h : FreshS w ls e w') : ∃ A c, e = .returned (.slice A ls.length c) ∧ Rd w' A ls.length (Ss ls) ∧ Below w.heap.size w w' := by
  obtain ⟨A, c, he, hown, hb⟩ := h
  obtain ⟨A', c', e2, _, _, hr⟩ := Rd.of_own hown
  injection e2 with e2a _ _
  subst e2a
  exact ⟨A, c, he, hr, hb⟩
theorem Ss_one (ls : List (List UInt8)) : ∀ u ∈ Ss ls, u.oneCell' = true := by
  intro u hu
  obtain ⟨l, _, rfl⟩ := List.mem_map.1 hu
  rfl
theorem Ss_get {ls : List (List UInt8)} {k : Nat} {l : List UInt8} (h : ls[k]? = some l) : (Ss ls)[k]? = some (.string (mk8 l)) := by simp [h]
end Go.Proofs.YthfakejhkbelhaaDoor
