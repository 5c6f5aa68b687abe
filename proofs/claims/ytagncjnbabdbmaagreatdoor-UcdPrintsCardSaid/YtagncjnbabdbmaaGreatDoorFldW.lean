/- The chapter's examples: true, whatever the world. -/
import Derived.Test.YtagncjnbabdbmaaGreatDoorFldL2
import Derived.Test.YtagncjnbabdbmaaGreatDoorFldY
set_option linter.unusedSimpArgs false
set_option linter.unusedVariables false
namespace Go.Proofs.YtagncjnbabdbmaaGreatDoor
open Go.RowKit

theorem aw1 : linesS (bs ⟨#[97, 32, 35, 32, 98, 10, 32, 9, 10, 99]⟩) = ([(1, [97]), (3, [99])], 0) := by kernel_rfl
theorem aw2 : rangeS (bs ⟨#[48, 48, 52, 49, 46, 46, 48, 48, 53, 65]⟩) = (65, 90, 0) := by kernel_rfl
theorem aw3 : bytesS (bs ⟨#[48, 120]⟩) (bs ⟨#[48, 120, 56, 49, 52, 48]⟩) = ([], 10) := by kernel_rfl
theorem aw4 : bytesS (bs ⟨#[92, 120]⟩) (bs ⟨#[92, 120, 56, 49, 92, 120, 52, 48]⟩) = ([129, 64], 0) := by kernel_rfl
theorem own_at {w : World} {B k : Nat} {e : TypeId} {A : Option Addr} {c n : Nat} {xs : List Value} (h : w.ownsRow B e k (.slice A n c) n xs) (hn : 0 < n) :
    ∃ g, A = some ⟨g, 0, none⟩ ∧ ∀ j u, xs[j]? = some u → w.cell? ⟨g, j, none⟩ = some u := by
  rcases h.2 with ⟨_, h0⟩ | ⟨g, cap, cur, hv, _, hh, _, _, _, htake⟩
  · omega
  · injection hv with hA _ _
    refine ⟨g, hA, fun j u hu => ?_⟩
    rw [cell_of_row w g j cur e (0, 0) hh]
    rw [← htake, List.getElem?_take] at hu
    split at hu
    · simpa using hu
    · cases hu
end Go.Proofs.YtagncjnbabdbmaaGreatDoor
