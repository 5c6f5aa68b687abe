/- The contract of the document's answer for characters that are told one by one. -/
import Derived.Test.YtagncjnbabdbmaaGreatDoorFldR2
import Derived.Test.YtagncjnbabdbmaaGreatDoorRunes
set_option linter.unusedSimpArgs false
set_option linter.unusedVariables false
namespace Go.Proofs.YtagncjnbabdbmaaGreatDoor
open Go.RowKit

/-- The characters that words tell behind those that are there; the first word that tells none ends it. -/
def runesW : List Int → List (List UInt8) → List Int × Int
  | out, [] => (out, 0)
  | out, w :: ws => if (hexS w).2 = 0 then runesW (out ++ [(hexS w).1]) ws else ([], (hexS w).2)
def runesS (l : List UInt8) : List Int × Int := runesW [] (wordsL l)
theorem runesW_good {out : List Int} {w : List UInt8} {ws : List (List UInt8)} (h : (hexS w).2 = 0) : runesW out (w :: ws) = runesW (out ++ [(hexS w).1]) ws := by
  simp only [runesW]
  rw [if_pos h]
theorem runesW_bad {out : List Int} {w : List UInt8} {ws : List (List UInt8)} (h : ¬ (hexS w).2 = 0) : runesW out (w :: ws) = ([], (hexS w).2) := by
  simp only [runesW]
  rw [if_neg h]
theorem hexS_bd (l : List UInt8) : 0 ≤ (hexS l).1 ∧ (hexS l).1 ≤ 1114111 ∧ ((hexS l).2 = 0 ∨ (hexS l).2 = 10 ∨ (hexS l).2 = 11) := by
  unfold hexS
  split
  · simp
  · split
    · rename_i h1 h2
      simp only [scalarB, decide_eq_true_eq] at h2
      exact ⟨by simp only []; omega, by simp only []; omega, .inl rfl⟩
    · simp

end Go.Proofs.YtagncjnbabdbmaaGreatDoor
