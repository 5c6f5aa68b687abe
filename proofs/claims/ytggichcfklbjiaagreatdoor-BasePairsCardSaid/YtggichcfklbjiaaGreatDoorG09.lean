/- The contracts of the document's answer for numbers that digits tell. The contract of the document's answer for characters that are told one by one. -/
import Derived.Test.YtggichcfklbjiaaGreatDoorG07
import Derived.Test.YtggichcfklbjiaaGreatDoorG08
section
set_option linter.unusedSimpArgs false
set_option linter.unusedVariables false
namespace Go.Proofs.YtggichcfklbjiaaGreatDoor
open Go.RowKit

theorem byte_lt (s : ByteArray) (k : Nat) (h : k < s.size) : (s[k]'h).toNat < 256 := UInt8.toNat_lt _
theorem hexS_bad {s : ByteArray} (h : numFrom 16 0 (bs s) = -1) : hexS (bs s) = (0, 10) := by
  have : numS 16 6 (bs s) = -1 := by unfold numS; split <;> simp [h]
  unfold hexS
  rw [this]
  decide
theorem hexS_len {s : ByteArray} (h : s.size = 0 ∨ 6 < s.size) : hexS (bs s) = (0, 10) := by
  have : numS 16 6 (bs s) = -1 := by unfold numS; rw [bs_length, if_pos h]
  unfold hexS
  rw [this]
  decide
theorem hexS_good {s : ByteArray} {n : Int} (h0 : ¬ (s.size = 0 ∨ 6 < s.size)) (h : numFrom 16 0 (bs s) = n) (hn : 0 ≤ n) : hexS (bs s) = if scalarB n = true then (n, 0) else (0, 11) := by
  have : numS 16 6 (bs s) = n := by unfold numS; rw [bs_length, if_neg h0, h]
  unfold hexS
  rw [this, if_neg (by omega)]

theorem dec_digit {b : Int} : (48 ≤ b ∧ b ≤ 57 → hexDigit b = b - 48) ∧ (¬ (48 ≤ b ∧ b ≤ 57) → hexDigit b < 0 ∨ 10 ≤ hexDigit b) := by
  unfold hexDigit
  refine ⟨fun h => by rw [if_pos h], fun h => ?_⟩
  rw [if_neg h]
  split
  · omega
  · split <;> omega
theorem decS_bad {s : ByteArray} (h : numFrom 10 0 (bs s) = -1) : decS (bs s) = (0, 10) := by
  have : numS 10 5 (bs s) = -1 := by unfold numS; split <;> simp [h]
  unfold decS
  rw [this]
  decide
theorem decS_len {s : ByteArray} (h : s.size = 0 ∨ 5 < s.size) : decS (bs s) = (0, 10) := by
  have : numS 10 5 (bs s) = -1 := by unfold numS; rw [bs_length, if_pos h]
  unfold decS
  rw [this]
  decide
theorem decS_good {s : ByteArray} {n : Int} (h0 : ¬ (s.size = 0 ∨ 5 < s.size)) (h : numFrom 10 0 (bs s) = n) (hn : 0 ≤ n) : decS (bs s) = (n, 0) := by
  have : numS 10 5 (bs s) = n := by unfold numS; rw [bs_length, if_neg h0, h]
  unfold decS
  rw [this, if_neg (by omega)]

end Go.Proofs.YtggichcfklbjiaaGreatDoor
end

section
set_option linter.unusedSimpArgs false
set_option linter.unusedVariables false
namespace Go.Proofs.YtggichcfklbjiaaGreatDoor
open Go.RowKit

/-- The characters that words tell behind those that are there; the first word that tells none ends it. -/
def runesW : List Int → List (List UInt8) → List Int × Int
  | out, [] => (out, 0)
  | out, w :: ws => if (hexS w).2 = 0 then runesW (out ++ [(hexS w).1]) ws else ([], (hexS w).2)
def runesS (l : List UInt8) : List Int × Int := runesW [] (wordsL l)
theorem runesW_good {out : List Int} {w : List UInt8} {ws : List (List UInt8)} (h : (hexS w).2 = 0) : runesW out (w :: ws) = runesW (out ++ [(hexS w).1]) ws := by
  simp only [runesW]
  rw [if_pos h]
theorem runesW_bad {out : List Int} {w : List UInt8} {ws : List (List UInt8)} (h : ¬ (hexS w).2 = 0) : runesW out (w :: ws) = ([], (hexS w).2) := by
  simp only [runesW]
  rw [if_neg h]
theorem hexS_bd (l : List UInt8) : 0 ≤ (hexS l).1 ∧ (hexS l).1 ≤ 1114111 ∧ ((hexS l).2 = 0 ∨ (hexS l).2 = 10 ∨ (hexS l).2 = 11) := by
  unfold hexS
  split
  · simp
  · split
    · rename_i h1 h2
      simp only [scalarB, decide_eq_true_eq] at h2
      exact ⟨by simp only []; omega, by simp only []; omega, .inl rfl⟩
    · simp

end Go.Proofs.YtggichcfklbjiaaGreatDoor
end
