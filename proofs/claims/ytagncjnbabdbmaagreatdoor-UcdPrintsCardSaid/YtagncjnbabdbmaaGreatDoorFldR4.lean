/- The document's answer for a range of characters. -/
import Derived.Test.YtagncjnbabdbmaaGreatDoorFldR2
import Derived.Test.YtagncjnbabdbmaaGreatDoorFldC
import Derived.Lib.IndexLaws
set_option linter.unusedSimpArgs false
set_option linter.unusedVariables false
namespace Go.Proofs.YtagncjnbabdbmaaGreatDoor
open Go.RowKit

theorem occ_dots (s : ByteArray) (k : Nat) (h : k + 1 < s.size) : Lib.occAt (bs s) [46, 46] k = ((s[k]'(by omega)) == 46 && (s[k + 1]'h) == 46) := by
  unfold Lib.occAt
  rw [bs_drop s k (by omega), bs_drop s (k + 1) h]
  simp only [List.isPrefixOf, Bool.and_true]
  rw [Bool.beq_comm (a := (46 : UInt8)), Bool.beq_comm (a := (46 : UInt8)) (b := (s[k + 1]'h))]
theorem occ_end (s : ByteArray) (k : Nat) (h : s.size ≤ k + 1) : Lib.occAt (bs s) [46, 46] k = false := by
  unfold Lib.occAt
  by_cases hk : k < s.size
  · rw [bs_drop s k hk, bs_drop_end s (k + 1) (by omega)]
    simp [List.isPrefixOf]
  · rw [bs_drop_end s k (by omega)]
    rfl
theorem range_hit {s : ByteArray} {k : Nat} (h : Lib.index (bs s) [46, 46] = k) : rangeS (bs s) = rangeT (bareL (bs (s.extract 0 k))) (bareL (bs (s.extract (k + 2) s.size))) := by
  have hc : Lib.cut (bs s) [46, 46] = ((bs s).take k, (bs s).drop (k + 2), true) := by
    unfold Lib.cut
    rw [h, if_pos (by omega)]
    rfl
  unfold rangeS
  rw [hc, if_pos rfl, bs_extract, bs_extract, List.take_of_length_le (l := bs s) (i := s.size) (by rw [bs_length]; exact Nat.le_refl _)]
  rfl
theorem byte_eq {b c : UInt8} : (((b.toNat : Nat) : Int) == ((c.toNat : Nat) : Int)) = (b == c) := by
  by_cases h : b = c
  · subst h; simp
  · have h1 : (b == c) = false := beq_eq_false_iff_ne.2 h
    rw [h1]
    exact beq_eq_false_iff_ne.2 (fun e => h (UInt8.toNat_inj.1 (by omega)))
end Go.Proofs.YtagncjnbabdbmaaGreatDoor
