/- The document's answer for bytes that a text tells: the walk. -/
import Derived.Test.YtagncjnbabdbmaaGreatDoorFldT4
import Derived.Test.YtagncjnbabdbmaaGreatDoorFldTwo
import Derived.Deep.RegionLaw
set_option linter.unusedSimpArgs false
set_option linter.unusedVariables false
namespace Go.Proofs.YtagncjnbabdbmaaGreatDoor
open Go.RowKit

theorem str_ne_other {s t : ByteArray} (h : s ≠ t) : (s != t) = true := by
  show (!(s == t)) = true
  have : (s == t) = false := by
    cases s with | mk a => cases t with | mk b =>
      show (a == b) = false
      rw [beq_eq_false_iff_ne]
      exact fun e => h (by rw [e])
  rw [this]; rfl
theorem index_at (s : ByteArray) (i : Int) (k : Nat) (hk : k < s.size) (h : i = (k : Int)) (w : World) : (Instr.index 9 (.string s) (.int .i64 i)).run Tryz.prog w = .ok (.int .u8 (s[k]'hk).toNat) w := by
  subst h
  rw [run_index_string w 9 s .i64 k Tryz.underlying9, dif_pos ⟨by omega, by omega⟩]
  rfl
theorem slice_at (s : ByteArray) (i j : Int) (a b : Nat) (h1 : a ≤ b) (h2 : b ≤ s.size) (hi : i = (a : Int)) (hj : j = (b : Int)) (w : World) :
    (Instr.slice 9 (.string s) (some (.int .i64 i)) (some (.int .i64 j)) none).run Tryz.prog w = .ok (.string (s.extract a b)) w := by
  subst hi hj
  exact run_slice_string w 9 s .i64 .i64 a b Tryz.underlying9 (by omega) (by omega) (by omega)
end Go.Proofs.YtagncjnbabdbmaaGreatDoor
