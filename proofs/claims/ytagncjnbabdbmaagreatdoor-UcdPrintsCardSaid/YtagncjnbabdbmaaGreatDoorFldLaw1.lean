/- The law on lines and on what stands between bytes: true. -/
import Derived.Test.YtagncjnbabdbmaaGreatDoorFldW
set_option linter.unusedSimpArgs false
set_option linter.unusedVariables false
namespace Go.Proofs.YtagncjnbabdbmaaGreatDoor
open Go.RowKit

theorem str_ne_self (s : ByteArray) : (s != s) = false := by
  show (!(s == s)) = false
  have : (s == s) = true := by
    cases s with | mk a => show (a == a) = true; simp
  rw [this]; rfl
theorem linesW_len : ∀ (ls : List (List UInt8)) (out : List (Int × List UInt8)) (k : Nat), (linesW out k ls).1.length ≤ out.length + ls.length
  | [], out, k => by simp [linesW]
  | l :: ls, out, k => by
    simp only [linesW]
    split
    · simp
    · have := linesW_len ls (if tellL l = [] then out else out ++ [((k : Int) + 1, tellL l)]) (k + 1)
      have h2 : (if tellL l = [] then out else out ++ [((k : Int) + 1, tellL l)]).length ≤ out.length + 1 := by
        split
        · omega
        · rw [List.length_append, List.length_singleton]; omega
      rw [List.length_cons]
      omega
theorem linesS_len (s : List UInt8) : (linesS s).1.length ≤ s.length + 1 := by
  unfold linesS
  split
  · simp
  · have := linesW_len (cutL 10 s) [] 0
    have h2 := cutL_len 10 s
    rw [List.length_nil] at this
    omega
end Go.Proofs.YtagncjnbabdbmaaGreatDoor
