/- The law on lines and on what stands between bytes: true. The law on texts with a blank between them: true. -/
import Derived.Test.YtggichcfklbjiaaGreatDoorG13
section
set_option linter.unusedSimpArgs false
set_option linter.unusedVariables false
namespace Go.Proofs.YtggichcfklbjiaaGreatDoor
open Go.RowKit

theorem str_ne_self (s : ByteArray) : (s != s) = false := by
  show (!(s == s)) = false
  have : (s == s) = true := by
    cases s with | mk a => show (a == a) = true; simp
  rw [this]; rfl
theorem linesW_len : ∀ (ls : List (List UInt8)) (out : List (Int × List UInt8)) (k : Nat), (linesW out k ls).1.length ≤ out.length + ls.length
  | [], out, k => by simp [linesW]
  | l :: ls, out, k => by
    simp only [linesW]
    split
    · simp
    · have := linesW_len ls (if tellL l = [] then out else out ++ [((k : Int) + 1, tellL l)]) (k + 1)
      have h2 : (if tellL l = [] then out else out ++ [((k : Int) + 1, tellL l)]).length ≤ out.length + 1 := by
        split
        · omega
        · rw [List.length_append, List.length_singleton]; omega
      rw [List.length_cons]
      omega
theorem linesS_len (s : List UInt8) : (linesS s).1.length ≤ s.length + 1 := by
  unfold linesS
  split
  · simp
  · have := linesW_len (cutL 10 s) [] 0
    have h2 := cutL_len 10 s
    rw [List.length_nil] at this
    omega
end Go.Proofs.YtggichcfklbjiaaGreatDoor
end

section
set_option linter.unusedSimpArgs false
set_option linter.unusedVariables false
namespace Go.Proofs.YtggichcfklbjiaaGreatDoor
open Go.RowKit

theorem rd_own {w : World} {B : Nat} {e : TypeId} {A : Option Addr} {n c : Nat} {xs : List Value} (h : w.ownsRow B e 1 (.slice A n c) n xs) : Rd w A n xs := by
  obtain ⟨A', c', e2, _, _, hr⟩ := Rd.of_own h
  injection e2 with e2a _ _
  subst e2a
  exact hr
theorem own_gt {w : World} {B : Nat} {e : TypeId} {A : Option Addr} {n c : Nat} {xs : List Value} (h : w.ownsRow B e 1 (.slice A n c) n xs) : ∀ a, A = some a → B ≤ a.block ∧ a.block < w.heap.size := by
  intro a ha
  subst ha
  exact h.lt a.block rfl
theorem bytesF_len (ahead : List UInt8) : ∀ (f : Nat) (out s : List UInt8), (bytesF ahead f out s).1.length ≤ out.length + f
  | 0, out, s => by simp [bytesF]
  | f + 1, out, s => by
    simp only [bytesF]
    split
    · simp only []; omega
    · split
      · split
        · simp
        · have := bytesF_len ahead f (out ++ [UInt8.ofNat (numS 16 2 ((s.drop ahead.length).take 2)).toNat]) ((s.drop ahead.length).drop 2)
          rw [List.length_append, List.length_singleton] at this
          omega
      · simp
theorem bytesS_len (ahead s : List UInt8) : (bytesS ahead s).1.length ≤ s.length + 1 := by
  have := bytesF_len ahead (s.length + 1) [] s
  rw [List.length_nil] at this
  unfold bytesS
  omega
theorem runesW_len : ∀ (ws : List (List UInt8)) (out : List Int), (runesW out ws).1.length ≤ out.length + ws.length
  | [], out => by simp [runesW]
  | v :: ws, out => by
    by_cases h : (hexS v).2 = 0
    · rw [runesW_good h]
      have := runesW_len ws (out ++ [(hexS v).1])
      rw [List.length_append, List.length_singleton] at this
      rw [List.length_cons]
      omega
    · rw [runesW_bad h]; simp
theorem runesS_len (l : List UInt8) : (runesS l).1.length ≤ l.length + 1 := by
  have := runesW_len (wordsL l) []
  have h2 := (words_len l []).1
  unfold runesS
  rw [List.length_nil] at this
  unfold wordsL at this ⊢
  omega
end Go.Proofs.YtggichcfklbjiaaGreatDoor
end
