/- A nil registry: what its methods answer. -/
import Derived.Test.YthfakejhkbelhaaDoorNamE
set_option linter.unusedSimpArgs false
set_option linter.unusedVariables false
namespace Go.Proofs.YthfakejhkbelhaaDoor
open Go.RowKit Go.Lib

theorem find_nil (s : ByteArray) (w : World) : Calls Tryd.prog 38 #[.pointer none, .string s] w fun e w' => e = .returned (.tuple #[.int .i64 0, .int .i64 2]) ∧ w = w' := by
  go_enter Tryd.func38, Tryd.ntmps38
  go_wp2
  go_returns
  exact ⟨rfl, rfl⟩
theorem Find_nil (s : ByteArray) (w : World) : Calls Tryd.prog 19 #[.pointer none, .string s] w fun e w' => e = .returned (.tuple #[.int .i64 0, .string ⟨#[]⟩, .int .i64 2]) ∧ w = w' := by
  go_enter Tryd.func19, Tryd.ntmps19
  go_wp2_with fail
  refine (find_nil _ _).mono ?_
  rintro e w1 ⟨rfl, rfl⟩
  go_wp2
  go_returns
  exact ⟨rfl, rfl⟩
theorem Others_nil (s : ByteArray) (w : World) : Calls Tryd.prog 18 #[.pointer none, .string s] w fun e w' => e = .returned (.tuple #[.slice none 0 0, .int .i64 2]) ∧ w = w' := by
  go_enter Tryd.func18, Tryd.ntmps18
  go_wp2_with fail
  refine (find_nil _ _).mono ?_
  rintro e w1 ⟨rfl, rfl⟩
  go_wp2
  go_returns
  exact ⟨rfl, rfl⟩
theorem Len_nil (w : World) : Calls Tryd.prog 21 #[.pointer none] w fun e w' => e = .returned (.int .i64 0) ∧ w = w' := by
  go_enter Tryd.func21, Tryd.ntmps21
  go_wp2
  go_returns
  exact ⟨rfl, rfl⟩
theorem Add_nil (x : Int) (s : ByteArray) (v : Value) (w : World) : Calls Tryd.prog 25 #[.pointer none, .int .i64 x, .string s, v] w fun e w' => e = .returned (.int .i64 2) ∧ Below w.heap.size w w' := by
  go_enter Tryd.func25, Tryd.ntmps25
  go_wp2
  go_returns
  exact ⟨rfl, by first | exact Below.refl _ _ | go_grown⟩
theorem Call_nil (s : ByteArray) (v : Value) (w : World) : Calls Tryd.prog 36 #[.pointer none, .string s, v] w fun e w' => e = .returned (.int .i64 2) ∧ Below w.heap.size w w' := by
  go_enter Tryd.func36, Tryd.ntmps36
  go_wp2_with fail
  refine (find_nil _ _).mono ?_
  rintro e w1 ⟨rfl, rfl⟩
  go_wp2
  go_returns
  exact ⟨rfl, by first | exact Below.refl _ _ | go_grown⟩
theorem Drop_nil (s : ByteArray) (w : World) : Calls Tryd.prog 26 #[.pointer none, .string s] w fun e w' => e = .returned (.int .i64 2) ∧ Below w.heap.size w w' := by
  go_enter Tryd.func26, Tryd.ntmps26
  go_wp2_with fail
  refine (find_nil _ _).mono ?_
  rintro e w1 ⟨rfl, rfl⟩
  go_wp2
  go_returns
  exact ⟨rfl, by first | exact Below.refl _ _ | go_grown⟩
theorem calls_nil (k x : Int) (s : ByteArray) (A : Option Addr) (n c : Nat) (w : World) : Calls Tryd.prog 16 #[.pointer none, .agg #[.int .i64 k, .int .i64 x, .string s, .slice A n c]] w fun e w' => e = .returned (.int .i64 2) ∧ Below w.heap.size w w' := by
  rcases (show k = 0 ∨ k = 1 ∨ (¬ k = 0 ∧ ¬ k = 1) by omega) with h | h | ⟨h, h'⟩
  · subst h
    go_enter Tryd.func16, Tryd.ntmps16
    go_wp2_with fail
    refine (Add_nil _ _ _ _).mono ?_
    rintro e w1 ⟨rfl, hb⟩
    replace hb := (Below.alloc (Below.refl w.heap.size w) (Nat.le_refl _) _).trans (hb.mono (by simp))
    go_wp2
    go_returns
    exact ⟨rfl, hb⟩
  · subst h
    go_enter Tryd.func16, Tryd.ntmps16
    go_wp2_with fail
    refine (Call_nil _ _ _).mono ?_
    rintro e w1 ⟨rfl, hb⟩
    replace hb := (Below.alloc (Below.refl w.heap.size w) (Nat.le_refl _) _).trans (hb.mono (by simp))
    go_wp2
    go_returns
    exact ⟨rfl, hb⟩
  · have q0 : (k == 0) = false := beq_eq_false_iff_ne.2 h
    have q1 : (k == 1) = false := beq_eq_false_iff_ne.2 h'
    go_enter Tryd.func16, Tryd.ntmps16
    go_wp2_with fail
    refine (Drop_nil _ _).mono ?_
    rintro e w1 ⟨rfl, hb⟩
    replace hb := (Below.alloc (Below.refl w.heap.size w) (Nat.le_refl _) _).trans (hb.mono (by simp))
    go_wp2
    go_returns
    exact ⟨rfl, hb⟩
end Go.Proofs.YthfakejhkbelhaaDoor
