/- Rows of a file: plain laws. -/
import Derived.Test.YtagncjnbabdbmaaDoorUcdW
set_option linter.unusedSimpArgs false
set_option linter.unusedVariables false
namespace Go.Proofs.YtagncjnbabdbmaaDoor
open Go.RowKit

/-- What holds of what a line tells, and of the range of two, holds of all rows. -/
theorem rowsW_all {P : RowS → Prop} (hp : ∀ l, (parseS l).2 = 0 → P (parseS l).1) (hc : ∀ f x, P f → P x → ¬ closeB f x → P (rangeR f x)) :
    ∀ (ls : List (Int × List UInt8)) (st : StU), (∀ x ∈ st.out, P x) → (∀ f, st.op = some f → P f) → ∀ x ∈ (rowsW st ls).1.out, P x
  | [], st, ho, hf => ho
  | p :: ls, st, ho, hf => by
    have key : (∀ x ∈ (takeS st p.2).1.out, P x) ∧ ∀ f, (takeS st p.2).1.op = some f → P f := by
      unfold takeS
      split
      · exact ⟨ho, hf⟩
      · have hx := hp p.2 (by simpa using ‹¬ (parseS p.2).2 ≠ 0›)
        generalize (parseS p.2).1 = x at *
        unfold takeR closeS freeS
        split
        · rename_i f hst
          split
          · exact ⟨ho, hf⟩
          · split
            · exact ⟨ho, hf⟩
            · refine ⟨fun y hy => ?_, fun f h => absurd h (by simp)⟩
              rcases List.mem_append.1 hy with hy | hy
              · exact ho y hy
              · rw [List.mem_singleton] at hy
                subst hy
                exact hc f x (hf f hst) hx (by assumption)
        · split
          · exact ⟨ho, hf⟩
          · split
            · exact ⟨ho, hf⟩
            · split
              · exact ⟨ho, fun f h => by injection h with h; subst h; exact hx⟩
              · refine ⟨fun y hy => ?_, fun f h => absurd h (by simp)⟩
                rcases List.mem_append.1 hy with hy | hy
                · exact ho y hy
                · rw [List.mem_singleton] at hy
                  subst hy
                  exact hx
    by_cases he : (takeS st p.2).2 = 0
    · rw [rowsW_good he]
      exact rowsW_all hp hc ls _ key.1 key.2
    · rw [rowsW_bad he]
      exact ho
theorem rowsS_all {P : RowS → Prop} (hp : ∀ l, (parseS l).2 = 0 → P (parseS l).1) (hc : ∀ f x, P f → P x → ¬ closeB f x → P (rangeR f x)) (s : List UInt8) : ∀ x ∈ (rowsS s).1, P x := by
  unfold rowsS endU
  split
  · intro x hx; simp at hx
  · split
    · intro x hx; simp at hx
    · split
      · intro x hx; simp at hx
      · exact rowsW_all hp hc _ _ (fun x hx => by simp at hx) (fun f h => by simp at h)
theorem rows_il (s : List UInt8) : ∀ x ∈ (rowsS s).1, x.il.length ≤ 18 :=
  rowsS_all (fun l _ => (parse_ok l).2) (fun f x _ _ _ => Nat.zero_le _) s
theorem takeS_len (st : StU) (l : List UInt8) : (takeS st l).1.out.length ≤ st.out.length + 1 := by
  unfold takeS
  split
  · exact Nat.le_succ _
  · generalize (parseS l).1 = x
    unfold takeR closeS freeS
    repeat' split
    all_goals simp
theorem rowsW_len : ∀ (ls : List (Int × List UInt8)) (st : StU), (rowsW st ls).1.out.length ≤ st.out.length + ls.length
  | [], st => by simp [rowsW]
  | p :: ls, st => by
    have h1 := takeS_len st p.2
    by_cases he : (takeS st p.2).2 = 0
    · rw [rowsW_good he]
      have := rowsW_len ls (takeS st p.2).1
      simp only [List.length_cons]
      omega
    · rw [rowsW_bad he]
      simp only []
      omega
theorem rowsS_len (s : List UInt8) : (rowsS s).1.length ≤ 4096 := by
  have hl := (linesS_ok s).2
  unfold rowsS endU
  split
  · simp
  · split
    · simp
    · split
      · simp
      · have := rowsW_len (linesS s).1 ⟨[], none, -1⟩
        simp only [List.length_nil] at this
        show (rowsW ⟨[], none, -1⟩ (linesS s).1).1.out.length ≤ 4096
        omega
end Go.Proofs.YtagncjnbabdbmaaDoor
