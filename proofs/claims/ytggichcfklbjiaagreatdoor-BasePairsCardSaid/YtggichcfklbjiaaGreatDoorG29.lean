/- When all that is known ends, all ends. Plain. How many characters one is, parted as far as it can be. Plain. -/
import Derived.Test.YtggichcfklbjiaaGreatDoorG28
import Derived.Test.YtggichcfklbjiaaGreatDoorG25
section
set_option linter.unusedSimpArgs false
set_option linter.unusedVariables false
namespace Go.Proofs.YtggichcfklbjiaaGreatDoor
section
variable {prt : Int → Option (List UInt8 × List Int)}
theorem decH_syl {r : Int} (h : 44032 ≤ r ∧ r < 55204) : (decH prt r).2 = [(splitH r).1, (splitH r).2.1] := by unfold decH; rw [if_pos h]
theorem decH_not {r : Int} (h : ¬ (44032 ≤ r ∧ r < 55204)) : (decH prt r).2 = ((prt r).getD ([], [])).2 := by unfold decH; rw [if_neg h]
/-- What is no syllable ends, if it is not parted. -/
theorem ends_plain (hK : ∀ r, (prt r).isSome = true → Ends (fun x => (decH prt x).2) r) {r : Int} (h : ¬ (44032 ≤ r ∧ r < 55204)) : Ends (fun x => (decH prt x).2) r := by
  cases hp : prt r with
  | some q => exact hK r (by rw [hp]; rfl)
  | none =>
    refine Ends.of fun y hy => ?_
    rw [decH_not h, hp] at hy
    cases hy
theorem split_two {r : Int} (h : 44032 ≤ r ∧ r < 55204) (ht : (r - 44032) % 28 = 0) : (splitH r).1 = 4352 + (r - 44032) / 588 ∧ (splitH r).2.1 = 4449 + (r - 44032) / 28 % 21 := by
  unfold splitH
  rw [if_pos h, if_neg (by omega)]
  exact ⟨rfl, rfl⟩
theorem split_three {r : Int} (h : 44032 ≤ r ∧ r < 55204) (ht : (r - 44032) % 28 ≠ 0) : (splitH r).1 = r - (r - 44032) % 28 ∧ (splitH r).2.1 = 4519 + (r - 44032) % 28 := by
  unfold splitH
  rw [if_pos h, if_pos (by omega)]
  exact ⟨rfl, rfl⟩
theorem ends_lv (hK : ∀ r, (prt r).isSome = true → Ends (fun x => (decH prt x).2) r) {r : Int} (h : 44032 ≤ r ∧ r < 55204) (ht : (r - 44032) % 28 = 0) : Ends (fun x => (decH prt x).2) r := by
  refine Ends.of fun y hy => ?_
  obtain ⟨e1, e2⟩ := split_two h ht
  rw [decH_syl h, e1, e2] at hy
  simp only [List.mem_cons, List.not_mem_nil, or_false] at hy
  rcases hy with rfl | rfl
  · exact ends_plain hK (by omega)
  · exact ends_plain hK (by omega)
theorem ends_all (hK : ∀ r, (prt r).isSome = true → Ends (fun x => (decH prt x).2) r) (r : Int) : Ends (fun x => (decH prt x).2) r := by
  by_cases h : 44032 ≤ r ∧ r < 55204
  · by_cases ht : (r - 44032) % 28 = 0
    · exact ends_lv hK h ht
    · refine Ends.of fun y hy => ?_
      obtain ⟨e1, e2⟩ := split_three h ht
      rw [decH_syl h, e1, e2] at hy
      simp only [List.mem_cons, List.not_mem_nil, or_false] at hy
      rcases hy with rfl | rfl
      · exact ends_lv hK (by omega) (by omega)
      · exact ends_plain hK (by omega)
  · exact ends_plain hK h
/-- What a character is parted into lies among the characters, if all that is told does. -/
theorem decH_allR (hI : ∀ r q, prt r = some q → ∀ y ∈ q.2, y ∈ allR) (x : Int) : ∀ y ∈ (decH prt x).2, y ∈ allR := by
  intro y hy
  by_cases h : 44032 ≤ x ∧ x < 55204
  · by_cases ht : (x - 44032) % 28 = 0
    · obtain ⟨e1, e2⟩ := split_two h ht
      rw [decH_syl h, e1, e2] at hy
      simp only [List.mem_cons, List.not_mem_nil, or_false] at hy
      rw [mem_allR]
      rcases hy with rfl | rfl <;> omega
    · obtain ⟨e1, e2⟩ := split_three h ht
      rw [decH_syl h, e1, e2] at hy
      simp only [List.mem_cons, List.not_mem_nil, or_false] at hy
      rw [mem_allR]
      rcases hy with rfl | rfl <;> omega
  · rw [decH_not h] at hy
    cases hp : prt x with
    | none => rw [hp] at hy; cases hy
    | some q => rw [hp] at hy; exact hI x q hp y hy
theorem decH_len (hI : ∀ r q, prt r = some q → q.2.length ≤ 18) (x : Int) : (decH prt x).2.length ≤ 18 := by
  by_cases h : 44032 ≤ x ∧ x < 55204
  · rw [decH_syl h]; simp
  · rw [decH_not h]
    cases hp : prt x with
    | none => simp
    | some q => exact hI x q hp
end
end Go.Proofs.YtggichcfklbjiaaGreatDoor
end

section
set_option linter.unusedSimpArgs false
set_option linter.unusedVariables false
namespace Go.Proofs.YtggichcfklbjiaaGreatDoor
theorem wf_of {D : Int → List Int} (h : ∀ x, Ends D x) : WellFounded fun y x => y ∈ D x := ⟨h⟩
noncomputable def lenD (D : Int → List Int) (wf : WellFounded fun y x => y ∈ D x) : Int → Nat :=
  wf.fix fun x ih => if D x = [] then 1 else ((D x).attach.map fun y => ih y.1 y.2).sum
theorem map_attach' {α β : Type} (l : List α) (f : α → β) : (l.attach.map fun x => f x.1) = l.map f := by
  rw [show (fun x : {x // x ∈ l} => f x.1) = f ∘ Subtype.val from rfl, ← List.map_map]
  simp
theorem lenD_eq (D : Int → List Int) (wf : WellFounded fun y x => y ∈ D x) (x : Int) : lenD D wf x = if D x = [] then 1 else ((D x).map (lenD D wf)).sum := by
  have : lenD D wf x = if D x = [] then 1 else ((D x).attach.map fun y => lenD D wf y.1).sum := by
    unfold lenD
    rw [WellFounded.fix_eq]
  rw [this, map_attach']
theorem lenD_pos (D : Int → List Int) (wf : WellFounded fun y x => y ∈ D x) (x : Int) : 1 ≤ lenD D wf x := by
  induction x using wf.induction with
  | _ x ih =>
    rw [lenD_eq]
    by_cases h : D x = []
    · rw [if_pos h]; exact Nat.le_refl _
    · rw [if_neg h]
      cases hd : D x with
      | nil => exact absurd hd h
      | cons a l =>
        have := ih a (by rw [hd]; simp)
        rw [List.map_cons, List.sum_cons]
        omega
/-- It is the length of what the form's law parts a character into, with kinds. -/
theorem lenD_one (B : BaseF) (x : Int) : lenD (fun r => (B.dec r).2) B.wf x = (B.one true x).length := by
  induction x using B.wf.induction with
  | _ x ih =>
    have hp : B.parts true x = (B.dec x).2 := by unfold BaseF.parts; simp
    rw [lenD_eq, B.one_eq, hp]
    by_cases h : (B.dec x).2 = []
    · simp [h]
    · rw [if_neg h, if_neg h, List.length_flatMap]
      congr 1
      exact List.map_congr_left fun y hy => ih y hy
end Go.Proofs.YtggichcfklbjiaaGreatDoor
end
