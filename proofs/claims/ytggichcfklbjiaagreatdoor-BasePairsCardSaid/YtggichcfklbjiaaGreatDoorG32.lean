/- The plain laws of syllables: Join and Split are each other's backs, Full is Split again and again, Parts and Syllables done again turn nothing. No program stands here. A base, as the forms' laws want it. Plain. -/
import Derived.Test.YtggichcfklbjiaaGreatDoorG16
import Derived.Test.YtggichcfklbjiaaGreatDoorG31
section
namespace Go.Proofs.YtggichcfklbjiaaGreatDoor
open Go.RowKit

theorem split_yes_eq {r : Int} (h : 44032 ≤ r ∧ r < 55204) : splitH r = if 0 < (r - 44032) % 28 then (r - (r - 44032) % 28, 4519 + (r - 44032) % 28, true) else (4352 + (r - 44032) / 588, 4449 + (r - 44032) / 28 % 21, true) := by unfold splitH; rw [if_pos h]
theorem split_back {r : Int} (h : isH r = true) : joinH (splitH r).1 (splitH r).2.1 = (r, true) ∧ (splitH r).2.2 = true ∧ isH (splitH r).2.1 = false := by
  have h' := isH_true h
  rw [split_yes_eq h']
  split
  · refine ⟨?_, rfl, by simp [isH]; omega⟩
    unfold joinH
    rw [if_neg (by simp only []; omega), if_pos (by simp only []; omega)]
    simp only [Prod.mk.injEq, and_true]
    omega
  · refine ⟨?_, rfl, by simp [isH]; omega⟩
    unfold joinH
    rw [if_pos (by simp only []; omega)]
    simp only [Prod.mk.injEq, and_true]
    omega
theorem split_no_eq {r : Int} (h : isH r = false) : splitH r = (0, 0, false) := by unfold splitH; rw [if_neg (isH_false h)]
theorem join_no_eq {a b : Int} (h : (joinH a b).2 = false) : (joinH a b).1 = 0 := by
  unfold joinH at *
  split at h
  · cases h
  · split at h
    · cases h
    · rename_i h1 h2
      rw [if_neg h1, if_neg h2]
theorem join_back {a b : Int} (h : (joinH a b).2 = true) : splitH (joinH a b).1 = (a, b, true) ∧ isH (joinH a b).1 = true := by
  unfold joinH at *
  split at h
  · rename_i h1
    rw [if_pos h1]
    simp only []
    refine ⟨?_, by simp [isH]; omega⟩
    rw [split_yes_eq (by omega), if_neg (by omega)]
    simp only [Prod.mk.injEq, and_true]
    omega
  · split at h
    · rename_i h1 h2
      rw [if_neg h1, if_pos h2]
      simp only []
      refine ⟨?_, by simp [isH]; omega⟩
      rw [split_yes_eq (by omega), if_pos (by omega)]
      simp only [Prod.mk.injEq, and_true]
      omega
    · cases h

theorem fullH_yes_eq {r : Int} (h : 44032 ≤ r ∧ r < 55204) : fullH r = if 0 < (r - 44032) % 28 then [4352 + (r - 44032) / 588, 4449 + (r - 44032) / 28 % 21, 4519 + (r - 44032) % 28] else [4352 + (r - 44032) / 588, 4449 + (r - 44032) / 28 % 21] := by unfold fullH; rw [if_pos h]
/-- Full is Split again and again. -/
theorem full_split {r : Int} (h : isH r = true) : fullH r = if (splitH (splitH r).1).2.2 = true then [(splitH (splitH r).1).1, (splitH (splitH r).1).2.1, (splitH r).2.1] else [(splitH r).1, (splitH r).2.1] := by
  have h' := isH_true h
  rw [split_yes_eq h', fullH_yes_eq h']
  by_cases ht : 0 < (r - 44032) % 28
  · rw [if_pos ht, if_pos ht]
    simp only []
    have e : splitH (r - (r - 44032) % 28) = (4352 + (r - 44032) / 588, 4449 + (r - 44032) / 28 % 21, true) := by
      rw [split_yes_eq (by omega), if_neg (by omega)]
      simp only [Prod.mk.injEq, and_true]
      omega
    rw [e]
    simp
  · rw [if_neg ht, if_neg ht]
    simp only []
    rw [split_no_eq (r := 4352 + (r - 44032) / 588) (by simp [isH]; omega)]
    simp
theorem full_inj {r s : Int} (hr : isH r = true) (h : fullH r = fullH s) : r = s := by
  have h1 := isH_true hr
  rw [fullH_yes_eq h1] at h
  unfold fullH at h
  split at h <;> split at h <;> (try split at h) <;> simp at h <;> omega
theorem step_nil (r : Int) : syllStep [] r = [r] := rfl
theorem join_lead {x l : Int} (h : 4352 ≤ l ∧ l < 4371) : (joinH x l).2 = false := by
  unfold joinH
  rw [if_neg (by omega), if_neg (by omega)]
theorem join_lv {l v : Int} (h : 4352 ≤ l ∧ l < 4371) (h' : 4449 ≤ v ∧ v < 4470) : joinH l v = (44032 + 588 * (l - 4352) + 28 * (v - 4449), true) := by
  unfold joinH
  rw [if_pos (by omega)]
theorem join_lvt {s t : Int} (h : 44032 ≤ s ∧ s < 55204) (h0 : (s - 44032) % 28 = 0) (h' : 4519 < t ∧ t < 4547) : joinH s t = (s + (t - 4519), true) := by
  unfold joinH
  rw [if_neg (by omega), if_pos ⟨h.1, h.2, h0, h'.1, h'.2⟩]
/-- Behind whatever is there, the characters of a syllable come to it. -/
theorem fold_full (out : List Int) {r : Int} (h : isH r = true) : (fullH r).foldl syllStep out = out ++ [r] := by
  have h' := isH_true h
  have hl : syllStep out (4352 + (r - 44032) / 588) = out ++ [4352 + (r - 44032) / 588] := by
    rcases List.eq_nil_or_concat out with rfl | ⟨q, x, rfl⟩
    · rfl
    · rw [List.concat_eq_append, syllStep_snoc, join_lead (by omega)]
      simp
  have hv : syllStep (out ++ [4352 + (r - 44032) / 588]) (4449 + (r - 44032) / 28 % 21) = out ++ [r - (r - 44032) % 28] := by
    rw [syllStep_snoc, join_lv (by omega) (by omega)]
    simp only [if_true]
    rw [show 44032 + 588 * (4352 + (r - 44032) / 588 - 4352) + 28 * (4449 + (r - 44032) / 28 % 21 - 4449) = r - (r - 44032) % 28 by omega]
  rw [fullH_yes_eq h']
  by_cases ht : 0 < (r - 44032) % 28
  · rw [if_pos ht]
    simp only [List.foldl_cons, List.foldl_nil]
    rw [hl, hv, syllStep_snoc, join_lvt (by omega) (by omega) (by omega)]
    simp only [if_true]
    rw [show r - (r - 44032) % 28 + (4519 + (r - 44032) % 28 - 4519) = r by omega]
  · rw [if_neg ht]
    simp only [List.foldl_cons, List.foldl_nil]
    rw [hl, hv, show r - (r - 44032) % 28 = r by omega]
theorem syll_full {r : Int} (h : isH r = true) : syllH (fullH r) = [r] := by simpa [syllH] using fold_full [] h
theorem fold_parts (l : List Int) : ∀ out : List Int, (∀ r ∈ l, isH r = true) → (partsH l).foldl syllStep out = out ++ l := by
  induction l with
  | nil => intro out _; simp [partsH]
  | cons a t ih =>
    intro out h
    have ha := h a (by simp)
    have hp : partOne a = fullH a := by unfold partOne; rw [if_pos (isH_true ha)]
    have e : partsH (a :: t) = fullH a ++ partsH t := by simp [partsH, hp]
    rw [e, List.foldl_append, fold_full out ha, ih _ (fun r hr => h r (by simp [hr]))]
    simp
theorem syll_parts (l : List Int) (h : ∀ r ∈ l, isH r = true) : syllH (partsH l) = l := by simpa [syllH] using fold_parts l [] h

theorem part_of_join {x r : Int} (h : (joinH x r).2 = true) : partOne (joinH x r).1 = partOne x ++ partOne r := by
  unfold joinH at *
  split at h
  · rename_i h1
    rw [if_pos h1]
    simp only []
    have e1 : partOne x = [x] := by unfold partOne; rw [if_neg (by omega)]
    have e2 : partOne r = [r] := by unfold partOne; rw [if_neg (by omega)]
    have e3 : partOne (44032 + 588 * (x - 4352) + 28 * (r - 4449)) = [x, r] := by
      unfold partOne
      rw [if_pos (by omega), fullH_yes_eq (by omega), if_neg (by omega)]
      simp only [List.cons.injEq, and_true]
      omega
    rw [e1, e2, e3]
    rfl
  · split at h
    · rename_i h1 h2
      rw [if_neg h1, if_pos h2]
      simp only []
      have e1 : partOne x = [4352 + (x - 44032) / 588, 4449 + (x - 44032) / 28 % 21] := by
        unfold partOne
        rw [if_pos (by omega), fullH_yes_eq (by omega), if_neg (by omega)]
      have e2 : partOne r = [r] := by unfold partOne; rw [if_neg (by omega)]
      have e3 : partOne (x + (r - 4519)) = [4352 + (x - 44032) / 588, 4449 + (x - 44032) / 28 % 21, r] := by
        unfold partOne
        rw [if_pos (by omega), fullH_yes_eq (by omega), if_pos (by omega)]
        simp only [List.cons.injEq, and_true]
        omega
      rw [e1, e2, e3]
      rfl
    · cases h
theorem parts_step (out : List Int) (r : Int) : partsH (syllStep out r) = partsH out ++ partOne r := by
  rcases List.eq_nil_or_concat out with rfl | ⟨q, x, rfl⟩
  · simp [syllStep, partsH]
  · rw [List.concat_eq_append, syllStep_snoc]
    split
    · rename_i h
      rw [partsH_snoc, partsH_snoc, part_of_join h, List.append_assoc]
    · rw [partsH_snoc]
theorem parts_fold (l : List Int) : ∀ out : List Int, partsH (l.foldl syllStep out) = partsH out ++ partsH l := by
  induction l with
  | nil => intro out; simp [partsH]
  | cons a t ih =>
    intro out
    rw [List.foldl_cons, ih, parts_step]
    simp [partsH]
theorem parts_syll (l : List Int) : partsH (syllH l) = partsH l := by
  have := parts_fold l []
  simpa [syllH, partsH] using this
theorem part_part (r : Int) : partsH (partOne r) = partOne r := by
  unfold partOne
  split
  · rename_i h
    have hp : ∀ z ∈ fullH r, partOne z = [z] := by
      intro z hz
      rw [fullH_yes_eq h] at hz
      unfold partOne
      rw [if_neg]
      split at hz <;> simp at hz <;> omega
    have : ∀ l : List Int, (∀ z ∈ l, partOne z = [z]) → partsH l = l := by
      intro l
      induction l with
      | nil => intro _; rfl
      | cons a t ih =>
        intro hl
        have h1 := hl a (by simp)
        have h2 := ih (fun z hz => hl z (by simp [hz]))
        simp only [partsH, List.flatMap_cons] at h2 ⊢
        rw [h1, h2]
        rfl
    exact this _ hp
  · rename_i h
    simp [partsH, partOne, h]
theorem parts_parts (l : List Int) : partsH (partsH l) = partsH l := by
  induction l with
  | nil => rfl
  | cons a t ih =>
    have e : partsH (a :: t) = partOne a ++ partsH t := by simp [partsH]
    have ea : ∀ x y : List Int, partsH (x ++ y) = partsH x ++ partsH y := by intro x y; simp [partsH]
    rw [e, ea, part_part, ih]

/-- No two neighbours make a syllable. -/
def Still (l : List Int) : Prop := ∀ q x r t, l = q ++ [x, r] ++ t → (joinH x r).2 = false
theorem join_syll {x s : Int} (h : isH s = true) : (joinH x s).2 = false := by
  have h' := isH_true h
  unfold joinH
  rw [if_neg (by omega), if_neg (by omega)]
theorem still_snoc {q : List Int} {x r : Int} (h : Still (q ++ [x])) (hj : (joinH x r).2 = false) : Still (q ++ [x] ++ [r]) := by
  intro q' x' r' t' e
  rcases List.eq_nil_or_concat t' with rfl | ⟨t'', y, rfl⟩
  · have e' : (q ++ [x]) ++ [r] = (q' ++ [x']) ++ [r'] := by rw [e]; simp
    have h1 := List.append_inj_left' e' rfl
    have h2 := List.append_inj_right' e' rfl
    have h3 := List.append_inj_right' h1 rfl
    simp at h2 h3
    rw [← h2, ← h3]
    exact hj
  · rw [List.concat_eq_append] at e
    have e' : (q ++ [x]) ++ [r] = (q' ++ [x', r'] ++ t'') ++ [y] := by rw [e]; simp
    have h1 := List.append_inj_left' e' rfl
    exact h q' x' r' t'' h1
theorem still_init {q : List Int} {x : Int} (h : Still (q ++ [x])) : Still q := by
  intro q' x' r' t' e
  exact h q' x' r' (t' ++ [x]) (by rw [e]; simp)
theorem still_step {out : List Int} {r : Int} (h : Still out) : Still (syllStep out r) := by
  rcases List.eq_nil_or_concat out with rfl | ⟨q, x, rfl⟩
  · intro q' x' r' t' e
    have := congrArg List.length e
    simp [syllStep] at this
    omega
  · rw [List.concat_eq_append] at h ⊢
    rw [syllStep_snoc]
    split
    · rename_i hj
      have hs := (join_back hj).2
      rcases List.eq_nil_or_concat q with rfl | ⟨q2, y, rfl⟩
      · intro q' x' r' t' e
        have := congrArg List.length e
        simp at this
        omega
      · rw [List.concat_eq_append] at h ⊢
        exact still_snoc (still_init h) (join_syll hs)
    · rename_i hj
      exact still_snoc h (by simpa using hj)
theorem still_fold (l : List Int) : ∀ out, Still out → Still (l.foldl syllStep out) := by
  induction l with
  | nil => intro out h; exact h
  | cons a t ih => intro out h; exact ih _ (still_step h)
theorem still_same (l : List Int) : ∀ out, Still (out ++ l) → l.foldl syllStep out = out ++ l := by
  induction l with
  | nil => intro out _; simp
  | cons a t ih =>
    intro out h
    have e : syllStep out a = out ++ [a] := by
      rcases List.eq_nil_or_concat out with rfl | ⟨q, x, rfl⟩
      · rfl
      · rw [List.concat_eq_append] at h ⊢
        rw [syllStep_snoc, h q x a t (by simp)]
        simp
    rw [List.foldl_cons, e, ih _ (by simpa using h)]
    simp
theorem syll_syll (l : List Int) : syllH (syllH l) = syllH l := by
  have h : Still (syllH l) := still_fold l [] (by
    intro q x r t e
    have := congrArg List.length e
    simp at this)
  have := still_same (syllH l) [] (by simpa using h)
  simpa [syllH] using this
end Go.Proofs.YtggichcfklbjiaaGreatDoor
end

section
set_option linter.unusedSimpArgs false
set_option linter.unusedVariables false
namespace Go.Proofs.YtggichcfklbjiaaGreatDoor
/-- What a base's classes, parts and maps must say of each other. -/
structure BaseOk (cls : Int → Int) (prt : Int → Option (List UInt8 × List Int)) (pr : Int × Int → Option Int) (sc : Int → Option Int) : Prop where
  cls0 : ∀ r, 0 ≤ cls r
  ch : ∀ r, 44032 ≤ r ∧ r < 55204 → cls r = 0
  ph : ∀ r, 44032 ≤ r ∧ r < 55204 → prt r = none
  made : ∀ x y r, pr (x, y) = some r → prt r = some ([], [x, y]) ∧ cls r = 0 ∧ 0 < gd sc y
  ends : ∀ r, Ends (fun x => (decH prt x).2) r
theorem joinH_hang {x y : Int} (h : (joinH x y).2 = true) : 44032 ≤ (joinH x y).1 ∧ (joinH x y).1 < 55204 := by
  unfold joinH at h ⊢
  split
  · simp only []; omega
  · rename_i h1
    rw [if_neg h1] at h
    split at h
    · rename_i h2; rw [if_pos h2]; simp only []; omega
    · cases h
theorem joinH_sec {x y : Int} (h : (joinH x y).2 = true) : ((joinH 4352 y).2 || (joinH 44032 y).2) = true := by
  unfold joinH at h
  split at h
  · rename_i h1
    have : (joinH 4352 y).2 = true := by unfold joinH; rw [if_pos (by omega)]
    rw [this]; rfl
  · split at h
    · rename_i h2
      have : (joinH 44032 y).2 = true := by unfold joinH; rw [if_neg (by omega), if_pos (by omega)]
      rw [this]; simp
    · cases h
def BaseOk.toF {cls : Int → Int} {prt : Int → Option (List UInt8 × List Int)} {pr : Int × Int → Option Int} {sc : Int → Option Int} (h : BaseOk cls prt pr sc) : BaseF where
  cls := cls
  dec := decH prt
  pair := pairH pr
  sec := secH sc
  cls0 := h.cls0
  made := fun x y r hp => by
    unfold pairH at hp
    cases hq : pr (x, y) with
    | some q =>
      rw [hq] at hp
      injection hp with hp
      subst hp
      obtain ⟨h1, h2, h3⟩ := h.made x y q hq
      have hn : ¬ (44032 ≤ q ∧ q < 55204) := fun e => by rw [h.ph q e] at h1; cases h1
      refine ⟨by unfold decH; rw [if_neg hn, h1]; rfl, h2, ?_⟩
      unfold secH
      unfold gd at h3
      simp [h3]
    | none =>
      rw [hq] at hp
      simp only [] at hp
      split at hp
      · rename_i hj
        injection hp with hp
        subst hp
        obtain ⟨h1, h2⟩ := join_back hj
        have hh := joinH_hang hj
        refine ⟨by unfold decH; rw [if_pos hh, h1], h.ch _ hh, ?_⟩
        unfold secH
        rw [joinH_sec hj]
        simp
      · cases hp
  wf := wf_of h.ends
end Go.Proofs.YtggichcfklbjiaaGreatDoor
end
