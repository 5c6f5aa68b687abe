/- Rows of a file: plain laws. Rows of two texts, one behind the other: plain laws. -/
import Derived.Test.YtagncjnbabdbmaaGreatDoorUcdWU
section
set_option linter.unusedSimpArgs false
set_option linter.unusedVariables false
namespace Go.Proofs.YtagncjnbabdbmaaGreatDoor
open Go.RowKit

/-- What holds of what a line tells, and of the range of two, holds of all rows. -/
theorem rowsW_all {P : RowS → Prop} (hp : ∀ l, (parseS l).2 = 0 → P (parseS l).1) (hc : ∀ f x, P f → P x → ¬ closeB f x → P (rangeR f x)) :
    ∀ (ls : List (Int × List UInt8)) (st : StU), (∀ x ∈ st.out, P x) → (∀ f, st.op = some f → P f) → ∀ x ∈ (rowsW st ls).1.out, P x
  | [], st, ho, hf => ho
  | p :: ls, st, ho, hf => by
    have key : (∀ x ∈ (takeS st p.2).1.out, P x) ∧ ∀ f, (takeS st p.2).1.op = some f → P f := by
      unfold takeS
      split
      · exact ⟨ho, hf⟩
      · have hx := hp p.2 (by simpa using ‹¬ (parseS p.2).2 ≠ 0›)
        generalize (parseS p.2).1 = x at *
        unfold takeR closeS freeS
        split
        · rename_i f hst
          split
          · exact ⟨ho, hf⟩
          · split
            · exact ⟨ho, hf⟩
            · refine ⟨fun y hy => ?_, fun f h => absurd h (by simp)⟩
              rcases List.mem_append.1 hy with hy | hy
              · exact ho y hy
              · rw [List.mem_singleton] at hy
                subst hy
                exact hc f x (hf f hst) hx (by assumption)
        · split
          · exact ⟨ho, hf⟩
          · split
            · exact ⟨ho, hf⟩
            · split
              · exact ⟨ho, fun f h => by injection h with h; subst h; exact hx⟩
              · refine ⟨fun y hy => ?_, fun f h => absurd h (by simp)⟩
                rcases List.mem_append.1 hy with hy | hy
                · exact ho y hy
                · rw [List.mem_singleton] at hy
                  subst hy
                  exact hx
    by_cases he : (takeS st p.2).2 = 0
    · rw [rowsW_good he]
      exact rowsW_all hp hc ls _ key.1 key.2
    · rw [rowsW_bad he]
      exact ho
theorem rowsS_all {P : RowS → Prop} (hp : ∀ l, (parseS l).2 = 0 → P (parseS l).1) (hc : ∀ f x, P f → P x → ¬ closeB f x → P (rangeR f x)) (s : List UInt8) : ∀ x ∈ (rowsS s).1, P x := by
  unfold rowsS endU
  split
  · intro x hx; simp at hx
  · split
    · intro x hx; simp at hx
    · split
      · intro x hx; simp at hx
      · exact rowsW_all hp hc _ _ (fun x hx => by simp at hx) (fun f h => by simp at h)
theorem rows_il (s : List UInt8) : ∀ x ∈ (rowsS s).1, x.il.length ≤ 18 :=
  rowsS_all (fun l _ => (parse_ok l).2) (fun f x _ _ _ => Nat.zero_le _) s
theorem takeS_len (st : StU) (l : List UInt8) : (takeS st l).1.out.length ≤ st.out.length + 1 := by
  unfold takeS
  split
  · exact Nat.le_succ _
  · generalize (parseS l).1 = x
    unfold takeR closeS freeS
    repeat' split
    all_goals simp
theorem rowsW_len : ∀ (ls : List (Int × List UInt8)) (st : StU), (rowsW st ls).1.out.length ≤ st.out.length + ls.length
  | [], st => by simp [rowsW]
  | p :: ls, st => by
    have h1 := takeS_len st p.2
    by_cases he : (takeS st p.2).2 = 0
    · rw [rowsW_good he]
      have := rowsW_len ls (takeS st p.2).1
      simp only [List.length_cons]
      omega
    · rw [rowsW_bad he]
      simp only []
      omega
theorem rowsS_len (s : List UInt8) : (rowsS s).1.length ≤ 4096 := by
  have hl := (linesS_ok s).2
  unfold rowsS endU
  split
  · simp
  · split
    · simp
    · split
      · simp
      · have := rowsW_len (linesS s).1 ⟨[], none, -1⟩
        simp only [List.length_nil] at this
        show (rowsW ⟨[], none, -1⟩ (linesS s).1).1.out.length ≤ 4096
        omega
end Go.Proofs.YtagncjnbabdbmaaGreatDoor
end

section
set_option linter.unusedSimpArgs false
set_option linter.unusedVariables false
namespace Go.Proofs.YtagncjnbabdbmaaGreatDoor
open Go.RowKit

theorem cutR_join (c : UInt8) (b : List UInt8) : ∀ (a cur : List UInt8), cutR c cur (a ++ c :: b) = cutR c cur a ++ cutR c [] b
  | [], cur => by simp [cutR]
  | x :: a, cur => by
    by_cases hx : x = c
    · subst hx
      simp [cutR, cutR_join x b a []]
    · simp [cutR, hx, cutR_join c b a (cur ++ [x])]
theorem cutL_join (c : UInt8) (a b : List UInt8) : cutL c (a ++ c :: b) = cutL c a ++ cutL c b := by
  rw [cutL_R, cutL_R, cutL_R, cutR_join]
/-- What lines tell, each with its number. -/
def tellsK : Nat → List (List UInt8) → List (Int × List UInt8)
  | _, [] => []
  | k, l :: ls => (if tellL l = [] then [] else [((k : Int) + 1, tellL l)]) ++ tellsK (k + 1) ls
theorem linesW_tells : ∀ (ls : List (List UInt8)) (out : List (Int × List UInt8)) (k : Nat), linesW out k ls = if ∀ l ∈ ls, l.length ≤ 512 then (out ++ tellsK k ls, 0) else ([], 10)
  | [], out, k => by simp [linesW, tellsK]
  | l :: ls, out, k => by
    by_cases hl : 512 < l.length
    · rw [linesW_long hl, if_neg]
      intro h
      have := h l (by simp)
      omega
    · have hiff : (∀ x ∈ l :: ls, x.length ≤ 512) ↔ ∀ x ∈ ls, x.length ≤ 512 :=
        ⟨fun h x hx => h x (by simp [hx]), fun h x hx => by
          rcases List.mem_cons.1 hx with rfl | hx
          · omega
          · exact h x hx⟩
      simp only [hiff]
      by_cases ht : tellL l = []
      · rw [linesW_none hl ht, linesW_tells ls out (k + 1)]
        simp [tellsK, ht]
      · rw [linesW_some hl ht, linesW_tells ls _ (k + 1)]
        simp [tellsK, ht]
theorem tellsK_app : ∀ (ls ms : List (List UInt8)) (k : Nat), tellsK k (ls ++ ms) = tellsK k ls ++ tellsK (k + ls.length) ms
  | [], ms, k => by simp [tellsK]
  | l :: ls, ms, k => by
    show (if tellL l = [] then [] else [((k : Int) + 1, tellL l)]) ++ tellsK (k + 1) (ls ++ ms) = ((if tellL l = [] then [] else [((k : Int) + 1, tellL l)]) ++ tellsK (k + 1) ls) ++ tellsK (k + (ls.length + 1)) ms
    rw [tellsK_app ls ms (k + 1), List.append_assoc, show k + 1 + ls.length = k + (ls.length + 1) by omega]
theorem tellsK_snd : ∀ (ls : List (List UInt8)) (k j : Nat), (tellsK k ls).map (·.2) = (tellsK j ls).map (·.2)
  | [], k, j => rfl
  | l :: ls, k, j => by
    simp only [tellsK, List.map_append, tellsK_snd ls (k + 1) (j + 1)]
    split <;> simp
theorem tellsK_pos : ∀ (ls : List (List UInt8)) (k : Nat), ∀ p ∈ tellsK k ls, 0 < p.1
  | [], k, p, h => by simp [tellsK] at h
  | l :: ls, k, p, h => by
    simp only [tellsK, List.mem_append] at h
    rcases h with h | h
    · split at h
      · simp at h
      · rw [List.mem_singleton] at h
        subst h
        show (0 : Int) < (k : Int) + 1
        omega
    · exact tellsK_pos ls (k + 1) p h
/-- A text's lines, if there is nothing wrong with them. -/
theorem linesS_good {s : List UInt8} (h : (linesS s).2 = 0) : (cutL 10 s).length ≤ 4096 ∧ (∀ l ∈ cutL 10 s, l.length ≤ 512) ∧ (linesS s).1 = tellsK 0 (cutL 10 s) := by
  unfold linesS at *
  split at h
  · simp at h
  · rename_i hl
    rw [if_neg hl]
    rw [linesW_tells] at *
    split at h
    · rename_i ha
      rw [if_pos ha]
      exact ⟨by omega, ha, by simp⟩
    · simp at h
theorem linesS_join {s t : List UInt8} (hs : (linesS s).2 = 0) (ht : (linesS t).2 = 0) (hl : s.length + t.length ≤ 4000) :
    (linesS (s ++ 10 :: t)).2 = 0 ∧ (linesS (s ++ 10 :: t)).1 = (linesS s).1 ++ tellsK (cutL 10 s).length (cutL 10 t) := by
  obtain ⟨h1, h2, h3⟩ := linesS_good hs
  obtain ⟨k1, k2, k3⟩ := linesS_good ht
  have l1 := cutL_len 10 s
  have l2 := cutL_len 10 t
  have hall : ∀ l ∈ cutL 10 s ++ cutL 10 t, l.length ≤ 512 := fun l hm => by
    rcases List.mem_append.1 hm with hm | hm
    · exact h2 l hm
    · exact k2 l hm
  rw [h3]
  unfold linesS
  rw [cutL_join, if_neg (by rw [List.length_append]; omega), linesW_tells, if_pos hall, tellsK_app]
  simp
theorem rowsW_zero : ∀ (L : List (Int × List UInt8)) (st : StU), (rowsW st L).2.2 = 0 → rowsW st L = ((rowsW st L).1, 0, 0)
  | [], st, h => rfl
  | p :: L, st, h => by
    by_cases he : (takeS st p.2).2 = 0
    · rw [rowsW_good he] at h ⊢
      exact rowsW_zero L _ h
    · rw [rowsW_bad he] at h
      exact absurd h he
theorem rowsW_app : ∀ (L M : List (Int × List UInt8)) (st : StU), (rowsW st L).2.2 = 0 → rowsW st (L ++ M) = rowsW (rowsW st L).1 M
  | [], M, st, h => rfl
  | p :: L, M, st, h => by
    by_cases he : (takeS st p.2).2 = 0
    · rw [rowsW_good he] at h ⊢
      rw [List.cons_append, rowsW_good he]
      exact rowsW_app L M _ h
    · rw [rowsW_bad he] at h
      exact absurd h he
theorem rowsW_num : ∀ (L M : List (Int × List UInt8)) (st : StU), L.map (·.2) = M.map (·.2) → (rowsW st L).1 = (rowsW st M).1 ∧ (rowsW st L).2.2 = (rowsW st M).2.2
  | [], [], st, h => ⟨rfl, rfl⟩
  | [], q :: M, st, h => by simp at h
  | p :: L, [], st, h => by simp at h
  | p :: L, q :: M, st, h => by
    simp only [List.map_cons, List.cons.injEq] at h
    obtain ⟨h1, h2⟩ := h
    by_cases he : (takeS st p.2).2 = 0
    · rw [rowsW_good he, rowsW_good (by rw [← h1]; exact he), ← h1]
      exact rowsW_num L M _ h2
    · rw [rowsW_bad he, rowsW_bad (by rw [← h1]; exact he), ← h1]
      exact ⟨rfl, rfl⟩
/-- The greatest character of rows. -/
def lastUp (l : List RowS) : Int := match l.getLast? with | some x => x.up | none => -1
theorem lastUp_snoc (l : List RowS) (x : RowS) : lastUp (l ++ [x]) = x.up := by simp [lastUp]
theorem lastUp_nil : lastUp [] = -1 := rfl
theorem parse_up (l : List UInt8) : (parseS l).1.up = (parseS l).1.fr := by
  unfold parseS parseF
  repeat' split
  all_goals rfl
/-- One line that is taken. -/
theorem take_cases {st : StU} {l : List UInt8} (h : (takeS st l).2 = 0) :
    (∃ f, st.op = some f ∧ ¬ closeB f (parseS l).1 ∧ (takeS st l).1 = ⟨st.out ++ [rangeR f (parseS l).1], none, (parseS l).1.fr⟩) ∨
    (st.op = none ∧ st.was < (parseS l).1.fr ∧ ((takeS st l).1 = ⟨st.out, some (parseS l).1, st.was⟩ ∨ (takeS st l).1 = ⟨st.out ++ [(parseS l).1], none, (parseS l).1.fr⟩)) := by
  have hp : (parseS l).2 = 0 := by
    by_cases hp : (parseS l).2 = 0
    · exact hp
    · exfalso
      unfold takeS at h
      rw [if_pos hp] at h
      exact hp h
  have ht : takeS st l = takeR st (parseS l).1 := by unfold takeS; rw [if_neg (by rw [hp]; simp)]
  rw [ht] at h ⊢
  generalize (parseS l).1 = x at *
  unfold takeR at *
  cases hst : st.op with
  | some f =>
    simp only [hst] at h ⊢
    refine .inl ⟨f, rfl, ?_⟩
    split at h
    · simp at h
    · rename_i hi
      rw [if_neg hi]
      unfold closeS at *
      split at h
      · simp at h
      · rename_i hc
        rw [if_neg hc]
        exact ⟨hc, rfl⟩
  | none =>
    simp only [hst] at h ⊢
    refine .inr ⟨by trivial, ?_⟩
    split at h
    · simp at h
    · rename_i hi
      rw [if_neg hi]
      unfold freeS at *
      split at h
      · simp at h
      · rename_i hw
        rw [if_neg hw]
        refine ⟨by omega, ?_⟩
        split
        · exact .inl rfl
        · exact .inr rfl
/-- 'was' is the greatest character. -/
theorem rowsW_was : ∀ (L : List (Int × List UInt8)) (st : StU), st.was = lastUp st.out → (rowsW st L).1.was = lastUp (rowsW st L).1.out
  | [], st, h => h
  | p :: L, st, h => by
    by_cases he : (takeS st p.2).2 = 0
    · rw [rowsW_good he]
      refine rowsW_was L _ ?_
      rcases take_cases he with ⟨f, _, _, hh⟩ | ⟨_, _, hh | hh⟩
      · rw [hh, lastUp_snoc]; rfl
      · rw [hh]; exact h
      · rw [hh, lastUp_snoc, parse_up]
    · rw [rowsW_bad he]
      exact h
/-- Rows are only put to the end. -/
theorem rowsW_pre : ∀ (L : List (Int × List UInt8)) (st : StU), ∃ m, (rowsW st L).1.out = st.out ++ m
  | [], st => ⟨[], by simp [rowsW]⟩
  | p :: L, st => by
    by_cases he : (takeS st p.2).2 = 0
    · rw [rowsW_good he]
      obtain ⟨m, hm⟩ := rowsW_pre L (takeS st p.2).1
      rcases take_cases he with ⟨f, _, _, hh⟩ | ⟨_, _, hh | hh⟩
      · exact ⟨[rangeR f (parseS p.2).1] ++ m, by rw [hm, hh]; simp⟩
      · exact ⟨m, by rw [hm, hh]⟩
      · exact ⟨[(parseS p.2).1] ++ m, by rw [hm, hh]; simp⟩
    · rw [rowsW_bad he]
      exact ⟨[], by simp⟩
/-- The same, behind other rows. -/
def Sim (a : List RowS) (u : Int) (st1 st2 : StU) : Prop :=
  st1.out = a ++ st2.out ∧ st1.op = st2.op ∧ (st1.was = st2.was ∨ (st1.was = u ∧ st2.op.isSome = true))
theorem take_some {st : StU} {f : RowS} {l : List UInt8} (hs : st.op = some f) : (takeS st l).2 = (takeS ⟨[], some f, 0⟩ l).2 := by
  unfold takeS takeR closeS
  rw [hs]
  split
  · rfl
  · simp only []
    split
    · rfl
    · split <;> rfl
theorem take_none {st : StU} {l : List UInt8} (hs : st.op = none) : takeS st l = if (parseS l).2 ≠ 0 then (st, (parseS l).2) else if (innerS (parseS l).1.nm LSTB).2 = true then (st, 10) else freeS st (parseS l).1 := by
  unfold takeS takeR
  rw [hs]
theorem take_none_good {st : StU} {l : List UInt8} (hs : st.op = none) (h : (takeS st l).2 = 0) : takeS st l = freeS st (parseS l).1 ∧ (parseS l).2 = 0 ∧ (innerS (parseS l).1.nm LSTB).2 = false := by
  rw [take_none hs] at h ⊢
  by_cases hp : (parseS l).2 = 0
  · rw [if_neg (by rw [hp]; simp)] at h ⊢
    cases hi : (innerS (parseS l).1.nm LSTB).2
    · rw [hi] at h; simp at h ⊢; exact hp
    · rw [hi] at h; simp at h
  · rw [if_pos hp] at h
    exact absurd h hp
theorem sim_step {a : List RowS} {u : Int} {st1 st2 : StU} {l : List UInt8} (hS : Sim a u st1 st2) (h : (takeS st2 l).2 = 0) : (takeS st1 l).2 = 0 ∧ Sim a u (takeS st1 l).1 (takeS st2 l).1 := by
  obtain ⟨h1, h2, h3⟩ := hS
  cases hst : st2.op with
  | some f =>
    rw [hst] at h2
    have e1 : (takeS st1 l).2 = 0 := by rw [take_some h2, ← take_some hst]; exact h
    refine ⟨e1, ?_⟩
    rcases take_cases h with ⟨f2, hf2, _, hh2⟩ | ⟨hn, _⟩
    · rcases take_cases e1 with ⟨f1, hf1, _, hh1⟩ | ⟨hn, _⟩
      · rw [hh1, hh2]
        rw [hst] at hf2
        rw [h2] at hf1
        injection hf1 with hf1
        injection hf2 with hf2
        subst hf1
        subst hf2
        exact ⟨by simp [h1], rfl, .inl rfl⟩
      · rw [h2] at hn; cases hn
    · rw [hst] at hn; cases hn
  | none =>
    rw [hst] at h2
    have hw : st1.was = st2.was := by
      rcases h3 with h3 | ⟨_, h3⟩
      · exact h3
      · rw [hst] at h3; cases h3
    obtain ⟨e2, hp, hi⟩ := take_none_good hst h
    have e1 : takeS st1 l = freeS st1 (parseS l).1 := by rw [take_none h2, if_neg (by rw [hp]; simp), if_neg (by rw [hi]; simp)]
    rw [e1]
    rw [e2] at h ⊢
    unfold freeS at *
    rw [hw]
    split at h
    · simp at h
    · rename_i hg
      rw [if_neg hg, if_neg hg]
      split
      · exact ⟨rfl, h1, rfl, .inl rfl⟩
      · exact ⟨rfl, by simp [h1], rfl, .inl rfl⟩
theorem sim_all : ∀ (M : List (Int × List UInt8)) {a : List RowS} {u : Int} {st1 st2 : StU}, Sim a u st1 st2 → (rowsW st2 M).2.2 = 0 → (rowsW st1 M).2.2 = 0 ∧ Sim a u (rowsW st1 M).1 (rowsW st2 M).1
  | [], a, u, st1, st2, hS, h => ⟨rfl, hS⟩
  | p :: M, a, u, st1, st2, hS, h => by
    by_cases he : (takeS st2 p.2).2 = 0
    · obtain ⟨e1, hS2⟩ := sim_step hS he
      rw [rowsW_good he] at h ⊢
      rw [rowsW_good e1]
      exact sim_all M hS2 h
    · rw [rowsW_bad he] at h
      exact absurd h he
/-- The first row begins where the first line does. -/
theorem first_fr {p : Int × List UInt8} {M : List (Int × List UInt8)} {b : List RowS} {wa : Int} (h : rowsW ⟨[], none, -1⟩ (p :: M) = (⟨b, none, wa⟩, 0, 0)) : ∃ x m, b = x :: m ∧ x.fr = (parseS p.2).1.fr := by
  by_cases he : (takeS ⟨[], none, -1⟩ p.2).2 = 0
  · rw [rowsW_good he] at h
    rcases take_cases he with ⟨f, hf, _⟩ | ⟨_, _, hh | hh⟩
    · cases hf
    · rw [hh] at h
      cases M with
      | nil => simp [rowsW] at h
      | cons q M =>
        by_cases hq : (takeS ⟨[], some (parseS p.2).1, -1⟩ q.2).2 = 0
        · rw [rowsW_good hq] at h
          rcases take_cases hq with ⟨f, hf, _, hh2⟩ | ⟨hn, _⟩
          · injection hf with hf
            rw [hh2, ← hf] at h
            obtain ⟨m, hm⟩ := rowsW_pre M ⟨[] ++ [rangeR (parseS p.2).1 (parseS q.2).1], none, (parseS q.2).1.fr⟩
            rw [h] at hm
            exact ⟨_, m, hm, rfl⟩
          · cases hn
        · rw [rowsW_bad hq] at h
          have := congrArg (fun z => z.2.2) h
          exact absurd this hq
    · rw [hh] at h
      obtain ⟨m, hm⟩ := rowsW_pre M ⟨[] ++ [(parseS p.2).1], none, (parseS p.2).1.fr⟩
      rw [h] at hm
      exact ⟨_, m, hm, rfl⟩
  · rw [rowsW_bad he] at h
    have := congrArg (fun z => z.2.2) h
    exact absurd this he
/-- Lines behind other ones. -/
theorem rowsW_behind {M : List (Int × List UInt8)} {a b : List RowS} {wa : Int} (h : rowsW ⟨[], none, -1⟩ M = (⟨b, none, wa⟩, 0, 0)) :
    (M = [] ∧ b = []) ∨ (∃ p M' x m, M = p :: M' ∧ b = x :: m ∧ ((x.fr ≤ lastUp a ∧ rowsW ⟨a, none, lastUp a⟩ M = (⟨a, none, lastUp a⟩, p.1, 12)) ∨ (lastUp a < x.fr ∧ (rowsW ⟨a, none, lastUp a⟩ M).2.2 = 0 ∧ (rowsW ⟨a, none, lastUp a⟩ M).1.out = a ++ b ∧ (rowsW ⟨a, none, lastUp a⟩ M).1.op = none))) := by
  cases M with
  | nil =>
    left
    simp only [rowsW, Prod.mk.injEq, StU.mk.injEq] at h
    exact ⟨rfl, h.1.1.symm⟩
  | cons p M =>
    right
    obtain ⟨x, m, hb, hx⟩ := first_fr h
    refine ⟨p, M, x, m, rfl, hb, ?_⟩
    have he : (takeS ⟨[], none, -1⟩ p.2).2 = 0 := by
      by_cases he : (takeS ⟨[], none, -1⟩ p.2).2 = 0
      · exact he
      · rw [rowsW_bad he] at h
        have := congrArg (fun z => z.2.2) h
        exact absurd this he
    obtain ⟨e2, hp, hi⟩ := take_none_good rfl he
    have e1 : takeS ⟨a, none, lastUp a⟩ p.2 = freeS ⟨a, none, lastUp a⟩ (parseS p.2).1 := by rw [take_none rfl, if_neg (by rw [hp]; simp), if_neg (by rw [hi]; simp)]
    rw [rowsW_good he] at h
    by_cases hw : x.fr ≤ lastUp a
    · left
      refine ⟨hw, ?_⟩
      have e3 : takeS ⟨a, none, lastUp a⟩ p.2 = (⟨a, none, lastUp a⟩, 12) := by rw [e1]; unfold freeS; rw [if_pos (by rw [← hx]; exact hw)]
      rw [rowsW_bad (by rw [e3]; simp), e3]
    · right
      refine ⟨by omega, ?_⟩
      have hS : Sim a (lastUp a) (takeS ⟨a, none, lastUp a⟩ p.2).1 (takeS ⟨[], none, -1⟩ p.2).1 ∧ (takeS ⟨a, none, lastUp a⟩ p.2).2 = 0 := by
        rw [e1]
        rw [e2] at he ⊢
        unfold freeS at *
        split at he
        · simp at he
        · rename_i hg
          rw [if_neg hg, if_neg (by rw [← hx]; exact hw)]
          split
          · exact ⟨⟨by simp, rfl, .inr ⟨rfl, rfl⟩⟩, rfl⟩
          · exact ⟨⟨by simp, rfl, .inl rfl⟩, rfl⟩
      rw [rowsW_good hS.2]
      obtain ⟨r1, r2, r3, _⟩ := sim_all M hS.1 (by rw [h])
      rw [h] at r2 r3
      exact ⟨r1, r2, r3⟩
/-- THE LAW: the rows of two texts. -/
theorem rows_join {s t : List UInt8} {a b : List RowS} {n1 n2 : Int} (hs : rowsS s = (a, n1, 0)) (ht : rowsS t = (b, n2, 0)) (hl : s.length + t.length ≤ 4000) :
    (∃ x m n, a ≠ [] ∧ b = x :: m ∧ x.fr ≤ lastUp a ∧ 0 < n ∧ rowsS (s ++ 10 :: t) = ([], n, 12)) ∨ ((a = [] ∨ b = [] ∨ ∃ x m, b = x :: m ∧ lastUp a < x.fr) ∧ rowsS (s ++ 10 :: t) = (a ++ b, 0, 0)) := by
  have good : ∀ {u : List UInt8} {r : List RowS} {n : Int}, rowsS u = (r, n, 0) → (linesS u).2 = 0 ∧ ∃ wa, rowsW ⟨[], none, -1⟩ (linesS u).1 = (⟨r, none, wa⟩, 0, 0) := by
    intro u r n h
    unfold rowsS endU at h
    split at h
    · rename_i hh; exact absurd (congrArg (fun z => z.2.2) h) hh
    · rename_i hh
      refine ⟨by simpa using hh, ?_⟩
      split at h
      · rename_i h2; exact absurd (congrArg (fun z => z.2.2) h) h2
      · rename_i h2
        split at h
        · simp at h
        · rename_i h3
          have hz := rowsW_zero (linesS u).1 ⟨[], none, -1⟩ (by simpa using h2)
          obtain ⟨⟨⟨o, op, wa⟩, rest⟩, hq⟩ : ∃ z, z = rowsW ⟨[], none, -1⟩ (linesS u).1 := ⟨_, rfl⟩
          rw [← hq] at hz h3 h ⊢
          have hop : op = none := by cases op with | none => rfl | some f => simp at h3
          subst hop
          refine ⟨wa, ?_⟩
          rw [hz]
          have := congrArg (fun z => z.1) h
          simp only [] at this
          rw [this]
  obtain ⟨ls, wa, hA⟩ := good hs
  obtain ⟨lt, wb, hB⟩ := good ht
  obtain ⟨lj, hj⟩ := linesS_join ls lt hl
  have hA2 : wa = lastUp a := by
    have := rowsW_was (linesS s).1 ⟨[], none, -1⟩ rfl
    rw [hA] at this
    exact this
  subst hA2
  have hnum := rowsW_num (linesS t).1 (tellsK (cutL 10 s).length (cutL 10 t)) ⟨[], none, -1⟩ (by rw [(linesS_good lt).2.2]; exact tellsK_snd _ _ _)
  have hB2 : rowsW ⟨[], none, -1⟩ (tellsK (cutL 10 s).length (cutL 10 t)) = (⟨b, none, wb⟩, 0, 0) := by
    rw [hB] at hnum
    rw [rowsW_zero _ _ hnum.2.symm, ← hnum.1]
  have hpos := tellsK_pos (cutL 10 t) (cutL 10 s).length
  have hall : rowsW ⟨[], none, -1⟩ (linesS (s ++ 10 :: t)).1 = rowsW ⟨a, none, lastUp a⟩ (tellsK (cutL 10 s).length (cutL 10 t)) := by
    rw [hj, rowsW_app _ _ _ (by rw [hA]), hA]
  have hR : rowsS (s ++ 10 :: t) = endU (linesS (s ++ 10 :: t)).1 (rowsW ⟨a, none, lastUp a⟩ (tellsK (cutL 10 s).length (cutL 10 t))) := by
    unfold rowsS
    rw [if_neg (by rw [lj]; simp), hall]
  rw [hR]
  generalize tellsK (cutL 10 s).length (cutL 10 t) = M at *
  rcases rowsW_behind (a := a) hB2 with ⟨h1, h2⟩ | ⟨p, M', x, m, h1, h2, ⟨h3, h4⟩ | ⟨h3, h4, h5, h6⟩⟩
  · right
    refine ⟨.inr (.inl h2), ?_⟩
    rw [h1, h2]
    simp [rowsW, endU]
  · left
    have hx0 : -1 < x.fr := by
      have hf := first_fr (h1 ▸ hB2)
      obtain ⟨x', m', hx', hfr⟩ := hf
      rw [h2] at hx'
      injection hx' with hx' _
      subst hx'
      rw [hfr]
      have he : (takeS ⟨[], none, -1⟩ p.2).2 = 0 := by
        by_cases he : (takeS ⟨[], none, -1⟩ p.2).2 = 0
        · exact he
        · rw [h1, rowsW_bad he] at hB2
          have := congrArg (fun z => z.2.2) hB2
          exact absurd this he
      rcases take_cases he with ⟨f, hf, _⟩ | ⟨_, hw, _⟩
      · cases hf
      · exact hw
    refine ⟨x, m, p.1, ?_, h2, h3, hpos p (by rw [h1]; simp), ?_⟩
    · intro ha
      rw [ha, lastUp_nil] at h3
      omega
    · rw [h4]
      unfold endU
      rw [if_pos (by simp)]
  · right
    refine ⟨.inr (.inr ⟨x, m, h2, h3⟩), ?_⟩
    unfold endU
    rw [if_neg (by rw [h4]; simp), if_neg (by rw [h6]; simp), h5]
end Go.Proofs.YtagncjnbabdbmaaGreatDoor
end
