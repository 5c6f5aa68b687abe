/- Rows rise, and may be; what sets tell rises: plain laws. What New makes of rows and exclusions: when it answers, and which base. Plain. -/
import Derived.Test.YtggichcfklbjiaaGreatDoorG36
import Derived.Test.YtggichcfklbjiaaGreatDoorG24
import Derived.Test.YtggichcfklbjiaaGreatDoorG33
import Derived.Test.YtggichcfklbjiaaGreatDoorG29
import Derived.Test.YtggichcfklbjiaaGreatDoorG27
section
set_option linter.unusedSimpArgs false
set_option linter.unusedVariables false
namespace Go.Proofs.YtggichcfklbjiaaGreatDoor
open Go.RowKit
/-- What holds of each row. -/
structure RowV (x : RowS) : Prop where
  fr : scalarB x.fr = true
  up : scalarB x.up = true
  le : x.fr ≤ x.up
  cl : 0 ≤ x.cl ∧ x.cl ≤ 254
  len : x.il.length ≤ 18
  il : ∀ z ∈ x.il, scalarB z = true
  kd : lettersL x.kd = true
  some : x.kd ≠ [] → x.il ≠ []
  one : x.fr < x.up → x.il = []
theorem hexS_scalar {l : List UInt8} (h : (hexS l).2 = 0) : scalarB (hexS l).1 = true := by
  unfold hexS at *
  split at h
  · simp at h
  · rename_i h1
    rw [if_neg h1]
    split at h
    · rename_i h2
      rw [if_pos h2]
      exact h2
    · simp at h
theorem runesW_scalar : ∀ (ws : List (List UInt8)) (out : List Int), (runesW out ws).2 = 0 → (∀ z ∈ out, scalarB z = true) → (∀ z ∈ (runesW out ws).1, scalarB z = true) ∧ (runesW out ws).1.length = out.length + ws.length
  | [], out, h, ho => ⟨ho, by simp [runesW]⟩
  | w :: ws, out, h, ho => by
    by_cases he : (hexS w).2 = 0
    · rw [runesW_good he] at h ⊢
      obtain ⟨h1, h2⟩ := runesW_scalar ws _ h (fun z hz => by
        rcases List.mem_append.1 hz with hz | hz
        · exact ho z hz
        · rw [List.mem_singleton] at hz
          subst hz
          exact hexS_scalar he)
      refine ⟨h1, ?_⟩
      have e : (out ++ [(hexS w).1]).length = out.length + 1 := by simp
      rw [h2, e]
      simp only [List.length_cons]
      omega
    · rw [runesW_bad he] at h
      exact absurd h he
theorem words_ne : ∀ (l w : List UInt8), (w ≠ [] ∨ ∃ b ∈ l, blankB b = false) → wordsFrom w l ≠ []
  | [], w, h => by
    rcases h with h | ⟨b, hb, _⟩
    · simp [wordsFrom, h]
    · simp at hb
  | b :: t, w, h => by
    cases hb : blankB b
    · rw [words_more _ _ hb]
      exact words_ne t _ (.inl (by simp))
    · rw [words_blank _ _ hb]
      split
      · rename_i hw
        refine words_ne t _ (.inr ?_)
        rcases h with h | ⟨c, hc, hcb⟩
        · exact absurd hw h
        · rcases List.mem_cons.1 hc with rfl | hc
          · rw [hb] at hcb; simp at hcb
          · exact ⟨c, hc, hcb⟩
      · simp
theorem lstrip_all {l : List UInt8} (h : ∀ b ∈ l, blankB b = true) : lstrip l = [] := by
  induction l with
  | nil => rfl
  | cons b t ih =>
    rw [lstrip_yes (h b (by simp))]
    exact ih (fun c hc => h c (by simp [hc]))
theorem bare_ne {l : List UInt8} (h : bareL l ≠ []) : ∃ b ∈ l, blankB b = false := by
  apply Classical.byContradiction
  intro hn
  apply h
  unfold bareL
  rw [lstrip_all (fun b hb => by
    cases hbb : blankB b
    · exact absurd ⟨b, hb, hbb⟩ hn
    · rfl)]
  rfl
theorem into_v {s : List UInt8} (h : (intoS s).2.2 = 0) : (intoS s).2.1.length ≤ 18 ∧ (∀ z ∈ (intoS s).2.1, scalarB z = true) ∧ lettersL (intoS s).1 = true ∧ ((intoS s).1 ≠ [] → (intoS s).2.1 ≠ []) := by
  have hr : ∀ k t, (intoR k t).2.2 = 0 → (intoR k t).1 = k ∧ (intoR k t).2.1.length ≤ 18 ∧ (∀ z ∈ (intoR k t).2.1, scalarB z = true) ∧ (intoR k t).2.1.length = (wordsL t).length := by
    intro k t h
    unfold intoR at *
    split at h
    · rename_i h1; exact absurd h h1
    · rename_i h1
      split at h
      · simp at h
      · rename_i h2
        rw [if_neg h1, if_neg h2]
        obtain ⟨g1, g2⟩ := runesW_scalar (wordsL t) [] (by simpa [runesS] using h1) (by simp)
        refine ⟨rfl, by simp only []; omega, g1, ?_⟩
        simpa [runesS] using g2
  unfold intoS at *
  split at h
  · rename_i hp
    split at h
    · simp at h
    · rename_i hb
      rw [if_pos hp, if_neg hb]
      obtain ⟨g1, g2, g3, g4⟩ := hr _ _ h
      simp only [not_or] at hb
      refine ⟨g2, g3, by rw [g1]; simpa using hb.2.2.1, fun _ => ?_⟩
      intro he
      rw [he] at g4
      exact words_ne _ _ (.inr (bare_ne hb.2.2.2)) (List.eq_nil_of_length_eq_zero g4.symm)
  · rename_i hp
    rw [if_neg hp]
    obtain ⟨g1, g2, g3, g4⟩ := hr _ _ h
    refine ⟨g2, g3, by rw [g1]; rfl, fun hk => absurd g1 hk⟩
theorem parse_v {l : List UInt8} (h : (parseS l).2 = 0) : RowV (parseS l).1 := by
  unfold parseS parseF at *
  split at h
  · simp at h
  · rename_i h1
    split at h
    · rename_i h2; exact absurd h h2
    · rename_i h2
      split at h
      · rename_i h3; exact absurd h h3
      · rename_i h3
        split at h
        · simp at h
        · rename_i h4
          split at h
          · rename_i h5; exact absurd h h5
          · rename_i h5
            rw [if_neg h1, if_neg h2, if_neg h3, if_neg h4, if_neg h5]
            obtain ⟨v1, v2, v3, v4⟩ := into_v (Classical.not_not.1 h5)
            have hx := hexS_scalar (Classical.not_not.1 h2)
            refine ⟨hx, hx, Int.le_refl _, ⟨?_, by simp only []; omega⟩, v1, v2, v3, v4, fun hlt => absurd hlt (Int.lt_irrefl _)⟩
            show 0 ≤ (decS _).1
            unfold decS at h3 ⊢
            split
            · simp
            · simp only []; omega
theorem range_v {f x : RowS} (hf : RowV f) (hx : RowV x) (hc : ¬ closeB f x) : RowV (rangeR f x) := by
  unfold closeB at hc
  simp only [not_or] at hc
  exact ⟨hf.fr, hx.fr, by show f.fr ≤ x.fr; omega, hx.cl, by simp [rangeR], fun z hz => by simp [rangeR] at hz, rfl, fun h => absurd rfl h, fun _ => rfl⟩
theorem rows_v (s : List UInt8) : ∀ x ∈ (rowsS s).1, RowV x := rowsS_all (fun l h => parse_v h) (fun f x hf hx hc => range_v hf hx hc) s
/-- They rise. -/
def Rise (l : List RowS) : Prop := ∀ i a b, l[i]? = some a → l[i + 1]? = some b → a.up < b.fr
theorem Rise.snoc {l : List RowS} {x : RowS} (h : Rise l) (hx : l ≠ [] → lastUp l < x.fr) : Rise (l ++ [x]) := by
  intro i a b ha hb
  by_cases hi : i + 1 < l.length
  · rw [List.getElem?_append_left hi] at hb
    rw [List.getElem?_append_left (by omega)] at ha
    exact h i a b ha hb
  · have hlt : i + 1 < (l ++ [x]).length := (List.getElem?_eq_some_iff.1 hb).1
    rw [List.length_append, List.length_singleton] at hlt
    have hil : i + 1 = l.length := by omega
    rw [hil, List.getElem?_append_right (Nat.le_refl _), Nat.sub_self] at hb
    simp at hb
    subst hb
    rw [List.getElem?_append_left (by omega)] at ha
    have hne : l ≠ [] := by intro h; rw [h] at hil; simp at hil
    have := hx hne
    unfold lastUp at this
    rw [List.getLast?_eq_getElem?, show l.length - 1 = i by omega, ha] at this
    exact this
theorem rowsW_rise : ∀ (L : List (Int × List UInt8)) (st : StU), Rise st.out → st.was = lastUp st.out → (∀ f, st.op = some f → st.was < f.fr) → Rise (rowsW st L).1.out
  | [], st, h, _, _ => h
  | p :: L, st, h, hw, hf => by
    by_cases he : (takeS st p.2).2 = 0
    · rw [rowsW_good he]
      rcases take_cases he with ⟨f, hop, hc, hh⟩ | ⟨_, hlt, hh | hh⟩
      · rw [hh]
        refine rowsW_rise L _ (h.snoc fun _ => ?_) (by rw [lastUp_snoc]; rfl) (fun f h => by simp at h)
        have := hf f hop
        rw [hw] at this
        exact this
      · rw [hh]
        exact rowsW_rise L _ h hw (fun f h => by injection h with h; subst h; exact hlt)
      · rw [hh]
        refine rowsW_rise L _ (h.snoc fun _ => ?_) (by rw [lastUp_snoc, parse_up]) (fun f h => by simp at h)
        rw [hw] at hlt
        exact hlt
    · rw [rowsW_bad he]
      exact h
theorem rows_rise (s : List UInt8) : Rise (rowsS s).1 := by
  have hn : Rise [] := fun i a b ha => by simp at ha
  unfold rowsS endU
  split
  · exact hn
  · split
    · exact hn
    · split
      · exact hn
      · exact rowsW_rise _ _ hn rfl (fun f h => by simp at h)
theorem rowsW_no : ∀ (L : List (Int × List UInt8)) (st : StU), (∀ p ∈ L, 0 < p.1) → (rowsW st L).2.2 ≠ 0 → 0 < (rowsW st L).2.1
  | [], st, h, he => absurd rfl he
  | p :: L, st, h, he => by
    by_cases hp : (takeS st p.2).2 = 0
    · rw [rowsW_good hp] at he ⊢
      exact rowsW_no L _ (fun q hq => h q (by simp [hq])) he
    · rw [rowsW_bad hp]
      exact h p (by simp)
theorem lines_err (s : List UInt8) : (linesS s).2 = 0 ∨ (linesS s).2 = 10 ∨ (linesS s).2 = 14 := by
  unfold linesS
  split
  · right; right; rfl
  · rw [linesW_tells]
    split
    · left; rfl
    · right; left; rfl
/-- What is wrong with rows, and where. -/
theorem rows_err (s : List UInt8) : ((rowsS s).2.2 = 0 ∧ (rowsS s).2.1 = 0) ∨ ((rowsS s).2.2 ≠ 0 ∧ (rowsS s).1 = [] ∧ ((rowsS s).2.1 ≠ 0 ∨ (rowsS s).2.2 = 10 ∨ (rowsS s).2.2 = 14)) := by
  unfold rowsS
  split
  · rename_i h
    right
    refine ⟨h, rfl, .inr ?_⟩
    rcases lines_err s with h2 | h2 | h2
    · exact absurd h2 h
    · exact .inl h2
    · exact .inr h2
  · rename_i h
    have h0 : (linesS s).2 = 0 := by simpa using h
    unfold endU
    split
    · rename_i h2
      right
      refine ⟨h2, rfl, .inl ?_⟩
      have := rowsW_no (linesS s).1 ⟨[], none, -1⟩ (by rw [(linesS_good h0).2.2]; exact tellsK_pos _ _) h2
      simp only []
      omega
    · split
      · right
        exact ⟨by simp, rfl, .inr (.inl rfl)⟩
      · left
        exact ⟨rfl, rfl⟩
/-- Sets: all may be, and none is there twice. -/
def SetV (l : List Int) : Prop := (∀ z ∈ l, scalarB z = true) ∧ l.Nodup
theorem addW_v : ∀ (n : Nat) (out : List Int) (r : Int), SetV out → (∀ z ∈ out, z < r ∨ r + n ≤ z) → SetV (addW out r n).1
  | 0, out, r, h, _ => h
  | n + 1, out, r, h, hz => by
    have h2 : SetV (addO out r) ∧ ∀ z ∈ addO out r, z < r + 1 ∨ r + 1 + n ≤ z := by
      unfold addO
      split
      · rename_i hs
        refine ⟨⟨fun z hz => ?_, ?_⟩, fun z hm => ?_⟩
        · rcases List.mem_append.1 hz with hz | hz
          · exact h.1 z hz
          · rw [List.mem_singleton] at hz; subst hz; exact hs
        · rw [List.nodup_append]
          refine ⟨h.2, by simp, fun a ha b hb => ?_⟩
          rw [List.mem_singleton] at hb
          subst hb
          have := hz a ha
          omega
        · rcases List.mem_append.1 hm with hm | hm
          · have := hz z hm; omega
          · rw [List.mem_singleton] at hm; subst hm; left; omega
      · exact ⟨h, fun z hm => by have := hz z hm; omega⟩
    by_cases hl : 4096 < (addO out r).length
    · rw [addW_full hl]
      exact h2.1
    · rw [addW_go hl]
      exact addW_v n _ _ h2.1 h2.2
theorem setStep_v {out : List Int} {l : List UInt8} (h : SetV out) : SetV (setStep out l).1 := by
  unfold setStep setR
  split
  · exact h
  · rename_i h1
    split
    · exact h
    · rename_i h2
      split
      · exact h
      · unfold setAdd
        obtain ⟨k1, k2, k3⟩ := rangeS_ok (l := fldS l) (by simpa using h1)
        refine addW_v _ _ _ h (fun z hz => ?_)
        have hb : betw (rangeS (fldS l)).1 (rangeS (fldS l)).2.1 z = false := by
          rw [Bool.not_eq_true, List.any_eq_false] at h2
          simpa using h2 z hz
        unfold betw at hb
        simp at hb
        omega
theorem setsW_v : ∀ (ls : List (Int × List UInt8)) (out : List Int), SetV out → SetV (setsW out ls).1
  | [], out, h => h
  | p :: ls, out, h => by
    by_cases he : (setStep out p.2).2 = 0
    · rw [setsW_good he]
      exact setsW_v ls _ (setStep_v h)
    · rw [setsW_bad he]
      exact ⟨fun z hz => by simp at hz, by simp⟩
theorem sets_v (s : List UInt8) : (∀ z ∈ (setsS s).1, scalarB z = true) ∧ (setsS s).1.Pairwise (· < ·) := by
  unfold setsS setsE
  split
  · simp
  · obtain ⟨h1, h2⟩ := setsW_v (linesS s).1 [] ⟨fun z hz => by simp at hz, by simp⟩
    generalize (setsW [] (linesS s).1).1 = out at *
    refine ⟨fun z hz => h1 z ((srt_perm out).mem_iff.1 hz), ?_⟩
    have hs := srt_sorted out
    have hn : (srt out).Nodup := (srt_perm out).nodup_iff.2 h2
    show (srt out).Pairwise (· < ·)
    have := hs.and hn
    exact this.imp (fun ⟨h, k⟩ => by omega)
theorem sets_err (s : List UInt8) : (setsS s).2.2 = 0 ∨ (setsS s).1 = [] := by
  unfold setsS setsE
  split
  · right; rfl
  · have : ∀ (ls : List (Int × List UInt8)) (out : List Int), (setsW out ls).2.2 = 0 ∨ (setsW out ls).1 = [] := by
      intro ls
      induction ls with
      | nil => intro out; left; rfl
      | cons p ls ih =>
        intro out
        by_cases he : (setStep out p.2).2 = 0
        · rw [setsW_good he]; exact ih _
        · rw [setsW_bad he]; right; rfl
    rcases this (linesS s).1 [] with h | h
    · left; exact h
    · right
      show srt _ = _
      rw [h]
      simp [srt]
end Go.Proofs.YtggichcfklbjiaaGreatDoor
end

section
set_option linter.unusedSimpArgs false
set_option linter.unusedVariables false
namespace Go.Proofs.YtggichcfklbjiaaGreatDoor
open Go.RowKit

/-- Are all rows' characters, and what they are parted into, ones that may be? -/
structure RowsG (rows : List RowS) : Prop where
  v : ∀ x ∈ rows, RowV x
  rise : Rise rows
theorem rows_g (s : List UInt8) : RowsG (rowsS s).1 := ⟨rows_v s, rows_rise s⟩
theorem scalar_allR {z : Int} (h : scalarB z = true) : z ∈ allR := by
  rw [mem_allR]
  unfold scalarB at h
  simp at h
  omega
theorem scalar_R {z : Int} (h : scalarB z = true) : R32 z := allR_R (scalar_allR h)
section
variable {rows : List RowS} {out : List Int}
theorem RowsG.rowT (h : RowsG rows) : ∀ x ∈ rows, RowT x := fun x hx => by
  have v := h.v x hx
  have h1 := mem_allR.1 (scalar_allR v.fr)
  have h2 := mem_allR.1 (scalar_allR v.up)
  exact ⟨h1.1, v.le, by omega, v.len⟩
theorem RowsG.into (h : RowsG rows) : ∀ r q, prtL rows r = some q → r ∈ allR ∧ (∀ y ∈ q.2, y ∈ allR) ∧ q.2.length ≤ 18 ∧ q.2 ≠ [] := fun r q hq => by
  obtain ⟨x, hx, e, hne, rfl⟩ := prt_mem hq
  have v := h.v x hx
  exact ⟨by rw [← e]; exact scalar_allR v.fr, fun y hy => scalar_allR (v.il y hy), v.len, hne⟩
/-- WHEN New ANSWERS A BASE. -/
structure NewOk (rows : List RowS) (out : List Int) : Prop where
  there : rows.any thereB = false
  form : rows.any formB = false
  ends : ∀ r, (prtL rows r).isSome = true → Ends (fun x => (decH (prtL rows) x).2) r
  few : ∀ wf : WellFounded fun y x => y ∈ (decH (prtL rows) x).2, ∀ r, (prtL rows r).isSome = true → lenD (fun x => (decH (prtL rows) x).2) wf r ≤ 18
  join : ∀ x, madeQ (clsL rows) (prtL rows) out x = true → joinsB (madeT2 (prtL rows) x) = false
  one : ∀ x y, madeQ (clsL rows) (prtL rows) out x = true → madeQ (clsL rows) (prtL rows) out y = true → madeT2 (prtL rows) x = madeT2 (prtL rows) y → x = y
/-- Which character two make, by rows. -/
def prL (rows : List RowS) (out : List Int) (p : Int × Int) : Option Int := (rows.find? fun x => madeQ (clsL rows) (prtL rows) out x.fr && decide (madeT2 (prtL rows) x.fr = p)).map (·.fr)
def scL (rows : List RowS) (out : List Int) (y : Int) : Option Int := if (rows.any fun x => madeQ (clsL rows) (prtL rows) out x.fr && decide ((madeT2 (prtL rows) x.fr).2 = y)) = true then some 1 else none
theorem made_row {x : Int} (h : madeQ (clsL rows) (prtL rows) out x = true) : ∃ r ∈ rows, r.fr = x := by
  obtain ⟨h1, _⟩ := madeQ_true h
  obtain ⟨r, hr, e, _⟩ := prt_mem h1
  exact ⟨r, hr, e⟩
theorem prL_some (h : NewOk rows out) {p : Int × Int} {x : Int} : prL rows out p = some x ↔ madeQ (clsL rows) (prtL rows) out x = true ∧ madeT2 (prtL rows) x = p := by
  unfold prL
  constructor
  · intro e
    obtain ⟨r, hr, rfl⟩ := Option.map_eq_some_iff.1 e
    have := List.find?_some hr
    simp only [Bool.and_eq_true, decide_eq_true_eq] at this
    exact this
  · rintro ⟨h1, h2⟩
    obtain ⟨r, hr, rfl⟩ := made_row h1
    cases hf : rows.find? fun x => madeQ (clsL rows) (prtL rows) out x.fr && decide (madeT2 (prtL rows) x.fr = p) with
    | none =>
      have := List.find?_eq_none.1 hf r hr
      simp [h1, h2] at this
    | some q =>
      have := List.find?_some hf
      simp only [Bool.and_eq_true, decide_eq_true_eq] at this
      rw [Option.map_some, h.one q.fr r.fr this.1 h1 (this.2.trans h2.symm)]
theorem scL_pos {y : Int} : 0 < gd (scL rows out) y ↔ ∃ x, madeQ (clsL rows) (prtL rows) out x = true ∧ (madeT2 (prtL rows) x).2 = y := by
  unfold gd scL
  split
  · rename_i h
    obtain ⟨r, hr, h1⟩ := List.any_eq_true.1 h
    simp only [Bool.and_eq_true, decide_eq_true_eq] at h1
    exact ⟨fun _ => ⟨r.fr, h1⟩, fun _ => by simp⟩
  · rename_i h
    constructor
    · intro h; simp at h
    · rintro ⟨x, h1, h2⟩
      obtain ⟨r, hr, rfl⟩ := made_row h1
      exact absurd (List.any_eq_true.2 ⟨r, hr, by simp [h1, h2]⟩) h
theorem new_ends (h : NewOk rows out) (r : Int) : Ends (fun x => (decH (prtL rows) x).2) r := ends_all h.ends r
theorem any_false {α : Type} {l : List α} {p : α → Bool} (h : l.any p = false) : ∀ x ∈ l, p x = false := by
  intro x hx
  rw [List.any_eq_false] at h
  simpa using h x hx
theorem new_ok (g : RowsG rows) (h : NewOk rows out) : BaseOk (clsL rows) (prtL rows) (prL rows out) (scL rows out) where
  cls0 := cls_nonneg fun x hx => (g.v x hx).cl.1
  ch := fun r hr => cls_hang (fun x hx => (g.v x hx).cl.1) (any_false h.there) hr
  ph := fun r hr => prt_hang (any_false h.there) (fun x hx => (g.v x hx).le) hr
  ends := new_ends h
  made := fun x y r hp => by
    obtain ⟨a2, a3⟩ := (prL_some h).1 hp
    obtain ⟨b1, _, b3, _⟩ := madeQ_true a2
    rw [a3] at b1
    refine ⟨b1, ?_, scL_pos.2 ⟨r, a2, by rw [a3]⟩⟩
    have := cls_nonneg (l := rows) (fun x hx => (g.v x hx).cl.1) r
    omega
/-- THE BASE of rows and exclusions. -/
def baseF (g : RowsG rows) (h : NewOk rows out) : BaseF := (new_ok g h).toF
/-- A base's maps say what rows and exclusions say. -/
theorem mk_pair (h : NewOk rows out) {ss : List Int} {pr : Int × Int → Option Int} {md : Int → Option (Int × Int)} {sc : Int → Option Int}
    (hM : MkI (madeQ (clsL rows) (prtL rows) out) (madeT2 (prtL rows)) joinsB ss false pr md sc) (hall : ∀ x, madeQ (clsL rows) (prtL rows) out x = true → x ∈ ss) : (∀ p, pr p = prL rows out p) ∧ ∀ y, secH sc y = secH (scL rows out) y := by
  refine ⟨fun p => ?_, fun y => ?_⟩
  · cases hp : pr p with
    | some x =>
      obtain ⟨_, a2, a3⟩ := hM.pr1 p x hp
      exact ((prL_some h).2 ⟨a2, a3⟩).symm
    | none =>
      cases hq : prL rows out p with
      | none => rfl
      | some x =>
        obtain ⟨a2, a3⟩ := (prL_some h).1 hq
        have := hM.pr2 x (hall x a2) a2
        rw [a3, hp] at this
        cases this
  · unfold secH
    congr 1
    apply decide_eq_decide.2
    have h1 := hM.sc2 y
    have h2 := scL_pos (rows := rows) (out := out) (y := y)
    unfold gd at h1 h2
    rw [h1, h2]
    constructor
    · rintro ⟨x, _, h3⟩; exact ⟨x, h3⟩
    · rintro ⟨x, h3, h4⟩; exact ⟨x, hall x h3, h3, h4⟩
end
/-! ### no base -/
theorem nil_ok : BaseOk (fun _ => 0) (fun _ => none) (fun _ => none) (fun _ => none) where
  cls0 := fun _ => Int.le_refl _
  ch := fun _ _ => rfl
  ph := fun _ _ => rfl
  ends := ends_all fun r h => by cases h
  made := fun x y r h => by cases h
/-- The base that knows nothing but the syllables. -/
def nilB : BaseF := nil_ok.toF
/-! ### how great they are -/
structure BaseBd (B : BaseF) : Prop where
  dec : ∀ r, ∀ y ∈ (B.dec r).2, R32 y
  declen : ∀ r, (B.dec r).2.length ≤ 18
  pair : ∀ x y c, R32 x → R32 y → B.pair x y = some c → R32 c
  len : ∀ c r, (B.one c r).length ≤ 54
theorem one_le (B : BaseF) (c : Bool) (r : Int) : (B.one c r).length ≤ (B.one true r).length := by
  have key : ∀ r, (B.one false r).length ≤ (B.one true r).length := fun r => by
    induction r using B.wf.induction with
    | _ r ih =>
      by_cases hp : B.parts false r = []
      · rw [B.one_none hp]
        have := B.one_ne true r
        have : 0 < (B.one true r).length := List.length_pos_iff.2 this
        simp only [List.length_singleton]
        omega
      · have e : B.parts true r = B.parts false r := by
          unfold BaseF.parts at hp ⊢
          by_cases h1 : (B.dec r).1 ≠ []
          · rw [if_pos ⟨h1, rfl⟩] at hp; exact absurd rfl hp
          · rw [if_neg (by simp at h1 ⊢), if_neg (by simp at h1 ⊢; exact h1)]
        rw [B.one_some hp, B.one_some (by rw [e]; exact hp), e]
        have : ∀ l : List Int, (∀ y ∈ l, y ∈ (B.dec r).2) → (l.flatMap (B.one false)).length ≤ (l.flatMap (B.one true)).length := fun l => by
          induction l with
          | nil => intro _; simp
          | cons x t ih2 =>
            intro h
            have h1 := ih x (h x (by simp))
            have h2 := ih2 fun y hy => h y (by simp [hy])
            simp only [List.flatMap_cons, List.length_append]
            omega
        exact this _ fun y hy => parts_mem hy
  cases c with
  | true => exact Nat.le_refl _
  | false => exact key r
theorem join_R {x y : Int} (h : R32 x) : R32 (joinH x y).1 := by
  have := joinH_i32 x y (by obtain ⟨h1, h2⟩ := h; omega)
  unfold R32
  omega
theorem splitH_R {r : Int} (h : 44032 ≤ r ∧ r < 55204) : R32 (splitH r).1 ∧ R32 (splitH r).2.1 := by
  unfold splitH R32
  rw [if_pos h]
  split <;> simp only [] <;> omega
theorem len_plain (B : BaseF) (h18 : ∀ r, ¬ (44032 ≤ r ∧ r < 55204) → (B.one true r).length ≤ 18) (hs : ∀ r, 44032 ≤ r ∧ r < 55204 → B.dec r = ([], [(splitH r).1, (splitH r).2.1])) (r : Int) : (B.one true r).length ≤ 54 := by
  have two : ∀ r, 44032 ≤ r ∧ r < 55204 → B.one true r = B.one true (splitH r).1 ++ B.one true (splitH r).2.1 := fun r hr => by
    have hp : B.parts true r = [(splitH r).1, (splitH r).2.1] := by unfold BaseF.parts; rw [hs r hr]; simp
    rw [B.one_some (by rw [hp]; simp), hp]
    simp
  have lv : ∀ r, 44032 ≤ r ∧ r < 55204 → (r - 44032) % 28 = 0 → (B.one true r).length ≤ 36 := fun r hr h0 => by
    obtain ⟨e1, e2⟩ := split_two hr h0
    rw [two r hr, List.length_append, e1, e2]
    have a1 := h18 (4352 + (r - 44032) / 588) (by omega)
    have a2 := h18 (4449 + (r - 44032) / 28 % 21) (by omega)
    omega
  by_cases hr : 44032 ≤ r ∧ r < 55204
  · by_cases h0 : (r - 44032) % 28 = 0
    · have := lv r hr h0; omega
    · obtain ⟨e1, e2⟩ := split_three hr h0
      rw [two r hr, List.length_append, e1, e2]
      have a1 := lv (r - (r - 44032) % 28) (by omega) (by omega)
      have a2 := h18 (4519 + (r - 44032) % 28) (by omega)
      omega
  · have := h18 r hr; omega
theorem dec_bd {prt : Int → Option (List UInt8 × List Int)} (h : ∀ r q, prt r = some q → (∀ y ∈ q.2, R32 y) ∧ q.2.length ≤ 18) (r : Int) : (∀ y ∈ (decH prt r).2, R32 y) ∧ (decH prt r).2.length ≤ 18 := by
  unfold decH
  split
  · rename_i hr
    obtain ⟨h1, h2⟩ := splitH_R hr
    refine ⟨fun y hy => ?_, by simp⟩
    simp at hy
    rcases hy with rfl | rfl <;> assumption
  · cases hp : prt r with
    | none => simp
    | some q => exact h r q hp
theorem pair_bd {pr : Int × Int → Option Int} (h : ∀ p c, pr p = some c → R32 c) {x y c : Int} (hx : R32 x) (hc : pairH pr x y = some c) : R32 c := by
  unfold pairH at hc
  cases hp : pr (x, y) with
  | some q => rw [hp] at hc; injection hc with hc; subst hc; exact h _ _ hp
  | none =>
    rw [hp] at hc
    simp only [] at hc
    split at hc
    · injection hc with hc; subst hc; exact join_R hx
    · cases hc
theorem base_bd {rows : List RowS} {out : List Int} (g : RowsG rows) (h : NewOk rows out) : BaseBd (baseF g h) where
  dec := fun r => (dec_bd (prt := prtL rows) (fun r q hq => by obtain ⟨_, h1, h2, _⟩ := g.into r q hq; exact ⟨fun y hy => allR_R (h1 y hy), h2⟩) r).1
  declen := fun r => (dec_bd (prt := prtL rows) (fun r q hq => by obtain ⟨_, h1, h2, _⟩ := g.into r q hq; exact ⟨fun y hy => allR_R (h1 y hy), h2⟩) r).2
  pair := fun x y c hx _ hc => pair_bd (pr := prL rows out) (fun p c hp => by
    obtain ⟨r, hr, e⟩ := made_row ((prL_some h).1 hp).1
    rw [← e]
    exact scalar_R (g.v r hr).fr) hx hc
  len := fun c r => by
    refine Nat.le_trans (one_le _ c r) (len_plain _ (fun r hr => ?_) (fun r hr => ?_) r)
    · rw [← lenD_one]
      by_cases hk : (prtL rows r).isSome = true
      · exact h.few (baseF g h).wf r hk
      · have hd : (decH (prtL rows) r).2 = [] := by
          rw [decH_not hr]
          cases hq : prtL rows r with
          | none => rfl
          | some q => rw [hq] at hk; exact absurd rfl hk
        have e : ((baseF g h).dec r).2 = [] := hd
        rw [lenD_eq, if_pos e]
        omega
    · show decH (prtL rows) r = _
      unfold decH
      rw [if_pos hr]
theorem nil_bd : BaseBd nilB where
  dec := fun r => (dec_bd (prt := fun _ => none) (fun r q hq => by cases hq) r).1
  declen := fun r => (dec_bd (prt := fun _ => none) (fun r q hq => by cases hq) r).2
  pair := fun x y c hx _ hc => pair_bd (pr := fun _ => none) (fun p c hp => by cases hp) hx hc
  len := fun c r => by
    refine Nat.le_trans (one_le _ c r) (len_plain _ (fun r hr => ?_) (fun r hr => ?_) r)
    · rw [← lenD_one]
      have hd : (decH (fun _ => none) r).2 = [] := by rw [decH_not hr]; rfl
      have e : (nilB.dec r).2 = [] := hd
      rw [lenD_eq, if_pos e]
      omega
    · show decH (fun _ => none) r = _
      unfold decH
      rw [if_pos hr]
/-! ### a base, or none, in memory -/
/-- WHAT v IS: no base, or one that says what B says. -/
def BaseIs (w : World) (v : Value) (B : BaseF) : Prop :=
  (v = .pointer none ∧ B = nilB) ∨ ∃ bp a n cls prt pr md sc, v = .pointer (some ⟨bp, 0, none⟩) ∧ BaseM w bp a n cls prt pr md sc ∧ (∀ r, B.cls r = cls r) ∧ (∀ r, B.dec r = decH prt r) ∧ (∀ x y, B.pair x y = pairH pr x y) ∧ ∀ r, B.sec r = secH sc r
section
variable {w w' : World} {v : Value} {B : BaseF}
theorem BaseIs.nil (w : World) : BaseIs w (.pointer none) nilB := .inl ⟨rfl, rfl⟩
theorem BaseIs.below (h : BaseIs w v B) (hb : Below w.heap.size w w') : BaseIs w' v B := by
  rcases h with h | ⟨bp, a, n, cls, prt, pr, md, sc, h1, h2, h3⟩
  · exact .inl h
  · exact .inr ⟨bp, a, n, cls, prt, pr, md, sc, h1, h2.below hb, h3⟩
theorem class_is (h : BaseIs w v B) (r : Int) (hr : R32 r) : Calls Tryz.prog 16 #[v, .int .i32 r] w fun e w' => e = .returned (.int .i64 (B.cls r)) ∧ Below w.heap.size w w' := by
  rcases h with ⟨rfl, rfl⟩ | ⟨bp, a, n, cls, prt, pr, md, sc, rfl, h2, h3, _⟩
  · exact class_nil r w
  · rw [h3]; exact class_any h2 r hr
theorem decomp_is (h : BaseIs w v B) (r : Int) (hr : R32 r) (hk : Kinds w) : Calls Tryz.prog 11 #[v, .int .i32 r] w (DecP (B.dec r).1 (B.dec r).2 w) := by
  rcases h with ⟨rfl, rfl⟩ | ⟨bp, a, n, cls, prt, pr, md, sc, rfl, h2, _, h3, _⟩
  · exact decomp_none r w hk
  · rw [h3]; exact decomp_any h2 r hr hk
theorem pair_is (h : BaseIs w v B) (x y : Int) (hx : R32 x) (hy : R32 y) (hk : Kinds w) : Calls Tryz.prog 17 #[v, .int .i32 x, .int .i32 y] w fun e w' => e = .returned (pairOf (B.pair x y)) ∧ Below w.heap.size w w' := by
  rcases h with ⟨rfl, rfl⟩ | ⟨bp, a, n, cls, prt, pr, md, sc, rfl, h2, _, _, h3, _⟩
  · exact pair_none x y w hx hy hk
  · rw [h3]; exact pair_any h2 x y hx hy hk
theorem sec_is (h : BaseIs w v B) (r : Int) (hr : R32 r) (hk : Kinds w) : Calls Tryz.prog 18 #[v, .int .i32 r] w fun e w' => e = .returned (.bool (B.sec r)) ∧ Below w.heap.size w w' := by
  rcases h with ⟨rfl, rfl⟩ | ⟨bp, a, n, cls, prt, pr, md, sc, rfl, h2, _, _, _, h3⟩
  · exact sec_none r w hr hk
  · rw [h3]; exact sec_any h2 r hr hk
end
end Go.Proofs.YtggichcfklbjiaaGreatDoor
end
