/- Forms of texts, over any base: joined, and joined again. Plain laws; no program stands here. Forms of texts, over any base: the four forms, what single characters tell, and where texts are cut. Plain laws; no program stands here. -/
import Derived.Test.YtggichcfklbjiaaGreatDoorG25
section
set_option linter.unusedSimpArgs false
set_option linter.unusedVariables false
namespace Go.Proofs.YtggichcfklbjiaaGreatDoor

/-- What is joined so far: what stands ahead of the head, the head, the marks behind it. -/
structure JS where
  pre : List Int
  hd : Option Int
  ms : List Int
def JS.out (s : JS) : List Int := s.pre ++ (s.hd.toList ++ s.ms)
variable {B : BaseF}
/-- A character put to the end. -/
def BaseF.app (B : BaseF) (s : JS) (r : Int) : JS := if B.cls r = 0 then ⟨s.out, some r, []⟩ else ⟨s.pre, s.hd, s.ms ++ [r]⟩
def BaseF.step (B : BaseF) (s : JS) (r : Int) : JS :=
  match s.hd with
  | none => B.app s r
  | some h => if (s.ms.all fun m => decide (B.cls m < B.cls r)) = true then (match B.pair h r with | some c => ⟨s.pre, some c, s.ms⟩ | none => B.app s r) else B.app s r
def BaseF.run (B : BaseF) (s : JS) (l : List Int) : JS := l.foldl B.step s
/-- Characters, joined. -/
def BaseF.join (B : BaseF) (l : List Int) : List Int := (B.run ⟨[], none, []⟩ l).out
theorem jrun_app (s : JS) (a b : List Int) : B.run s (a ++ b) = B.run (B.run s a) b := by unfold BaseF.run; rw [List.foldl_append]
theorem run_cons (s : JS) (x : Int) (b : List Int) : B.run s (x :: b) = B.run (B.step s x) b := rfl
theorem run_snoc (s : JS) (a : List Int) (x : Int) : B.run s (a ++ [x]) = B.step (B.run s a) x := by rw [jrun_app]; rfl
/-- What stands ahead does not count. -/
def JS.behind (q : List Int) (s : JS) : JS := ⟨q ++ s.pre, s.hd, s.ms⟩
theorem JS.behind_out (q : List Int) (s : JS) : (s.behind q).out = q ++ s.out := by simp [JS.behind, JS.out]
theorem app_behind (q : List Int) (s : JS) (r : Int) : B.app (s.behind q) r = (B.app s r).behind q := by
  unfold BaseF.app
  split
  · rw [JS.behind_out]; rfl
  · rfl
theorem step_some (p : List Int) (h : Int) (ms : List Int) (r : Int) : B.step ⟨p, some h, ms⟩ r = if (ms.all fun m => decide (B.cls m < B.cls r)) = true then (match B.pair h r with | some c => ⟨p, some c, ms⟩ | none => B.app ⟨p, some h, ms⟩ r) else B.app ⟨p, some h, ms⟩ r := rfl
theorem step_behind (q : List Int) (s : JS) (r : Int) : B.step (s.behind q) r = (B.step s r).behind q := by
  obtain ⟨p, hd, ms⟩ := s
  cases hd with
  | none => exact app_behind q _ r
  | some h =>
    have ha := app_behind (B := B) q ⟨p, some h, ms⟩ r
    show B.step ⟨q ++ p, some h, ms⟩ r = _
    have ha' : B.app ⟨q ++ p, some h, ms⟩ r = (B.app ⟨p, some h, ms⟩ r).behind q := ha
    rw [step_some, step_some, ha']
    split
    · cases B.pair h r <;> rfl
    · rfl
theorem run_behind (q : List Int) : ∀ (l : List Int) (s : JS), B.run (s.behind q) l = (B.run s l).behind q
  | [], _ => rfl
  | r :: l, s => by
    rw [run_cons, run_cons, step_behind]
    exact run_behind q l (B.step s r)
/-- What holds of what is joined so far. -/
structure BaseF.JOk (B : BaseF) (s : JS) : Prop where
  ms : ∀ m ∈ s.ms, B.cls m ≠ 0
  hd : ∀ h, s.hd = some h → B.cls h = 0
theorem jok_nil : B.JOk ⟨[], none, []⟩ := ⟨by simp, by simp⟩
theorem app_ok {s : JS} (h : B.JOk s) (r : Int) : B.JOk (B.app s r) := by
  unfold BaseF.app
  split
  · rename_i hr
    exact ⟨by simp, fun x hx => by injection hx with hx; rw [← hx]; exact hr⟩
  · rename_i hr
    refine ⟨fun m hm => ?_, h.hd⟩
    rcases List.mem_append.1 hm with hm | hm
    · exact h.ms m hm
    · rw [List.mem_singleton] at hm; rw [hm]; exact hr
/-- The two ways of a step. -/
theorem step_cases (s : JS) (r : Int) : B.step s r = B.app s r ∨ ∃ h c, s.hd = some h ∧ (∀ m ∈ s.ms, B.cls m < B.cls r) ∧ B.pair h r = some c ∧ B.step s r = ⟨s.pre, some c, s.ms⟩ := by
  obtain ⟨p, hd, ms⟩ := s
  cases hd with
  | none => exact .inl rfl
  | some h =>
    unfold BaseF.step
    simp only []
    split
    · rename_i ha
      cases hp : B.pair h r with
      | none => exact .inl rfl
      | some c => exact .inr ⟨h, c, rfl, by simpa using ha, hp, rfl⟩
    · exact .inl rfl
theorem step_ok {s : JS} (h : B.JOk s) (r : Int) : B.JOk (B.step s r) := by
  rcases step_cases (B := B) s r with e | ⟨x, c, h1, h2, h3, e⟩
  · rw [e]; exact app_ok h r
  · rw [e]
    exact ⟨h.ms, fun y hy => by injection hy with hy; rw [← hy]; exact (B.made x r c h3).2.1⟩
theorem run_ok : ∀ (l : List Int) {s : JS}, B.JOk s → B.JOk (B.run s l)
  | [], _, h => h
  | r :: l, s, h => run_ok l (step_ok h r)
theorem app_out (s : JS) (r : Int) : (B.app s r).out = s.out ++ [r] := by
  unfold BaseF.app
  split
  · simp [JS.out]
  · simp [JS.out]
/-- A character that stands alone, and is no second one. -/
theorem step_cut {s : JS} {x : Int} (hx : B.cls x = 0) (hs : B.sec x = false) : B.step s x = ⟨s.out, some x, []⟩ := by
  rcases step_cases (B := B) s x with e | ⟨h, c, _, _, h3, _⟩
  · rw [e]; unfold BaseF.app; rw [if_pos hx]
  · have := (B.made h x c h3).2.2
    rw [hs] at this
    cases this
theorem join_cut (a : List Int) {x : Int} (b : List Int) (hx : B.cls x = 0) (hs : B.sec x = false) : B.join (a ++ x :: b) = B.join a ++ B.join (x :: b) := by
  unfold BaseF.join
  rw [jrun_app, run_cons, run_cons, step_cut hx hs, step_cut hx hs]
  have e : (⟨(B.run ⟨[], none, []⟩ a).out, some x, []⟩ : JS) = (⟨[], some x, []⟩ : JS).behind (B.run ⟨[], none, []⟩ a).out := by simp [JS.behind]
  rw [e, run_behind, JS.behind_out]
  rfl
/-! ### what is joined, parted anew -/
theorem step_eqv {c : Bool} {p : List Int} {s : JS} (hok : B.JOk s) {r : Int} (hr : B.parts c r = []) (hms : ∀ m ∈ s.ms, B.parts c m = []) (h : B.Eqv (B.all c s.out) p) : B.Eqv (B.all c (B.step s r).out) (p ++ [r]) := by
  rcases step_cases (B := B) s r with e | ⟨x, y, h1, h2, h3, e⟩
  · rw [e, app_out, B.all_app, B.all_one, B.one_none hr]
    exact h.right _
  · rw [e]
    obtain ⟨pre, hd, ms⟩ := s
    simp only [] at h1 h2 hms
    subst h1
    have hmi : B.all c ms = ms := B.all_irr hms
    have e1 : B.all c (JS.out ⟨pre, some y, ms⟩) = B.all c pre ++ (B.one c x ++ ([r] ++ ms)) := by
      simp only [JS.out, Option.toList, B.all_app, B.all_one, hmi, B.one_made h3, B.one_none hr, List.append_assoc]
    have e2 : B.all c (JS.out ⟨pre, some x, ms⟩) = B.all c pre ++ (B.one c x ++ ms) := by
      simp only [JS.out, Option.toList, B.all_app, B.all_one, hmi]
    rw [e1]
    rw [e2] at h
    have h4 := h.right [r]
    refine BaseF.Eqv.trans ?_ h4
    simp only [List.append_assoc]
    refine BaseF.Eqv.left _ (BaseF.Eqv.left _ ?_)
    refine BaseF.Eqv.pass fun m hm => ⟨?_, h2 m hm⟩
    have := hok.ms m hm
    have := B.cls0 m
    omega
theorem step_ms {s : JS} {r m : Int} (h : m ∈ (B.step s r).ms) : m ∈ s.ms ∨ m = r := by
  rcases step_cases (B := B) s r with e | ⟨x, y, h1, h2, h3, e⟩
  · rw [e] at h
    unfold BaseF.app at h
    split at h
    · simp at h
    · simpa using h
  · rw [e] at h
    exact .inl h
theorem run_eqv {c : Bool} : ∀ (d p : List Int) (s : JS), B.JOk s → B.Irr c d → (∀ m ∈ s.ms, B.parts c m = []) → B.Eqv (B.all c s.out) p → B.Eqv (B.all c (B.run s d).out) (p ++ d)
  | [], p, s, _, _, _, h => by
    show B.Eqv (B.all c s.out) (p ++ [])
    rw [List.append_nil]
    exact h
  | r :: d, p, s, hok, hd, hms, h => by
    have hr := hd r (by simp)
    have h1 := run_eqv d (p ++ [r]) (B.step s r) (step_ok hok r) (fun x hx => hd x (by simp [hx])) (fun m hm => by
      rcases step_ms hm with hm | rfl
      · exact hms m hm
      · exact hr) (step_eqv hok hr hms h)
    rw [run_cons]
    simpa using h1
/-- WHAT IS JOINED OF PARTED CHARACTERS, PARTED ANEW, IS THAT AGAIN. -/
theorem join_all {c : Bool} {d : List Int} (hd : B.Irr c d) : B.Eqv (B.all c (B.join d)) d := by
  have := run_eqv (B := B) (c := c) d [] ⟨[], none, []⟩ jok_nil hd (by simp) (by rw [show JS.out ⟨[], none, []⟩ = [] from rfl, B.all_nil]; exact .refl _)
  simpa [BaseF.join] using this
/-! ### what is joined is in order, and each of its characters is in the form -/
/-- A character that is its own form. -/
def BaseF.Kept (B : BaseF) (c : Bool) (x : Int) : Prop := B.srt 0 (B.one c x) = true ∧ B.join (B.one c x) = [x]
theorem kept_irr {c : Bool} {x : Int} (h : B.parts c x = []) : B.Kept c x := by
  unfold BaseF.Kept
  rw [B.one_none h]
  refine ⟨?_, ?_⟩
  · have := B.cls0 x
    simp [BaseF.srt]; omega
  · unfold BaseF.join BaseF.run
    simp only [List.foldl_cons, List.foldl_nil, BaseF.step, app_out]
    rfl
/-- What holds while parted characters in order are joined: p: those so far. -/
structure BaseF.JInv (B : BaseF) (c : Bool) (p : List Int) (s : JS) : Prop where
  ok : B.JOk s
  pre : ∀ x ∈ s.pre, B.Kept c x
  irr : ∀ m ∈ s.ms, B.parts c m = []
  emp : s.hd = none → s.pre = []
  top : ∀ m ∈ s.ms, B.cls m ≤ B.lastC 0 p
  srt : B.srt 0 s.out = true
  hd : ∀ h, s.hd = some h → B.run ⟨[], none, []⟩ (B.one c h) = ⟨[], some h, []⟩ ∧ B.srt 0 (B.one c h) = true ∧ (B.lastC 0 (B.one c h) ≤ B.lastC 0 p)
theorem JInv.out {c : Bool} {p : List Int} {s : JS} (h : B.JInv c p s) : ∀ x ∈ s.out, B.Kept c x := by
  intro x hx
  unfold JS.out at hx
  rcases List.mem_append.1 hx with hx | hx
  · exact h.pre x hx
  · rcases List.mem_append.1 hx with hx | hx
    · have hh : s.hd = some x := by simpa using hx
      obtain ⟨h1, h2, _⟩ := h.hd x hh
      exact ⟨h2, by unfold BaseF.join; rw [h1]; rfl⟩
    · exact kept_irr (h.irr x hx)
theorem run_single {x : Int} (hx : B.cls x = 0) : B.run ⟨[], none, []⟩ [x] = ⟨[], some x, []⟩ := by
  show B.step ⟨[], none, []⟩ x = _
  unfold BaseF.step BaseF.app
  rw [if_pos hx]
  rfl
theorem lastC_out {s : JS} {k : Int} (hne : s.ms ≠ []) : B.lastC k s.out = B.lastC 0 s.ms := by
  rcases List.eq_nil_or_concat s.ms with h | ⟨t, y, h⟩
  · exact absurd h hne
  · unfold JS.out
    rw [h, List.concat_eq_append, ← List.append_assoc, ← List.append_assoc, lastC_snoc, lastC_snoc]
theorem jinv_app {c : Bool} {p : List Int} {s : JS} (h : B.JInv c p s) {r : Int} (hr : B.parts c r = []) (hs : B.cls r = 0 ∨ B.lastC 0 p ≤ B.cls r) : B.JInv c (p ++ [r]) (B.app s r) := by
  have h0 := B.cls0 r
  have hsrt : B.srt 0 (B.app s r).out = true := by
    rw [app_out, srt_snoc]
    refine ⟨h.srt, ?_⟩
    rcases hs with hs | hs
    · exact .inl hs
    · by_cases hms : s.ms = []
      · right
        unfold JS.out
        rw [hms, List.append_nil]
        cases hh : s.hd with
        | none =>
          rw [h.emp hh]
          exact h0
        | some x =>
          show B.lastC 0 (s.pre ++ [x]) ≤ _
          rw [lastC_snoc, h.ok.hd x hh]
          exact h0
      · right
        rw [lastC_out hms]
        rcases List.eq_nil_or_concat s.ms with e | ⟨t, y, e⟩
        · exact absurd e hms
        · rw [e, List.concat_eq_append, lastC_snoc]
          have := h.top y (by rw [e]; simp)
          omega
  unfold BaseF.app at hsrt ⊢
  split
  · rename_i hc
    rw [if_pos hc] at hsrt
    refine ⟨⟨by simp, fun x hx => by injection hx with hx; rw [← hx]; exact hc⟩, JInv.out h, by simp, by simp, by simp, hsrt, fun x hx => ?_⟩
    injection hx with hx
    subst hx
    rw [B.one_none hr]
    refine ⟨run_single hc, ?_, ?_⟩
    · have := (kept_irr hr).1
      rwa [B.one_none hr] at this
    · rw [lastC_snoc]
      show B.cls r ≤ B.cls r
      omega
  · rename_i hc
    rw [if_neg hc] at hsrt
    have hge : B.lastC 0 p ≤ B.cls r := by
      rcases hs with hs | hs
      · exact absurd hs hc
      · exact hs
    refine ⟨⟨fun m hm => ?_, h.ok.hd⟩, h.pre, fun m hm => ?_, h.emp, fun m hm => ?_, hsrt, fun x hx => ?_⟩
    · rcases List.mem_append.1 hm with hm | hm
      · exact h.ok.ms m hm
      · rw [List.mem_singleton] at hm; rw [hm]; exact hc
    · rcases List.mem_append.1 hm with hm | hm
      · exact h.irr m hm
      · rw [List.mem_singleton] at hm; rw [hm]; exact hr
    · rw [lastC_snoc]
      rcases List.mem_append.1 hm with hm | hm
      · have := h.top m hm; omega
      · rw [List.mem_singleton] at hm; rw [hm]; omega
    · obtain ⟨h1, h2, h3⟩ := h.hd x hx
      exact ⟨h1, h2, by rw [lastC_snoc]; omega⟩
theorem srt_same (k : Int) (a : List Int) {x y : Int} (b : List Int) (h : B.cls x = B.cls y) : B.srt k (a ++ x :: b) = B.srt k (a ++ y :: b) := by
  rw [srt_app, srt_app]
  simp only [BaseF.srt, h]
theorem jinv_step {c : Bool} {p : List Int} {s : JS} (h : B.JInv c p s) {r : Int} (hr : B.parts c r = []) (hs : B.cls r = 0 ∨ B.lastC 0 p ≤ B.cls r) : B.JInv c (p ++ [r]) (B.step s r) := by
  have hok := step_ok h.ok r
  rcases step_cases (B := B) s r with e | ⟨x, y, h1, h2, h3, e⟩
  · rw [e]; exact jinv_app h hr hs
  · rw [e] at hok ⊢
    obtain ⟨i1, i2, i3⟩ := h.hd x h1
    have hy := (B.made x r y h3).2.1
    have hx := h.ok.hd x h1
    refine ⟨hok, h.pre, h.irr, (fun e => by cases e), (fun m hm => by rw [lastC_snoc]; have := h2 m hm; omega), ?_, fun z hz => ?_⟩
    · have := h.srt
      unfold JS.out at this ⊢
      rw [h1] at this
      show B.srt 0 (s.pre ++ y :: s.ms) = true
      rw [srt_same 0 s.pre (x := y) (y := x) s.ms (by rw [hx, hy])]
      exact this
    · injection hz with hz
      subst hz
      rw [B.one_made h3, B.one_none hr]
      refine ⟨?_, ?_, ?_⟩
      · rw [run_snoc, i1]
        unfold BaseF.step
        simp only [List.all_nil, if_pos, h3]
      · rw [srt_snoc]
        exact ⟨i2, by omega⟩
      · rw [lastC_snoc, lastC_snoc]
        omega
theorem jinv_run {c : Bool} : ∀ (d p : List Int) (s : JS), B.JInv c p s → B.Irr c d → B.srt (B.lastC 0 p) d = true → B.JInv c (p ++ d) (B.run s d)
  | [], p, s, h, _, _ => by simpa [BaseF.run] using h
  | r :: d, p, s, h, hd, hs => by
    simp only [BaseF.srt, Bool.and_eq_true, Bool.or_eq_true, decide_eq_true_eq] at hs
    have h1 := jinv_run d (p ++ [r]) (B.step s r) (jinv_step h (hd r (by simp)) hs.1) (fun x hx => hd x (by simp [hx])) (by rw [lastC_snoc]; exact hs.2)
    rw [run_cons]
    simpa using h1
theorem jinv_nil (c : Bool) : B.JInv c [] ⟨[], none, []⟩ := ⟨jok_nil, by simp, by simp, by simp, by simp, rfl, by simp⟩
/-- What is joined of parted characters in order is in order, and each character is its own form. -/
theorem join_kept {c : Bool} {d : List Int} (hd : B.Irr c d) (hs : B.srt 0 d = true) : B.srt 0 (B.join d) = true ∧ ∀ x ∈ B.join d, B.Kept c x := by
  have h := jinv_run (c := c) d [] ⟨[], none, []⟩ (jinv_nil c) hd hs
  rw [List.nil_append] at h
  exact ⟨h.srt, JInv.out h⟩
theorem step_len (s : JS) (r : Int) : (B.step s r).out.length ≤ s.out.length + 1 := by
  rcases step_cases (B := B) s r with e | ⟨x, y, h1, h2, h3, e⟩
  · rw [e, app_out]; simp
  · rw [e]
    unfold JS.out
    rw [h1]
    simp
theorem run_len : ∀ (d : List Int) (s : JS), (B.run s d).out.length ≤ s.out.length + d.length
  | [], s => by simp [BaseF.run]
  | r :: d, s => by
    have h1 := run_len d (B.step s r)
    have h2 := step_len (B := B) s r
    rw [run_cons, List.length_cons]
    omega
theorem join_len (d : List Int) : (B.join d).length ≤ d.length := by
  have := run_len (B := B) d ⟨[], none, []⟩
  simpa [BaseF.join, JS.out] using this
/-- Something is left. -/
theorem step_ne (s : JS) (r : Int) : 1 ≤ (B.step s r).out.length := by
  rcases step_cases (B := B) s r with e | ⟨x, y, h1, h2, h3, e⟩
  · rw [e, app_out]; simp
  · rw [e]; simp [JS.out]; omega
end Go.Proofs.YtggichcfklbjiaaGreatDoor
end

section
set_option linter.unusedSimpArgs false
set_option linter.unusedVariables false
namespace Go.Proofs.YtggichcfklbjiaaGreatDoor
variable {B : BaseF}

/-- Characters, parted as far as they can be, in order. -/
noncomputable def BaseF.full (B : BaseF) (c : Bool) (l : List Int) : List Int := B.ord (B.all c l)
noncomputable def BaseF.form (B : BaseF) (c j : Bool) (l : List Int) : List Int := if j = true then B.join (B.full c l) else B.full c l
theorem full_irr (c : Bool) (l : List Int) : B.Irr c (B.full c l) := fun x hx => B.irr_all c l x (((eqv_ord _).mem x).2 hx)
theorem full_srt (c : Bool) (l : List Int) : B.srt 0 (B.full c l) = true := srt_ord _
/-- The form's characters, parted anew and ordered, are what they were. -/
theorem form_eqv (c j : Bool) (l : List Int) : B.Eqv (B.all c (B.form c j l)) (B.all c l) := by
  unfold BaseF.form
  split
  · exact (join_all (full_irr c l)).trans (eqv_ord _).symm
  · rw [B.all_irr (full_irr c l)]
    exact (eqv_ord _).symm
theorem full_form (c j : Bool) (l : List Int) : B.full c (B.form c j l) = B.full c l := (form_eqv c j l).ord
theorem full_full (c : Bool) (l : List Int) : B.full c (B.full c l) = B.full c l := by
  have := full_form (B := B) c false l
  simpa [BaseF.form] using this
theorem form_full (c j : Bool) {l m : List Int} (h : B.full c l = B.full c m) : B.form c j l = B.form c j m := by unfold BaseF.form; rw [h]
theorem form_form (c i j : Bool) (l : List Int) : B.form c j (B.form c i l) = B.form c j l := form_full c j (full_form c i l)
theorem form_inj (c j : Bool) {l m : List Int} (h : B.form c j l = B.form c j m) : B.full c l = B.full c m := by rw [← full_form c j l, ← full_form c j m, h]
theorem form_app (c j : Bool) (l m : List Int) : B.form c j (B.form c j l ++ B.form c j m) = B.form c j (l ++ m) := by
  refine form_full c j ?_
  unfold BaseF.full
  rw [B.all_app, B.all_app]
  exact ((form_eqv c j l).both (form_eqv c j m)).ord
theorem full_nil (c : Bool) : B.full c [] = [] := rfl
theorem form_nil (c j : Bool) : B.form c j [] = [] := by
  unfold BaseF.form
  rw [full_nil]
  split <;> rfl
theorem full_ne {c : Bool} {r : Int} : B.full c [r] ≠ [] := by
  intro h
  have := (eqv_ord (B := B) (B.all c [r])).nil_iff.2 h
  rw [B.all_one] at this
  exact B.one_ne c r this
theorem full_nil_iff {c : Bool} {l : List Int} : B.full c l = [] ↔ l = [] := by
  constructor
  · intro h
    have h2 := (eqv_ord (B := B) (B.all c l)).nil_iff.2 h
    cases l with
    | nil => rfl
    | cons x t =>
      rw [B.all_cons] at h2
      exact absurd (List.append_eq_nil_iff.1 h2).1 (B.one_ne c x)
  · rintro rfl; rfl
/-- What one character tells: 1: yes, 2: no, 3: maybe. -/
noncomputable def BaseF.kind (B : BaseF) (c j : Bool) (r : Int) : Int := if B.form c j [r] ≠ [r] then 2 else if j = true ∧ B.sec ((B.full c [r]).headD 0) = true then 3 else 1
/-- May characters be cut ahead of one? -/
noncomputable def BaseF.safe (B : BaseF) (c j : Bool) (r : Int) : Bool := decide (B.cls ((B.full c [r]).headD 0) = 0) && !(j && B.sec ((B.full c [r]).headD 0))
noncomputable def BaseF.worst (B : BaseF) (c j : Bool) (l : List Int) : Int := if (∃ r ∈ l, B.kind c j r = 2) then 2 else if (∃ r ∈ l, B.kind c j r = 3) then 3 else 1
noncomputable def BaseF.check (B : BaseF) (c j : Bool) (l : List Int) : Int := if B.srt 0 l = true then B.worst c j l else 2
theorem kind_no {c j : Bool} {r : Int} : B.kind c j r = 2 ↔ B.form c j [r] ≠ [r] := by
  unfold BaseF.kind
  by_cases h : B.form c j [r] ≠ [r]
  · rw [if_pos h]
    exact ⟨fun _ => h, fun _ => rfl⟩
  · rw [if_neg h]
    refine ⟨fun e => ?_, fun e => absurd e h⟩
    split at e <;> exact absurd e (by decide)
theorem kept_form {c : Bool} {x : Int} (h : B.Kept c x) : B.form c true [x] = [x] := by
  unfold BaseF.form BaseF.full
  rw [if_pos rfl, B.all_one, ord_srt h.1, h.2]
theorem irr_form {c j : Bool} {x : Int} (h : B.parts c x = []) : B.form c j [x] = [x] := by
  cases j
  · unfold BaseF.form BaseF.full
    rw [if_neg (by simp), B.all_one, B.one_none h]
    exact ord_srt (by have := kept_irr h; unfold BaseF.Kept at this; rw [B.one_none h] at this; exact this.1)
  · exact kept_form (kept_irr h)
/-- A form is in order, and none of its characters tells no. -/
theorem form_ok (c j : Bool) (l : List Int) : B.srt 0 (B.form c j l) = true ∧ ∀ x ∈ B.form c j l, B.kind c j x ≠ 2 := by
  cases j with
  | false =>
    have e : B.form c false l = B.full c l := by unfold BaseF.form; rw [if_neg (by simp)]
    rw [e]
    refine ⟨full_srt c l, fun x hx h => ?_⟩
    exact kind_no.1 h (irr_form (full_irr c l x hx))
  | true =>
    have e : B.form c true l = B.join (B.full c l) := by unfold BaseF.form; rw [if_pos rfl]
    obtain ⟨h1, h2⟩ := join_kept (full_irr c l) (full_srt (B := B) c l)
    rw [e]
    exact ⟨h1, fun x hx h => kind_no.1 h (kept_form (h2 x hx))⟩
theorem check_form (c j : Bool) (l : List Int) : B.check c j (B.form c j l) ≠ 2 := by
  obtain ⟨h1, h2⟩ := form_ok (B := B) c j l
  unfold BaseF.check BaseF.worst
  rw [if_pos h1, if_neg (fun ⟨r, hr, h⟩ => h2 r hr h)]
  split <;> decide
theorem check_no {c j : Bool} {l : List Int} (h : B.check c j l = 2) : B.form c j l ≠ l := fun e => check_form (B := B) c j l (by rw [e]; exact h)
theorem check_plain {c : Bool} {l : List Int} : B.check c false l ≠ 3 := by
  unfold BaseF.check BaseF.worst
  split
  · split
    · decide
    · rw [if_neg]
      · decide
      · rintro ⟨r, _, h⟩
        unfold BaseF.kind at h
        split at h
        · exact absurd h (by decide)
        · rw [if_neg (by simp)] at h
          exact absurd h (by decide)
  · decide
theorem check_three (c j : Bool) (l : List Int) : B.check c j l = 1 ∨ B.check c j l = 2 ∨ B.check c j l = 3 := by
  unfold BaseF.check BaseF.worst
  split
  · split
    · simp
    · split <;> simp
  · simp
/-! ### what is Yes is in the form -/
theorem check_yes_is {c j : Bool} {l : List Int} : B.check c j l = 1 ↔ B.srt 0 l = true ∧ ∀ r ∈ l, B.kind c j r = 1 := by
  unfold BaseF.check BaseF.worst
  constructor
  · intro h
    split at h
    · rename_i hs
      refine ⟨hs, fun r hr => ?_⟩
      split at h
      · exact absurd h (by decide)
      · rename_i h2
        split at h
        · exact absurd h (by decide)
        · rename_i h3
          have a2 : B.kind c j r ≠ 2 := fun e => h2 ⟨r, hr, e⟩
          have a3 : B.kind c j r ≠ 3 := fun e => h3 ⟨r, hr, e⟩
          unfold BaseF.kind at a2 a3 ⊢
          split
          · rename_i h4; rw [if_pos h4] at a2; exact absurd rfl a2
          · rename_i h4
            rw [if_neg h4] at a3
            split
            · rename_i h5; rw [if_pos h5] at a3; exact absurd rfl a3
            · rfl
    · exact absurd h (by decide)
  · rintro ⟨h1, h2⟩
    rw [if_pos h1, if_neg, if_neg]
    · rintro ⟨r, hr, h⟩; rw [h2 r hr] at h; exact absurd h (by decide)
    · rintro ⟨r, hr, h⟩; rw [h2 r hr] at h; exact absurd h (by decide)
theorem check_no_is {c j : Bool} {l : List Int} : B.check c j l = 2 ↔ B.srt 0 l = false ∨ ∃ r ∈ l, B.kind c j r = 2 := by
  unfold BaseF.check BaseF.worst
  constructor
  · intro h
    split at h
    · split at h
      · rename_i h2; exact .inr h2
      · split at h <;> exact absurd h (by decide)
    · rename_i hs
      exact .inl (by simpa using hs)
  · rintro (h | h)
    · rw [if_neg (by simp [h])]
    · rw [if_pos h]
      split <;> rfl
/-- Of one character that is parted a mark comes of itself alone. -/
theorem join_one {d : List Int} {r : Int} (h : B.join d = [r]) : d = [r] ∨ B.cls r = 0 := by
  rcases List.eq_nil_or_concat d with rfl | ⟨t, x, rfl⟩
  · exact absurd h (by simp [BaseF.join, BaseF.run, JS.out])
  · rw [List.concat_eq_append] at h ⊢
    unfold BaseF.join at h
    rw [run_snoc] at h
    rcases step_cases (B := B) (B.run ⟨[], none, []⟩ t) x with e | ⟨y, z, h1, h2, h3, e⟩
    · rw [e, app_out] at h
      have hl : (B.run ⟨[], none, []⟩ t).out = [] := by
        have := congrArg List.length h
        simp at this
        exact this
      rw [hl] at h
      left
      rcases List.eq_nil_or_concat t with rfl | ⟨t', u, rfl⟩
      · simpa using h
      · rw [List.concat_eq_append, run_snoc] at hl
        have := step_ne (B := B) (B.run ⟨[], none, []⟩ t') u
        rw [hl] at this
        simp at this
    · rw [e] at h
      right
      have hz := (B.made y x z h3).2.1
      unfold JS.out at h
      have : z ∈ [r] := by rw [← h]; simp
      rw [List.mem_singleton] at this
      rw [← this]; exact hz
/-- Marks that are greater than one that is no second one do not see it. -/
theorem run_past {k : Int} {m : Int} (hm : B.cls m = k) (hk : k ≠ 0) : ∀ (Q : List Int) (s : JS), (∀ q ∈ Q, k < B.cls q) → (∀ x ∈ (B.run s Q).ms, B.cls x ≤ k) →
    B.run ⟨s.pre, s.hd, s.ms ++ [m]⟩ Q = ⟨(B.run s Q).pre, (B.run s Q).hd, (B.run s Q).ms ++ [m]⟩
  | [], s, _, _ => rfl
  | q :: Q, s, hQ, hf => by
    have hq := hQ q (by simp)
    have h0 := B.cls0 m
    rw [run_cons] at hf
    have keep : ∀ (Q : List Int) (s : JS) (x : Int), (∀ q ∈ Q, k < B.cls q) → x ∈ s.ms → x ∈ (B.run s Q).ms := by
      intro Q
      induction Q with
      | nil => intro s x _ h; exact h
      | cons y Q ih =>
        intro s x hQ h
        have hy := hQ y (by simp)
        rw [run_cons]
        refine ih _ _ (fun z hz => hQ z (by simp [hz])) ?_
        rcases step_cases (B := B) s y with e | ⟨a, b, h1, h2, h3, e⟩
        · rw [e]
          unfold BaseF.app
          rw [if_neg (by omega)]
          simp [h]
        · rw [e]; exact h
    rcases step_cases (B := B) s q with e | ⟨a, b, h1, h2, h3, e⟩
    · exfalso
      have hin : q ∈ (B.step s q).ms := by
        rw [e]; unfold BaseF.app; rw [if_neg (by omega)]; simp
      have := hf q (keep Q _ q (fun z hz => hQ z (by simp [hz])) hin)
      omega
    · have e2 : B.step ⟨s.pre, s.hd, s.ms ++ [m]⟩ q = ⟨s.pre, some b, s.ms ++ [m]⟩ := by
        rw [h1, step_some, if_pos, h3]
        rw [List.all_eq_true]
        intro x hx
        rw [decide_eq_true_eq]
        rcases List.mem_append.1 hx with hx | hx
        · exact h2 x hx
        · rw [List.mem_singleton] at hx; rw [hx, hm]; exact hq
      have h4 := run_past hm hk Q (B.step s q) (fun z hz => hQ z (by simp [hz])) hf
      rw [run_cons, run_cons, e2]
      rw [e] at h4 ⊢
      exact h4
theorem srt_marks : ∀ (ms : List Int) (k : Int), (∀ m ∈ ms, B.cls m ≠ 0) → B.srt k ms = true → ∀ m ∈ ms, B.cls m ≤ B.lastC k ms ∧ k ≤ B.cls m
  | [], _, _, _, m, hm => by simp at hm
  | x :: ms, k, h0, hs, m, hm => by
    simp only [BaseF.srt, Bool.and_eq_true, Bool.or_eq_true, decide_eq_true_eq] at hs
    have hx := h0 x (by simp)
    have hk : k ≤ B.cls x := by omega
    have ih := srt_marks ms (B.cls x) (fun y hy => h0 y (by simp [hy])) hs.2
    have hl : B.cls x ≤ B.lastC (B.cls x) ms := by
      rcases List.eq_nil_or_concat ms with rfl | ⟨t, y, rfl⟩
      · exact Int.le_refl _
      · rw [List.concat_eq_append] at ih ⊢
        rw [lastC_snoc]
        exact (ih y (by simp)).2
    show B.cls m ≤ B.lastC (B.cls x) ms ∧ _
    rcases List.mem_cons.1 hm with rfl | hm
    · exact ⟨hl, hk⟩
    · have := ih m hm
      exact ⟨this.1, by omega⟩
theorem join_mark {d : List Int} {m : Int} (hc : B.cls m ≠ 0) (hsec : B.sec m = false) (hs : B.srt 0 (B.join d ++ [m]) = true) : B.join (B.ins d.reverse m).reverse = B.join d ++ [m] := by
  obtain ⟨Q, A, h1, h2, h3, h4⟩ := B.ins_split d.reverse m
  have hd : d = A.reverse ++ Q.reverse := by
    have := congrArg List.reverse h1
    rw [List.reverse_reverse, List.reverse_append] at this
    exact this
  rw [h2]
  have e1 : (Q ++ m :: A).reverse = A.reverse ++ (m :: Q.reverse) := by simp
  rw [e1]
  unfold BaseF.join at hs ⊢
  rw [hd] at hs ⊢
  rw [jrun_app] at hs
  rw [jrun_app, jrun_app, run_cons]
  generalize hS : B.run ⟨[], none, []⟩ A.reverse = S at *
  have hok : B.JOk (B.run S Q.reverse) := by rw [← hS]; exact run_ok _ (run_ok _ jok_nil)
  have e2 : B.step S m = ⟨S.pre, S.hd, S.ms ++ [m]⟩ := by
    rcases step_cases (B := B) S m with e | ⟨x, y, _, _, h5, _⟩
    · rw [e]; unfold BaseF.app; rw [if_neg hc]
    · have := (B.made x m y h5).2.2
      rw [hsec] at this
      cases this
  rw [e2]
  have hms : ∀ x ∈ (B.run S Q.reverse).ms, B.cls x ≤ B.cls m := by
    intro x hx
    rw [srt_snoc] at hs
    have hl : B.lastC 0 (B.run S Q.reverse).out = B.lastC 0 (B.run S Q.reverse).ms := lastC_out (by intro e; rw [e] at hx; simp at hx)
    have hsm : B.srt (B.lastC 0 ((B.run S Q.reverse).pre ++ (B.run S Q.reverse).hd.toList)) (B.run S Q.reverse).ms = true := by
      have := hs.1
      unfold JS.out at this
      rw [← List.append_assoc, srt_app, Bool.and_eq_true] at this
      exact this.2
    have h6 := (srt_marks _ _ hok.ms (srt_mono (lastC_nonneg (by omega) _) hsm) x hx).1
    rcases hs.2 with h7 | h7
    · exact absurd h7 hc
    · rw [hl] at h7; omega
  rw [run_past rfl hc Q.reverse S (fun q hq => (h3 q (by simpa using hq)).1) hms]
  simp [JS.out]
/-- A mark that is first. -/
def MarkFirst (y : Int) (s : JS) : Prop := (s.hd = none ∧ s.pre = [] ∧ ∃ u, s.ms = y :: u) ∨ ∃ u, s.pre = y :: u
theorem first_out {y : Int} {s : JS} (h : MarkFirst y s) : ∃ u, s.out = y :: u := by
  unfold JS.out
  rcases h with ⟨h1, h2, u, h3⟩ | ⟨u, h⟩
  · rw [h1, h2, h3]; exact ⟨u, rfl⟩
  · rw [h]; exact ⟨_, rfl⟩
theorem step_first {y : Int} {s : JS} (h : MarkFirst y s) (x : Int) : MarkFirst y (B.step s x) := by
  rcases step_cases (B := B) s x with e | ⟨a, b, h1, _, _, e⟩
  · rw [e]
    unfold BaseF.app
    split
    · exact .inr (first_out h)
    · rcases h with ⟨h1, h2, u, h3⟩ | ⟨u, h⟩
      · exact .inl ⟨h1, h2, u ++ [x], by rw [h3]; rfl⟩
      · exact .inr ⟨u, h⟩
  · rw [e]
    rcases h with ⟨h2, _⟩ | ⟨u, h⟩
    · rw [h1] at h2; cases h2
    · exact .inr ⟨u, h⟩
theorem run_first {y : Int} : ∀ (Q : List Int) {s : JS}, MarkFirst y s → MarkFirst y (B.run s Q)
  | [], _, h => h
  | x :: Q, s, h => run_first Q (step_first h x)
theorem snoc_ind {p : List Int → Prop} (h0 : p []) (h1 : ∀ l x, p l → p (l ++ [x])) (l : List Int) : p l := by
  rw [← List.reverse_reverse l]
  induction l.reverse with
  | nil => exact h0
  | cons x t ih => rw [List.reverse_cons]; exact h1 _ _ ih
/-- WHAT IS YES IS IN THE FORM. -/
theorem check_yes {c j : Bool} {l : List Int} (h : B.check c j l = 1) : B.form c j l = l := by
  obtain ⟨hs, hk⟩ := check_yes_is.1 h
  clear h
  induction l using snoc_ind with
  | h0 => exact form_nil c j
  | h1 l r ih =>
    rw [srt_snoc] at hs
    have hl := ih hs.1 (fun x hx => hk x (by simp [hx]))
    have hr := hk r (by simp)
    have hf : B.form c j [r] = [r] := by
      refine Decidable.byContradiction fun hne => ?_
      rw [kind_no.2 hne] at hr
      exact absurd hr (by decide)
    have hsx : B.srt 0 (l ++ [r]) = true := (srt_snoc _ _ _).2 hs
    cases j with
    | false =>
      have e : ∀ l, B.form c false l = B.full c l := fun l => by unfold BaseF.form; rw [if_neg (by simp)]
      rw [e] at hl hf ⊢
      have hi : B.Irr c (l ++ [r]) := by
        intro x hx
        rcases List.mem_append.1 hx with hx | hx
        · rw [← hl] at hx; exact full_irr c l x hx
        · rw [← hf] at hx; exact full_irr c [r] x hx
      unfold BaseF.full
      rw [B.all_irr hi, ord_srt hsx]
    | true =>
      have e : ∀ l, B.form c true l = B.join (B.full c l) := fun l => by unfold BaseF.form; rw [if_pos rfl]
      rw [e] at hl hf ⊢
      have hsec : B.sec ((B.full c [r]).headD 0) = false := by
        cases hx : B.sec ((B.full c [r]).headD 0) with
        | false => rfl
        | true =>
          unfold BaseF.kind at hr
          rw [if_neg (by rw [e]; simp [hf]), if_pos ⟨rfl, hx⟩] at hr
          exact absurd hr (by decide)
      have hfr : B.full c [r] = B.ord (B.one c r) := by unfold BaseF.full; rw [B.all_one]
      by_cases hc : B.cls r = 0
      · obtain ⟨x, t, hxt⟩ : ∃ x t, B.one c r = x :: t := by
          cases ho : B.one c r with
          | nil => exact absurd ho (B.one_ne c r)
          | cons x t => exact ⟨x, t, rfl⟩
        have hx0 : B.cls x = 0 := by
          refine Decidable.byContradiction fun hx => ?_
          obtain ⟨y, t', h1, h2⟩ := ord_head_mark t hx
          have h3 : B.full c [r] = y :: t' := by rw [hfr, hxt]; exact h1
          rcases join_one hf with h4 | h4
          · rw [h3] at h4
            injection h4 with h4 _
            rw [h4] at h2
            exact h2 hc
          · rw [h3] at hf
            have h5 : MarkFirst y (B.run ⟨[], none, []⟩ (y :: t')) := by
              rw [run_cons]
              refine run_first t' ?_
              left
              have e0 : B.step ⟨[], none, []⟩ y = ⟨[], none, [y]⟩ := by
                show B.app _ y = _
                unfold BaseF.app
                rw [if_neg h2]
                rfl
              rw [e0]
              exact ⟨rfl, rfl, [], rfl⟩
            obtain ⟨u, h6⟩ := first_out h5
            unfold BaseF.join at hf
            rw [h6] at hf
            injection hf with hf _
            rw [hf] at h2
            exact h2 hc
        obtain ⟨t', h1⟩ := ord_head (B := B) t hx0
        have hh : (B.full c [r]).headD 0 = x := by rw [hfr, hxt, h1]; rfl
        rw [hh] at hsec
        have e2 : B.full c (l ++ [r]) = B.full c l ++ B.full c [r] := by
          unfold BaseF.full
          rw [B.all_app, B.all_one, hxt]
          exact ord_cut _ _ hx0
        rw [e2, hfr, hxt, h1, join_cut _ _ hx0 hsec, hl]
        rw [hfr, hxt, h1] at hf
        rw [hf]
      · rcases join_one hf with h4 | h4
        · have hi : B.parts c r = [] := by
            have := full_irr (B := B) c [r] r (by rw [h4]; simp)
            exact this
          have hsr : B.sec r = false := by rw [h4] at hsec; exact hsec
          have e2 : B.full c (l ++ [r]) = (B.ins (B.full c l).reverse r).reverse := by
            unfold BaseF.full BaseF.ord
            rw [B.all_app, B.all_one, B.one_none hi, B.ord_snoc, List.reverse_reverse]
          rw [e2, join_mark hc hsr (by rw [hl]; exact hsx), hl]
        · exact absurd h4 hc
/-! ### where texts are cut -/
theorem form_cut {c j : Bool} (a : List Int) {r : Int} (b : List Int) (h : B.safe c j r = true) : B.form c j (a ++ r :: b) = B.form c j a ++ B.form c j (r :: b) := by
  unfold BaseF.safe at h
  rw [Bool.and_eq_true, decide_eq_true_eq] at h
  obtain ⟨x, t, hxt⟩ : ∃ x t, B.one c r = x :: t := by
    cases ho : B.one c r with
    | nil => exact absurd ho (B.one_ne c r)
    | cons x t => exact ⟨x, t, rfl⟩
  have hfr : B.full c [r] = B.ord (x :: t) := by unfold BaseF.full; rw [B.all_one, hxt]
  have hx0 : B.cls x = 0 := by
    refine Decidable.byContradiction fun hx => ?_
    obtain ⟨y, t', h1, h2⟩ := ord_head_mark t hx
    rw [hfr, h1] at h
    exact h2 h.1
  obtain ⟨t', h1⟩ := ord_head (B := B) t hx0
  have hh : (B.full c [r]).headD 0 = x := by rw [hfr, h1]; rfl
  rw [hh] at h
  have e1 : B.all c (r :: b) = x :: (t ++ B.all c b) := by rw [B.all_cons, hxt]; rfl
  have e2 : B.full c (a ++ r :: b) = B.full c a ++ B.full c (r :: b) := by
    unfold BaseF.full
    rw [B.all_app, e1]
    exact ord_cut _ _ hx0
  obtain ⟨t2, h2⟩ := ord_head (B := B) (t ++ B.all c b) hx0
  have e3 : B.full c (r :: b) = x :: t2 := by unfold BaseF.full; rw [e1]; exact h2
  unfold BaseF.form
  cases j with
  | false => rw [if_neg (by simp), if_neg (by simp), if_neg (by simp)]; exact e2
  | true =>
    rw [if_pos rfl, if_pos rfl, if_pos rfl, e2, e3]
    refine join_cut _ _ hx0 ?_
    simpa using h.2
end Go.Proofs.YtggichcfklbjiaaGreatDoor
end
