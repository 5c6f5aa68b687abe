/- Forms of texts, over any base: what turning characters about leaves, and how the code and the document reckon. Plain laws; no program stands here. When New answers, and what a base parts, by reckoning: for the chapters' examples. Plain. -/
import Derived.Test.YtggichcfklbjiaaGreatDoorG40
import Derived.Test.YtggichcfklbjiaaGreatDoorG37
section
set_option linter.unusedSimpArgs false
set_option linter.unusedVariables false
namespace Go.Proofs.YtggichcfklbjiaaGreatDoor
variable {B : BaseF}

/-! ### what Order leaves -/
theorem eqv_perm {a b : List Int} (h : B.Eqv a b) : a.Perm b := by
  induction h with
  | refl => exact .refl _
  | swap p x y s _ _ _ => exact (List.Perm.swap y x s).append_left p
  | trans _ _ i1 i2 => exact i1.trans i2
theorem eqv_count {a b : List Int} (h : B.Eqv a b) (x : Int) : a.count x = b.count x := (eqv_perm h).count_eq x
/-- Each place holds a mark in both, or the same in both. -/
theorem eqv_place {a b : List Int} (h : B.Eqv a b) : ∀ (i : Nat) (x y : Int), a[i]? = some x → b[i]? = some y → (B.cls x = 0 ↔ B.cls y = 0) ∧ (B.cls x = 0 → x = y) := by
  induction h with
  | refl l => intro i x y h1 h2; rw [h1] at h2; injection h2 with h2; subst h2; exact ⟨Iff.rfl, fun _ => rfl⟩
  | swap p u v s h1 h2 h3 =>
    intro i x y hx hy
    rw [List.getElem?_append] at hx hy
    by_cases hi : i < p.length
    · rw [if_pos hi] at hx hy
      rw [hx] at hy; injection hy with hy; subst hy; exact ⟨Iff.rfl, fun _ => rfl⟩
    · rw [if_neg hi] at hx hy
      obtain ⟨k, hk⟩ : ∃ k, k = i - p.length := ⟨_, rfl⟩
      rw [← hk] at hx hy
      match k with
      | 0 =>
        simp at hx hy
        subst hx hy
        omega
      | 1 =>
        simp at hx hy
        subst hx hy
        omega
      | k + 2 =>
        simp at hx hy
        rw [hx] at hy; injection hy with hy; subst hy; exact ⟨Iff.rfl, fun _ => rfl⟩
  | @trans a b c h1 h2 i1 i2 =>
    intro i x z hx hz
    have hl := h1.length
    have hi : i < a.length := (List.getElem?_eq_some_iff.1 hx).1
    obtain ⟨y, hy⟩ : ∃ y, b[i]? = some y := ⟨_, List.getElem?_eq_getElem (by omega)⟩
    obtain ⟨p1, p2⟩ := i1 i x y hx hy
    obtain ⟨q1, q2⟩ := i2 i y z hy hz
    exact ⟨p1.trans q1, fun h => (p2 h).trans (q2 (p1.1 h))⟩
/-- The characters of one class stand in one order in both. -/
theorem eqv_class {a b : List Int} (h : B.Eqv a b) (c : Int) : a.filter (fun x => decide (B.cls x = c)) = b.filter (fun x => decide (B.cls x = c)) := by
  induction h with
  | refl => rfl
  | swap p x y s h1 h2 h3 =>
    rw [List.filter_append, List.filter_append]
    congr 1
    simp only [List.filter_cons]
    by_cases hx : B.cls x = c <;> by_cases hy : B.cls y = c <;> simp [hx, hy]
    omega
  | trans _ _ i1 i2 => exact i1.trans i2
/-! ### neighbours turned about as long as any are to be (the document) -/
def BaseF.inv (B : BaseF) : List Int → Nat
  | [] => 0
  | x :: t => t.countP (fun y => decide (0 < B.cls y ∧ B.cls y < B.cls x)) + BaseF.inv B t
theorem inv_swap {x y : Int} (hy : 0 < B.cls y) (hlt : B.cls y < B.cls x) : ∀ (p s : List Int), B.inv (p ++ x :: y :: s) = B.inv (p ++ y :: x :: s) + 1
  | [], s => by
    simp only [List.nil_append, BaseF.inv, List.countP_cons]
    rw [if_pos (by simp; omega), if_neg (by simp; omega)]
    omega
  | a :: p, s => by
    have ih := inv_swap hy hlt p s
    simp only [List.cons_append, BaseF.inv]
    have hc : (p ++ x :: y :: s).countP (fun z => decide (0 < B.cls z ∧ B.cls z < B.cls a)) = (p ++ y :: x :: s).countP (fun z => decide (0 < B.cls z ∧ B.cls z < B.cls a)) := ((List.Perm.swap y x s).append_left p).countP_eq _
    omega
/-- Are the neighbours below place k in order? -/
def BaseF.okTo (B : BaseF) (l : List Int) (k : Nat) : Prop := ∀ i x y, i + 1 < k → l[i]? = some x → l[i + 1]? = some y → ¬ (0 < B.cls y ∧ B.cls y < B.cls x)
theorem srt_places : ∀ {l : List Int} {k : Int}, (∀ i x y, l[i]? = some x → l[i + 1]? = some y → ¬ (0 < B.cls y ∧ B.cls y < B.cls x)) → (∀ x t, l = x :: t → B.cls x = 0 ∨ k ≤ B.cls x) → B.srt k l = true
  | [], _, _, _ => rfl
  | x :: t, k, h, h0 => by
    have e : B.srt (B.cls x) t = true := srt_places (fun i u v hu hv => h (i + 1) u v (by simpa using hu) (by simpa using hv)) (fun y s ht => by
      subst ht
      have := h 0 x y (by simp) (by simp)
      have := B.cls0 y
      omega)
    have h1 := h0 x t rfl
    simp only [BaseF.srt, e, Bool.and_true, Bool.or_eq_true, decide_eq_true_eq]
    exact h1
theorem okTo_srt {l : List Int} (h : B.okTo l l.length) : B.srt 0 l = true :=
  srt_places (fun i x y hx hy => h i x y ((List.getElem?_eq_some_iff.1 hy).1) hx hy) (fun x t _ => .inr (B.cls0 x))
theorem srt_okTo {l : List Int} (h : B.srt 0 l = true) (k : Nat) : B.okTo l k := by
  intro i x y _ hx hy
  have h1 : l = l.take i ++ x :: y :: l.drop (i + 2) := by
    have a1 := (List.getElem?_eq_some_iff.1 hx)
    have a2 := (List.getElem?_eq_some_iff.1 hy)
    obtain ⟨b1, c1⟩ := a1
    obtain ⟨b2, c2⟩ := a2
    calc l = l.take i ++ l.drop i := (List.take_append_drop i l).symm
      _ = _ := by rw [List.drop_eq_getElem_cons b1, List.drop_eq_getElem_cons b2, c1, c2]
  rw [h1, srt_app, Bool.and_eq_true] at h
  have h2 := h.2
  simp only [BaseF.srt, Bool.and_eq_true, Bool.or_eq_true, decide_eq_true_eq] at h2
  omega
/-- Two neighbours turned about. -/
def swp (l : List Int) (i : Nat) : List Int := match l[i]?, l[i + 1]? with | some x, some y => (l.set i y).set (i + 1) x | _, _ => l
theorem swp_eq (p s : List Int) (x y : Int) : swp (p ++ x :: y :: s) p.length = p ++ y :: x :: s := by
  have h1 : (p ++ x :: y :: s)[p.length]? = some x := by simp
  have h2 : (p ++ x :: y :: s)[p.length + 1]? = some y := by simp [List.getElem?_append]
  unfold swp
  rw [h1, h2]
  simp [List.set_append]
theorem at_two {l : List Int} {i : Nat} {x y : Int} (hx : l[i]? = some x) (hy : l[i + 1]? = some y) : ∃ p s, l = p ++ x :: y :: s ∧ p.length = i := by
  obtain ⟨b1, c1⟩ := List.getElem?_eq_some_iff.1 hx
  obtain ⟨b2, c2⟩ := List.getElem?_eq_some_iff.1 hy
  refine ⟨l.take i, l.drop (i + 2), ?_, by simp; omega⟩
  calc l = l.take i ++ l.drop i := (List.take_append_drop i l).symm
    _ = _ := by rw [List.drop_eq_getElem_cons b1, List.drop_eq_getElem_cons b2, c1, c2]
theorem swp_set {l : List Int} {i : Nat} {x y : Int} (hx : l[i]? = some x) (hy : l[i + 1]? = some y) : swp l i = (l.set i y).set (i + 1) x := by unfold swp; rw [hx, hy]
theorem swp_len (l : List Int) (i : Nat) : (swp l i).length = l.length := by unfold swp; split <;> simp
theorem swp_inv {l : List Int} {i : Nat} {x y : Int} (hx : l[i]? = some x) (hy : l[i + 1]? = some y) (h : 0 < B.cls y ∧ B.cls y < B.cls x) : B.inv (swp l i) < B.inv l ∧ B.Eqv l (swp l i) := by
  obtain ⟨p, s, rfl, rfl⟩ := at_two hx hy
  rw [swp_eq]
  have := inv_swap h.1 h.2 p s
  exact ⟨by omega, .swap p x y s (by omega) h.1 (by omega)⟩
/-! ### marks put back, place by place (the code) -/
theorem ins_past {r : Int} (hr : B.cls r ≠ 0) : ∀ {Q : List Int} (A : List Int), (∀ q ∈ Q, B.cls r < B.cls q) → B.ins (Q ++ A) r = Q ++ B.ins A r
  | [], A, _ => rfl
  | q :: Q, A, h => by
    have := ins_past hr (Q := Q) A fun x hx => h x (by simp [hx])
    simp only [List.cons_append, BaseF.ins]
    rw [if_pos ⟨hr, h q (by simp)⟩, this]
theorem ins_here {r : Int} {A : List Int} (h : ∀ a t, A = a :: t → B.cls r = 0 ∨ B.cls a ≤ B.cls r) : B.ins A r = r :: A := by
  cases A with
  | nil => rfl
  | cons a t =>
    have := h a t rfl
    simp only [BaseF.ins]
    rw [if_neg (by omega)]
theorem ins_len (A : List Int) (r : Int) : (B.ins A r).length = A.length + 1 := by
  induction A with
  | nil => rfl
  | cons a t ih => simp only [BaseF.ins]; split <;> simp [ih]
theorem ordR_len (l : List Int) : (B.ordR l).length = l.length := by
  have := (eqv_ord (B := B) l).length
  unfold BaseF.ord at this
  simpa using this.symm
theorem ord_len (l : List Int) : (B.ord l).length = l.length := (eqv_ord (B := B) l).length.symm
theorem ord_take_snoc {l : List Int} {k : Nat} {r : Int} (h : l[k]? = some r) : B.ordR (l.take (k + 1)) = B.ins (B.ordR (l.take k)) r := by
  rw [List.take_add_one, h]
  exact B.ord_snoc _ _
/-! ### runs -/
def BaseF.runStep (B : BaseF) (out : List (List Int)) (r : Int) : List (List Int) :=
  if out = [] ∨ B.cls r = 0 then out ++ [[r]] else out.dropLast ++ [out.getLastD [] ++ [r]]
/-- Characters, cut ahead of each that is no mark. -/
def BaseF.runs (B : BaseF) (l : List Int) : List (List Int) := l.foldl B.runStep []
theorem runs_snoc (l : List Int) (r : Int) : B.runs (l ++ [r]) = B.runStep (B.runs l) r := by unfold BaseF.runs; rw [List.foldl_append]; rfl
theorem runs_take {l : List Int} {k : Nat} {r : Int} (h : l[k]? = some r) : B.runs (l.take (k + 1)) = B.runStep (B.runs (l.take k)) r := by
  rw [List.take_add_one, h]
  exact runs_snoc _ _
theorem runStep_ne (out : List (List Int)) (r : Int) : B.runStep out r ≠ [] := by unfold BaseF.runStep; split <;> simp
/-- The runs so far: those that are whole, and the one that stands open. -/
theorem runStep_open (out : List (List Int)) (q : List Int) (r : Int) : B.runStep (out ++ [q]) r = if B.cls r = 0 then out ++ [q] ++ [[r]] else out ++ [q ++ [r]] := by
  unfold BaseF.runStep
  by_cases h : B.cls r = 0
  · rw [if_pos (.inr h), if_pos h]
  · rw [if_neg (by simp [h]), if_neg h]
    simp
theorem runStep_nil (r : Int) : B.runStep [] r = [[r]] := by unfold BaseF.runStep; rw [if_pos (.inl rfl)]; rfl
/-- What holds of runs. -/
structure RunsOk (B : BaseF) (out : List (List Int)) (l : List Int) : Prop where
  flat : out.flatten = l
  ne : ∀ q ∈ out, q ≠ []
  head : ∀ i q x t, 0 < i → out[i]? = some q → q = x :: t → B.cls x = 0
  mark : ∀ q ∈ out, ∀ x t, q = x :: t → ∀ y ∈ t, B.cls y ≠ 0
theorem runs_ok (l : List Int) : RunsOk B (B.runs l) l := by
  induction l using snoc_ind with
  | h0 => exact ⟨rfl, by simp [BaseF.runs], by simp [BaseF.runs], by simp [BaseF.runs]⟩
  | h1 l r ih =>
    rw [runs_snoc]
    rcases List.eq_nil_or_concat (B.runs l) with h | ⟨out, q, h⟩
    · rw [h] at ih ⊢
      rw [runStep_nil]
      have hl := ih.flat
      simp at hl
      subst hl
      refine ⟨by simp, by simp, fun i q x t hi hq => ?_, fun q hq x t e y hy => ?_⟩
      · match i with
        | 0 => omega
        | i + 1 => simp at hq
      · simp at hq; subst hq; injection e with _ e; subst e; simp at hy
    · rw [List.concat_eq_append] at h
      rw [h] at ih ⊢
      rw [runStep_open]
      obtain ⟨f, n, hd, mk⟩ := ih
      have hq := n q (by simp)
      split
      · rename_i h0
        refine ⟨by rw [← f]; simp, fun p hp => ?_, fun i p x t hi hp e => ?_, fun p hp x t e y hy => ?_⟩
        · rcases List.mem_append.1 hp with hp | hp
          · exact n p hp
          · simp at hp; subst hp; simp
        · rw [List.getElem?_append] at hp
          split at hp
          · exact hd i p x t hi hp e
          · rename_i hlt
            have : p = [r] := by
              have := List.mem_of_getElem? hp
              simpa using this
            subst this
            injection e with e _
            subst e
            exact h0
        · rcases List.mem_append.1 hp with hp | hp
          · exact mk p hp x t e y hy
          · simp at hp; subst hp; injection e with _ e; subst e; simp at hy
      · rename_i h0
        refine ⟨by rw [← f]; simp, fun p hp => ?_, fun i p x t hi hp e => ?_, fun p hp x t e y hy => ?_⟩
        · rcases List.mem_append.1 hp with hp | hp
          · exact n p (by simp [hp])
          · simp at hp; subst hp; simp
        · rw [List.getElem?_append] at hp
          split at hp
          · rename_i hlt
            exact hd i p x t hi (by rw [List.getElem?_append, if_pos hlt]; exact hp) e
          · rename_i hlt
            have hp2 : p = q ++ [r] := by
              have := List.mem_of_getElem? hp
              simpa using this
            have hi2 : i = out.length := by
              have := (List.getElem?_eq_some_iff.1 hp).1
              simp at this
              omega
            subst hp2
            cases q with
            | nil => exact absurd rfl hq
            | cons a q' =>
              injection e with e1 e2
              subst e1
              exact hd i (a :: q') a q' hi (by rw [hi2]; simp) rfl
        · rcases List.mem_append.1 hp with hp | hp
          · exact mk p (by simp [hp]) x t e y hy
          · simp at hp
            subst hp
            cases q with
            | nil => exact absurd rfl hq
            | cons a q' =>
              injection e with e1 e2
              subst e1 e2
              rcases List.mem_append.1 hy with hy | hy
              · exact mk (a :: q') (by simp) a q' rfl y hy
              · simp at hy; subst hy; exact h0
/-- Runs that are ordered, one behind the other, are all in order. -/
theorem ord_runs : ∀ (out : List (List Int)) (p : List Int), (∀ q ∈ out, ∃ x t, q = x :: t ∧ B.cls x = 0) → B.ord (p ++ out.flatten) = B.ord p ++ out.flatMap B.ord
  | [], p, _ => by simp
  | q :: out, p, h => by
    obtain ⟨x, t, rfl, hx⟩ := h q (by simp)
    have ih := ord_runs out (x :: t) fun q hq => h q (by simp [hq])
    rw [List.flatten_cons, List.cons_append, ord_cut p _ hx, ← List.cons_append, ih]
    simp
theorem ord_runs_all (l : List Int) : (B.runs l).flatMap B.ord = B.ord l := by
  have h := runs_ok (B := B) l
  rcases hr : B.runs l with _ | ⟨q, out⟩
  · rw [hr] at h
    have hf := h.flat
    simp at hf
    subst hf
    rfl
  · rw [hr] at h
    obtain ⟨f, n, hd, _⟩ := h
    rw [← f]
    rw [List.flatten_cons, ord_runs out q fun p hp => ?_]
    · rfl
    · obtain ⟨i, hi⟩ := List.getElem?_of_mem hp
      obtain ⟨x, t, e⟩ : ∃ x t, p = x :: t := by
        cases p with
        | nil => exact absurd rfl (n [] (by simp [hp]))
        | cons x t => exact ⟨x, t, rfl⟩
      exact ⟨x, t, e, hd (i + 1) p x t (by omega) (by simpa using hi) e⟩
theorem full_runs (c : Bool) (l : List Int) : (B.runs (B.all c l)).flatMap (B.full c) = B.full c l := by
  have h := runs_ok (B := B) (B.all c l)
  show _ = B.ord (B.all c l)
  rw [← ord_runs_all (B.all c l)]
  have : ∀ q ∈ B.runs (B.all c l), B.full c q = B.ord q := fun q hq => by
    unfold BaseF.full
    rw [B.all_irr]
    intro x hx
    refine B.irr_all c l x ?_
    rw [← h.flat]
    exact List.mem_flatten.2 ⟨q, hq, hx⟩
  rw [List.flatMap_def, List.flatMap_def, List.map_congr_left this]
/-! ### joining, with a head and the greatest class behind it -/
def BaseF.top (B : BaseF) (ms : List Int) : Int := ms.foldl (fun a m => max a (B.cls m)) 0
theorem top_snoc (ms : List Int) (r : Int) : B.top (ms ++ [r]) = max (B.top ms) (B.cls r) := by unfold BaseF.top; rw [List.foldl_append]; rfl
theorem top_lt (ms : List Int) (k : Int) : (ms.all fun m => decide (B.cls m < k)) = true ↔ ms = [] ∨ B.top ms < k := by
  induction ms using snoc_ind with
  | h0 => simp
  | h1 l r ih =>
    rw [top_snoc, List.all_append, Bool.and_eq_true, ih]
    have := B.cls0 r
    simp only [List.all_cons, List.all_nil, Bool.and_true, decide_eq_true_eq]
    constructor
    · rintro ⟨h1 | h1, h2⟩
      · subst h1; right; simp [BaseF.top]; omega
      · right; omega
    · rintro (h | h)
      · simp at h
      · exact ⟨.inr (by omega), by omega⟩
theorem top_nonneg (ms : List Int) : 0 ≤ B.top ms := by
  induction ms using snoc_ind with
  | h0 => simp [BaseF.top]
  | h1 l r ih => rw [top_snoc]; omega
/-- What is joined so far, with what the code knows of it. -/
structure PutAt (B : BaseF) (s : JS) (l : List Int) (hd : Int) (last : Int) : Prop where
  ok : B.JOk s
  out : l = s.out
  none : s.hd = Option.none → s.pre = [] ∧ hd = -1
  some : ∀ h, s.hd = Option.some h → hd = (s.pre.length : Int)
  last : last = B.top s.ms
theorem put_start : PutAt B ⟨[], none, []⟩ [] (-1) 0 := ⟨jok_nil, rfl, fun _ => ⟨rfl, rfl⟩, fun h e => (by cases e), rfl⟩
theorem JS.out_at {s : JS} {h : Int} (e : s.hd = some h) : s.out[s.pre.length]? = some h := by
  unfold JS.out
  rw [e]
  simp
theorem JS.out_len {s : JS} {h : Int} (e : s.hd = some h) : s.out.length = s.pre.length + 1 + s.ms.length := by
  unfold JS.out
  rw [e]
  simp
  omega
theorem put_app {s : JS} {l : List Int} {hd last : Int} (h : PutAt B s l hd last) (r : Int) :
    PutAt B (B.app s r) (l ++ [r]) (if B.cls r = 0 then (l.length : Int) else hd) (if B.cls r = 0 then 0 else max last (B.cls r)) := by
  have ho := h.out
  refine ⟨app_ok h.ok r, by rw [ho, app_out], fun e => ?_, fun c e => ?_, ?_⟩
  · unfold BaseF.app at e ⊢
    by_cases h0 : B.cls r = 0
    · rw [if_pos h0] at e; cases e
    · rw [if_neg h0] at e ⊢
      rw [if_neg h0]
      exact h.none e
  · unfold BaseF.app at e ⊢
    by_cases h0 : B.cls r = 0
    · rw [if_pos h0, if_pos h0, ho]
    · rw [if_neg h0] at e ⊢
      rw [if_neg h0]
      exact h.some c e
  · unfold BaseF.app
    by_cases h0 : B.cls r = 0
    · rw [if_pos h0, if_pos h0]; rfl
    · rw [if_neg h0, if_neg h0, h.last, top_snoc]
/-- Is a character to be joined with the head? -/
theorem put_join {s : JS} {l : List Int} {hd last : Int} (h : PutAt B s l hd last) (r : Int) {c0 c : Int} (e : s.hd = some c0) (ht : (l.length : Int) = hd + 1 ∨ last < B.cls r) (hp : B.pair c0 r = some c) :
    PutAt B (B.step s r) (l.set s.pre.length c) hd last := by
  have ho := h.out
  have ha : (s.ms.all fun m => decide (B.cls m < B.cls r)) = true := by
    rw [top_lt, ← h.last]
    rcases ht with ht | ht
    · left
      have h1 := h.some _ e
      have h2 := JS.out_len e
      rw [ho] at ht
      exact List.eq_nil_of_length_eq_zero (by omega)
    · exact .inr ht
  obtain ⟨pre, hd0, ms⟩ := s
  simp only [] at e
  subst e
  have hs : B.step ⟨pre, some c0, ms⟩ r = ⟨pre, some c, ms⟩ := by
    rw [step_some, if_pos ha, hp]
  refine ⟨step_ok h.ok r, ?_, ?_, ?_, ?_⟩
  · rw [hs, ho]; simp [JS.out, List.set_append]
  · rw [hs]; intro e; cases e
  · rw [hs]; intro _ _; exact h.some c0 rfl
  · rw [hs]; exact h.last
theorem put_not {s : JS} {l : List Int} {hd last : Int} (h : PutAt B s l hd last) (r : Int) (hn : s.hd = none ∨ (¬ ((l.length : Int) = hd + 1) ∧ ¬ last < B.cls r) ∨ ∃ c0, s.hd = some c0 ∧ B.pair c0 r = none) : B.step s r = B.app s r := by
  unfold BaseF.step
  rcases hn with hn | ⟨hn1, hn2⟩ | ⟨c0, e, hp⟩
  · rw [hn]
  · cases e : s.hd with
    | none => rfl
    | some c0 =>
      simp only []
      rw [if_neg]
      rw [top_lt, ← h.last]
      rintro (hm | hm)
      · have h1 := h.some _ e
        have h2 := JS.out_len e
        have ho := h.out
        rw [hm] at h2
        rw [← ho] at h2
        simp at h2
        omega
      · exact hn2 hm
  · rw [e]
    simp only [hp]
    split <;> rfl
/-! ### blocked -/
/-- The marks at the end. -/
def BaseF.tailM (B : BaseF) (l : List Int) : List Int := (l.reverse.takeWhile fun x => decide (B.cls x ≠ 0)).reverse
/-- Is one of class k blocked behind l? -/
def BaseF.blk (B : BaseF) (l : List Int) (k : Int) : Bool := (l.all fun x => decide (B.cls x ≠ 0)) || (B.tailM l).any fun m => decide (k ≤ B.cls m)
def BaseF.blocked (B : BaseF) (l : List Int) (i : Int) : Bool := if i < 0 ∨ (l.length : Int) ≤ i then true else B.blk (l.take i.toNat) (B.cls (l.getD i.toNat 0))
theorem tailM_head (p : List Int) (h : Int) (ms : List Int) (hh : B.cls h = 0) (hm : ∀ m ∈ ms, B.cls m ≠ 0) : B.tailM (p ++ h :: ms) = ms := by
  unfold BaseF.tailM
  rw [List.reverse_append, List.reverse_cons, List.append_assoc, List.takeWhile_append_of_pos (by simpa using hm)]
  simp [hh]
theorem tailM_none (ms : List Int) (hm : ∀ m ∈ ms, B.cls m ≠ 0) : B.tailM ms = ms := by
  unfold BaseF.tailM
  have := List.takeWhile_append_of_pos (p := fun x => decide (B.cls x ≠ 0)) (l₁ := ms.reverse) (l₂ := []) (by simpa using hm)
  simp at this ⊢
  rw [this]
  simp
theorem blk_head (p : List Int) (h : Int) (ms : List Int) (k : Int) (hh : B.cls h = 0) (hm : ∀ m ∈ ms, B.cls m ≠ 0) : B.blk (p ++ h :: ms) k = ms.any fun m => decide (k ≤ B.cls m) := by
  unfold BaseF.blk
  rw [tailM_head p h ms hh hm]
  simp [hh]
theorem blk_none (ms : List Int) (k : Int) (hm : ∀ m ∈ ms, B.cls m ≠ 0) : B.blk ms k = true := by
  unfold BaseF.blk
  simp
  exact .inl hm
/-- A list is marks alone, or what stands ahead of the last one that is none, that one, and marks. -/
theorem head_or (l : List Int) : (∀ m ∈ l, B.cls m ≠ 0) ∨ ∃ p h ms, l = p ++ h :: ms ∧ B.cls h = 0 ∧ ∀ m ∈ ms, B.cls m ≠ 0 := by
  induction l using snoc_ind with
  | h0 => left; simp
  | h1 l r ih =>
    by_cases h0 : B.cls r = 0
    · exact .inr ⟨l, r, [], rfl, h0, by simp⟩
    · rcases ih with h | ⟨p, h, ms, e, hh, hm⟩
      · left
        intro m hm
        rcases List.mem_append.1 hm with hm | hm
        · exact h m hm
        · simp at hm; subst hm; exact h0
      · refine .inr ⟨p, h, ms ++ [r], by rw [e]; simp, hh, fun m hm' => ?_⟩
        rcases List.mem_append.1 hm' with hm' | hm'
        · exact hm m hm'
        · simp at hm'; subst hm'; exact h0
theorem any_top (ms : List Int) (k : Int) : (ms.any fun m => decide (k ≤ B.cls m)) = (decide (ms ≠ []) && decide (k ≤ B.top ms)) := by
  have := top_lt (B := B) ms k
  rw [Bool.eq_iff_iff]
  simp only [List.any_eq_true, decide_eq_true_eq, Bool.and_eq_true, List.all_eq_true] at this ⊢
  constructor
  · rintro ⟨m, hm, h⟩
    refine ⟨fun e => (by subst e; cases hm), ?_⟩
    by_cases hk : k ≤ B.top ms
    · exact hk
    · have := this.2 (.inr (by omega)) m hm
      omega
  · rintro ⟨h1, h2⟩
    apply Classical.byContradiction
    intro hn
    have := this.1 fun m hm => by
      have : ¬ k ≤ B.cls m := fun e => hn ⟨m, hm, e⟩
      omega
    rcases this with h | h
    · exact h1 h
    · omega
/-! ### the document's joining -/
/-- One character more, as the document joins. -/
theorem step_blk {s : JS} (h : B.JOk s) (hn : s.hd = none → s.pre = []) (r : Int) : B.blk s.out (B.cls r) = true → B.step s r = B.app s r := by
  obtain ⟨pre, hd, ms⟩ := s
  cases hd with
  | none => intro _; rfl
  | some c0 =>
    intro hb
    have e : JS.out ⟨pre, some c0, ms⟩ = pre ++ c0 :: ms := rfl
    rw [e, blk_head pre c0 ms _ (h.hd c0 rfl) h.ms] at hb
    rw [step_some, if_neg]
    intro ha
    simp only [List.any_eq_true, decide_eq_true_eq, List.all_eq_true] at hb ha
    obtain ⟨m, hm, h1⟩ := hb
    have := ha m hm
    omega
theorem step_free {s : JS} (h : B.JOk s) (hn : s.hd = none → s.pre = []) (r : Int) : B.blk s.out (B.cls r) = false → ∃ c0, s.hd = some c0 ∧ B.step s r = match B.pair c0 r with | some c => ⟨s.pre, some c, s.ms⟩ | none => B.app s r := by
  obtain ⟨pre, hd, ms⟩ := s
  cases hd with
  | none =>
    intro hb
    have hp := hn rfl
    simp only [] at hp
    subst hp
    have e : JS.out ⟨[], none, ms⟩ = ms := rfl
    rw [e, blk_none ms _ h.ms] at hb
    cases hb
  | some c0 =>
    intro hb
    have e : JS.out ⟨pre, some c0, ms⟩ = pre ++ c0 :: ms := rfl
    rw [e, blk_head pre c0 ms _ (h.hd c0 rfl) h.ms] at hb
    refine ⟨c0, rfl, ?_⟩
    have ha : (ms.all fun m => decide (B.cls m < B.cls r)) = true := by
      simp only [List.any_eq_false, decide_eq_true_eq, List.all_eq_true] at hb ⊢
      intro m hm
      have := hb m hm
      omega
    rw [step_some, if_pos ha]
    cases B.pair c0 r <;> rfl
theorem app_pre {s : JS} (hn : s.hd = none → s.pre = []) (r : Int) : (B.app s r).hd = none → (B.app s r).pre = [] := by
  unfold BaseF.app
  split
  · intro e; cases e
  · exact hn
theorem step_pre {s : JS} (hn : s.hd = none → s.pre = []) (r : Int) : (B.step s r).hd = none → (B.step s r).pre = [] := by
  rcases step_cases (B := B) s r with h | ⟨h, c, e, _, _, h⟩
  · rw [h]; exact app_pre hn r
  · rw [h]; intro e; cases e
theorem run_pre : ∀ (l : List Int) {s : JS}, (s.hd = none → s.pre = []) → ((B.run s l).hd = none → (B.run s l).pre = [])
  | [], _, h => h
  | x :: l, s, h => by rw [run_cons]; exact run_pre l (step_pre h x)
/-! ### where texts are cut -/
/-- n is the last place at which one may cut. -/
structure CutAt (B : BaseF) (c j : Bool) (l : List Int) (n : Nat) : Prop where
  lt : n = 0 ∨ n < l.length
  safe : 0 < n → ∀ r, l[n]? = some r → B.safe c j r = true
  last : ∀ k r, n < k → l[k]? = some r → B.safe c j r = false
theorem cut_one {c j : Bool} {l : List Int} {n m : Nat} (h : CutAt B c j l n) (k : CutAt B c j l m) : n = m := by
  have key : ∀ {n m : Nat}, CutAt B c j l n → CutAt B c j l m → ¬ n < m := fun {n m} h k hlt => by
    have hm : m < l.length := by have := k.lt; omega
    have h1 := k.safe (by omega) _ (List.getElem?_eq_getElem hm)
    have h2 := h.last m _ hlt (List.getElem?_eq_getElem hm)
    rw [h1] at h2
    cases h2
  have h1 := key h k
  have h2 := key k h
  omega
noncomputable def BaseF.cut (B : BaseF) (c j : Bool) : List Int → Nat
  | l => ((List.range l.length).filter fun i => decide (0 < i) && B.safe c j (l.getD i 0)).getLastD 0
theorem cut_nil (c j : Bool) : CutAt B c j [] 0 := ⟨.inl rfl, fun h => absurd h (by omega), fun k r _ h => by simp at h⟩
/-- One character more (the document goes forward). -/
theorem CutAt.snoc {c j : Bool} {l : List Int} {n : Nat} (h : CutAt B c j l n) (r : Int) : CutAt B c j (l ++ [r]) (if l ≠ [] ∧ B.safe c j r = true then l.length else n) := by
  split
  · rename_i h1
    refine ⟨.inr (by simp), fun _ x hx => ?_, fun k x hk hx => ?_⟩
    · simp at hx; subst hx; exact h1.2
    · have := (List.getElem?_eq_some_iff.1 hx).1
      simp at this
      omega
  · rename_i h1
    refine ⟨by rcases h.lt with h | h <;> simp <;> omega, fun h0 x hx => ?_, fun k x hk hx => ?_⟩
    · have hn : n < l.length := by have := h.lt; omega
      rw [List.getElem?_append, if_pos hn] at hx
      exact h.safe h0 x hx
    · rw [List.getElem?_append] at hx
      split at hx
      · exact h.last k x hk hx
      · have hk2 : k = l.length := by
          have := (List.getElem?_eq_some_iff.1 hx).1
          simp at this
          omega
        subst hk2
        simp at hx
        subst hx
        have : l ≠ [] := fun e => by subst e; simp at hk
        simp [this] at h1
        exact h1
/-- There is such a place. -/
theorem cut_ex (c j : Bool) (l : List Int) : ∃ n, CutAt B c j l n := by
  induction l using snoc_ind with
  | h0 => exact ⟨0, cut_nil c j⟩
  | h1 l r ih => obtain ⟨n, h⟩ := ih; exact ⟨_, h.snoc r⟩
/-- What is fed, cut where it may be: each side by itself. -/
theorem CutAt.form {c j : Bool} {l : List Int} {n : Nat} (h : CutAt B c j l n) (b : List Int) : B.form c j (l ++ b) = B.form c j (l.take n) ++ B.form c j (l.drop n ++ b) := by
  rcases Nat.eq_zero_or_pos n with h0 | h0
  · subst h0
    simp [form_nil]
  · have hn : n < l.length := by have := h.lt; omega
    have hs := h.safe h0 _ (List.getElem?_eq_getElem hn)
    have e : l ++ b = l.take n ++ l[n] :: (l.drop (n + 1) ++ b) := by
      have e2 : l = l.take n ++ l[n] :: l.drop (n + 1) := by rw [← List.drop_eq_getElem_cons hn, List.take_append_drop]
      have e3 : ∀ (p q : List Int) (x : Int), l = p ++ x :: q → l ++ b = p ++ x :: (q ++ b) := fun p q x e => by rw [e]; simp
      exact e3 _ _ _ e2
    rw [e, form_cut _ _ hs, List.drop_eq_getElem_cons hn]
    rfl
/-! ### parts of what is Yes -/
theorem lastC_le {k k' : Int} (h : k' ≤ k) (l : List Int) : B.lastC k' l ≤ B.lastC k l := by
  cases l with
  | nil => exact h
  | cons x t => exact Int.le_refl _
theorem check_left {c j : Bool} {a b : List Int} (h : B.check c j (a ++ b) = 1) : B.check c j a = 1 ∧ B.check c j b = 1 := by
  rw [check_yes_is] at h ⊢
  rw [check_yes_is]
  obtain ⟨h1, h2⟩ := h
  rw [srt_app, Bool.and_eq_true] at h1
  exact ⟨⟨h1.1, fun r hr => h2 r (by simp [hr])⟩, srt_mono (lastC_nonneg (Int.le_refl 0) a) h1.2, fun r hr => h2 r (by simp [hr])⟩
theorem check_part {c j : Bool} {a b : List Int} (h : B.check c j (a ++ b) ≠ 2) : B.check c j a ≠ 2 ∧ B.check c j b ≠ 2 := by
  refine ⟨fun e => h ?_, fun e => h ?_⟩
  · rw [check_no_is] at e ⊢
    rcases e with e | ⟨r, hr, e⟩
    · left; rw [srt_app, e]; rfl
    · exact .inr ⟨r, by simp [hr], e⟩
  · rw [check_no_is] at e ⊢
    rcases e with e | ⟨r, hr, e⟩
    · left
      rw [srt_app]
      cases h3 : B.srt (B.lastC 0 a) b with
      | false => simp
      | true =>
        have := srt_mono (lastC_nonneg (Int.le_refl 0) a) h3
        rw [e] at this
        cases this
    · exact .inr ⟨r, by simp [hr], e⟩
/-- What is told at once, character by character. -/
noncomputable def BaseF.chk (B : BaseF) (c j : Bool) (l : List Int) : Int := if (∃ r ∈ l, B.kind c j r = 3) then 3 else 1
theorem chk_snoc {c j : Bool} (l : List Int) (r : Int) : B.chk c j (l ++ [r]) = if B.kind c j r = 3 then 3 else B.chk c j l := by
  unfold BaseF.chk
  by_cases h : B.kind c j r = 3
  · rw [if_pos ⟨r, by simp, h⟩, if_pos h]
  · rw [if_neg h]
    congr 1
    apply propext
    constructor
    · rintro ⟨x, hx, e⟩
      rcases List.mem_append.1 hx with hx | hx
      · exact ⟨x, hx, e⟩
      · simp at hx; subst hx; exact absurd e h
    · rintro ⟨x, hx, e⟩
      exact ⟨x, by simp [hx], e⟩
theorem check_chk {c j : Bool} {l : List Int} (hs : B.srt 0 l = true) (hn : ∀ r ∈ l, B.kind c j r ≠ 2) : B.check c j l = B.chk c j l := by
  unfold BaseF.check BaseF.worst BaseF.chk
  rw [if_pos hs, if_neg]
  rintro ⟨r, hr, e⟩
  exact hn r hr e
theorem check_not {c j : Bool} {l : List Int} (hs : B.srt 0 l = false) : B.check c j l = 2 := check_no_is.2 (.inl hs)
theorem check_has {c j : Bool} {l : List Int} {r : Int} (hr : r ∈ l) (h : B.kind c j r = 2) : B.check c j l = 2 := check_no_is.2 (.inr ⟨r, hr, h⟩)
theorem kind_three {c j : Bool} {r : Int} : B.kind c j r = 1 ∨ B.kind c j r = 2 ∨ B.kind c j r = 3 := by
  unfold BaseF.kind
  split
  · simp
  · split <;> simp
/-- Whether a text is in a form, by what is told at once. -/
theorem check_is {c j : Bool} {l : List Int} : (B.check c j l = 1 → B.form c j l = l) ∧ (B.check c j l = 2 → B.form c j l ≠ l) := ⟨check_yes, check_no⟩
theorem full_one_ne {c : Bool} {r : Int} : ∃ x t, B.full c [r] = x :: t := by
  cases h : B.full c [r] with
  | nil => exact absurd h full_ne
  | cons x t => exact ⟨x, t, rfl⟩
end Go.Proofs.YtggichcfklbjiaaGreatDoor
end

section
set_option linter.unusedSimpArgs false
set_option linter.unusedVariables false
namespace Go.Proofs.YtggichcfklbjiaaGreatDoor
open Go.RowKit

/-- Does what is parted again and again come to an end in n steps? -/
def endsN (D : Int → List Int) : Nat → Int → Bool
  | 0, r => (D r).isEmpty
  | n + 1, r => (D r).all (endsN D n)
theorem endsN_ends {D : Int → List Int} : ∀ {n : Nat} {r : Int}, endsN D n r = true → Ends D r
  | 0, r, h => by
    have : D r = [] := by simpa [endsN] using h
    exact Ends.of fun y hy => by rw [this] at hy; cases hy
  | n + 1, r, h => by
    unfold endsN at h
    rw [List.all_eq_true] at h
    exact Ends.of fun y hy => endsN_ends (h y hy)
def lenN (D : Int → List Int) : Nat → Int → Nat
  | 0, _ => 1
  | n + 1, r => if (D r).isEmpty = true then 1 else ((D r).map (lenN D n)).sum
theorem lenN_eq {D : Int → List Int} (wf : WellFounded fun y x => y ∈ D x) : ∀ {n : Nat} {r : Int}, endsN D n r = true → lenD D wf r = lenN D n r
  | 0, r, h => by
    have : D r = [] := by simpa [endsN] using h
    rw [lenD_eq, if_pos this]
    rfl
  | n + 1, r, h => by
    unfold endsN at h
    rw [List.all_eq_true] at h
    rw [lenD_eq]
    unfold lenN
    by_cases hd : D r = []
    · rw [if_pos hd, if_pos (by rw [hd]; rfl)]
    · rw [if_neg hd, if_neg (by simpa using hd), List.map_congr_left fun y hy => lenN_eq wf (h y hy)]
def keysL (rows : List RowS) : List Int := (rows.filter fun x => !x.il.isEmpty).map (·.fr)
theorem keys_mem {rows : List RowS} {r : Int} (h : (prtL rows r).isSome = true) : r ∈ keysL rows := by
  obtain ⟨q, hq⟩ := Option.isSome_iff_exists.1 h
  obtain ⟨x, hx, e, hne, _⟩ := prt_mem hq
  exact List.mem_map.2 ⟨x, List.mem_filter.2 ⟨hx, by simpa using hne⟩, e⟩
/-- Does New answer a base? (By reckoning, n steps deep.) -/
def newB (rows : List RowS) (out : List Int) (n : Nat) : Bool :=
  !rows.any thereB && !rows.any formB && (keysL rows).all (fun r => endsN (fun x => (decH (prtL rows) x).2) n r && decide (lenN (fun x => (decH (prtL rows) x).2) n r ≤ 18)) &&
    (keysL rows).all fun x => !madeQ (clsL rows) (prtL rows) out x || (!joinsB (madeT2 (prtL rows) x) && (keysL rows).all fun y => !madeQ (clsL rows) (prtL rows) out y || !decide (madeT2 (prtL rows) x = madeT2 (prtL rows) y) || decide (x = y))
theorem newB_ok {rows : List RowS} {out : List Int} {n : Nat} (h : newB rows out n = true) : NewOk rows out := by
  unfold newB at h
  simp only [Bool.and_eq_true, Bool.not_eq_true', List.all_eq_true, decide_eq_true_eq, Bool.or_eq_true, decide_eq_false_iff_not] at h
  obtain ⟨⟨⟨h1, h2⟩, h3⟩, h4⟩ := h
  have hq : ∀ x, madeQ (clsL rows) (prtL rows) out x = true → x ∈ keysL rows := fun x hx => keys_mem (by rw [(madeQ_true hx).1]; rfl)
  refine ⟨h1, h2, fun r hr => endsN_ends (h3 r (keys_mem hr)).1, fun wf r hr => ?_, fun x hx => ?_, fun x y hx hy e => ?_⟩
  · rw [lenN_eq wf (h3 r (keys_mem hr)).1]
    exact (h3 r (keys_mem hr)).2
  · rcases h4 x (hq x hx) with h | h
    · rw [hx] at h; cases h
    · exact h.1
  · rcases h4 x (hq x hx) with h | h
    · rw [hx] at h; cases h
    · rcases h.2 y (hq y hy) with (h | h) | h
      · rw [hy] at h; cases h
      · exact absurd e h
      · exact h
/-- A character, parted n steps deep. -/
def oneN (dec : Int → List UInt8 × List Int) (c : Bool) : Nat → Int → List Int
  | 0, r => [r]
  | n + 1, r => if (dec r).1.isEmpty = false ∧ c = false ∨ (dec r).2.isEmpty = true then [r] else (dec r).2.flatMap (oneN dec c n)
theorem oneN_eq {B : BaseF} {c : Bool} : ∀ {n : Nat} {r : Int}, endsN (fun x => (B.dec x).2) n r = true → B.one c r = oneN B.dec c (n + 1) r
  | n, r, h => by
    unfold oneN
    by_cases h0 : (B.dec r).1.isEmpty = false ∧ c = false ∨ (B.dec r).2.isEmpty = true
    · rw [if_pos h0]
      refine B.one_none ?_
      unfold BaseF.parts
      rcases h0 with ⟨h1, h2⟩ | h1
      · rw [if_pos ⟨(by intro e; rw [e] at h1; cases h1), h2⟩]
      · split
        · rfl
        · simpa using h1
    · rw [if_neg h0]
      have hp : B.parts c r = (B.dec r).2 := by
        unfold BaseF.parts
        rw [if_neg]
        rintro ⟨h1, h2⟩
        refine h0 (.inl ⟨?_, h2⟩)
        cases hd : (B.dec r).1 with
        | nil => exact absurd hd h1
        | cons a t => rfl
      rw [B.one_some (by rw [hp]; intro e; exact h0 (.inr (by rw [e]; rfl))), hp]
      match n, h with
      | 0, h =>
        have : (B.dec r).2 = [] := by simpa [endsN] using h
        rw [this]
        rfl
      | n + 1, h =>
        unfold endsN at h
        rw [List.all_eq_true] at h
        have key : ∀ l : List Int, (∀ y ∈ l, y ∈ (B.dec r).2) → l.flatMap (B.one c) = l.flatMap (oneN B.dec c (n + 1)) := fun l => by
          induction l with
          | nil => intro _; rfl
          | cons y t ih =>
            intro hm
            rw [List.flatMap_cons, List.flatMap_cons, oneN_eq (h y (hm y (by simp))), ih fun z hz => hm z (by simp [hz])]
        exact key _ fun y hy => hy
theorem full_eq {B : BaseF} {c : Bool} {n : Nat} {l : List Int} (h : ∀ r ∈ l, endsN (fun x => (B.dec x).2) n r = true) : B.full c l = B.ord (l.flatMap (oneN B.dec c (n + 1))) := by
  unfold BaseF.full BaseF.all
  congr 1
  induction l with
  | nil => rfl
  | cons y t ih => rw [List.flatMap_cons, List.flatMap_cons, oneN_eq (h y (by simp)), ih fun z hz => h z (by simp [hz])]
/-! ### the chapters' examples -/
def aw8S : ByteArray := ⟨#[48, 48, 67, 57, 59, 69, 59, 76, 117, 59, 48, 59, 59, 48, 48, 52, 53, 32, 48, 51, 48, 49, 10, 48, 51, 48, 49, 59, 88, 59, 77, 110, 59, 50, 51, 48, 59, 59]⟩
def aw8R : List RowS := [⟨201, 201, [69], [76, 117], 0, [], [69, 769]⟩, ⟨769, 769, [88], [77, 110], 230, [], []⟩]
theorem aw8_rows : rowsS (bs aw8S) = (aw8R, 0, 0) := by kernel_rfl
theorem aw8_none : setsS (bs ByteArray.empty) = ([], 0, 0) := by kernel_rfl
theorem aw8_out : setsS (bs ⟨#[48, 48, 67, 57]⟩) = ([201], 0, 0) := by kernel_rfl
theorem aw8_ok : newB aw8R [] 2 = true := by kernel_rfl
theorem aw8_ok2 : newB aw8R [201] 2 = true := by kernel_rfl
end Go.Proofs.YtggichcfklbjiaaGreatDoor
end
