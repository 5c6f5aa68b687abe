/- Forms of texts, over any base: parted, ordered, joined. Plain laws; no program stands here. Forms of texts, over any base: joined, and joined again. Plain laws; no program stands here. Forms of texts, over any base: the four forms, what single characters tell, and where texts are cut. Plain laws; no program stands here. Forms of texts, over any base: what turning characters about leaves, and how the code and the document reckon. Plain laws; no program stands here. Looking for a head, and what is blocked: plain laws; no program stands here. -/
set_option linter.unusedSimpArgs false
set_option linter.unusedVariables false
namespace Go.Proofs.YtobleaiecnpcoaaGreatDoor
section
structure BaseF where
 cls : Int → Int
 dec : Int → List UInt8 × List Int
 pair : Int → Int → Option Int
 sec : Int → Bool
 cls0 : ∀ r, 0 ≤ cls r
 made : ∀ x y r, pair x y = some r → dec r = ([], [x, y]) ∧ cls r = 0 ∧ sec y = true
 wf : WellFounded fun y x => y ∈ (dec x).2
variable (B : BaseF)
def BaseF.parts (c : Bool) (r : Int) : List Int := if (B.dec r).1 ≠ [] ∧ c = false then [] else (B.dec r).2
theorem parts_mem {B : BaseF} {c : Bool} {r x : Int} (h : x ∈ B.parts c r) : x ∈ (B.dec r).2 := by
 unfold BaseF.parts at h
 split at h
 ·simp at h
 ·exact h
noncomputable def BaseF.one (c : Bool) : Int → List Int :=
 B.wf.fix fun r ih => if B.parts c r = [] then [r] else (B.parts c r).attach.flatMap fun x => ih x.1 (parts_mem x.2)
theorem flatMap_attach {α β : Type} (l : List α) (f : α → List β) : (l.attach.flatMap fun x => f x.1) = l.flatMap f := by
 rw [show (fun x : {x // x ∈ l} => f x.1) = f ∘ Subtype.val from rfl, ← List.flatMap_map]
 simp
theorem BaseF.one_eq (c : Bool) (r : Int) : B.one c r = if B.parts c r = [] then [r] else (B.parts c r).flatMap (B.one c) := by
 unfold BaseF.one
 rw [WellFounded.fix_eq]
 split
 ·rfl
 ·exact flatMap_attach _ _
theorem BaseF.one_none {c : Bool} {r : Int} (h : B.parts c r = []) : B.one c r = [r] := by rw [B.one_eq, if_pos h]
theorem BaseF.one_some {c : Bool} {r : Int} (h : B.parts c r ≠ []) : B.one c r = (B.parts c r).flatMap (B.one c) := by rw [B.one_eq, if_neg h]
theorem BaseF.one_ne (c : Bool) (r : Int) : B.one c r ≠ [] := by
 induction r using B.wf.induction with
 | _ r ih =>
  by_cases h : B.parts c r = []
  ·rw [B.one_none h]; simp
  ·rw [B.one_some h]
   obtain ⟨x, t, hx⟩ : ∃ x t, B.parts c r = x :: t := by
    cases hp : B.parts c r with
    | nil => exact absurd hp h
    | cons x t => exact ⟨x, t, rfl⟩
   rw [hx, List.flatMap_cons]
   have := ih x (parts_mem (by rw [hx]; simp))
   simp [this]
theorem BaseF.one_irr {c : Bool} {r y : Int} (h : y ∈ B.one c r) : B.parts c y = [] := by
 induction r using B.wf.induction with
 | _ r ih =>
  by_cases hp : B.parts c r = []
  ·rw [B.one_none hp, List.mem_singleton] at h
   rw [h]; exact hp
  ·rw [B.one_some hp, List.mem_flatMap] at h
   obtain ⟨x, hx, hy⟩ := h
   exact ih x (parts_mem hx) hy
theorem BaseF.one_made {c : Bool} {x y r : Int} (h : B.pair x y = some r) : B.one c r = B.one c x ++ B.one c y := by
 have hd := (B.made x y r h).1
 have hp : B.parts c r = [x, y] := by unfold BaseF.parts; rw [hd]; simp
 rw [B.one_some (by rw [hp]; simp), hp]
 simp
noncomputable def BaseF.all (c : Bool) (l : List Int) : List Int := l.flatMap (B.one c)
theorem BaseF.all_app (c : Bool) (a b : List Int) : B.all c (a ++ b) = B.all c a ++ B.all c b := by simp [BaseF.all]
theorem BaseF.all_nil (c : Bool) : B.all c [] = [] := rfl
theorem BaseF.all_cons (c : Bool) (x : Int) (l : List Int) : B.all c (x :: l) = B.one c x ++ B.all c l := rfl
theorem BaseF.all_one (c : Bool) (x : Int) : B.all c [x] = B.one c x := by simp [BaseF.all]
def BaseF.Irr (c : Bool) (l : List Int) : Prop := ∀ x ∈ l, B.parts c x = []
theorem BaseF.all_irr {c : Bool} : ∀ {l : List Int}, B.Irr c l → B.all c l = l
 | [], _ => rfl
 | x :: l, h => by
  rw [B.all_cons, B.one_none (h x (by simp)), BaseF.all_irr (l := l) fun y hy => h y (by simp [hy])]
  rfl
theorem BaseF.irr_all (c : Bool) (l : List Int) : B.Irr c (B.all c l) := by
 intro y hy
 obtain ⟨x, _, hx⟩ := List.mem_flatMap.1 hy
 exact B.one_irr hx
def BaseF.ins : List Int → Int → List Int
 | [], r => [r]
 | x :: t, r => if B.cls r ≠ 0 ∧ B.cls r < B.cls x then x :: BaseF.ins t r else r :: x :: t
def BaseF.ordR (l : List Int) : List Int := l.foldl B.ins []
def BaseF.ord (l : List Int) : List Int := (B.ordR l).reverse
theorem BaseF.ins_split (acc : List Int) (r : Int) : ∃ Q A, acc = Q ++ A ∧ B.ins acc r = Q ++ r :: A ∧ (∀ q ∈ Q, B.cls r < B.cls q ∧ B.cls r ≠ 0) ∧ (∀ a t, A = a :: t → B.cls r = 0 ∨ B.cls a ≤ B.cls r) := by
 induction acc with
 | nil => exact ⟨[], [], rfl, rfl, by simp, by simp⟩
 | cons x t ih =>
  unfold BaseF.ins
  split
  ·rename_i h
   obtain ⟨Q, A, h1, h2, h3, h4⟩ := ih
   refine ⟨x :: Q, A, by rw [h1]; rfl, by rw [h2]; rfl, fun q hq => ?_, h4⟩
   rcases List.mem_cons.1 hq with rfl | hq
   ·exact ⟨h.2, h.1⟩
   ·exact h3 q hq
  ·rename_i h
   refine ⟨[], x :: t, rfl, rfl, by simp, fun a t' e => ?_⟩
   injection e with e1 _
   subst e1
   omega
theorem BaseF.ord_snoc (l : List Int) (r : Int) : B.ordR (l ++ [r]) = B.ins (B.ordR l) r := by
 unfold BaseF.ordR
 rw [List.foldl_append]
 rfl
theorem BaseF.ordR_app (l m : List Int) : B.ordR (l ++ m) = m.foldl B.ins (B.ordR l) := by
 unfold BaseF.ordR
 rw [List.foldl_append]
inductive BaseF.Eqv : List Int → List Int → Prop
 | refl (l : List Int) : Eqv l l
 | swap (p : List Int) (x y : Int) (s : List Int) : 0 < B.cls x → 0 < B.cls y → B.cls x ≠ B.cls y → Eqv (p ++ x :: y :: s) (p ++ y :: x :: s)
 | trans {a b c : List Int} : Eqv a b → Eqv b c → Eqv a c
variable {B}
theorem BaseF.Eqv.symm {a b : List Int} (h : B.Eqv a b) : B.Eqv b a := by
 induction h with
 | refl => exact .refl _
 | swap p x y s h1 h2 h3 => exact .swap p y x s h2 h1 (fun e => h3 e.symm)
 | trans _ _ i1 i2 => exact .trans i2 i1
theorem BaseF.Eqv.left {a b : List Int} (q : List Int) (h : B.Eqv a b) : B.Eqv (q ++ a) (q ++ b) := by
 induction h with
 | refl => exact .refl _
 | swap p x y s h1 h2 h3 =>
  rw [← List.append_assoc, ← List.append_assoc]
  exact .swap (q ++ p) x y s h1 h2 h3
 | trans _ _ i1 i2 => exact .trans i1 i2
theorem BaseF.Eqv.right {a b : List Int} (q : List Int) (h : B.Eqv a b) : B.Eqv (a ++ q) (b ++ q) := by
 induction h with
 | refl => exact .refl _
 | swap p x y s h1 h2 h3 =>
  rw [List.append_assoc, List.append_assoc]
  exact .swap p x y (s ++ q) h1 h2 h3
 | trans _ _ i1 i2 => exact .trans i1 i2
theorem BaseF.Eqv.both {a b c d : List Int} (h : B.Eqv a b) (h2 : B.Eqv c d) : B.Eqv (a ++ c) (b ++ d) := (h.right c).trans (h2.left b)
theorem ins_comm (acc : List Int) {x y : Int} (hx : 0 < B.cls x) (hy : 0 < B.cls y) (hlt : B.cls x < B.cls y) : B.ins (B.ins acc x) y = B.ins (B.ins acc y) x := by
 induction acc with
 | nil =>
  simp only [BaseF.ins]
  rw [if_neg (by omega), if_pos (by omega)]
 | cons a t ih =>
  by_cases h1 : B.cls y < B.cls a
  ·have e1 : B.ins (a :: t) x = a :: B.ins t x := by simp only [BaseF.ins]; rw [if_pos (by omega)]
   have e2 : B.ins (a :: t) y = a :: B.ins t y := by simp only [BaseF.ins]; rw [if_pos (by omega)]
   rw [e1, e2]
   simp only [BaseF.ins]
   rw [if_pos (by omega), if_pos (by omega), ih]
  ·have e2 : B.ins (a :: t) y = y :: a :: t := by simp only [BaseF.ins]; rw [if_neg (by omega)]
   rw [e2]
   by_cases h2 : B.cls x < B.cls a
   ·have e1 : B.ins (a :: t) x = a :: B.ins t x := by simp only [BaseF.ins]; rw [if_pos (by omega)]
    rw [e1]
    have e3 : B.ins (y :: a :: t) x = y :: B.ins (a :: t) x := by simp only [BaseF.ins]; rw [if_pos (by omega)]
    rw [e3, e1]
    simp only [BaseF.ins]
    rw [if_neg (by omega)]
   ·have e1 : B.ins (a :: t) x = x :: a :: t := by simp only [BaseF.ins]; rw [if_neg (by omega)]
    rw [e1]
    have e3 : B.ins (y :: a :: t) x = y :: B.ins (a :: t) x := by simp only [BaseF.ins]; rw [if_pos (by omega)]
    rw [e3, e1]
    simp only [BaseF.ins]
    rw [if_neg (by omega)]
theorem BaseF.Eqv.ordR {a b : List Int} (h : B.Eqv a b) : B.ordR a = B.ordR b := by
 induction h with
 | refl => rfl
 | swap p x y s h1 h2 h3 =>
  have e : ∀ u v : Int, B.ordR (p ++ u :: v :: s) = s.foldl B.ins (B.ins (B.ins (B.ordR p) u) v) := fun u v => by
   rw [B.ordR_app]; rfl
  rw [e, e]
  rcases Int.lt_or_gt_of_ne h3 with h | h
  ·rw [ins_comm _ h1 h2 h]
  ·rw [ins_comm _ h2 h1 h]
 | trans _ _ i1 i2 => exact i1.trans i2
theorem BaseF.Eqv.ord {a b : List Int} (h : B.Eqv a b) : B.ord a = B.ord b := by unfold BaseF.ord; rw [h.ordR]
theorem BaseF.Eqv.pass {r : Int} : ∀ {ms : List Int}, (∀ m ∈ ms, 0 < B.cls m ∧ B.cls m < B.cls r) → B.Eqv (r :: ms) (ms ++ [r])
 | [], _ => .refl _
 | m :: ms, h => by
  have hm := h m (by simp)
  have h1 : B.Eqv (r :: m :: ms) (m :: r :: ms) := .swap [] r m ms (by omega) hm.1 (by omega)
  have h2 := BaseF.Eqv.left [m] (BaseF.Eqv.pass (ms := ms) fun x hx => h x (by simp [hx]))
  exact h1.trans h2
theorem ins_eqv (acc : List Int) (r : Int) : B.Eqv (acc.reverse ++ [r]) (B.ins acc r).reverse := by
 obtain ⟨Q, A, h1, h2, h3, _⟩ := B.ins_split acc r
 rw [h2, h1]
 simp only [List.reverse_append, List.reverse_cons, List.append_assoc]
 refine BaseF.Eqv.left _ ?_
 have : ∀ Q : List Int, (∀ q ∈ Q, B.cls r < B.cls q ∧ B.cls r ≠ 0) → B.Eqv (Q ++ [r]) ([r] ++ Q) := by
  intro Q
  induction Q with
  | nil => intro _; exact .refl _
  | cons q Q ih =>
   intro h
   have hq := h q (by simp)
   have h0 := B.cls0 r
   have h1 := BaseF.Eqv.left [q] (ih fun x hx => h x (by simp [hx]))
   have h2 : B.Eqv (q :: r :: Q) (r :: q :: Q) := .swap [] q r Q (by omega) (by omega) (by omega)
   exact h1.trans h2
 exact this _ fun q hq => h3 q (by simpa using hq)
theorem eqv_ord (l : List Int) : B.Eqv l (B.ord l) := by
 have : ∀ (s acc p : List Int), B.Eqv p acc.reverse → B.Eqv (p ++ s) (s.foldl B.ins acc).reverse := by
  intro s
  induction s with
  | nil => intro acc p h; simpa using h
  | cons r s ih =>
   intro acc p h
   have h1 := ih (B.ins acc r) (p ++ [r]) ((h.right [r]).trans (ins_eqv acc r))
   simpa using h1
 exact this l [] [] (.refl _)
theorem BaseF.Eqv.mem {a b : List Int} (h : B.Eqv a b) : ∀ x, x ∈ a ↔ x ∈ b := by
 induction h with
 | refl => exact fun _ => Iff.rfl
 | swap p x y s _ _ _ =>
  intro z
  simp only [List.mem_append, List.mem_cons]
  constructor <;> (rintro (h | h | h | h) <;> simp [h])
 | trans _ _ i1 i2 => exact fun x => (i1 x).trans (i2 x)
theorem BaseF.Eqv.length {a b : List Int} (h : B.Eqv a b) : a.length = b.length := by
 induction h with
 | refl => rfl
 | swap p x y s _ _ _ => simp
 | trans _ _ i1 i2 => exact i1.trans i2
def BaseF.srt (B : BaseF) : Int → List Int → Bool
 | _, [] => true
 | k, r :: t => (decide (B.cls r = 0) || decide (k ≤ B.cls r)) && BaseF.srt B (B.cls r) t
def BaseF.lastC (B : BaseF) (k : Int) (l : List Int) : Int := l.foldl (fun _ r => B.cls r) k
end
section
structure JS where
 pre : List Int
 hd : Option Int
 ms : List Int
def JS.out (s : JS) : List Int := s.pre ++ (s.hd.toList ++ s.ms)
variable {B : BaseF}
def BaseF.app (B : BaseF) (s : JS) (r : Int) : JS := if B.cls r = 0 then ⟨s.out, some r, []⟩ else ⟨s.pre, s.hd, s.ms ++ [r]⟩
def BaseF.step (B : BaseF) (s : JS) (r : Int) : JS :=
 match s.hd with
 | none => B.app s r
 | some h => if (s.ms.all fun m => decide (B.cls m < B.cls r)) = true then (match B.pair h r with | some c => ⟨s.pre, some c, s.ms⟩ | none => B.app s r) else B.app s r
def BaseF.run (B : BaseF) (s : JS) (l : List Int) : JS := l.foldl B.step s
def BaseF.join (B : BaseF) (l : List Int) : List Int := (B.run ⟨[], none, []⟩ l).out
theorem jrun_app (s : JS) (a b : List Int) : B.run s (a ++ b) = B.run (B.run s a) b := by unfold BaseF.run; rw [List.foldl_append]
theorem run_cons (s : JS) (x : Int) (b : List Int) : B.run s (x :: b) = B.run (B.step s x) b := rfl
theorem run_snoc (s : JS) (a : List Int) (x : Int) : B.run s (a ++ [x]) = B.step (B.run s a) x := by rw [jrun_app]; rfl
def JS.behind (q : List Int) (s : JS) : JS := ⟨q ++ s.pre, s.hd, s.ms⟩
theorem JS.behind_out (q : List Int) (s : JS) : (s.behind q).out = q ++ s.out := by simp [JS.behind, JS.out]
theorem app_behind (q : List Int) (s : JS) (r : Int) : B.app (s.behind q) r = (B.app s r).behind q := by
 unfold BaseF.app
 split
 ·rw [JS.behind_out]; rfl
 ·rfl
theorem step_some (p : List Int) (h : Int) (ms : List Int) (r : Int) : B.step ⟨p, some h, ms⟩ r = if (ms.all fun m => decide (B.cls m < B.cls r)) = true then (match B.pair h r with | some c => ⟨p, some c, ms⟩ | none => B.app ⟨p, some h, ms⟩ r) else B.app ⟨p, some h, ms⟩ r := rfl
theorem step_behind (q : List Int) (s : JS) (r : Int) : B.step (s.behind q) r = (B.step s r).behind q := by
 obtain ⟨p, hd, ms⟩ := s
 cases hd with
 | none => exact app_behind q _ r
 | some h =>
  have ha := app_behind (B := B) q ⟨p, some h, ms⟩ r
  show B.step ⟨q ++ p, some h, ms⟩ r = _
  have ha' : B.app ⟨q ++ p, some h, ms⟩ r = (B.app ⟨p, some h, ms⟩ r).behind q := ha
  rw [step_some, step_some, ha']
  split
  ·cases B.pair h r <;> rfl
  ·rfl
theorem run_behind (q : List Int) : ∀ (l : List Int) (s : JS), B.run (s.behind q) l = (B.run s l).behind q
 | [], _ => rfl
 | r :: l, s => by
  rw [run_cons, run_cons, step_behind]
  exact run_behind q l (B.step s r)
structure BaseF.JOk (B : BaseF) (s : JS) : Prop where
 ms : ∀ m ∈ s.ms, B.cls m ≠ 0
 hd : ∀ h, s.hd = some h → B.cls h = 0
theorem jok_nil : B.JOk ⟨[], none, []⟩ := ⟨by simp, by simp⟩
theorem app_ok {s : JS} (h : B.JOk s) (r : Int) : B.JOk (B.app s r) := by
 unfold BaseF.app
 split
 ·rename_i hr
  exact ⟨by simp, fun x hx => by injection hx with hx; rw [← hx]; exact hr⟩
 ·rename_i hr
  refine ⟨fun m hm => ?_, h.hd⟩
  rcases List.mem_append.1 hm with hm | hm
  ·exact h.ms m hm
  ·rw [List.mem_singleton] at hm; rw [hm]; exact hr
theorem step_cases (s : JS) (r : Int) : B.step s r = B.app s r ∨ ∃ h c, s.hd = some h ∧ (∀ m ∈ s.ms, B.cls m < B.cls r) ∧ B.pair h r = some c ∧ B.step s r = ⟨s.pre, some c, s.ms⟩ := by
 obtain ⟨p, hd, ms⟩ := s
 cases hd with
 | none => exact .inl rfl
 | some h =>
  unfold BaseF.step
  simp only []
  split
  ·rename_i ha
   cases hp : B.pair h r with
   | none => exact .inl rfl
   | some c => exact .inr ⟨h, c, rfl, by simpa using ha, hp, rfl⟩
  ·exact .inl rfl
theorem step_ok {s : JS} (h : B.JOk s) (r : Int) : B.JOk (B.step s r) := by
 rcases step_cases (B := B) s r with e | ⟨x, c, h1, h2, h3, e⟩
 ·rw [e]; exact app_ok h r
 ·rw [e]
  exact ⟨h.ms, fun y hy => by injection hy with hy; rw [← hy]; exact (B.made x r c h3).2.1⟩
theorem run_ok : ∀ (l : List Int) {s : JS}, B.JOk s → B.JOk (B.run s l)
 | [], _, h => h
 | r :: l, s, h => run_ok l (step_ok h r)
theorem app_out (s : JS) (r : Int) : (B.app s r).out = s.out ++ [r] := by
 unfold BaseF.app
 split
 ·simp [JS.out]
 ·simp [JS.out]
theorem step_cut {s : JS} {x : Int} (hx : B.cls x = 0) (hs : B.sec x = false) : B.step s x = ⟨s.out, some x, []⟩ := by
 rcases step_cases (B := B) s x with e | ⟨h, c, _, _, h3, _⟩
 ·rw [e]; unfold BaseF.app; rw [if_pos hx]
 ·have := (B.made h x c h3).2.2
  rw [hs] at this
  cases this
theorem join_cut (a : List Int) {x : Int} (b : List Int) (hx : B.cls x = 0) (hs : B.sec x = false) : B.join (a ++ x :: b) = B.join a ++ B.join (x :: b) := by
 unfold BaseF.join
 rw [jrun_app, run_cons, run_cons, step_cut hx hs, step_cut hx hs]
 have e : (⟨(B.run ⟨[], none, []⟩ a).out, some x, []⟩ : JS) = (⟨[], some x, []⟩ : JS).behind (B.run ⟨[], none, []⟩ a).out := by simp [JS.behind]
 rw [e, run_behind, JS.behind_out]
 rfl
theorem step_eqv {c : Bool} {p : List Int} {s : JS} (hok : B.JOk s) {r : Int} (hr : B.parts c r = []) (hms : ∀ m ∈ s.ms, B.parts c m = []) (h : B.Eqv (B.all c s.out) p) : B.Eqv (B.all c (B.step s r).out) (p ++ [r]) := by
 rcases step_cases (B := B) s r with e | ⟨x, y, h1, h2, h3, e⟩
 ·rw [e, app_out, B.all_app, B.all_one, B.one_none hr]
  exact h.right _
 ·rw [e]
  obtain ⟨pre, hd, ms⟩ := s
  simp only [] at h1 h2 hms
  subst h1
  have hmi : B.all c ms = ms := B.all_irr hms
  have e1 : B.all c (JS.out ⟨pre, some y, ms⟩) = B.all c pre ++ (B.one c x ++ ([r] ++ ms)) := by
   simp only [JS.out, Option.toList, B.all_app, B.all_one, hmi, B.one_made h3, B.one_none hr, List.append_assoc]
  have e2 : B.all c (JS.out ⟨pre, some x, ms⟩) = B.all c pre ++ (B.one c x ++ ms) := by
   simp only [JS.out, Option.toList, B.all_app, B.all_one, hmi]
  rw [e1]
  rw [e2] at h
  have h4 := h.right [r]
  refine BaseF.Eqv.trans ?_ h4
  simp only [List.append_assoc]
  refine BaseF.Eqv.left _ (BaseF.Eqv.left _ ?_)
  refine BaseF.Eqv.pass fun m hm => ⟨?_, h2 m hm⟩
  have := hok.ms m hm
  have := B.cls0 m
  omega
theorem step_ms {s : JS} {r m : Int} (h : m ∈ (B.step s r).ms) : m ∈ s.ms ∨ m = r := by
 rcases step_cases (B := B) s r with e | ⟨x, y, h1, h2, h3, e⟩
 ·rw [e] at h
  unfold BaseF.app at h
  split at h
  ·simp at h
  ·simpa using h
 ·rw [e] at h
  exact .inl h
theorem run_eqv {c : Bool} : ∀ (d p : List Int) (s : JS), B.JOk s → B.Irr c d → (∀ m ∈ s.ms, B.parts c m = []) → B.Eqv (B.all c s.out) p → B.Eqv (B.all c (B.run s d).out) (p ++ d)
 | [], p, s, _, _, _, h => by
  show B.Eqv (B.all c s.out) (p ++ [])
  rw [List.append_nil]
  exact h
 | r :: d, p, s, hok, hd, hms, h => by
  have hr := hd r (by simp)
  have h1 := run_eqv d (p ++ [r]) (B.step s r) (step_ok hok r) (fun x hx => hd x (by simp [hx])) (fun m hm => by
   rcases step_ms hm with hm | rfl
   ·exact hms m hm
   ·exact hr) (step_eqv hok hr hms h)
  rw [run_cons]
  simpa using h1
theorem join_all {c : Bool} {d : List Int} (hd : B.Irr c d) : B.Eqv (B.all c (B.join d)) d := by
 have := run_eqv (B := B) (c := c) d [] ⟨[], none, []⟩ jok_nil hd (by simp) (by rw [show JS.out ⟨[], none, []⟩ = [] from rfl, B.all_nil]; exact .refl _)
 simpa [BaseF.join] using this
def BaseF.Kept (B : BaseF) (c : Bool) (x : Int) : Prop := B.srt 0 (B.one c x) = true ∧ B.join (B.one c x) = [x]
theorem kept_irr {c : Bool} {x : Int} (h : B.parts c x = []) : B.Kept c x := by
 unfold BaseF.Kept
 rw [B.one_none h]
 refine ⟨?_, ?_⟩
 ·have := B.cls0 x
  simp [BaseF.srt]; omega
 ·unfold BaseF.join BaseF.run
  simp only [List.foldl_cons, List.foldl_nil, BaseF.step, app_out]
  rfl
structure BaseF.JInv (B : BaseF) (c : Bool) (p : List Int) (s : JS) : Prop where
 ok : B.JOk s
 pre : ∀ x ∈ s.pre, B.Kept c x
 irr : ∀ m ∈ s.ms, B.parts c m = []
 emp : s.hd = none → s.pre = []
 top : ∀ m ∈ s.ms, B.cls m ≤ B.lastC 0 p
 srt : B.srt 0 s.out = true
 hd : ∀ h, s.hd = some h → B.run ⟨[], none, []⟩ (B.one c h) = ⟨[], some h, []⟩ ∧ B.srt 0 (B.one c h) = true ∧ (B.lastC 0 (B.one c h) ≤ B.lastC 0 p)
theorem JInv.out {c : Bool} {p : List Int} {s : JS} (h : B.JInv c p s) : ∀ x ∈ s.out, B.Kept c x := by
 intro x hx
 unfold JS.out at hx
 rcases List.mem_append.1 hx with hx | hx
 ·exact h.pre x hx
 ·rcases List.mem_append.1 hx with hx | hx
  ·have hh : s.hd = some x := by simpa using hx
   obtain ⟨h1, h2, _⟩ := h.hd x hh
   exact ⟨h2, by unfold BaseF.join; rw [h1]; rfl⟩
  ·exact kept_irr (h.irr x hx)
theorem step_len (s : JS) (r : Int) : (B.step s r).out.length ≤ s.out.length + 1 := by
 rcases step_cases (B := B) s r with e | ⟨x, y, h1, h2, h3, e⟩
 ·rw [e, app_out]; simp
 ·rw [e]
  unfold JS.out
  rw [h1]
  simp
theorem run_len : ∀ (d : List Int) (s : JS), (B.run s d).out.length ≤ s.out.length + d.length
 | [], s => by simp [BaseF.run]
 | r :: d, s => by
  have h1 := run_len d (B.step s r)
  have h2 := step_len (B := B) s r
  rw [run_cons, List.length_cons]
  omega
theorem join_len (d : List Int) : (B.join d).length ≤ d.length := by
 have := run_len (B := B) d ⟨[], none, []⟩
 simpa [BaseF.join, JS.out] using this
end
section
variable {B : BaseF}
noncomputable def BaseF.full (B : BaseF) (c : Bool) (l : List Int) : List Int := B.ord (B.all c l)
noncomputable def BaseF.form (B : BaseF) (c j : Bool) (l : List Int) : List Int := if j = true then B.join (B.full c l) else B.full c l
theorem full_irr (c : Bool) (l : List Int) : B.Irr c (B.full c l) := fun x hx => B.irr_all c l x (((eqv_ord _).mem x).2 hx)
theorem form_eqv (c j : Bool) (l : List Int) : B.Eqv (B.all c (B.form c j l)) (B.all c l) := by
 unfold BaseF.form
 split
 ·exact (join_all (full_irr c l)).trans (eqv_ord _).symm
 ·rw [B.all_irr (full_irr c l)]
  exact (eqv_ord _).symm
theorem full_form (c j : Bool) (l : List Int) : B.full c (B.form c j l) = B.full c l := (form_eqv c j l).ord
noncomputable def BaseF.kind (B : BaseF) (c j : Bool) (r : Int) : Int := if B.form c j [r] ≠ [r] then 2 else if j = true ∧ B.sec ((B.full c [r]).headD 0) = true then 3 else 1
noncomputable def BaseF.safe (B : BaseF) (c j : Bool) (r : Int) : Bool := decide (B.cls ((B.full c [r]).headD 0) = 0) && !(j && B.sec ((B.full c [r]).headD 0))
noncomputable def BaseF.worst (B : BaseF) (c j : Bool) (l : List Int) : Int := if (∃ r ∈ l, B.kind c j r = 2) then 2 else if (∃ r ∈ l, B.kind c j r = 3) then 3 else 1
noncomputable def BaseF.check (B : BaseF) (c j : Bool) (l : List Int) : Int := if B.srt 0 l = true then B.worst c j l else 2
theorem snoc_ind {p : List Int → Prop} (h0 : p []) (h1 : ∀ l x, p l → p (l ++ [x])) (l : List Int) : p l := by
 rw [← List.reverse_reverse l]
 induction l.reverse with
 | nil => exact h0
 | cons x t ih => rw [List.reverse_cons]; exact h1 _ _ ih
end
section
variable {B : BaseF}
def BaseF.inv (B : BaseF) : List Int → Nat
 | [] => 0
 | x :: t => t.countP (fun y => decide (0 < B.cls y ∧ B.cls y < B.cls x)) + BaseF.inv B t
def swp (l : List Int) (i : Nat) : List Int := match l[i]?, l[i + 1]? with | some x, some y => (l.set i y).set (i + 1) x | _, _ => l
theorem ins_past {r : Int} (hr : B.cls r ≠ 0) : ∀ {Q : List Int} (A : List Int), (∀ q ∈ Q, B.cls r < B.cls q) → B.ins (Q ++ A) r = Q ++ B.ins A r
 | [], A, _ => rfl
 | q :: Q, A, h => by
  have := ins_past hr (Q := Q) A fun x hx => h x (by simp [hx])
  simp only [List.cons_append, BaseF.ins]
  rw [if_pos ⟨hr, h q (by simp)⟩, this]
theorem ins_here {r : Int} {A : List Int} (h : ∀ a t, A = a :: t → B.cls r = 0 ∨ B.cls a ≤ B.cls r) : B.ins A r = r :: A := by
 cases A with
 | nil => rfl
 | cons a t =>
  have := h a t rfl
  simp only [BaseF.ins]
  rw [if_neg (by omega)]
theorem ordR_len (l : List Int) : (B.ordR l).length = l.length := by
 have := (eqv_ord (B := B) l).length
 unfold BaseF.ord at this
 simpa using this.symm
theorem ord_len (l : List Int) : (B.ord l).length = l.length := (eqv_ord (B := B) l).length.symm
theorem ord_take_snoc {l : List Int} {k : Nat} {r : Int} (h : l[k]? = some r) : B.ordR (l.take (k + 1)) = B.ins (B.ordR (l.take k)) r := by
 rw [List.take_add_one, h]
 exact B.ord_snoc _ _
def BaseF.top (B : BaseF) (ms : List Int) : Int := ms.foldl (fun a m => max a (B.cls m)) 0
theorem top_snoc (ms : List Int) (r : Int) : B.top (ms ++ [r]) = max (B.top ms) (B.cls r) := by unfold BaseF.top; rw [List.foldl_append]; rfl
theorem top_lt (ms : List Int) (k : Int) : (ms.all fun m => decide (B.cls m < k)) = true ↔ ms = [] ∨ B.top ms < k := by
 induction ms using snoc_ind with
 | h0 => simp
 | h1 l r ih =>
  rw [top_snoc, List.all_append, Bool.and_eq_true, ih]
  have := B.cls0 r
  simp only [List.all_cons, List.all_nil, Bool.and_true, decide_eq_true_eq]
  constructor
  ·rintro ⟨h1 | h1, h2⟩
   ·subst h1; right; simp [BaseF.top]; omega
   ·right; omega
  ·rintro (h | h)
   ·simp at h
   ·exact ⟨.inr (by omega), by omega⟩
theorem top_nonneg (ms : List Int) : 0 ≤ B.top ms := by
 induction ms using snoc_ind with
 | h0 => simp [BaseF.top]
 | h1 l r ih => rw [top_snoc]; omega
structure PutAt (B : BaseF) (s : JS) (l : List Int) (hd : Int) (last : Int) : Prop where
 ok : B.JOk s
 out : l = s.out
 none : s.hd = Option.none → s.pre = [] ∧ hd = -1
 some : ∀ h, s.hd = Option.some h → hd = (s.pre.length : Int)
 last : last = B.top s.ms
theorem put_start : PutAt B ⟨[], none, []⟩ [] (-1) 0 := ⟨jok_nil, rfl, fun _ => ⟨rfl, rfl⟩, fun h e => (by cases e), rfl⟩
theorem JS.out_at {s : JS} {h : Int} (e : s.hd = some h) : s.out[s.pre.length]? = some h := by
 unfold JS.out
 rw [e]
 simp
theorem JS.out_len {s : JS} {h : Int} (e : s.hd = some h) : s.out.length = s.pre.length + 1 + s.ms.length := by
 unfold JS.out
 rw [e]
 simp
 omega
theorem put_app {s : JS} {l : List Int} {hd last : Int} (h : PutAt B s l hd last) (r : Int) :
  PutAt B (B.app s r) (l ++ [r]) (if B.cls r = 0 then (l.length : Int) else hd) (if B.cls r = 0 then 0 else max last (B.cls r)) := by
 have ho := h.out
 refine ⟨app_ok h.ok r, by rw [ho, app_out], fun e => ?_, fun c e => ?_, ?_⟩
 ·unfold BaseF.app at e ⊢
  by_cases h0 : B.cls r = 0
  ·rw [if_pos h0] at e; cases e
  ·rw [if_neg h0] at e ⊢
   rw [if_neg h0]
   exact h.none e
 ·unfold BaseF.app at e ⊢
  by_cases h0 : B.cls r = 0
  ·rw [if_pos h0, if_pos h0, ho]
  ·rw [if_neg h0] at e ⊢
   rw [if_neg h0]
   exact h.some c e
 ·unfold BaseF.app
  by_cases h0 : B.cls r = 0
  ·rw [if_pos h0, if_pos h0]; rfl
  ·rw [if_neg h0, if_neg h0, h.last, top_snoc]
theorem put_join {s : JS} {l : List Int} {hd last : Int} (h : PutAt B s l hd last) (r : Int) {c0 c : Int} (e : s.hd = some c0) (ht : (l.length : Int) = hd + 1 ∨ last < B.cls r) (hp : B.pair c0 r = some c) :
  PutAt B (B.step s r) (l.set s.pre.length c) hd last := by
 have ho := h.out
 have ha : (s.ms.all fun m => decide (B.cls m < B.cls r)) = true := by
  rw [top_lt, ← h.last]
  rcases ht with ht | ht
  ·left
   have h1 := h.some _ e
   have h2 := JS.out_len e
   rw [ho] at ht
   exact List.eq_nil_of_length_eq_zero (by omega)
  ·exact .inr ht
 obtain ⟨pre, hd0, ms⟩ := s
 simp only [] at e
 subst e
 have hs : B.step ⟨pre, some c0, ms⟩ r = ⟨pre, some c, ms⟩ := by
  rw [step_some, if_pos ha, hp]
 refine ⟨step_ok h.ok r, ?_, ?_, ?_, ?_⟩
 ·rw [hs, ho]; simp [JS.out, List.set_append]
 ·rw [hs]; intro e; cases e
 ·rw [hs]; intro _ _; exact h.some c0 rfl
 ·rw [hs]; exact h.last
theorem put_not {s : JS} {l : List Int} {hd last : Int} (h : PutAt B s l hd last) (r : Int) (hn : s.hd = none ∨ (¬ ((l.length : Int) = hd + 1) ∧ ¬ last < B.cls r) ∨ ∃ c0, s.hd = some c0 ∧ B.pair c0 r = none) : B.step s r = B.app s r := by
 unfold BaseF.step
 rcases hn with hn | ⟨hn1, hn2⟩ | ⟨c0, e, hp⟩
 ·rw [hn]
 ·cases e : s.hd with
  | none => rfl
  | some c0 =>
   simp only []
   rw [if_neg]
   rw [top_lt, ← h.last]
   rintro (hm | hm)
   ·have h1 := h.some _ e
    have h2 := JS.out_len e
    have ho := h.out
    rw [hm] at h2
    rw [← ho] at h2
    simp at h2
    omega
   ·exact hn2 hm
 ·rw [e]
  simp only [hp]
  split <;> rfl
def BaseF.tailM (B : BaseF) (l : List Int) : List Int := (l.reverse.takeWhile fun x => decide (B.cls x ≠ 0)).reverse
def BaseF.blk (B : BaseF) (l : List Int) (k : Int) : Bool := (l.all fun x => decide (B.cls x ≠ 0)) || (B.tailM l).any fun m => decide (k ≤ B.cls m)
def BaseF.blocked (B : BaseF) (l : List Int) (i : Int) : Bool := if i < 0 ∨ (l.length : Int) ≤ i then true else B.blk (l.take i.toNat) (B.cls (l.getD i.toNat 0))
theorem tailM_head (p : List Int) (h : Int) (ms : List Int) (hh : B.cls h = 0) (hm : ∀ m ∈ ms, B.cls m ≠ 0) : B.tailM (p ++ h :: ms) = ms := by
 unfold BaseF.tailM
 rw [List.reverse_append, List.reverse_cons, List.append_assoc, List.takeWhile_append_of_pos (by simpa using hm)]
 simp [hh]
theorem blk_head (p : List Int) (h : Int) (ms : List Int) (k : Int) (hh : B.cls h = 0) (hm : ∀ m ∈ ms, B.cls m ≠ 0) : B.blk (p ++ h :: ms) k = ms.any fun m => decide (k ≤ B.cls m) := by
 unfold BaseF.blk
 rw [tailM_head p h ms hh hm]
 simp [hh]
theorem blk_none (ms : List Int) (k : Int) (hm : ∀ m ∈ ms, B.cls m ≠ 0) : B.blk ms k = true := by
 unfold BaseF.blk
 simp
 exact .inl hm
theorem head_or (l : List Int) : (∀ m ∈ l, B.cls m ≠ 0) ∨ ∃ p h ms, l = p ++ h :: ms ∧ B.cls h = 0 ∧ ∀ m ∈ ms, B.cls m ≠ 0 := by
 induction l using snoc_ind with
 | h0 => left; simp
 | h1 l r ih =>
  by_cases h0 : B.cls r = 0
  ·exact .inr ⟨l, r, [], rfl, h0, by simp⟩
  ·rcases ih with h | ⟨p, h, ms, e, hh, hm⟩
   ·left
    intro m hm
    rcases List.mem_append.1 hm with hm | hm
    ·exact h m hm
    ·simp at hm; subst hm; exact h0
   ·refine .inr ⟨p, h, ms ++ [r], by rw [e]; simp, hh, fun m hm' => ?_⟩
    rcases List.mem_append.1 hm' with hm' | hm'
    ·exact hm m hm'
    ·simp at hm'; subst hm'; exact h0
theorem any_top (ms : List Int) (k : Int) : (ms.any fun m => decide (k ≤ B.cls m)) = (decide (ms ≠ []) && decide (k ≤ B.top ms)) := by
 have := top_lt (B := B) ms k
 rw [Bool.eq_iff_iff]
 simp only [List.any_eq_true, decide_eq_true_eq, Bool.and_eq_true, List.all_eq_true] at this ⊢
 constructor
 ·rintro ⟨m, hm, h⟩
  refine ⟨fun e => (by subst e; cases hm), ?_⟩
  by_cases hk : k ≤ B.top ms
  ·exact hk
  ·have := this.2 (.inr (by omega)) m hm
   omega
 ·rintro ⟨h1, h2⟩
  apply Classical.byContradiction
  intro hn
  have := this.1 fun m hm => by
   have : ¬ k ≤ B.cls m := fun e => hn ⟨m, hm, e⟩
   omega
  rcases this with h | h
  ·exact h1 h
  ·omega
theorem step_blk {s : JS} (h : B.JOk s) (hn : s.hd = none → s.pre = []) (r : Int) : B.blk s.out (B.cls r) = true → B.step s r = B.app s r := by
 obtain ⟨pre, hd, ms⟩ := s
 cases hd with
 | none => intro _; rfl
 | some c0 =>
  intro hb
  have e : JS.out ⟨pre, some c0, ms⟩ = pre ++ c0 :: ms := rfl
  rw [e, blk_head pre c0 ms _ (h.hd c0 rfl) h.ms] at hb
  rw [step_some, if_neg]
  intro ha
  simp only [List.any_eq_true, decide_eq_true_eq, List.all_eq_true] at hb ha
  obtain ⟨m, hm, h1⟩ := hb
  have := ha m hm
  omega
theorem step_free {s : JS} (h : B.JOk s) (hn : s.hd = none → s.pre = []) (r : Int) : B.blk s.out (B.cls r) = false → ∃ c0, s.hd = some c0 ∧ B.step s r = match B.pair c0 r with | some c => ⟨s.pre, some c, s.ms⟩ | none => B.app s r := by
 obtain ⟨pre, hd, ms⟩ := s
 cases hd with
 | none =>
  intro hb
  have hp := hn rfl
  simp only [] at hp
  subst hp
  have e : JS.out ⟨[], none, ms⟩ = ms := rfl
  rw [e, blk_none ms _ h.ms] at hb
  cases hb
 | some c0 =>
  intro hb
  have e : JS.out ⟨pre, some c0, ms⟩ = pre ++ c0 :: ms := rfl
  rw [e, blk_head pre c0 ms _ (h.hd c0 rfl) h.ms] at hb
  refine ⟨c0, rfl, ?_⟩
  have ha : (ms.all fun m => decide (B.cls m < B.cls r)) = true := by
   simp only [List.any_eq_false, decide_eq_true_eq, List.all_eq_true] at hb ⊢
   intro m hm
   have := hb m hm
   omega
  rw [step_some, if_pos ha] <;> (cases B.pair c0 r <;> rfl)
theorem app_pre {s : JS} (hn : s.hd = none → s.pre = []) (r : Int) : (B.app s r).hd = none → (B.app s r).pre = [] := by
 unfold BaseF.app
 split
 ·intro e; cases e
 ·exact hn
theorem step_pre {s : JS} (hn : s.hd = none → s.pre = []) (r : Int) : (B.step s r).hd = none → (B.step s r).pre = [] := by
 rcases step_cases (B := B) s r with h | ⟨h, c, e, _, _, h⟩
 ·rw [h]; exact app_pre hn r
 ·rw [h]; intro e; cases e
theorem run_pre : ∀ (l : List Int) {s : JS}, (s.hd = none → s.pre = []) → ((B.run s l).hd = none → (B.run s l).pre = [])
 | [], _, h => h
 | x :: l, s, h => by rw [run_cons]; exact run_pre l (step_pre h x)
noncomputable def BaseF.cut (B : BaseF) (c j : Bool) : List Int → Nat
 | l => ((List.range l.length).filter fun i => decide (0 < i) && B.safe c j (l.getD i 0)).getLastD 0
end
section
variable {B : BaseF}
def BaseF.findR (B : BaseF) : List Int → Int → Int × Int
 | [], last => (-1, last)
 | r :: t, last => if B.cls r = 0 then ((t.length : Int), last) else B.findR t (max last (B.cls r))
def BaseF.findS (B : BaseF) (l : List Int) : Int × Int := B.findR l.reverse 0
theorem find_step {l : List Int} {k : Nat} {r : Int} (h : l[k]? = some r) (last : Int) :
  B.findR (l.take (k + 1)).reverse last = if B.cls r = 0 then ((k : Int), last) else B.findR (l.take k).reverse (max last (B.cls r)) := by
 have hk := (List.getElem?_eq_some_iff.1 h).1
 rw [List.take_add_one, h]
 show B.findR (l.take k ++ [r]).reverse last = _
 rw [List.reverse_append]
 show (if B.cls r = 0 then ((((l.take k).reverse).length : Int), last) else _) = _
 rw [List.length_reverse, List.length_take, Nat.min_eq_left (by omega)]
 rfl
theorem find_marks : ∀ (l : List Int) (last : Int), (∀ m ∈ l, B.cls m ≠ 0) → (B.findR l last).1 = -1
 | [], _, _ => rfl
 | r :: t, last, h => by
  unfold BaseF.findR
  rw [if_neg (h r (by simp))]
  exact find_marks t _ fun m hm => h m (by simp [hm])
theorem find_head (p : List Int) {h : Int} (hh : B.cls h = 0) (ms : List Int) : ∀ last : Int, 0 ≤ last → (∀ m ∈ ms, B.cls m ≠ 0) → B.findR (p ++ h :: ms).reverse last = ((p.length : Int), max last (B.top ms)) := by
 induction ms using snoc_ind with
 | h0 =>
  intro last h0 _
  rw [List.reverse_append]
  show (if B.cls h = 0 then ((p.reverse.length : Int), last) else _) = _
  rw [if_pos hh, List.length_reverse]
  show (_, last) = (_, max last 0)
  rw [Int.max_eq_left h0]
 | h1 ms m ih =>
  intro last h0 hm
  have e : (p ++ h :: (ms ++ [m])).reverse = m :: (p ++ h :: ms).reverse := by simp
  rw [e]
  show (if B.cls m = 0 then _ else B.findR (p ++ h :: ms).reverse (max last (B.cls m))) = _
  rw [if_neg (hm m (by simp)), ih _ (by have := B.cls0 m; omega) fun x hx => hm x (by simp [hx]), top_snoc]
  congr 1
  omega
theorem blk_find (q : List Int) (k : Int) : B.blk q k = (decide ((B.findS q).1 = -1) || (decide ((B.findS q).1 + 1 < (q.length : Int)) && decide (k ≤ (B.findS q).2))) := by
 rcases head_or (B := B) q with h | ⟨p, h, ms, rfl, hh, hm⟩
 ·rw [blk_none q k h]
  have e : (B.findS q).1 = -1 := find_marks _ 0 fun m hm => h m (List.mem_reverse.1 hm)
  rw [decide_eq_true e, Bool.true_or]
 ·have e : B.findS (p ++ h :: ms) = ((p.length : Int), max 0 (B.top ms)) := find_head p hh ms 0 (Int.le_refl _) hm
  rw [blk_head p h ms k hh hm, any_top, e]
  have h1 : decide (((p.length : Int)) = -1) = false := decide_eq_false (by omega)
  simp only []
  rw [h1, Bool.false_or, Int.max_eq_right (top_nonneg ms)]
  congr 1
  rw [Bool.eq_iff_iff, decide_eq_true_iff, decide_eq_true_iff, List.length_append, List.length_cons]
  constructor
  ·intro h2
   have := List.length_pos_iff.2 h2
   omega
  ·intro h2 e2
   rw [e2] at h2
   simp at h2
theorem find_place (q : List Int) : (B.findS q).1 = -1 ∨ ∃ k : Nat, (B.findS q).1 = (k : Int) ∧ k < q.length := by
 rcases head_or (B := B) q with h | ⟨p, h, ms, rfl, hh, hm⟩
 ·exact .inl (find_marks _ 0 fun m hm => h m (List.mem_reverse.1 hm))
 ·have e : B.findS (p ++ h :: ms) = ((p.length : Int), max 0 (B.top ms)) := find_head p hh ms 0 (Int.le_refl _) hm
  exact .inr ⟨p.length, by rw [e], by simp⟩
theorem blk_no (q : List Int) (k : Int) (h : (B.findS q).1 = -1) : B.blk q k = true := by rw [blk_find, h]; rfl
theorem blk_drop (q : List Int) (k : Int) {j : Nat} (h : (B.findS q).1 = (j : Int)) : B.blk q k = (q.drop (j + 1)).any fun m => decide (k ≤ B.cls m) := by
 rcases head_or (B := B) q with h1 | ⟨p, c, ms, rfl, hh, hm⟩
 ·have : (B.findS q).1 = -1 := find_marks _ 0 fun m hm => h1 m (List.mem_reverse.1 hm)
  omega
 ·have e : B.findS (p ++ c :: ms) = ((p.length : Int), max 0 (B.top ms)) := find_head p hh ms 0 (Int.le_refl _) hm
  rw [e] at h
  have hj : j = p.length := by
   have h2 : ((p.length : Int)) = (j : Int) := h
   omega
  subst hj
  rw [blk_head p c ms k hh hm]
  congr 1
  rw [List.drop_append, List.drop_eq_nil_of_le (by omega)]
  have : p.length + 1 - p.length = 1 := by omega
  rw [this]
  rfl
theorem find_out {s : JS} (h : B.JOk s) (hn : s.hd = none → s.pre = []) : (s.hd = none → (B.findS s.out).1 = -1) ∧ ∀ c, s.hd = some c → (B.findS s.out).1 = (s.pre.length : Int) := by
 obtain ⟨pre, hd, ms⟩ := s
 refine ⟨fun e => ?_, fun c e => ?_⟩
 ·simp only [] at e
  subst e
  have hp := hn rfl
  simp only [] at hp
  subst hp
  exact find_marks _ 0 fun m hm => h.ms m (by have := List.mem_reverse.1 hm; simpa [JS.out] using this)
 ·simp only [] at e
  subst e
  have e2 : JS.out ⟨pre, some c, ms⟩ = pre ++ c :: ms := rfl
  rw [e2]
  have := find_head pre (h.hd c rfl) ms 0 (Int.le_refl _) h.ms
  show (B.findR _ 0).1 = _
  rw [this]
theorem blocked_out (l : List Int) (i : Int) (h : i < 0 ∨ (l.length : Int) ≤ i) : B.blocked l i = true := by unfold BaseF.blocked; rw [if_pos h]
theorem blocked_in {l : List Int} {i : Nat} {r : Int} (h : l[i]? = some r) : B.blocked l (i : Int) = B.blk (l.take i) (B.cls r) := by
 have hi := (List.getElem?_eq_some_iff.1 h).1
 unfold BaseF.blocked
 rw [if_neg (by omega), Int.toNat_natCast, List.getD_eq_getElem?_getD, h]
 rfl
end
end Go.Proofs.YtobleaiecnpcoaaGreatDoor
