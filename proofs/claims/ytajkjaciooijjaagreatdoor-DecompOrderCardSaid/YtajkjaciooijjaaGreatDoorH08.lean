/- Forms of texts, over any base: parted, ordered, joined. Plain laws; no program stands here. Forms of texts, over any base: joined, and joined again. Plain laws; no program stands here. Forms of texts, over any base: the four forms, what single characters tell, and where texts are cut. Plain laws; no program stands here. Forms of texts, over any base: what turning characters about leaves, and how the code and the document reckon. Plain laws; no program stands here. -/
section
set_option linter.unusedSimpArgs false
set_option linter.unusedVariables false
namespace Go.Proofs.YtajkjaciooijjaaGreatDoor
structure BaseF where
 cls : Int → Int
 dec : Int → List UInt8 × List Int
 pair : Int → Int → Option Int
 sec : Int → Bool
 cls0 : ∀ r, 0 ≤ cls r
 made : ∀ x y r, pair x y = some r → dec r = ([], [x, y]) ∧ cls r = 0 ∧ sec y = true
 wf : WellFounded fun y x => y ∈ (dec x).2
variable (B : BaseF)
def BaseF.parts (c : Bool) (r : Int) : List Int := if (B.dec r).1 ≠ [] ∧ c = false then [] else (B.dec r).2
theorem parts_mem {B : BaseF} {c : Bool} {r x : Int} (h : x ∈ B.parts c r) : x ∈ (B.dec r).2 := by
 unfold BaseF.parts at h
 split at h
 ·simp at h
 ·exact h
noncomputable def BaseF.one (c : Bool) : Int → List Int :=
 B.wf.fix fun r ih => if B.parts c r = [] then [r] else (B.parts c r).attach.flatMap fun x => ih x.1 (parts_mem x.2)
theorem flatMap_attach {α β : Type} (l : List α) (f : α → List β) : (l.attach.flatMap fun x => f x.1) = l.flatMap f := by
 rw [show (fun x : {x // x ∈ l} => f x.1) = f ∘ Subtype.val from rfl, ← List.flatMap_map]
 simp
theorem BaseF.one_eq (c : Bool) (r : Int) : B.one c r = if B.parts c r = [] then [r] else (B.parts c r).flatMap (B.one c) := by
 unfold BaseF.one
 rw [WellFounded.fix_eq]
 split
 ·rfl
 ·exact flatMap_attach _ _
theorem BaseF.one_none {c : Bool} {r : Int} (h : B.parts c r = []) : B.one c r = [r] := by rw [B.one_eq, if_pos h]
theorem BaseF.one_some {c : Bool} {r : Int} (h : B.parts c r ≠ []) : B.one c r = (B.parts c r).flatMap (B.one c) := by rw [B.one_eq, if_neg h]
theorem BaseF.one_ne (c : Bool) (r : Int) : B.one c r ≠ [] := by
 induction r using B.wf.induction with
 | _ r ih =>
  by_cases h : B.parts c r = []
  ·rw [B.one_none h]; simp
  ·rw [B.one_some h]
   obtain ⟨x, t, hx⟩ : ∃ x t, B.parts c r = x :: t := by
    cases hp : B.parts c r with
    | nil => exact absurd hp h
    | cons x t => exact ⟨x, t, rfl⟩
   rw [hx, List.flatMap_cons]
   have := ih x (parts_mem (by rw [hx]; simp))
   simp [this]
theorem BaseF.one_irr {c : Bool} {r y : Int} (h : y ∈ B.one c r) : B.parts c y = [] := by
 induction r using B.wf.induction with
 | _ r ih =>
  by_cases hp : B.parts c r = []
  ·rw [B.one_none hp, List.mem_singleton] at h
   rw [h]; exact hp
  ·rw [B.one_some hp, List.mem_flatMap] at h
   obtain ⟨x, hx, hy⟩ := h
   exact ih x (parts_mem hx) hy
theorem BaseF.one_made {c : Bool} {x y r : Int} (h : B.pair x y = some r) : B.one c r = B.one c x ++ B.one c y := by
 have hd := (B.made x y r h).1
 have hp : B.parts c r = [x, y] := by unfold BaseF.parts; rw [hd]; simp
 rw [B.one_some (by rw [hp]; simp), hp]
 simp
noncomputable def BaseF.all (c : Bool) (l : List Int) : List Int := l.flatMap (B.one c)
theorem BaseF.all_app (c : Bool) (a b : List Int) : B.all c (a ++ b) = B.all c a ++ B.all c b := by simp [BaseF.all]
theorem BaseF.all_nil (c : Bool) : B.all c [] = [] := rfl
theorem BaseF.all_cons (c : Bool) (x : Int) (l : List Int) : B.all c (x :: l) = B.one c x ++ B.all c l := rfl
theorem BaseF.all_one (c : Bool) (x : Int) : B.all c [x] = B.one c x := by simp [BaseF.all]
def BaseF.Irr (c : Bool) (l : List Int) : Prop := ∀ x ∈ l, B.parts c x = []
theorem BaseF.all_irr {c : Bool} : ∀ {l : List Int}, B.Irr c l → B.all c l = l
 | [], _ => rfl
 | x :: l, h => by
  rw [B.all_cons, B.one_none (h x (by simp)), BaseF.all_irr (l := l) fun y hy => h y (by simp [hy])]
  rfl
theorem BaseF.irr_all (c : Bool) (l : List Int) : B.Irr c (B.all c l) := by
 intro y hy
 obtain ⟨x, _, hx⟩ := List.mem_flatMap.1 hy
 exact B.one_irr hx
def BaseF.ins : List Int → Int → List Int
 | [], r => [r]
 | x :: t, r => if B.cls r ≠ 0 ∧ B.cls r < B.cls x then x :: BaseF.ins t r else r :: x :: t
def BaseF.ordR (l : List Int) : List Int := l.foldl B.ins []
def BaseF.ord (l : List Int) : List Int := (B.ordR l).reverse
theorem BaseF.ins_split (acc : List Int) (r : Int) : ∃ Q A, acc = Q ++ A ∧ B.ins acc r = Q ++ r :: A ∧ (∀ q ∈ Q, B.cls r < B.cls q ∧ B.cls r ≠ 0) ∧ (∀ a t, A = a :: t → B.cls r = 0 ∨ B.cls a ≤ B.cls r) := by
 induction acc with
 | nil => exact ⟨[], [], rfl, rfl, by simp, by simp⟩
 | cons x t ih =>
  unfold BaseF.ins
  split
  ·rename_i h
   obtain ⟨Q, A, h1, h2, h3, h4⟩ := ih
   refine ⟨x :: Q, A, by rw [h1]; rfl, by rw [h2]; rfl, fun q hq => ?_, h4⟩
   rcases List.mem_cons.1 hq with rfl | hq
   ·exact ⟨h.2, h.1⟩
   ·exact h3 q hq
  ·rename_i h
   refine ⟨[], x :: t, rfl, rfl, by simp, fun a t' e => ?_⟩
   injection e with e1 _
   subst e1
   omega
theorem BaseF.ord_snoc (l : List Int) (r : Int) : B.ordR (l ++ [r]) = B.ins (B.ordR l) r := by
 unfold BaseF.ordR
 rw [List.foldl_append]
 rfl
theorem BaseF.ordR_app (l m : List Int) : B.ordR (l ++ m) = m.foldl B.ins (B.ordR l) := by
 unfold BaseF.ordR
 rw [List.foldl_append]
inductive BaseF.Eqv : List Int → List Int → Prop
 | refl (l : List Int) : Eqv l l
 | swap (p : List Int) (x y : Int) (s : List Int) : 0 < B.cls x → 0 < B.cls y → B.cls x ≠ B.cls y → Eqv (p ++ x :: y :: s) (p ++ y :: x :: s)
 | trans {a b c : List Int} : Eqv a b → Eqv b c → Eqv a c
variable {B}
theorem BaseF.Eqv.symm {a b : List Int} (h : B.Eqv a b) : B.Eqv b a := by
 induction h with
 | refl => exact .refl _
 | swap p x y s h1 h2 h3 => exact .swap p y x s h2 h1 (fun e => h3 e.symm)
 | trans _ _ i1 i2 => exact .trans i2 i1
theorem BaseF.Eqv.left {a b : List Int} (q : List Int) (h : B.Eqv a b) : B.Eqv (q ++ a) (q ++ b) := by
 induction h with
 | refl => exact .refl _
 | swap p x y s h1 h2 h3 =>
  rw [← List.append_assoc, ← List.append_assoc]
  exact .swap (q ++ p) x y s h1 h2 h3
 | trans _ _ i1 i2 => exact .trans i1 i2
theorem BaseF.Eqv.right {a b : List Int} (q : List Int) (h : B.Eqv a b) : B.Eqv (a ++ q) (b ++ q) := by
 induction h with
 | refl => exact .refl _
 | swap p x y s h1 h2 h3 =>
  rw [List.append_assoc, List.append_assoc]
  exact .swap p x y (s ++ q) h1 h2 h3
 | trans _ _ i1 i2 => exact .trans i1 i2
theorem BaseF.Eqv.both {a b c d : List Int} (h : B.Eqv a b) (h2 : B.Eqv c d) : B.Eqv (a ++ c) (b ++ d) := (h.right c).trans (h2.left b)
theorem ins_comm (acc : List Int) {x y : Int} (hx : 0 < B.cls x) (hy : 0 < B.cls y) (hlt : B.cls x < B.cls y) : B.ins (B.ins acc x) y = B.ins (B.ins acc y) x := by
 induction acc with
 | nil =>
  simp only [BaseF.ins]
  rw [if_neg (by omega), if_pos (by omega)]
 | cons a t ih =>
  by_cases h1 : B.cls y < B.cls a
  ·have e1 : B.ins (a :: t) x = a :: B.ins t x := by simp only [BaseF.ins]; rw [if_pos (by omega)]
   have e2 : B.ins (a :: t) y = a :: B.ins t y := by simp only [BaseF.ins]; rw [if_pos (by omega)]
   rw [e1, e2]
   simp only [BaseF.ins]
   rw [if_pos (by omega), if_pos (by omega), ih]
  ·have e2 : B.ins (a :: t) y = y :: a :: t := by simp only [BaseF.ins]; rw [if_neg (by omega)]
   rw [e2]
   by_cases h2 : B.cls x < B.cls a
   ·have e1 : B.ins (a :: t) x = a :: B.ins t x := by simp only [BaseF.ins]; rw [if_pos (by omega)]
    rw [e1]
    have e3 : B.ins (y :: a :: t) x = y :: B.ins (a :: t) x := by simp only [BaseF.ins]; rw [if_pos (by omega)]
    rw [e3, e1]
    simp only [BaseF.ins]
    rw [if_neg (by omega)]
   ·have e1 : B.ins (a :: t) x = x :: a :: t := by simp only [BaseF.ins]; rw [if_neg (by omega)]
    rw [e1]
    have e3 : B.ins (y :: a :: t) x = y :: B.ins (a :: t) x := by simp only [BaseF.ins]; rw [if_pos (by omega)]
    rw [e3, e1]
    simp only [BaseF.ins]
    rw [if_neg (by omega)]
theorem BaseF.Eqv.ordR {a b : List Int} (h : B.Eqv a b) : B.ordR a = B.ordR b := by
 induction h with
 | refl => rfl
 | swap p x y s h1 h2 h3 =>
  have e : ∀ u v : Int, B.ordR (p ++ u :: v :: s) = s.foldl B.ins (B.ins (B.ins (B.ordR p) u) v) := fun u v => by
   rw [B.ordR_app]; rfl
  rw [e, e]
  rcases Int.lt_or_gt_of_ne h3 with h | h
  ·rw [ins_comm _ h1 h2 h]
  ·rw [ins_comm _ h2 h1 h]
 | trans _ _ i1 i2 => exact i1.trans i2
theorem BaseF.Eqv.ord {a b : List Int} (h : B.Eqv a b) : B.ord a = B.ord b := by unfold BaseF.ord; rw [h.ordR]
theorem BaseF.Eqv.pass {r : Int} : ∀ {ms : List Int}, (∀ m ∈ ms, 0 < B.cls m ∧ B.cls m < B.cls r) → B.Eqv (r :: ms) (ms ++ [r])
 | [], _ => .refl _
 | m :: ms, h => by
  have hm := h m (by simp)
  have h1 : B.Eqv (r :: m :: ms) (m :: r :: ms) := .swap [] r m ms (by omega) hm.1 (by omega)
  have h2 := BaseF.Eqv.left [m] (BaseF.Eqv.pass (ms := ms) fun x hx => h x (by simp [hx]))
  exact h1.trans h2
theorem ins_eqv (acc : List Int) (r : Int) : B.Eqv (acc.reverse ++ [r]) (B.ins acc r).reverse := by
 obtain ⟨Q, A, h1, h2, h3, _⟩ := B.ins_split acc r
 rw [h2, h1]
 simp only [List.reverse_append, List.reverse_cons, List.append_assoc]
 refine BaseF.Eqv.left _ ?_
 have : ∀ Q : List Int, (∀ q ∈ Q, B.cls r < B.cls q ∧ B.cls r ≠ 0) → B.Eqv (Q ++ [r]) ([r] ++ Q) := by
  intro Q
  induction Q with
  | nil => intro _; exact .refl _
  | cons q Q ih =>
   intro h
   have hq := h q (by simp)
   have h0 := B.cls0 r
   have h1 := BaseF.Eqv.left [q] (ih fun x hx => h x (by simp [hx]))
   have h2 : B.Eqv (q :: r :: Q) (r :: q :: Q) := .swap [] q r Q (by omega) (by omega) (by omega)
   exact h1.trans h2
 exact this _ fun q hq => h3 q (by simpa using hq)
theorem eqv_ord (l : List Int) : B.Eqv l (B.ord l) := by
 have : ∀ (s acc p : List Int), B.Eqv p acc.reverse → B.Eqv (p ++ s) (s.foldl B.ins acc).reverse := by
  intro s
  induction s with
  | nil => intro acc p h; simpa using h
  | cons r s ih =>
   intro acc p h
   have h1 := ih (B.ins acc r) (p ++ [r]) ((h.right [r]).trans (ins_eqv acc r))
   simpa using h1
 exact this l [] [] (.refl _)
theorem ord_ord (l : List Int) : B.ord (B.ord l) = B.ord l := (eqv_ord l).symm.ord
theorem BaseF.Eqv.mem {a b : List Int} (h : B.Eqv a b) : ∀ x, x ∈ a ↔ x ∈ b := by
 induction h with
 | refl => exact fun _ => Iff.rfl
 | swap p x y s _ _ _ =>
  intro z
  simp only [List.mem_append, List.mem_cons]
  constructor <;> (rintro (h | h | h | h) <;> simp [h])
 | trans _ _ i1 i2 => exact fun x => (i1 x).trans (i2 x)
theorem BaseF.Eqv.length {a b : List Int} (h : B.Eqv a b) : a.length = b.length := by
 induction h with
 | refl => rfl
 | swap p x y s _ _ _ => simp
 | trans _ _ i1 i2 => exact i1.trans i2
theorem BaseF.Eqv.nil_iff {a b : List Int} (h : B.Eqv a b) : a = [] ↔ b = [] := by
 rw [← List.length_eq_zero_iff, ← List.length_eq_zero_iff, h.length]
def BaseF.srt (B : BaseF) : Int → List Int → Bool
 | _, [] => true
 | k, r :: t => (decide (B.cls r = 0) || decide (k ≤ B.cls r)) && BaseF.srt B (B.cls r) t
def BaseF.lastC (B : BaseF) (k : Int) (l : List Int) : Int := l.foldl (fun _ r => B.cls r) k
theorem lastC_snoc (k : Int) (l : List Int) (r : Int) : B.lastC k (l ++ [r]) = B.cls r := by simp [BaseF.lastC]
theorem srt_app : ∀ (k : Int) (a b : List Int), B.srt k (a ++ b) = (B.srt k a && B.srt (B.lastC k a) b)
 | k, [], b => by simp [BaseF.srt, BaseF.lastC]
 | k, x :: a, b => by
  show ((decide (B.cls x = 0) || decide (k ≤ B.cls x)) && B.srt (B.cls x) (a ++ b)) = _
  rw [srt_app (B.cls x) a b, ← Bool.and_assoc]
  rfl
theorem srt_snoc (k : Int) (l : List Int) (r : Int) : B.srt k (l ++ [r]) = true ↔ B.srt k l = true ∧ (B.cls r = 0 ∨ B.lastC k l ≤ B.cls r) := by
 rw [srt_app]
 simp [BaseF.srt]
theorem lastC_rev (k : Int) (x : Int) (t : List Int) : B.lastC k (x :: t).reverse = B.cls x := by rw [List.reverse_cons, lastC_snoc]
theorem ord_srt {l : List Int} (h : B.srt 0 l = true) : B.ord l = l := by
 have : ∀ (s acc : List Int), B.srt (B.lastC 0 acc.reverse) s = true → (s.foldl B.ins acc).reverse = acc.reverse ++ s := by
  intro s
  induction s with
  | nil => intro acc _; simp
  | cons r s ih =>
   intro acc h
   simp only [BaseF.srt, Bool.and_eq_true, Bool.or_eq_true, decide_eq_true_eq] at h
   have e : B.ins acc r = r :: acc := by
    cases acc with
    | nil => rfl
    | cons a t =>
     rw [lastC_rev] at h
     simp only [BaseF.ins]
     rw [if_neg (by omega)]
   show (s.foldl B.ins (B.ins acc r)).reverse = _
   rw [e, ih (r :: acc) (by rw [lastC_rev]; exact h.2)]
   simp
 have h1 := this l [] h
 simpa [BaseF.ord, BaseF.ordR] using h1
theorem ins_srt (acc : List Int) (r : Int) (h : B.srt 0 acc.reverse = true) : B.srt 0 (B.ins acc r).reverse = true := by
 obtain ⟨Q, A, h1, h2, h3, h4⟩ := B.ins_split acc r
 rw [h1, List.reverse_append, srt_app, Bool.and_eq_true] at h
 rw [h2]
 simp only [List.reverse_append, List.reverse_cons]
 rw [srt_app, Bool.and_eq_true, srt_snoc, lastC_snoc]
 have h0 := B.cls0 r
 refine ⟨⟨h.1, ?_⟩, ?_⟩
 ·cases A with
  | nil => exact .inr h0
  | cons a t => rw [lastC_rev]; exact h4 a t rfl
 ·rcases List.eq_nil_or_concat Q with rfl | ⟨Q', q, rfl⟩
  ·rfl
  ·have hq := h3 q (by simp)
   rw [List.concat_eq_append, List.reverse_append] at h ⊢
   have e : [q].reverse ++ Q'.reverse = q :: Q'.reverse := rfl
   rw [e] at h ⊢
   simp only [BaseF.srt, Bool.and_eq_true, Bool.or_eq_true, decide_eq_true_eq] at h ⊢
   exact ⟨.inr (by omega), h.2.2⟩
theorem srt_ord (l : List Int) : B.srt 0 (B.ord l) = true := by
 have : ∀ (s acc : List Int), B.srt 0 acc.reverse = true → B.srt 0 (s.foldl B.ins acc).reverse = true := by
  intro s
  induction s with
  | nil => intro acc h; exact h
  | cons r s ih => intro acc h; exact ih _ (ins_srt acc r h)
 exact this l [] rfl
theorem ord_eq_iff {l : List Int} : B.ord l = l ↔ B.srt 0 l = true := ⟨fun h => by rw [← h]; exact srt_ord l, ord_srt⟩
theorem foldl_ins_app (x : Int) (hx : B.cls x = 0) : ∀ (s Q A : List Int), s.foldl B.ins (Q ++ x :: A) = s.foldl B.ins (Q ++ [x]) ++ A
 | [], Q, A => by simp
 | r :: s, Q, A => by
  have h0 := B.cls0 r
  have key : ∀ (Q A : List Int), B.ins (Q ++ x :: A) r = B.ins (Q ++ [x]) r ++ A := by
   intro Q
   induction Q with
   | nil =>
    intro A
    simp only [List.nil_append, BaseF.ins]
    rw [if_neg (by omega), if_neg (by omega)]
    rfl
   | cons q Q ih =>
    intro A
    simp only [List.cons_append, BaseF.ins]
    split
    ·rw [ih A]; rfl
    ·simp
  have hex : ∃ Q', B.ins (Q ++ [x]) r = Q' ++ [x] := by
   obtain ⟨Q2, A2, h1, h2, h3, _⟩ := B.ins_split (Q ++ [x]) r
   rcases List.eq_nil_or_concat A2 with rfl | ⟨A', a, rfl⟩
   ·rw [List.append_nil] at h1
    have := h3 x (by rw [← h1]; simp)
    omega
   ·rw [List.concat_eq_append, ← List.append_assoc] at h1
    have e := List.append_inj_right' h1 rfl
    injection e with e _
    subst e
    refine ⟨Q2 ++ r :: A', ?_⟩
    rw [h2, List.concat_eq_append]
    simp
  obtain ⟨Q', hQ'⟩ := hex
  show s.foldl B.ins (B.ins (Q ++ x :: A) r) = s.foldl B.ins (B.ins (Q ++ [x]) r) ++ A
  rw [key, hQ', List.append_assoc]
  exact foldl_ins_app x hx s Q' A
theorem ord_cut (a : List Int) {x : Int} (b : List Int) (hx : B.cls x = 0) : B.ord (a ++ x :: b) = B.ord a ++ B.ord (x :: b) := by
 unfold BaseF.ord
 rw [B.ordR_app, ← List.reverse_append]
 congr 1
 have e1 : B.ins (B.ordR a) x = x :: B.ordR a := by
  cases B.ordR a with
  | nil => rfl
  | cons y t => simp only [BaseF.ins]; rw [if_neg (by omega)]
 show b.foldl B.ins (B.ins (B.ordR a) x) = b.foldl B.ins [x] ++ B.ordR a
 rw [e1]
 exact foldl_ins_app x hx b [] (B.ordR a)
end Go.Proofs.YtajkjaciooijjaaGreatDoor
end

section
set_option linter.unusedSimpArgs false
set_option linter.unusedVariables false
namespace Go.Proofs.YtajkjaciooijjaaGreatDoor
structure JS where
 pre : List Int
 hd : Option Int
 ms : List Int
def JS.out (s : JS) : List Int := s.pre ++ (s.hd.toList ++ s.ms)
variable {B : BaseF}
def BaseF.app (B : BaseF) (s : JS) (r : Int) : JS := if B.cls r = 0 then ⟨s.out, some r, []⟩ else ⟨s.pre, s.hd, s.ms ++ [r]⟩
def BaseF.step (B : BaseF) (s : JS) (r : Int) : JS :=
 match s.hd with
 | none => B.app s r
 | some h => if (s.ms.all fun m => decide (B.cls m < B.cls r)) = true then (match B.pair h r with | some c => ⟨s.pre, some c, s.ms⟩ | none => B.app s r) else B.app s r
def BaseF.run (B : BaseF) (s : JS) (l : List Int) : JS := l.foldl B.step s
def BaseF.join (B : BaseF) (l : List Int) : List Int := (B.run ⟨[], none, []⟩ l).out
theorem run_cons (s : JS) (x : Int) (b : List Int) : B.run s (x :: b) = B.run (B.step s x) b := rfl
def JS.behind (q : List Int) (s : JS) : JS := ⟨q ++ s.pre, s.hd, s.ms⟩
structure BaseF.JOk (B : BaseF) (s : JS) : Prop where
 ms : ∀ m ∈ s.ms, B.cls m ≠ 0
 hd : ∀ h, s.hd = some h → B.cls h = 0
theorem jok_nil : B.JOk ⟨[], none, []⟩ := ⟨by simp, by simp⟩
theorem app_ok {s : JS} (h : B.JOk s) (r : Int) : B.JOk (B.app s r) := by
 unfold BaseF.app
 split
 ·rename_i hr
  exact ⟨by simp, fun x hx => by injection hx with hx; rw [← hx]; exact hr⟩
 ·rename_i hr
  refine ⟨fun m hm => ?_, h.hd⟩
  rcases List.mem_append.1 hm with hm | hm
  ·exact h.ms m hm
  ·rw [List.mem_singleton] at hm; rw [hm]; exact hr
theorem step_cases (s : JS) (r : Int) : B.step s r = B.app s r ∨ ∃ h c, s.hd = some h ∧ (∀ m ∈ s.ms, B.cls m < B.cls r) ∧ B.pair h r = some c ∧ B.step s r = ⟨s.pre, some c, s.ms⟩ := by
 obtain ⟨p, hd, ms⟩ := s
 cases hd with
 | none => exact .inl rfl
 | some h =>
  unfold BaseF.step
  simp only []
  split
  ·rename_i ha
   cases hp : B.pair h r with
   | none => exact .inl rfl
   | some c => exact .inr ⟨h, c, rfl, by simpa using ha, hp, rfl⟩
  ·exact .inl rfl
theorem step_ok {s : JS} (h : B.JOk s) (r : Int) : B.JOk (B.step s r) := by
 rcases step_cases (B := B) s r with e | ⟨x, c, h1, h2, h3, e⟩
 ·rw [e]; exact app_ok h r
 ·rw [e]
  exact ⟨h.ms, fun y hy => by injection hy with hy; rw [← hy]; exact (B.made x r c h3).2.1⟩
theorem app_out (s : JS) (r : Int) : (B.app s r).out = s.out ++ [r] := by
 unfold BaseF.app
 split
 ·simp [JS.out]
 ·simp [JS.out]
theorem step_eqv {c : Bool} {p : List Int} {s : JS} (hok : B.JOk s) {r : Int} (hr : B.parts c r = []) (hms : ∀ m ∈ s.ms, B.parts c m = []) (h : B.Eqv (B.all c s.out) p) : B.Eqv (B.all c (B.step s r).out) (p ++ [r]) := by
 rcases step_cases (B := B) s r with e | ⟨x, y, h1, h2, h3, e⟩
 ·rw [e, app_out, B.all_app, B.all_one, B.one_none hr]
  exact h.right _
 ·rw [e]
  obtain ⟨pre, hd, ms⟩ := s
  simp only [] at h1 h2 hms
  subst h1
  have hmi : B.all c ms = ms := B.all_irr hms
  have e1 : B.all c (JS.out ⟨pre, some y, ms⟩) = B.all c pre ++ (B.one c x ++ ([r] ++ ms)) := by
   simp only [JS.out, Option.toList, B.all_app, B.all_one, hmi, B.one_made h3, B.one_none hr, List.append_assoc]
  have e2 : B.all c (JS.out ⟨pre, some x, ms⟩) = B.all c pre ++ (B.one c x ++ ms) := by
   simp only [JS.out, Option.toList, B.all_app, B.all_one, hmi]
  rw [e1]
  rw [e2] at h
  have h4 := h.right [r]
  refine BaseF.Eqv.trans ?_ h4
  simp only [List.append_assoc]
  refine BaseF.Eqv.left _ (BaseF.Eqv.left _ ?_)
  refine BaseF.Eqv.pass fun m hm => ⟨?_, h2 m hm⟩
  have := hok.ms m hm
  have := B.cls0 m
  omega
theorem step_ms {s : JS} {r m : Int} (h : m ∈ (B.step s r).ms) : m ∈ s.ms ∨ m = r := by
 rcases step_cases (B := B) s r with e | ⟨x, y, h1, h2, h3, e⟩
 ·rw [e] at h
  unfold BaseF.app at h
  split at h
  ·simp at h
  ·simpa using h
 ·rw [e] at h
  exact .inl h
theorem run_eqv {c : Bool} : ∀ (d p : List Int) (s : JS), B.JOk s → B.Irr c d → (∀ m ∈ s.ms, B.parts c m = []) → B.Eqv (B.all c s.out) p → B.Eqv (B.all c (B.run s d).out) (p ++ d)
 | [], p, s, _, _, _, h => by
  show B.Eqv (B.all c s.out) (p ++ [])
  rw [List.append_nil]
  exact h
 | r :: d, p, s, hok, hd, hms, h => by
  have hr := hd r (by simp)
  have h1 := run_eqv d (p ++ [r]) (B.step s r) (step_ok hok r) (fun x hx => hd x (by simp [hx])) (fun m hm => by
   rcases step_ms hm with hm | rfl
   ·exact hms m hm
   ·exact hr) (step_eqv hok hr hms h)
  rw [run_cons]
  simpa using h1
theorem join_all {c : Bool} {d : List Int} (hd : B.Irr c d) : B.Eqv (B.all c (B.join d)) d := by
 have := run_eqv (B := B) (c := c) d [] ⟨[], none, []⟩ jok_nil hd (by simp) (by rw [show JS.out ⟨[], none, []⟩ = [] from rfl, B.all_nil]; exact .refl _)
 simpa [BaseF.join] using this
def BaseF.Kept (B : BaseF) (c : Bool) (x : Int) : Prop := B.srt 0 (B.one c x) = true ∧ B.join (B.one c x) = [x]
theorem kept_irr {c : Bool} {x : Int} (h : B.parts c x = []) : B.Kept c x := by
 unfold BaseF.Kept
 rw [B.one_none h]
 refine ⟨?_, ?_⟩
 ·have := B.cls0 x
  simp [BaseF.srt]; omega
 ·unfold BaseF.join BaseF.run
  simp only [List.foldl_cons, List.foldl_nil, BaseF.step, app_out]
  rfl
structure BaseF.JInv (B : BaseF) (c : Bool) (p : List Int) (s : JS) : Prop where
 ok : B.JOk s
 pre : ∀ x ∈ s.pre, B.Kept c x
 irr : ∀ m ∈ s.ms, B.parts c m = []
 emp : s.hd = none → s.pre = []
 top : ∀ m ∈ s.ms, B.cls m ≤ B.lastC 0 p
 srt : B.srt 0 s.out = true
 hd : ∀ h, s.hd = some h → B.run ⟨[], none, []⟩ (B.one c h) = ⟨[], some h, []⟩ ∧ B.srt 0 (B.one c h) = true ∧ (B.lastC 0 (B.one c h) ≤ B.lastC 0 p)
theorem JInv.out {c : Bool} {p : List Int} {s : JS} (h : B.JInv c p s) : ∀ x ∈ s.out, B.Kept c x := by
 intro x hx
 unfold JS.out at hx
 rcases List.mem_append.1 hx with hx | hx
 ·exact h.pre x hx
 ·rcases List.mem_append.1 hx with hx | hx
  ·have hh : s.hd = some x := by simpa using hx
   obtain ⟨h1, h2, _⟩ := h.hd x hh
   exact ⟨h2, by unfold BaseF.join; rw [h1]; rfl⟩
  ·exact kept_irr (h.irr x hx)
end Go.Proofs.YtajkjaciooijjaaGreatDoor
end

section
set_option linter.unusedSimpArgs false
set_option linter.unusedVariables false
namespace Go.Proofs.YtajkjaciooijjaaGreatDoor
variable {B : BaseF}
noncomputable def BaseF.full (B : BaseF) (c : Bool) (l : List Int) : List Int := B.ord (B.all c l)
noncomputable def BaseF.form (B : BaseF) (c j : Bool) (l : List Int) : List Int := if j = true then B.join (B.full c l) else B.full c l
theorem full_irr (c : Bool) (l : List Int) : B.Irr c (B.full c l) := fun x hx => B.irr_all c l x (((eqv_ord _).mem x).2 hx)
theorem full_srt (c : Bool) (l : List Int) : B.srt 0 (B.full c l) = true := srt_ord _
theorem form_eqv (c j : Bool) (l : List Int) : B.Eqv (B.all c (B.form c j l)) (B.all c l) := by
 unfold BaseF.form
 split
 ·exact (join_all (full_irr c l)).trans (eqv_ord _).symm
 ·rw [B.all_irr (full_irr c l)]
  exact (eqv_ord _).symm
theorem full_form (c j : Bool) (l : List Int) : B.full c (B.form c j l) = B.full c l := (form_eqv c j l).ord
theorem full_full (c : Bool) (l : List Int) : B.full c (B.full c l) = B.full c l := by
 have := full_form (B := B) c false l
 simpa [BaseF.form] using this
theorem full_nil_iff {c : Bool} {l : List Int} : B.full c l = [] ↔ l = [] := by
 constructor
 ·intro h
  have h2 := (eqv_ord (B := B) (B.all c l)).nil_iff.2 h
  cases l with
  | nil => rfl
  | cons x t =>
   rw [B.all_cons] at h2
   exact absurd (List.append_eq_nil_iff.1 h2).1 (B.one_ne c x)
 ·rintro rfl; rfl
noncomputable def BaseF.kind (B : BaseF) (c j : Bool) (r : Int) : Int := if B.form c j [r] ≠ [r] then 2 else if j = true ∧ B.sec ((B.full c [r]).headD 0) = true then 3 else 1
noncomputable def BaseF.safe (B : BaseF) (c j : Bool) (r : Int) : Bool := decide (B.cls ((B.full c [r]).headD 0) = 0) && !(j && B.sec ((B.full c [r]).headD 0))
noncomputable def BaseF.worst (B : BaseF) (c j : Bool) (l : List Int) : Int := if (∃ r ∈ l, B.kind c j r = 2) then 2 else if (∃ r ∈ l, B.kind c j r = 3) then 3 else 1
noncomputable def BaseF.check (B : BaseF) (c j : Bool) (l : List Int) : Int := if B.srt 0 l = true then B.worst c j l else 2
theorem snoc_ind {p : List Int → Prop} (h0 : p []) (h1 : ∀ l x, p l → p (l ++ [x])) (l : List Int) : p l := by
 rw [← List.reverse_reverse l]
 induction l.reverse with
 | nil => exact h0
 | cons x t ih => rw [List.reverse_cons]; exact h1 _ _ ih
end Go.Proofs.YtajkjaciooijjaaGreatDoor
end

section
set_option linter.unusedSimpArgs false
set_option linter.unusedVariables false
namespace Go.Proofs.YtajkjaciooijjaaGreatDoor
variable {B : BaseF}
theorem eqv_perm {a b : List Int} (h : B.Eqv a b) : a.Perm b := by
 induction h with
 | refl => exact .refl _
 | swap p x y s _ _ _ => exact (List.Perm.swap y x s).append_left p
 | trans _ _ i1 i2 => exact i1.trans i2
theorem eqv_count {a b : List Int} (h : B.Eqv a b) (x : Int) : a.count x = b.count x := (eqv_perm h).count_eq x
theorem eqv_place {a b : List Int} (h : B.Eqv a b) : ∀ (i : Nat) (x y : Int), a[i]? = some x → b[i]? = some y → (B.cls x = 0 ↔ B.cls y = 0) ∧ (B.cls x = 0 → x = y) := by
 induction h with
 | refl l => intro i x y h1 h2; rw [h1] at h2; injection h2 with h2; subst h2; exact ⟨Iff.rfl, fun _ => rfl⟩
 | swap p u v s h1 h2 h3 =>
  intro i x y hx hy
  rw [List.getElem?_append] at hx hy
  by_cases hi : i < p.length
  ·rw [if_pos hi] at hx hy
   rw [hx] at hy; injection hy with hy; subst hy; exact ⟨Iff.rfl, fun _ => rfl⟩
  ·rw [if_neg hi] at hx hy
   obtain ⟨k, hk⟩ : ∃ k, k = i - p.length := ⟨_, rfl⟩
   rw [← hk] at hx hy
   match k with
   | 0 =>
    simp at hx hy
    subst hx hy
    omega
   | 1 =>
    simp at hx hy
    subst hx hy
    omega
   | k + 2 =>
    simp at hx hy
    rw [hx] at hy; injection hy with hy; subst hy; exact ⟨Iff.rfl, fun _ => rfl⟩
 | @trans a b c h1 h2 i1 i2 =>
  intro i x z hx hz
  have hl := h1.length
  have hi : i < a.length := (List.getElem?_eq_some_iff.1 hx).1
  obtain ⟨y, hy⟩ : ∃ y, b[i]? = some y := ⟨_, List.getElem?_eq_getElem (by omega)⟩
  obtain ⟨p1, p2⟩ := i1 i x y hx hy
  obtain ⟨q1, q2⟩ := i2 i y z hy hz
  exact ⟨p1.trans q1, fun h => (p2 h).trans (q2 (p1.1 h))⟩
theorem eqv_class {a b : List Int} (h : B.Eqv a b) (c : Int) : a.filter (fun x => decide (B.cls x = c)) = b.filter (fun x => decide (B.cls x = c)) := by
 induction h with
 | refl => rfl
 | swap p x y s h1 h2 h3 =>
  rw [List.filter_append, List.filter_append]
  congr 1
  simp only [List.filter_cons]
  by_cases hx : B.cls x = c <;> by_cases hy : B.cls y = c <;> simp [hx, hy]
  omega
 | trans _ _ i1 i2 => exact i1.trans i2
def BaseF.inv (B : BaseF) : List Int → Nat
 | [] => 0
 | x :: t => t.countP (fun y => decide (0 < B.cls y ∧ B.cls y < B.cls x)) + BaseF.inv B t
theorem inv_swap {x y : Int} (hy : 0 < B.cls y) (hlt : B.cls y < B.cls x) : ∀ (p s : List Int), B.inv (p ++ x :: y :: s) = B.inv (p ++ y :: x :: s) + 1
 | [], s => by
  simp only [List.nil_append, BaseF.inv, List.countP_cons]
  rw [if_pos (by simp; omega), if_neg (by simp; omega)]
  omega
 | a :: p, s => by
  have ih := inv_swap hy hlt p s
  simp only [List.cons_append, BaseF.inv]
  have hc : (p ++ x :: y :: s).countP (fun z => decide (0 < B.cls z ∧ B.cls z < B.cls a)) = (p ++ y :: x :: s).countP (fun z => decide (0 < B.cls z ∧ B.cls z < B.cls a)) := ((List.Perm.swap y x s).append_left p).countP_eq _
  omega
def BaseF.okTo (B : BaseF) (l : List Int) (k : Nat) : Prop := ∀ i x y, i + 1 < k → l[i]? = some x → l[i + 1]? = some y → ¬ (0 < B.cls y ∧ B.cls y < B.cls x)
theorem srt_places : ∀ {l : List Int} {k : Int}, (∀ i x y, l[i]? = some x → l[i + 1]? = some y → ¬ (0 < B.cls y ∧ B.cls y < B.cls x)) → (∀ x t, l = x :: t → B.cls x = 0 ∨ k ≤ B.cls x) → B.srt k l = true
 | [], _, _, _ => rfl
 | x :: t, k, h, h0 => by
  have e : B.srt (B.cls x) t = true := srt_places (fun i u v hu hv => h (i + 1) u v (by simpa using hu) (by simpa using hv)) (fun y s ht => by
   subst ht
   have := h 0 x y (by simp) (by simp)
   have := B.cls0 y
   omega)
  have h1 := h0 x t rfl
  simp only [BaseF.srt, e, Bool.and_true, Bool.or_eq_true, decide_eq_true_eq]
  exact h1
theorem okTo_srt {l : List Int} (h : B.okTo l l.length) : B.srt 0 l = true :=
 srt_places (fun i x y hx hy => h i x y ((List.getElem?_eq_some_iff.1 hy).1) hx hy) (fun x t _ => .inr (B.cls0 x))
def swp (l : List Int) (i : Nat) : List Int := match l[i]?, l[i + 1]? with | some x, some y => (l.set i y).set (i + 1) x | _, _ => l
theorem swp_eq (p s : List Int) (x y : Int) : swp (p ++ x :: y :: s) p.length = p ++ y :: x :: s := by
 have h1 : (p ++ x :: y :: s)[p.length]? = some x := by simp
 have h2 : (p ++ x :: y :: s)[p.length + 1]? = some y := by simp [List.getElem?_append]
 unfold swp
 rw [h1, h2]
 simp [List.set_append]
theorem at_two {l : List Int} {i : Nat} {x y : Int} (hx : l[i]? = some x) (hy : l[i + 1]? = some y) : ∃ p s, l = p ++ x :: y :: s ∧ p.length = i := by
 obtain ⟨b1, c1⟩ := List.getElem?_eq_some_iff.1 hx
 obtain ⟨b2, c2⟩ := List.getElem?_eq_some_iff.1 hy
 refine ⟨l.take i, l.drop (i + 2), ?_, by simp; omega⟩
 calc l = l.take i ++ l.drop i := (List.take_append_drop i l).symm
  _ = _ := by rw [List.drop_eq_getElem_cons b1, List.drop_eq_getElem_cons b2, c1, c2]
theorem swp_set {l : List Int} {i : Nat} {x y : Int} (hx : l[i]? = some x) (hy : l[i + 1]? = some y) : swp l i = (l.set i y).set (i + 1) x := by unfold swp; rw [hx, hy]
theorem swp_len (l : List Int) (i : Nat) : (swp l i).length = l.length := by unfold swp; split <;> simp
theorem swp_inv {l : List Int} {i : Nat} {x y : Int} (hx : l[i]? = some x) (hy : l[i + 1]? = some y) (h : 0 < B.cls y ∧ B.cls y < B.cls x) : B.inv (swp l i) < B.inv l ∧ B.Eqv l (swp l i) := by
 obtain ⟨p, s, rfl, rfl⟩ := at_two hx hy
 rw [swp_eq]
 have := inv_swap h.1 h.2 p s
 exact ⟨by omega, .swap p x y s (by omega) h.1 (by omega)⟩
theorem ins_past {r : Int} (hr : B.cls r ≠ 0) : ∀ {Q : List Int} (A : List Int), (∀ q ∈ Q, B.cls r < B.cls q) → B.ins (Q ++ A) r = Q ++ B.ins A r
 | [], A, _ => rfl
 | q :: Q, A, h => by
  have := ins_past hr (Q := Q) A fun x hx => h x (by simp [hx])
  simp only [List.cons_append, BaseF.ins]
  rw [if_pos ⟨hr, h q (by simp)⟩, this]
theorem ins_here {r : Int} {A : List Int} (h : ∀ a t, A = a :: t → B.cls r = 0 ∨ B.cls a ≤ B.cls r) : B.ins A r = r :: A := by
 cases A with
 | nil => rfl
 | cons a t =>
  have := h a t rfl
  simp only [BaseF.ins]
  rw [if_neg (by omega)]
theorem ordR_len (l : List Int) : (B.ordR l).length = l.length := by
 have := (eqv_ord (B := B) l).length
 unfold BaseF.ord at this
 simpa using this.symm
theorem ord_len (l : List Int) : (B.ord l).length = l.length := (eqv_ord (B := B) l).length.symm
theorem ord_take_snoc {l : List Int} {k : Nat} {r : Int} (h : l[k]? = some r) : B.ordR (l.take (k + 1)) = B.ins (B.ordR (l.take k)) r := by
 rw [List.take_add_one, h]
 exact B.ord_snoc _ _
def BaseF.runStep (B : BaseF) (out : List (List Int)) (r : Int) : List (List Int) :=
 if out = [] ∨ B.cls r = 0 then out ++ [[r]] else out.dropLast ++ [out.getLastD [] ++ [r]]
def BaseF.runs (B : BaseF) (l : List Int) : List (List Int) := l.foldl B.runStep []
theorem runs_snoc (l : List Int) (r : Int) : B.runs (l ++ [r]) = B.runStep (B.runs l) r := by unfold BaseF.runs; rw [List.foldl_append]; rfl
theorem runs_take {l : List Int} {k : Nat} {r : Int} (h : l[k]? = some r) : B.runs (l.take (k + 1)) = B.runStep (B.runs (l.take k)) r := by
 rw [List.take_add_one, h]
 exact runs_snoc _ _
theorem runStep_open (out : List (List Int)) (q : List Int) (r : Int) : B.runStep (out ++ [q]) r = if B.cls r = 0 then out ++ [q] ++ [[r]] else out ++ [q ++ [r]] := by
 unfold BaseF.runStep
 by_cases h : B.cls r = 0
 ·rw [if_pos (.inr h), if_pos h]
 ·rw [if_neg (by simp [h]), if_neg h]
  simp
theorem runStep_nil (r : Int) : B.runStep [] r = [[r]] := by unfold BaseF.runStep; rw [if_pos (.inl rfl)]; rfl
structure RunsOk (B : BaseF) (out : List (List Int)) (l : List Int) : Prop where
 flat : out.flatten = l
 ne : ∀ q ∈ out, q ≠ []
 head : ∀ i q x t, 0 < i → out[i]? = some q → q = x :: t → B.cls x = 0
 mark : ∀ q ∈ out, ∀ x t, q = x :: t → ∀ y ∈ t, B.cls y ≠ 0
theorem runs_ok (l : List Int) : RunsOk B (B.runs l) l := by
 induction l using snoc_ind with
 | h0 => exact ⟨rfl, by simp [BaseF.runs], by simp [BaseF.runs], by simp [BaseF.runs]⟩
 | h1 l r ih =>
  rw [runs_snoc]
  rcases List.eq_nil_or_concat (B.runs l) with h | ⟨out, q, h⟩
  ·rw [h] at ih ⊢
   rw [runStep_nil]
   have hl := ih.flat
   simp at hl
   subst hl
   refine ⟨by simp, by simp, fun i q x t hi hq => ?_, fun q hq x t e y hy => ?_⟩
   ·match i with
    | 0 => omega
    | i + 1 => simp at hq
   ·simp at hq; subst hq; injection e with _ e; subst e; simp at hy
  ·rw [List.concat_eq_append] at h
   rw [h] at ih ⊢
   rw [runStep_open]
   obtain ⟨f, n, hd, mk⟩ := ih
   have hq := n q (by simp)
   split
   ·rename_i h0
    refine ⟨by rw [← f]; simp, fun p hp => ?_, fun i p x t hi hp e => ?_, fun p hp x t e y hy => ?_⟩
    ·rcases List.mem_append.1 hp with hp | hp
     ·exact n p hp
     ·simp at hp; subst hp; simp
    ·rw [List.getElem?_append] at hp
     split at hp
     ·exact hd i p x t hi hp e
     ·rename_i hlt
      have : p = [r] := by
       have := List.mem_of_getElem? hp
       simpa using this
      subst this
      injection e with e _
      subst e
      exact h0
    ·rcases List.mem_append.1 hp with hp | hp
     ·exact mk p hp x t e y hy
     ·simp at hp; subst hp; injection e with _ e; subst e; simp at hy
   ·rename_i h0
    refine ⟨by rw [← f]; simp, fun p hp => ?_, fun i p x t hi hp e => ?_, fun p hp x t e y hy => ?_⟩
    ·rcases List.mem_append.1 hp with hp | hp
     ·exact n p (by simp [hp])
     ·simp at hp; subst hp; simp
    ·rw [List.getElem?_append] at hp
     split at hp
     ·rename_i hlt
      exact hd i p x t hi (by rw [List.getElem?_append, if_pos hlt]; exact hp) e
     ·rename_i hlt
      have hp2 : p = q ++ [r] := by
       have := List.mem_of_getElem? hp
       simpa using this
      have hi2 : i = out.length := by
       have := (List.getElem?_eq_some_iff.1 hp).1
       simp at this
       omega
      subst hp2
      cases q with
      | nil => exact absurd rfl hq
      | cons a q' =>
       injection e with e1 e2
       subst e1
       exact hd i (a :: q') a q' hi (by rw [hi2]; simp) rfl
    ·rcases List.mem_append.1 hp with hp | hp
     ·exact mk p (by simp [hp]) x t e y hy
     ·simp at hp
      subst hp
      cases q with
      | nil => exact absurd rfl hq
      | cons a q' =>
       injection e with e1 e2
       subst e1 e2
       rcases List.mem_append.1 hy with hy | hy
       ·exact mk (a :: q') (by simp) a q' rfl y hy
       ·simp at hy; subst hy; exact h0
theorem ord_runs : ∀ (out : List (List Int)) (p : List Int), (∀ q ∈ out, ∃ x t, q = x :: t ∧ B.cls x = 0) → B.ord (p ++ out.flatten) = B.ord p ++ out.flatMap B.ord
 | [], p, _ => by simp
 | q :: out, p, h => by
  obtain ⟨x, t, rfl, hx⟩ := h q (by simp)
  have ih := ord_runs out (x :: t) fun q hq => h q (by simp [hq])
  rw [List.flatten_cons, List.cons_append, ord_cut p _ hx, ← List.cons_append, ih]
  simp
theorem ord_runs_all (l : List Int) : (B.runs l).flatMap B.ord = B.ord l := by
 have h := runs_ok (B := B) l
 rcases hr : B.runs l with _ | ⟨q, out⟩
 ·rw [hr] at h
  have hf := h.flat
  simp at hf
  subst hf
  rfl
 ·rw [hr] at h
  obtain ⟨f, n, hd, _⟩ := h
  rw [← f]
  rw [List.flatten_cons, ord_runs out q fun p hp => ?_]
  ·rfl
  ·obtain ⟨i, hi⟩ := List.getElem?_of_mem hp
   obtain ⟨x, t, e⟩ : ∃ x t, p = x :: t := by
    cases p with
    | nil => exact absurd rfl (n [] (by simp [hp]))
    | cons x t => exact ⟨x, t, rfl⟩
   exact ⟨x, t, e, hd (i + 1) p x t (by omega) (by simpa using hi) e⟩
theorem full_runs (c : Bool) (l : List Int) : (B.runs (B.all c l)).flatMap (B.full c) = B.full c l := by
 have h := runs_ok (B := B) (B.all c l)
 show _ = B.ord (B.all c l)
 rw [← ord_runs_all (B.all c l)]
 have : ∀ q ∈ B.runs (B.all c l), B.full c q = B.ord q := fun q hq => by
  unfold BaseF.full
  rw [B.all_irr]
  intro x hx
  refine B.irr_all c l x ?_
  rw [← h.flat]
  exact List.mem_flatten.2 ⟨q, hq, hx⟩
 rw [List.flatMap_def, List.flatMap_def, List.map_congr_left this]
def BaseF.top (B : BaseF) (ms : List Int) : Int := ms.foldl (fun a m => max a (B.cls m)) 0
def BaseF.tailM (B : BaseF) (l : List Int) : List Int := (l.reverse.takeWhile fun x => decide (B.cls x ≠ 0)).reverse
def BaseF.blk (B : BaseF) (l : List Int) (k : Int) : Bool := (l.all fun x => decide (B.cls x ≠ 0)) || (B.tailM l).any fun m => decide (k ≤ B.cls m)
noncomputable def BaseF.cut (B : BaseF) (c j : Bool) : List Int → Nat
 | l => ((List.range l.length).filter fun i => decide (0 < i) && B.safe c j (l.getD i 0)).getLastD 0
end Go.Proofs.YtajkjaciooijjaaGreatDoor
end
