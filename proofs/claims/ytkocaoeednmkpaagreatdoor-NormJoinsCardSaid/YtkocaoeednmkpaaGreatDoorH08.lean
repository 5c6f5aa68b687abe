/- Forms of texts, over any base: parted, ordered, joined. Plain laws; no program stands here. Forms of texts, over any base: joined, and joined again. Plain laws; no program stands here. Forms of texts, over any base: the four forms, what single characters tell, and where texts are cut. Plain laws; no program stands here. Forms of texts, over any base: what turning characters about leaves, and how the code and the document reckon. Plain laws; no program stands here. Looking for a head, and what is blocked: plain laws; no program stands here. -/
set_option linter.unusedSimpArgs false
set_option linter.unusedVariables false
set_option maxRecDepth 20000
set_option maxHeartbeats 4000000
namespace Go.Proofs.YtkocaoeednmkpaaGreatDoor
section
structure BaseF where
 cls : Int -> Int
 dec : Int -> List UInt8 × List Int
 pair : Int -> Int -> Option Int
 sec : Int -> Bool
 cls0 : ∀ r, 0 <= cls r
 made : ∀ x y r, pair x y = some r -> dec r = ([], [x, y]) /\ cls r = 0 /\ sec y = true
 wf : WellFounded fun y x => y ∈ (dec x).2
variable (B : BaseF)
def BaseF.parts (c : Bool) (r : Int) : List Int := if (B.dec r).1 ≠ [] /\ c = false then [] else (B.dec r).2
theorem zd8 {B : BaseF} {c : Bool} {r x : Int} (h : x ∈ B.parts c r) : x ∈ (B.dec r).2 := by
 unfold BaseF.parts at h;split at h
 ·simp at h
 ·exact h
noncomputable def BaseF.one (c : Bool) : Int -> List Int :=
 B.wf.fix fun r ih => if B.parts c r = [] then [r] else (B.parts c r).attach.flatMap fun x => ih x.1 (zd8 x.2)
theorem flatMap_attach {α β : Type} (l : List α) (f : α -> List β) : (l.attach.flatMap fun x => f x.1) = l.flatMap f := by
 rw [show (fun x : {x // x ∈ l} => f x.1) = f ∘ Subtype.val from rfl, <- List.flatMap_map];simp
theorem BaseF.one_eq (c : Bool) (r : Int) : B.one c r = if B.parts c r = [] then [r] else (B.parts c r).flatMap (B.one c) := by
 unfold BaseF.one;rw [WellFounded.fix_eq];split
 ·rfl
 ·exact flatMap_attach _ _
theorem BaseF.one_none {c : Bool} {r : Int} (h : B.parts c r = []) : B.one c r = [r] := by rw [B.one_eq, if_pos h]
theorem BaseF.one_some {c : Bool} {r : Int} (h : B.parts c r ≠ []) : B.one c r = (B.parts c r).flatMap (B.one c) := by rw [B.one_eq, if_neg h]
theorem BaseF.one_ne (c : Bool) (r : Int) : B.one c r ≠ [] := by
 induction r using B.wf.induction with
 | _ r ih =>
  by_cases h : B.parts c r = []
  ·rw [B.one_none h]; simp
  ·rw [B.one_some h]
   obtain ⟨x, t, hx⟩ : ∃ x t, B.parts c r = x :: t := by
    cases hp : B.parts c r with
    | nil => exact absurd hp h
    | cons x t => exact ⟨x, t, rfl⟩
   rw [hx, List.flatMap_cons];have := ih x (zd8 (by rw [hx]; simp));simp [this]
theorem BaseF.one_irr {c : Bool} {r y : Int} (h : y ∈ B.one c r) : B.parts c y = [] := by
 induction r using B.wf.induction with
 | _ r ih =>
  by_cases hp : B.parts c r = []
  ·rw [B.one_none hp, List.mem_singleton] at h;rw [h]; exact hp
  ·rw [B.one_some hp, List.mem_flatMap] at h;obtain ⟨x, hx, hy⟩ := h;exact ih x (zd8 hx) hy
theorem BaseF.one_made {c : Bool} {x y r : Int} (h : B.pair x y = some r) : B.one c r = B.one c x ++ B.one c y := by
 have hd := (B.made x y r h).1;have hp : B.parts c r = [x, y] := (by unfold BaseF.parts; rw [hd]; simp);rw [B.one_some (by rw [hp]; simp), hp];simp
noncomputable def BaseF.all (c : Bool) (l : List Int) : List Int := l.flatMap (B.one c)
theorem BaseF.all_app (c : Bool) (a b : List Int) : B.all c (a ++ b) = B.all c a ++ B.all c b := by simp [BaseF.all]
theorem BaseF.all_nil (c : Bool) : B.all c [] = [] := rfl
theorem BaseF.all_cons (c : Bool) (x : Int) (l : List Int) : B.all c (x :: l) = B.one c x ++ B.all c l := rfl
theorem BaseF.all_one (c : Bool) (x : Int) : B.all c [x] = B.one c x := by simp [BaseF.all]
def BaseF.Irr (c : Bool) (l : List Int) : Prop := ∀ x ∈ l, B.parts c x = []
theorem BaseF.all_irr {c : Bool} : ∀ {l : List Int}, B.Irr c l -> B.all c l = l
 | [], _ => rfl
 | x :: l, h => by
  rw [B.all_cons, B.one_none (h x (by simp)), BaseF.all_irr (l := l) fun y hy => h y (by simp [hy])];rfl
theorem BaseF.irr_all (c : Bool) (l : List Int) : B.Irr c (B.all c l) := by
 intro y hy;obtain ⟨x, _, hx⟩ := List.mem_flatMap.1 hy;exact B.one_irr hx
def BaseF.ins : List Int -> Int -> List Int
 | [], r => [r]
 | x :: t, r => if B.cls r ≠ 0 /\ B.cls r < B.cls x then x :: BaseF.ins t r else r :: x :: t
def BaseF.ordR (l : List Int) : List Int := l.foldl B.ins []
def BaseF.ord (l : List Int) : List Int := (B.ordR l).reverse
theorem BaseF.ins_split (acc : List Int) (r : Int) : ∃ Q A, acc = Q ++ A /\ B.ins acc r = Q ++ r :: A /\ (∀ q ∈ Q, B.cls r < B.cls q /\ B.cls r ≠ 0) /\ (∀ a t, A = a :: t -> B.cls r = 0 \/ B.cls a <= B.cls r) := by
 induction acc with
 | nil => exact ⟨[], [], rfl, rfl, by simp, by simp⟩
 | cons x t ih =>
  unfold BaseF.ins;split
  ·rename_i h;obtain ⟨Q, A, h1, h2, h3, h4⟩ := ih;refine ⟨x :: Q, A, by rw [h1]; rfl, by rw [h2]; rfl, fun q hq => ?_, h4⟩;rcases List.mem_cons.1 hq with rfl | hq
   ·exact ⟨h.2, h.1⟩
   ·exact h3 q hq
  ·rename_i h;refine ⟨[], x :: t, rfl, rfl, by simp, fun a t' e => ?_⟩;injection e with e1 _;subst e1;omega
theorem BaseF.ord_snoc (l : List Int) (r : Int) : B.ordR (l ++ [r]) = B.ins (B.ordR l) r := by
 unfold BaseF.ordR;rw [List.foldl_append];rfl
theorem BaseF.ordR_app (l m : List Int) : B.ordR (l ++ m) = m.foldl B.ins (B.ordR l) := by
 unfold BaseF.ordR;rw [List.foldl_append]
inductive BaseF.Eqv : List Int -> List Int -> Prop
 | refl (l : List Int) : Eqv l l
 | swap (p : List Int) (x y : Int) (s : List Int) : 0 < B.cls x -> 0 < B.cls y -> B.cls x ≠ B.cls y -> Eqv (p ++ x :: y :: s) (p ++ y :: x :: s)
 | trans {a b c : List Int} : Eqv a b -> Eqv b c -> Eqv a c
variable {B}
theorem BaseF.Eqv.symm {a b : List Int} (h : B.Eqv a b) : B.Eqv b a := by
 induction h with
 | refl => exact .refl _
 | swap p x y s h1 h2 h3 => exact .swap p y x s h2 h1 (fun e => h3 e.symm)
 | trans _ _ i1 i2 => exact .trans i2 i1
theorem BaseF.Eqv.left {a b : List Int} (q : List Int) (h : B.Eqv a b) : B.Eqv (q ++ a) (q ++ b) := by
 induction h with
 | refl => exact .refl _
 | swap p x y s h1 h2 h3 =>
  rw [<- List.append_assoc, <- List.append_assoc];exact .swap (q ++ p) x y s h1 h2 h3
 | trans _ _ i1 i2 => exact .trans i1 i2
theorem BaseF.Eqv.right {a b : List Int} (q : List Int) (h : B.Eqv a b) : B.Eqv (a ++ q) (b ++ q) := by
 induction h with
 | refl => exact .refl _
 | swap p x y s h1 h2 h3 =>
  rw [List.append_assoc, List.append_assoc];exact .swap p x y (s ++ q) h1 h2 h3
 | trans _ _ i1 i2 => exact .trans i1 i2
theorem BaseF.Eqv.both {a b c d : List Int} (h : B.Eqv a b) (h2 : B.Eqv c d) : B.Eqv (a ++ c) (b ++ d) := (h.right c).trans (h2.left b)
theorem zoo (acc : List Int) {x y : Int} (hx : 0 < B.cls x) (hy : 0 < B.cls y) (hlt : B.cls x < B.cls y) : B.ins (B.ins acc x) y = B.ins (B.ins acc y) x := by
 induction acc with
 | nil =>
  simp only [BaseF.ins];rw [if_neg (by omega), if_pos (by omega)]
 | cons a t ih =>
  by_cases h1 : B.cls y < B.cls a
  ·have e1 : B.ins (a :: t) x = a :: B.ins t x := (by simp only [BaseF.ins]; rw [if_pos (by omega)]);have e2 : B.ins (a :: t) y = a :: B.ins t y := (by simp only [BaseF.ins]; rw [if_pos (by omega)]);rw [e1, e2];simp only [BaseF.ins];rw [if_pos (by omega), if_pos (by omega), ih]
  ·have e2 : B.ins (a :: t) y = y :: a :: t := (by simp only [BaseF.ins]; rw [if_neg (by omega)]);rw [e2]
   by_cases h2 : B.cls x < B.cls a
   ·have e1 : B.ins (a :: t) x = a :: B.ins t x := (by simp only [BaseF.ins]; rw [if_pos (by omega)]);rw [e1];have e3 : B.ins (y :: a :: t) x = y :: B.ins (a :: t) x := (by simp only [BaseF.ins]; rw [if_pos (by omega)]);rw [e3, e1];simp only [BaseF.ins];rw [if_neg (by omega)]
   ·have e1 : B.ins (a :: t) x = x :: a :: t := (by simp only [BaseF.ins]; rw [if_neg (by omega)]);rw [e1];have e3 : B.ins (y :: a :: t) x = y :: B.ins (a :: t) x := (by simp only [BaseF.ins]; rw [if_pos (by omega)]);rw [e3, e1];simp only [BaseF.ins];rw [if_neg (by omega)]
theorem BaseF.Eqv.ordR {a b : List Int} (h : B.Eqv a b) : B.ordR a = B.ordR b := by
 induction h with
 | refl => rfl
 | swap p x y s h1 h2 h3 =>
  have e : ∀ u v : Int, B.ordR (p ++ u :: v :: s) = s.foldl B.ins (B.ins (B.ins (B.ordR p) u) v) := fun u v => by
   rw [B.ordR_app]; rfl
  rw [e, e];rcases Int.lt_or_gt_of_ne h3 with h | h
  ·rw [zoo _ h1 h2 h]
  ·rw [zoo _ h2 h1 h]
 | trans _ _ i1 i2 => exact i1.trans i2
theorem BaseF.Eqv.ord {a b : List Int} (h : B.Eqv a b) : B.ord a = B.ord b := by unfold BaseF.ord; rw [h.ordR]
theorem BaseF.Eqv.pass {r : Int} : ∀ {ms : List Int}, (∀ m ∈ ms, 0 < B.cls m /\ B.cls m < B.cls r) -> B.Eqv (r :: ms) (ms ++ [r])
 | [], _ => .refl _
 | m :: ms, h => by
  have hm := h m (by simp);have h1 : B.Eqv (r :: m :: ms) (m :: r :: ms) := .swap [] r m ms (by omega) hm.1 (by omega);have h2 := BaseF.Eqv.left [m] (BaseF.Eqv.pass (ms := ms) fun x hx => h x (by simp [hx]));exact h1.trans h2
theorem ins_eqv (acc : List Int) (r : Int) : B.Eqv (acc.reverse ++ [r]) (B.ins acc r).reverse := by
 obtain ⟨Q, A, h1, h2, h3, _⟩ := B.ins_split acc r;rw [h2, h1];simp only [List.reverse_append, List.reverse_cons, List.append_assoc];refine BaseF.Eqv.left _ ?_
 have : ∀ Q : List Int, (∀ q ∈ Q, B.cls r < B.cls q /\ B.cls r ≠ 0) -> B.Eqv (Q ++ [r]) ([r] ++ Q) := by
  intro Q;induction Q with
  | nil => intro _; exact .refl _
  | cons q Q ih =>
   intro h;have hq := h q (by simp);have h0 := B.cls0 r;have h1 := BaseF.Eqv.left [q] (ih fun x hx => h x (by simp [hx]));have h2 : B.Eqv (q :: r :: Q) (r :: q :: Q) := .swap [] q r Q (by omega) (by omega) (by omega);exact h1.trans h2
 exact this _ fun q hq => h3 q (by simpa using hq)
theorem zeh (l : List Int) : B.Eqv l (B.ord l) := by
 have : ∀ (s acc p : List Int), B.Eqv p acc.reverse -> B.Eqv (p ++ s) (s.foldl B.ins acc).reverse := by
  intro s;induction s with
  | nil => intro acc p h; simpa using h
  | cons r s ih =>
   intro acc p h;have h1 := ih (B.ins acc r) (p ++ [r]) ((h.right [r]).trans (ins_eqv acc r));simpa using h1
 exact this l [] [] (.refl _)
theorem BaseF.Eqv.mem {a b : List Int} (h : B.Eqv a b) : ∀ x, x ∈ a ↔ x ∈ b := by
 induction h with
 | refl => exact fun _ => Iff.rfl
 | swap p x y s _ _ _ =>
  intro z;simp only [List.mem_append, List.mem_cons];constructor <;> (rintro (h | h | h | h) <;> simp [h])
 | trans _ _ i1 i2 => exact fun x => (i1 x).trans (i2 x)
theorem BaseF.Eqv.length {a b : List Int} (h : B.Eqv a b) : a.length = b.length := by
 induction h with
 | refl => rfl
 | swap p x y s _ _ _ => simp
 | trans _ _ i1 i2 => exact i1.trans i2
theorem BaseF.Eqv.nil_iff {a b : List Int} (h : B.Eqv a b) : a = [] ↔ b = [] := by
 rw [<- List.length_eq_zero_iff, <- List.length_eq_zero_iff, h.length]
def BaseF.srt (B : BaseF) : Int -> List Int -> Bool
 | _, [] => true
 | k, r :: t => (decide (B.cls r = 0) || decide (k <= B.cls r)) && BaseF.srt B (B.cls r) t
def BaseF.lastC (B : BaseF) (k : Int) (l : List Int) : Int := l.foldl (fun _ r => B.cls r) k
theorem zat (k : Int) (l : List Int) (r : Int) : B.lastC k (l ++ [r]) = B.cls r := by simp [BaseF.lastC]
theorem zcu : ∀ (k : Int) (a b : List Int), B.srt k (a ++ b) = (B.srt k a && B.srt (B.lastC k a) b)
 | k, [], b => by simp [BaseF.srt, BaseF.lastC]
 | k, x :: a, b => by
  show ((decide (B.cls x = 0) || decide (k <= B.cls x)) && B.srt (B.cls x) (a ++ b)) = _;rw [zcu (B.cls x) a b, <- Bool.and_assoc];rfl
theorem zeo (k : Int) (l : List Int) (r : Int) : B.srt k (l ++ [r]) = true ↔ B.srt k l = true /\ (B.cls r = 0 \/ B.lastC k l <= B.cls r) := by
 rw [zcu];simp [BaseF.srt]
theorem zka {k k' : Int} (h : k' <= k) : ∀ {l : List Int}, B.srt k l = true -> B.srt k' l = true
 | [], _ => rfl
 | r :: t, h2 => by
  simp only [BaseF.srt, Bool.and_eq_true, Bool.or_eq_true, decide_eq_true_eq] at h2 ⊢;refine ⟨?_, h2.2⟩;rcases h2.1 with h3 | h3
  ·exact .inl h3
  ·exact .inr (by omega)
theorem zcq {k : Int} (hk : 0 <= k) : ∀ (l : List Int), 0 <= B.lastC k l
 | [] => hk
 | x :: l => zcq (k := B.cls x) (B.cls0 x) l
theorem zid (k : Int) (x : Int) (t : List Int) : B.lastC k (x :: t).reverse = B.cls x := by rw [List.reverse_cons, zat]
theorem zkl {l : List Int} (h : B.srt 0 l = true) : B.ord l = l := by
 have : ∀ (s acc : List Int), B.srt (B.lastC 0 acc.reverse) s = true -> (s.foldl B.ins acc).reverse = acc.reverse ++ s := by
  intro s;induction s with
  | nil => intro acc _; simp
  | cons r s ih =>
   intro acc h;simp only [BaseF.srt, Bool.and_eq_true, Bool.or_eq_true, decide_eq_true_eq] at h
   have e : B.ins acc r = r :: acc := by
    cases acc with
    | nil => rfl
    | cons a t =>
     rw [zid] at h;simp only [BaseF.ins];rw [if_neg (by omega)]
   show (s.foldl B.ins (B.ins acc r)).reverse = _;rw [e, ih (r :: acc) (by rw [zid]; exact h.2)];simp
 have h1 := this l [] h;simpa [BaseF.ord, BaseF.ordR] using h1
theorem ins_srt (acc : List Int) (r : Int) (h : B.srt 0 acc.reverse = true) : B.srt 0 (B.ins acc r).reverse = true := by
 obtain ⟨Q, A, h1, h2, h3, h4⟩ := B.ins_split acc r;rw [h1, List.reverse_append, zcu, Bool.and_eq_true] at h;rw [h2];simp only [List.reverse_append, List.reverse_cons];rw [zcu, Bool.and_eq_true, zeo, zat];have h0 := B.cls0 r;refine ⟨⟨h.1, ?_⟩, ?_⟩
 ·cases A with
  | nil => exact .inr h0
  | cons a t => rw [zid]; exact h4 a t rfl
 ·rcases List.eq_nil_or_concat Q with rfl | ⟨Q', q, rfl⟩
  ·rfl
  ·have hq := h3 q (by simp);rw [List.concat_eq_append, List.reverse_append] at h ⊢;have e : [q].reverse ++ Q'.reverse = q :: Q'.reverse := rfl;rw [e] at h ⊢;simp only [BaseF.srt, Bool.and_eq_true, Bool.or_eq_true, decide_eq_true_eq] at h ⊢;exact ⟨.inr (by omega), h.2.2⟩
theorem srt_ord (l : List Int) : B.srt 0 (B.ord l) = true := by
 have : ∀ (s acc : List Int), B.srt 0 acc.reverse = true -> B.srt 0 (s.foldl B.ins acc).reverse = true := by
  intro s;induction s with
  | nil => intro acc h; exact h
  | cons r s ih => intro acc h; exact ih _ (ins_srt acc r h)
 exact this l [] rfl
theorem zf4 (x : Int) (hx : B.cls x = 0) : ∀ (s Q A : List Int), s.foldl B.ins (Q ++ x :: A) = s.foldl B.ins (Q ++ [x]) ++ A
 | [], Q, A => by simp
 | r :: s, Q, A => by
  have h0 := B.cls0 r
  have key : ∀ (Q A : List Int), B.ins (Q ++ x :: A) r = B.ins (Q ++ [x]) r ++ A := by
   intro Q;induction Q with
   | nil =>
    intro A;simp only [List.nil_append, BaseF.ins];rw [if_neg (by omega), if_neg (by omega)];rfl
   | cons q Q ih =>
    intro A;simp only [List.cons_append, BaseF.ins];split
    ·rw [ih A]; rfl
    ·simp
  have hex : ∃ Q', B.ins (Q ++ [x]) r = Q' ++ [x] := by
   obtain ⟨Q2, A2, h1, h2, h3, _⟩ := B.ins_split (Q ++ [x]) r;rcases List.eq_nil_or_concat A2 with rfl | ⟨A', a, rfl⟩
   ·rw [List.append_nil] at h1;have := h3 x (by rw [<- h1]; simp);omega
   ·rw [List.concat_eq_append, <- List.append_assoc] at h1;have e := List.append_inj_right' h1 rfl;injection e with e _;subst e;refine ⟨Q2 ++ r :: A', ?_⟩;rw [h2, List.concat_eq_append];simp
  obtain ⟨Q', hQ'⟩ := hex;show s.foldl B.ins (B.ins (Q ++ x :: A) r) = s.foldl B.ins (B.ins (Q ++ [x]) r) ++ A;rw [key, hQ', List.append_assoc];exact zf4 x hx s Q' A
theorem zpk (a : List Int) {x : Int} (b : List Int) (hx : B.cls x = 0) : B.ord (a ++ x :: b) = B.ord a ++ B.ord (x :: b) := by
 unfold BaseF.ord;rw [B.ordR_app, <- List.reverse_append];congr 1
 have e1 : B.ins (B.ordR a) x = x :: B.ordR a := by
  cases B.ordR a with
  | nil => rfl
  | cons y t => simp only [BaseF.ins]; rw [if_neg (by omega)]
 show b.foldl B.ins (B.ins (B.ordR a) x) = b.foldl B.ins [x] ++ B.ordR a;rw [e1];exact zf4 x hx b [] (B.ordR a)
theorem zkm {x : Int} (b : List Int) (hx : B.cls x = 0) : ∃ t, B.ord (x :: b) = x :: t := by
 have key : ∀ (s Q : List Int), ∃ Q', s.foldl B.ins (Q ++ [x]) = Q' ++ [x] := by
  intro s;induction s with
  | nil => intro Q; exact ⟨Q, rfl⟩
  | cons r s ih =>
   intro Q;have h0 := B.cls0 r;obtain ⟨Q2, A2, h1, h2, h3, _⟩ := B.ins_split (Q ++ [x]) r;rcases List.eq_nil_or_concat A2 with rfl | ⟨A', a, rfl⟩
   ·rw [List.append_nil] at h1;have := h3 x (by rw [<- h1]; simp);omega
   ·rw [List.concat_eq_append, <- List.append_assoc] at h1;have e := List.append_inj_right' h1 rfl;injection e with e _;subst e;have := ih (Q2 ++ r :: A');simpa [h2] using this
 obtain ⟨Q', h⟩ := key b [];refine ⟨Q'.reverse, ?_⟩;unfold BaseF.ord BaseF.ordR;show (b.foldl B.ins [x]).reverse = _;have e : b.foldl B.ins [x] = Q' ++ [x] := h;rw [e];simp
theorem zfv {x : Int} (b : List Int) (hx : B.cls x ≠ 0) : ∃ y t, B.ord (x :: b) = y :: t /\ B.cls y ≠ 0 := by
 have key : ∀ (s Q : List Int) (z : Int), B.cls z ≠ 0 -> ∃ Q' z', s.foldl B.ins (Q ++ [z]) = Q' ++ [z'] /\ B.cls z' ≠ 0 := by
  intro s;induction s with
  | nil => intro Q z hz; exact ⟨Q, z, rfl, hz⟩
  | cons r s ih =>
   intro Q z hz;obtain ⟨Q2, A2, h1, h2, h3, _⟩ := B.ins_split (Q ++ [z]) r;rcases List.eq_nil_or_concat A2 with rfl | ⟨A', a, rfl⟩
   ·rw [List.append_nil] at h1;have h4 := h3 z (by rw [<- h1]; simp);show ∃ Q' z', s.foldl B.ins (B.ins (Q ++ [z]) r) = _ /\ _;rw [h2];exact ih Q2 r h4.2
   ·rw [List.concat_eq_append, <- List.append_assoc] at h1;have e := List.append_inj_right' h1 rfl;injection e with e _;subst e;show ∃ Q' z', s.foldl B.ins (B.ins (Q ++ [z]) r) = _ /\ _;have := ih (Q2 ++ r :: A') z hz;simpa [h2] using this
 obtain ⟨Q', z', h, hz'⟩ := key b [] x hx;refine ⟨z', Q'.reverse, ?_, hz'⟩;unfold BaseF.ord BaseF.ordR;show (b.foldl B.ins [x]).reverse = _;have e : b.foldl B.ins [x] = Q' ++ [z'] := h;rw [e];simp
end
section
structure JS where
 pre : List Int
 hd : Option Int
 ms : List Int
def JS.out (s : JS) : List Int := s.pre ++ (s.hd.toList ++ s.ms)
variable {B : BaseF}
def BaseF.app (B : BaseF) (s : JS) (r : Int) : JS := if B.cls r = 0 then ⟨s.out, some r, []⟩ else ⟨s.pre, s.hd, s.ms ++ [r]⟩
def BaseF.step (B : BaseF) (s : JS) (r : Int) : JS :=
 match s.hd with
 | none => B.app s r
 | some h => if (s.ms.all fun m => decide (B.cls m < B.cls r)) = true then (match B.pair h r with | some c => ⟨s.pre, some c, s.ms⟩ | none => B.app s r) else B.app s r
def BaseF.run (B : BaseF) (s : JS) (l : List Int) : JS := l.foldl B.step s
def BaseF.join (B : BaseF) (l : List Int) : List Int := (B.run ⟨[], none, []⟩ l).out
theorem zf1 (s : JS) (a b : List Int) : B.run s (a ++ b) = B.run (B.run s a) b := by unfold BaseF.run; rw [List.foldl_append]
theorem zbc (s : JS) (x : Int) (b : List Int) : B.run s (x :: b) = B.run (B.step s x) b := rfl
theorem zg6 (s : JS) (a : List Int) (x : Int) : B.run s (a ++ [x]) = B.step (B.run s a) x := by rw [zf1]; rfl
def JS.behind (q : List Int) (s : JS) : JS := ⟨q ++ s.pre, s.hd, s.ms⟩
theorem JS.behind_out (q : List Int) (s : JS) : (s.behind q).out = q ++ s.out := by simp [JS.behind, JS.out]
theorem zj5 (q : List Int) (s : JS) (r : Int) : B.app (s.behind q) r = (B.app s r).behind q := by
 unfold BaseF.app;split
 ·rw [JS.behind_out]; rfl
 ·rfl
theorem zc2 (p : List Int) (h : Int) (ms : List Int) (r : Int) : B.step ⟨p, some h, ms⟩ r = if (ms.all fun m => decide (B.cls m < B.cls r)) = true then (match B.pair h r with | some c => ⟨p, some c, ms⟩ | none => B.app ⟨p, some h, ms⟩ r) else B.app ⟨p, some h, ms⟩ r := rfl
theorem step_behind (q : List Int) (s : JS) (r : Int) : B.step (s.behind q) r = (B.step s r).behind q := by
 obtain ⟨p, hd, ms⟩ := s
 cases hd with
 | none => exact zj5 q _ r
 | some h =>
  have ha := zj5 (B := B) q ⟨p, some h, ms⟩ r;show B.step ⟨q ++ p, some h, ms⟩ r = _;have ha' : B.app ⟨q ++ p, some h, ms⟩ r = (B.app ⟨p, some h, ms⟩ r).behind q := ha;rw [zc2, zc2, ha'];split
  ·cases B.pair h r <;> rfl
  ·rfl
theorem zi9 (q : List Int) : ∀ (l : List Int) (s : JS), B.run (s.behind q) l = (B.run s l).behind q
 | [], _ => rfl
 | r :: l, s => by
  rw [zbc, zbc, step_behind];exact zi9 q l (B.step s r)
structure BaseF.JOk (B : BaseF) (s : JS) : Prop where
 ms : ∀ m ∈ s.ms, B.cls m ≠ 0
 hd : ∀ h, s.hd = some h -> B.cls h = 0
theorem zig : B.JOk ⟨[], none, []⟩ := ⟨by simp, by simp⟩
theorem zqr {s : JS} (h : B.JOk s) (r : Int) : B.JOk (B.app s r) := by
 unfold BaseF.app;split
 ·rename_i hr;exact ⟨by simp, fun x hx => by injection hx with hx; rw [<- hx]; exact hr⟩
 ·rename_i hr;refine ⟨fun m hm => ?_, h.hd⟩;rcases List.mem_append.1 hm with hm | hm
  ·exact h.ms m hm
  ·rw [List.mem_singleton] at hm; rw [hm]; exact hr
theorem zas (s : JS) (r : Int) : B.step s r = B.app s r \/ ∃ h c, s.hd = some h /\ (∀ m ∈ s.ms, B.cls m < B.cls r) /\ B.pair h r = some c /\ B.step s r = ⟨s.pre, some c, s.ms⟩ := by
 obtain ⟨p, hd, ms⟩ := s
 cases hd with
 | none => exact .inl rfl
 | some h =>
  unfold BaseF.step;simp only [];split
  ·rename_i ha
   cases hp : B.pair h r with
   | none => exact .inl rfl
   | some c => exact .inr ⟨h, c, rfl, by simpa using ha, hp, rfl⟩
  ·exact .inl rfl
theorem zj9 {s : JS} (h : B.JOk s) (r : Int) : B.JOk (B.step s r) := by
 rcases zas (B := B) s r with e | ⟨x, c, h1, h2, h3, e⟩
 ·rw [e]; exact zqr h r
 ·rw [e];exact ⟨h.ms, fun y hy => by injection hy with hy; rw [<- hy]; exact (B.made x r c h3).2.1⟩
theorem znr : ∀ (l : List Int) {s : JS}, B.JOk s -> B.JOk (B.run s l)
 | [], _, h => h
 | r :: l, s, h => znr l (zj9 h r)
theorem zcy (s : JS) (r : Int) : (B.app s r).out = s.out ++ [r] := by
 unfold BaseF.app;split
 ·simp [JS.out]
 ·simp [JS.out]
theorem znn {s : JS} {x : Int} (hx : B.cls x = 0) (hs : B.sec x = false) : B.step s x = ⟨s.out, some x, []⟩ := by
 rcases zas (B := B) s x with e | ⟨h, c, _, _, h3, _⟩
 ·rw [e]; unfold BaseF.app; rw [if_pos hx]
 ·have := (B.made h x c h3).2.2;rw [hs] at this
  cases this
theorem zog (a : List Int) {x : Int} (b : List Int) (hx : B.cls x = 0) (hs : B.sec x = false) : B.join (a ++ x :: b) = B.join a ++ B.join (x :: b) := by
 unfold BaseF.join;rw [zf1, zbc, zbc, znn hx hs, znn hx hs];have e : (⟨(B.run ⟨[], none, []⟩ a).out, some x, []⟩ : JS) = (⟨[], some x, []⟩ : JS).behind (B.run ⟨[], none, []⟩ a).out := (by simp [JS.behind]);rw [e, zi9, JS.behind_out];rfl
theorem step_eqv {c : Bool} {p : List Int} {s : JS} (hok : B.JOk s) {r : Int} (hr : B.parts c r = []) (hms : ∀ m ∈ s.ms, B.parts c m = []) (h : B.Eqv (B.all c s.out) p) : B.Eqv (B.all c (B.step s r).out) (p ++ [r]) := by
 rcases zas (B := B) s r with e | ⟨x, y, h1, h2, h3, e⟩
 ·rw [e, zcy, B.all_app, B.all_one, B.one_none hr];exact h.right _
 ·rw [e];obtain ⟨pre, hd, ms⟩ := s;simp only [] at h1 h2 hms;subst h1;have hmi : B.all c ms = ms := B.all_irr hms
  have e1 : B.all c (JS.out ⟨pre, some y, ms⟩) = B.all c pre ++ (B.one c x ++ ([r] ++ ms)) := by
   simp only [JS.out, Option.toList, B.all_app, B.all_one, hmi, B.one_made h3, B.one_none hr, List.append_assoc]
  have e2 : B.all c (JS.out ⟨pre, some x, ms⟩) = B.all c pre ++ (B.one c x ++ ms) := by
   simp only [JS.out, Option.toList, B.all_app, B.all_one, hmi]
  rw [e1];rw [e2] at h;have h4 := h.right [r];refine BaseF.Eqv.trans ?_ h4;simp only [List.append_assoc];refine BaseF.Eqv.left _ (BaseF.Eqv.left _ ?_);refine BaseF.Eqv.pass fun m hm => ⟨?_, h2 m hm⟩;have := hok.ms m hm;have := B.cls0 m;omega
theorem step_ms {s : JS} {r m : Int} (h : m ∈ (B.step s r).ms) : m ∈ s.ms \/ m = r := by
 rcases zas (B := B) s r with e | ⟨x, y, h1, h2, h3, e⟩
 ·rw [e] at h;unfold BaseF.app at h;split at h
  ·simp at h
  ·simpa using h
 ·rw [e] at h;exact .inl h
theorem zpb {c : Bool} : ∀ (d p : List Int) (s : JS), B.JOk s -> B.Irr c d -> (∀ m ∈ s.ms, B.parts c m = []) -> B.Eqv (B.all c s.out) p -> B.Eqv (B.all c (B.run s d).out) (p ++ d)
 | [], p, s, _, _, _, h => by
  show B.Eqv (B.all c s.out) (p ++ []);rw [List.append_nil];exact h
 | r :: d, p, s, hok, hd, hms, h => by
  have hr := hd r (by simp)
  have h1 := zpb d (p ++ [r]) (B.step s r) (zj9 hok r) (fun x hx => hd x (by simp [hx])) (fun m hm => by
   rcases step_ms hm with hm | rfl
   ·exact hms m hm
   ·exact hr) (step_eqv hok hr hms h)
  rw [zbc];simpa using h1
theorem join_all {c : Bool} {d : List Int} (hd : B.Irr c d) : B.Eqv (B.all c (B.join d)) d := by
 have := zpb (B := B) (c := c) d [] ⟨[], none, []⟩ zig hd (by simp) (by rw [show JS.out ⟨[], none, []⟩ = [] from rfl, B.all_nil]; exact .refl _)
 simpa [BaseF.join] using this
def BaseF.Kept (B : BaseF) (c : Bool) (x : Int) : Prop := B.srt 0 (B.one c x) = true /\ B.join (B.one c x) = [x]
theorem zhc {c : Bool} {x : Int} (h : B.parts c x = []) : B.Kept c x := by
 unfold BaseF.Kept;rw [B.one_none h];refine ⟨?_, ?_⟩
 ·have := B.cls0 x;simp [BaseF.srt]; omega
 ·unfold BaseF.join BaseF.run;simp only [List.foldl_cons, List.foldl_nil, BaseF.step, zcy];rfl
structure BaseF.JInv (B : BaseF) (c : Bool) (p : List Int) (s : JS) : Prop where
 ok : B.JOk s
 pre : ∀ x ∈ s.pre, B.Kept c x
 irr : ∀ m ∈ s.ms, B.parts c m = []
 emp : s.hd = none -> s.pre = []
 top : ∀ m ∈ s.ms, B.cls m <= B.lastC 0 p
 srt : B.srt 0 s.out = true
 hd : ∀ h, s.hd = some h -> B.run ⟨[], none, []⟩ (B.one c h) = ⟨[], some h, []⟩ /\ B.srt 0 (B.one c h) = true /\ (B.lastC 0 (B.one c h) <= B.lastC 0 p)
theorem JInv.out {c : Bool} {p : List Int} {s : JS} (h : B.JInv c p s) : ∀ x ∈ s.out, B.Kept c x := by
 intro x hx;unfold JS.out at hx;rcases List.mem_append.1 hx with hx | hx
 ·exact h.pre x hx
 ·rcases List.mem_append.1 hx with hx | hx
  ·have hh : s.hd = some x := (by simpa using hx);obtain ⟨h1, h2, _⟩ := h.hd x hh;exact ⟨h2, by unfold BaseF.join; rw [h1]; rfl⟩
  ·exact zhc (h.irr x hx)
theorem run_single {x : Int} (hx : B.cls x = 0) : B.run ⟨[], none, []⟩ [x] = ⟨[], some x, []⟩ := by
 show B.step ⟨[], none, []⟩ x = _;unfold BaseF.step BaseF.app;rw [if_pos hx];rfl
theorem zl6 {s : JS} {k : Int} (hne : s.ms ≠ []) : B.lastC k s.out = B.lastC 0 s.ms := by
 rcases List.eq_nil_or_concat s.ms with h | ⟨t, y, h⟩
 ·exact absurd h hne
 ·unfold JS.out;rw [h, List.concat_eq_append, <- List.append_assoc, <- List.append_assoc, zat, zat]
theorem jinv_app {c : Bool} {p : List Int} {s : JS} (h : B.JInv c p s) {r : Int} (hr : B.parts c r = []) (hs : B.cls r = 0 \/ B.lastC 0 p <= B.cls r) : B.JInv c (p ++ [r]) (B.app s r) := by
 have h0 := B.cls0 r
 have hsrt : B.srt 0 (B.app s r).out = true := by
  rw [zcy, zeo];refine ⟨h.srt, ?_⟩;rcases hs with hs | hs
  ·exact .inl hs
  ·by_cases hms : s.ms = []
   ·right;unfold JS.out;rw [hms, List.append_nil]
    cases hh : s.hd with
    | none =>
     rw [h.emp hh];exact h0
    | some x =>
     show B.lastC 0 (s.pre ++ [x]) <= _;rw [zat, h.ok.hd x hh];exact h0
   ·right;rw [zl6 hms];rcases List.eq_nil_or_concat s.ms with e | ⟨t, y, e⟩
    ·exact absurd e hms
    ·rw [e, List.concat_eq_append, zat];have := h.top y (by rw [e]; simp);omega
 unfold BaseF.app at hsrt ⊢;split
 ·rename_i hc;rw [if_pos hc] at hsrt;refine ⟨⟨by simp, fun x hx => by injection hx with hx; rw [<- hx]; exact hc⟩, JInv.out h, by simp, by simp, by simp, hsrt, fun x hx => ?_⟩;injection hx with hx;subst hx;rw [B.one_none hr];refine ⟨run_single hc, ?_, ?_⟩
  ·have := (zhc hr).1;rwa [B.one_none hr] at this
  ·rw [zat];show B.cls r <= B.cls r;omega
 ·rename_i hc;rw [if_neg hc] at hsrt
  have hge : B.lastC 0 p <= B.cls r := by
   rcases hs with hs | hs
   ·exact absurd hs hc
   ·exact hs
  refine ⟨⟨fun m hm => ?_, h.ok.hd⟩, h.pre, fun m hm => ?_, h.emp, fun m hm => ?_, hsrt, fun x hx => ?_⟩
  ·rcases List.mem_append.1 hm with hm | hm
   ·exact h.ok.ms m hm
   ·rw [List.mem_singleton] at hm; rw [hm]; exact hc
  ·rcases List.mem_append.1 hm with hm | hm
   ·exact h.irr m hm
   ·rw [List.mem_singleton] at hm; rw [hm]; exact hr
  ·rw [zat];rcases List.mem_append.1 hm with hm | hm
   ·have := h.top m hm; omega
   ·rw [List.mem_singleton] at hm; rw [hm]; omega
  ·obtain ⟨h1, h2, h3⟩ := h.hd x hx;exact ⟨h1, h2, by rw [zat]; omega⟩
theorem srt_same (k : Int) (a : List Int) {x y : Int} (b : List Int) (h : B.cls x = B.cls y) : B.srt k (a ++ x :: b) = B.srt k (a ++ y :: b) := by
 rw [zcu, zcu];simp only [BaseF.srt, h]
theorem jinv_step {c : Bool} {p : List Int} {s : JS} (h : B.JInv c p s) {r : Int} (hr : B.parts c r = []) (hs : B.cls r = 0 \/ B.lastC 0 p <= B.cls r) : B.JInv c (p ++ [r]) (B.step s r) := by
 have hok := zj9 h.ok r;rcases zas (B := B) s r with e | ⟨x, y, h1, h2, h3, e⟩
 ·rw [e]; exact jinv_app h hr hs
 ·rw [e] at hok ⊢;obtain ⟨i1, i2, i3⟩ := h.hd x h1;have hy := (B.made x r y h3).2.1;have hx := h.ok.hd x h1;refine ⟨hok, h.pre, h.irr, (fun e => by cases e), (fun m hm => by rw [zat]; have := h2 m hm; omega), ?_, fun z hz => ?_⟩
  ·have := h.srt;unfold JS.out at this ⊢;rw [h1] at this;show B.srt 0 (s.pre ++ y :: s.ms) = true;rw [srt_same 0 s.pre (x := y) (y := x) s.ms (by rw [hx, hy])];exact this
  ·injection hz with hz;subst hz;rw [B.one_made h3, B.one_none hr];refine ⟨?_, ?_, ?_⟩
   ·rw [zg6, i1];unfold BaseF.step;simp only [List.all_nil, if_pos, h3]
   ·rw [zeo];exact ⟨i2, by omega⟩
   ·rw [zat, zat];omega
theorem zoi {c : Bool} : ∀ (d p : List Int) (s : JS), B.JInv c p s -> B.Irr c d -> B.srt (B.lastC 0 p) d = true -> B.JInv c (p ++ d) (B.run s d)
 | [], p, s, h, _, _ => by simpa [BaseF.run] using h
 | r :: d, p, s, h, hd, hs => by
  simp only [BaseF.srt, Bool.and_eq_true, Bool.or_eq_true, decide_eq_true_eq] at hs;have h1 := zoi d (p ++ [r]) (B.step s r) (jinv_step h (hd r (by simp)) hs.1) (fun x hx => hd x (by simp [hx])) (by rw [zat]; exact hs.2);rw [zbc];simpa using h1
theorem jinv_nil (c : Bool) : B.JInv c [] ⟨[], none, []⟩ := ⟨zig, by simp, by simp, by simp, by simp, rfl, by simp⟩
theorem join_kept {c : Bool} {d : List Int} (hd : B.Irr c d) (hs : B.srt 0 d = true) : B.srt 0 (B.join d) = true /\ ∀ x ∈ B.join d, B.Kept c x := by
 have h := zoi (c := c) d [] ⟨[], none, []⟩ (jinv_nil c) hd hs;rw [List.nil_append] at h;exact ⟨h.srt, JInv.out h⟩
theorem step_len (s : JS) (r : Int) : (B.step s r).out.length <= s.out.length + 1 := by
 rcases zas (B := B) s r with e | ⟨x, y, h1, h2, h3, e⟩
 ·rw [e, zcy]; simp
 ·rw [e];unfold JS.out;rw [h1];simp
theorem zm2 : ∀ (d : List Int) (s : JS), (B.run s d).out.length <= s.out.length + d.length
 | [], s => by simp [BaseF.run]
 | r :: d, s => by
  have h1 := zm2 d (B.step s r);have h2 := step_len (B := B) s r;rw [zbc, List.length_cons];omega
theorem zcr (d : List Int) : (B.join d).length <= d.length := by
 have := zm2 (B := B) d ⟨[], none, []⟩;simpa [BaseF.join, JS.out] using this
theorem step_ne (s : JS) (r : Int) : 1 <= (B.step s r).out.length := by
 rcases zas (B := B) s r with e | ⟨x, y, h1, h2, h3, e⟩
 ·rw [e, zcy]; simp
 ·rw [e]; simp [JS.out]; omega
end
section
variable {B : BaseF}
noncomputable def BaseF.full (B : BaseF) (c : Bool) (l : List Int) : List Int := B.ord (B.all c l)
noncomputable def BaseF.form (B : BaseF) (c j : Bool) (l : List Int) : List Int := if j = true then B.join (B.full c l) else B.full c l
theorem zdt (c : Bool) (l : List Int) : B.Irr c (B.full c l) := fun x hx => B.irr_all c l x (((zeh _).mem x).2 hx)
theorem zop (c : Bool) (l : List Int) : B.srt 0 (B.full c l) = true := srt_ord _
theorem zks (c j : Bool) (l : List Int) : B.Eqv (B.all c (B.form c j l)) (B.all c l) := by
 unfold BaseF.form;split
 ·exact (join_all (zdt c l)).trans (zeh _).symm
 ·rw [B.all_irr (zdt c l)];exact (zeh _).symm
theorem zeg (c j : Bool) (l : List Int) : B.full c (B.form c j l) = B.full c l := (zks c j l).ord
theorem zil (c j : Bool) {l m : List Int} (h : B.full c l = B.full c m) : B.form c j l = B.form c j m := by unfold BaseF.form; rw [h]
theorem zim (c i j : Bool) (l : List Int) : B.form c j (B.form c i l) = B.form c j l := zil c j (zeg c i l)
theorem form_inj (c j : Bool) {l m : List Int} (h : B.form c j l = B.form c j m) : B.full c l = B.full c m := by rw [<- zeg c j l, <- zeg c j m, h]
theorem form_app (c j : Bool) (l m : List Int) : B.form c j (B.form c j l ++ B.form c j m) = B.form c j (l ++ m) := by
 refine zil c j ?_;unfold BaseF.full;rw [B.all_app, B.all_app];exact ((zks c j l).both (zks c j m)).ord
theorem full_nil (c : Bool) : B.full c [] = [] := rfl
theorem zkr (c j : Bool) : B.form c j [] = [] := by
 unfold BaseF.form;rw [full_nil];split <;> rfl
theorem full_ne {c : Bool} {r : Int} : B.full c [r] ≠ [] := by
 intro h;have := (zeh (B := B) (B.all c [r])).nil_iff.2 h;rw [B.all_one] at this;exact B.one_ne c r this
noncomputable def BaseF.kind (B : BaseF) (c j : Bool) (r : Int) : Int := if B.form c j [r] ≠ [r] then 2 else if j = true /\ B.sec ((B.full c [r]).headD 0) = true then 3 else 1
noncomputable def BaseF.safe (B : BaseF) (c j : Bool) (r : Int) : Bool := decide (B.cls ((B.full c [r]).headD 0) = 0) && !(j && B.sec ((B.full c [r]).headD 0))
noncomputable def BaseF.worst (B : BaseF) (c j : Bool) (l : List Int) : Int := if (∃ r ∈ l, B.kind c j r = 2) then 2 else if (∃ r ∈ l, B.kind c j r = 3) then 3 else 1
noncomputable def BaseF.check (B : BaseF) (c j : Bool) (l : List Int) : Int := if B.srt 0 l = true then B.worst c j l else 2
theorem znb {c j : Bool} {r : Int} : B.kind c j r = 2 ↔ B.form c j [r] ≠ [r] := by
 unfold BaseF.kind
 by_cases h : B.form c j [r] ≠ [r]
 ·rw [if_pos h];exact ⟨fun _ => h, fun _ => rfl⟩
 ·rw [if_neg h];refine ⟨fun e => ?_, fun e => absurd e h⟩;split at e <;> exact absurd e (by decide)
theorem zl8 {c : Bool} {x : Int} (h : B.Kept c x) : B.form c true [x] = [x] := by
 unfold BaseF.form BaseF.full;rw [if_pos rfl, B.all_one, zkl h.1, h.2]
theorem irr_form {c j : Bool} {x : Int} (h : B.parts c x = []) : B.form c j [x] = [x] := by
 cases j
 ·unfold BaseF.form BaseF.full;rw [if_neg (by simp), B.all_one, B.one_none h];exact zkl (by have := zhc h; unfold BaseF.Kept at this; rw [B.one_none h] at this; exact this.1)
 ·exact zl8 (zhc h)
theorem form_ok (c j : Bool) (l : List Int) : B.srt 0 (B.form c j l) = true /\ ∀ x ∈ B.form c j l, B.kind c j x ≠ 2 := by
 cases j with
 | false =>
  have e : B.form c false l = B.full c l := (by unfold BaseF.form; rw [if_neg (by simp)]);rw [e];refine ⟨zop c l, fun x hx h => ?_⟩;exact znb.1 h (irr_form (zdt c l x hx))
 | true =>
  have e : B.form c true l = B.join (B.full c l) := (by unfold BaseF.form; rw [if_pos rfl]);obtain ⟨h1, h2⟩ := join_kept (zdt c l) (zop (B := B) c l);rw [e];exact ⟨h1, fun x hx h => znb.1 h (zl8 (h2 x hx))⟩
theorem zdd (c j : Bool) (l : List Int) : B.check c j (B.form c j l) ≠ 2 := by
 obtain ⟨h1, h2⟩ := form_ok (B := B) c j l;unfold BaseF.check BaseF.worst;rw [if_pos h1, if_neg (fun ⟨r, hr, h⟩ => h2 r hr h)];split <;> decide
theorem zow {c j : Bool} {l : List Int} (h : B.check c j l = 2) : B.form c j l ≠ l := fun e => zdd (B := B) c j l (by rw [e]; exact h)
theorem zck {c : Bool} {l : List Int} : B.check c false l ≠ 3 := by
 unfold BaseF.check BaseF.worst;split
 ·split
  ·decide
  ·rw [if_neg]
   ·decide
   ·rintro ⟨r, _, h⟩;unfold BaseF.kind at h;split at h
    ·exact absurd h (by decide)
    ·rw [if_neg (by simp)] at h;exact absurd h (by decide)
 ·decide
theorem zb0 (c j : Bool) (l : List Int) : B.check c j l = 1 \/ B.check c j l = 2 \/ B.check c j l = 3 := by
 unfold BaseF.check BaseF.worst;split
 ·split
  ·simp
  ·split <;> simp
 ·simp
theorem zej {c j : Bool} {l : List Int} : B.check c j l = 1 ↔ B.srt 0 l = true /\ ∀ r ∈ l, B.kind c j r = 1 := by
 unfold BaseF.check BaseF.worst;constructor
 ·intro h;split at h
  ·rename_i hs;refine ⟨hs, fun r hr => ?_⟩;split at h
   ·exact absurd h (by decide)
   ·rename_i h2;split at h
    ·exact absurd h (by decide)
    ·rename_i h3;have a2 : B.kind c j r ≠ 2 := fun e => h2 ⟨r, hr, e⟩;have a3 : B.kind c j r ≠ 3 := fun e => h3 ⟨r, hr, e⟩;unfold BaseF.kind at a2 a3 ⊢;split
     ·rename_i h4; rw [if_pos h4] at a2; exact absurd rfl a2
     ·rename_i h4;rw [if_neg h4] at a3;split
      ·rename_i h5; rw [if_pos h5] at a3; exact absurd rfl a3
      ·rfl
  ·exact absurd h (by decide)
 ·rintro ⟨h1, h2⟩;rw [if_pos h1, if_neg, if_neg]
  ·rintro ⟨r, hr, h⟩; rw [h2 r hr] at h; exact absurd h (by decide)
  ·rintro ⟨r, hr, h⟩; rw [h2 r hr] at h; exact absurd h (by decide)
theorem zdx {c j : Bool} {l : List Int} : B.check c j l = 2 ↔ B.srt 0 l = false \/ ∃ r ∈ l, B.kind c j r = 2 := by
 unfold BaseF.check BaseF.worst;constructor
 ·intro h;split at h
  ·split at h
   ·rename_i h2; exact .inr h2
   ·split at h <;> exact absurd h (by decide)
  ·rename_i hs;exact .inl (by simpa using hs)
 ·rintro (h | h)
  ·rw [if_neg (by simp [h])]
  ·rw [if_pos h];split <;> rfl
theorem zof {d : List Int} {r : Int} (h : B.join d = [r]) : d = [r] \/ B.cls r = 0 := by
 rcases List.eq_nil_or_concat d with rfl | ⟨t, x, rfl⟩
 ·exact absurd h (by simp [BaseF.join, BaseF.run, JS.out])
 ·rw [List.concat_eq_append] at h ⊢;unfold BaseF.join at h;rw [zg6] at h;rcases zas (B := B) (B.run ⟨[], none, []⟩ t) x with e | ⟨y, z, h1, h2, h3, e⟩
  ·rw [e, zcy] at h
   have hl : (B.run ⟨[], none, []⟩ t).out = [] := by
    have := congrArg List.length h;simp at this;exact this
   rw [hl] at h;left;rcases List.eq_nil_or_concat t with rfl | ⟨t', u, rfl⟩
   ·simpa using h
   ·rw [List.concat_eq_append, zg6] at hl;have := step_ne (B := B) (B.run ⟨[], none, []⟩ t') u;rw [hl] at this;simp at this
  ·rw [e] at h;right;have hz := (B.made y x z h3).2.1;unfold JS.out at h;have : z ∈ [r] := (by rw [<- h]; simp);rw [List.mem_singleton] at this;rw [<- this]; exact hz
theorem znq {k : Int} {m : Int} (hm : B.cls m = k) (hk : k ≠ 0) : ∀ (Q : List Int) (s : JS), (∀ q ∈ Q, k < B.cls q) -> (∀ x ∈ (B.run s Q).ms, B.cls x <= k) ->
  B.run ⟨s.pre, s.hd, s.ms ++ [m]⟩ Q = ⟨(B.run s Q).pre, (B.run s Q).hd, (B.run s Q).ms ++ [m]⟩
 | [], s, _, _ => rfl
 | q :: Q, s, hQ, hf => by
  have hq := hQ q (by simp);have h0 := B.cls0 m;rw [zbc] at hf
  have keep : ∀ (Q : List Int) (s : JS) (x : Int), (∀ q ∈ Q, k < B.cls q) -> x ∈ s.ms -> x ∈ (B.run s Q).ms := by
   intro Q;induction Q with
   | nil => intro s x _ h; exact h
   | cons y Q ih =>
    intro s x hQ h;have hy := hQ y (by simp);rw [zbc];refine ih _ _ (fun z hz => hQ z (by simp [hz])) ?_;rcases zas (B := B) s y with e | ⟨a, b, h1, h2, h3, e⟩
    ·rw [e];unfold BaseF.app;rw [if_neg (by omega)];simp [h]
    ·rw [e]; exact h
  rcases zas (B := B) s q with e | ⟨a, b, h1, h2, h3, e⟩
  ·exfalso
   have hin : q ∈ (B.step s q).ms := by
    rw [e]; unfold BaseF.app; rw [if_neg (by omega)]; simp
   have := hf q (keep Q _ q (fun z hz => hQ z (by simp [hz])) hin);omega
  ·have e2 : B.step ⟨s.pre, s.hd, s.ms ++ [m]⟩ q = ⟨s.pre, some b, s.ms ++ [m]⟩ := by
    rw [h1, zc2, if_pos, h3];rw [List.all_eq_true];intro x hx;rw [decide_eq_true_eq];rcases List.mem_append.1 hx with hx | hx
    ·exact h2 x hx
    ·rw [List.mem_singleton] at hx; rw [hx, hm]; exact hq
   have h4 := znq hm hk Q (B.step s q) (fun z hz => hQ z (by simp [hz])) hf;rw [zbc, zbc, e2];rw [e] at h4 ⊢;exact h4
theorem zk6 : ∀ (ms : List Int) (k : Int), (∀ m ∈ ms, B.cls m ≠ 0) -> B.srt k ms = true -> ∀ m ∈ ms, B.cls m <= B.lastC k ms /\ k <= B.cls m
 | [], _, _, _, m, hm => by simp at hm
 | x :: ms, k, h0, hs, m, hm => by
  simp only [BaseF.srt, Bool.and_eq_true, Bool.or_eq_true, decide_eq_true_eq] at hs;have hx := h0 x (by simp);have hk : k <= B.cls x := (by omega);have ih := zk6 ms (B.cls x) (fun y hy => h0 y (by simp [hy])) hs.2
  have hl : B.cls x <= B.lastC (B.cls x) ms := by
   rcases List.eq_nil_or_concat ms with rfl | ⟨t, y, rfl⟩
   ·exact Int.le_refl _
   ·rw [List.concat_eq_append] at ih ⊢;rw [zat];exact (ih y (by simp)).2
  show B.cls m <= B.lastC (B.cls x) ms /\ _;rcases List.mem_cons.1 hm with rfl | hm
  ·exact ⟨hl, hk⟩
  ·have := ih m hm;exact ⟨this.1, by omega⟩
theorem join_mark {d : List Int} {m : Int} (hc : B.cls m ≠ 0) (hsec : B.sec m = false) (hs : B.srt 0 (B.join d ++ [m]) = true) : B.join (B.ins d.reverse m).reverse = B.join d ++ [m] := by
 obtain ⟨Q, A, h1, h2, h3, h4⟩ := B.ins_split d.reverse m
 have hd : d = A.reverse ++ Q.reverse := by
  have := congrArg List.reverse h1;rw [List.reverse_reverse, List.reverse_append] at this;exact this
 rw [h2];have e1 : (Q ++ m :: A).reverse = A.reverse ++ (m :: Q.reverse) := (by simp);rw [e1];unfold BaseF.join at hs ⊢;rw [hd] at hs ⊢;rw [zf1] at hs;rw [zf1, zf1, zbc];generalize hS : B.run ⟨[], none, []⟩ A.reverse = S at *;have hok : B.JOk (B.run S Q.reverse) := by rw [<- hS]; exact znr _ (znr _ zig)
 have e2 : B.step S m = ⟨S.pre, S.hd, S.ms ++ [m]⟩ := by
  rcases zas (B := B) S m with e | ⟨x, y, _, _, h5, _⟩
  ·rw [e]; unfold BaseF.app; rw [if_neg hc]
  ·have := (B.made x m y h5).2.2;rw [hsec] at this
   cases this
 rw [e2]
 have hms : ∀ x ∈ (B.run S Q.reverse).ms, B.cls x <= B.cls m := by
  intro x hx;rw [zeo] at hs;have hl : B.lastC 0 (B.run S Q.reverse).out = B.lastC 0 (B.run S Q.reverse).ms := zl6 (by intro e; rw [e] at hx; simp at hx)
  have hsm : B.srt (B.lastC 0 ((B.run S Q.reverse).pre ++ (B.run S Q.reverse).hd.toList)) (B.run S Q.reverse).ms = true := by
   have := hs.1;unfold JS.out at this;rw [<- List.append_assoc, zcu, Bool.and_eq_true] at this;exact this.2
  have h6 := (zk6 _ _ hok.ms (zka (zcq (by omega) _) hsm) x hx).1;rcases hs.2 with h7 | h7
  ·exact absurd h7 hc
  ·rw [hl] at h7; omega
 rw [znq rfl hc Q.reverse S (fun q hq => (h3 q (by simpa using hq)).1) hms];simp [JS.out]
def zdg (y : Int) (s : JS) : Prop := (s.hd = none /\ s.pre = [] /\ ∃ u, s.ms = y :: u) \/ ∃ u, s.pre = y :: u
theorem zme {y : Int} {s : JS} (h : zdg y s) : ∃ u, s.out = y :: u := by
 unfold JS.out;rcases h with ⟨h1, h2, u, h3⟩ | ⟨u, h⟩
 ·rw [h1, h2, h3]; exact ⟨u, rfl⟩
 ·rw [h]; exact ⟨_, rfl⟩
theorem step_first {y : Int} {s : JS} (h : zdg y s) (x : Int) : zdg y (B.step s x) := by
 rcases zas (B := B) s x with e | ⟨a, b, h1, _, _, e⟩
 ·rw [e];unfold BaseF.app;split
  ·exact .inr (zme h)
  ·rcases h with ⟨h1, h2, u, h3⟩ | ⟨u, h⟩
   ·exact .inl ⟨h1, h2, u ++ [x], by rw [h3]; rfl⟩
   ·exact .inr ⟨u, h⟩
 ·rw [e];rcases h with ⟨h2, _⟩ | ⟨u, h⟩
  ·rw [h1] at h2; cases h2
  ·exact .inr ⟨u, h⟩
theorem zld {y : Int} : ∀ (Q : List Int) {s : JS}, zdg y s -> zdg y (B.run s Q)
 | [], _, h => h
 | x :: Q, s, h => zld Q (step_first h x)
theorem zfo {p : List Int -> Prop} (h0 : p []) (h1 : ∀ l x, p l -> p (l ++ [x])) (l : List Int) : p l := by
 rw [<- List.reverse_reverse l];induction l.reverse with
 | nil => exact h0
 | cons x t ih => rw [List.reverse_cons]; exact h1 _ _ ih
theorem check_yes {c j : Bool} {l : List Int} (h : B.check c j l = 1) : B.form c j l = l := by
 obtain ⟨hs, hk⟩ := zej.1 h;clear h;induction l using zfo with
 | h0 => exact zkr c j
 | h1 l r ih =>
  rw [zeo] at hs;have hl := ih hs.1 (fun x hx => hk x (by simp [hx]));have hr := hk r (by simp)
  have hf : B.form c j [r] = [r] := by
   refine Decidable.byContradiction fun hne => ?_;rw [znb.2 hne] at hr;exact absurd hr (by decide)
  have hsx : B.srt 0 (l ++ [r]) = true := (zeo _ _ _).2 hs
  cases j with
  | false =>
   have e : ∀ l, B.form c false l = B.full c l := fun l => by unfold BaseF.form; rw [if_neg (by simp)]
   rw [e] at hl hf ⊢
   have hi : B.Irr c (l ++ [r]) := by
    intro x hx;rcases List.mem_append.1 hx with hx | hx
    ·rw [<- hl] at hx; exact zdt c l x hx
    ·rw [<- hf] at hx; exact zdt c [r] x hx
   unfold BaseF.full;rw [B.all_irr hi, zkl hsx]
  | true =>
   have e : ∀ l, B.form c true l = B.join (B.full c l) := fun l => by unfold BaseF.form; rw [if_pos rfl]
   rw [e] at hl hf ⊢
   have hsec : B.sec ((B.full c [r]).headD 0) = false := by
    cases hx : B.sec ((B.full c [r]).headD 0) with
    | false => rfl
    | true =>
     unfold BaseF.kind at hr;rw [if_neg (by rw [e]; simp [hf]), if_pos ⟨rfl, hx⟩] at hr;exact absurd hr (by decide)
   have hfr : B.full c [r] = B.ord (B.one c r) := by unfold BaseF.full; rw [B.all_one]
   by_cases hc : B.cls r = 0
   ·obtain ⟨x, t, hxt⟩ : ∃ x t, B.one c r = x :: t := by
     cases ho : B.one c r with
     | nil => exact absurd ho (B.one_ne c r)
     | cons x t => exact ⟨x, t, rfl⟩
    have hx0 : B.cls x = 0 := by
     refine Decidable.byContradiction fun hx => ?_;obtain ⟨y, t', h1, h2⟩ := zfv t hx;have h3 : B.full c [r] = y :: t' := (by rw [hfr, hxt]; exact h1);rcases zof hf with h4 | h4
     ·rw [h3] at h4;injection h4 with h4 _;rw [h4] at h2;exact h2 hc
     ·rw [h3] at hf
      have h5 : zdg y (B.run ⟨[], none, []⟩ (y :: t')) := by
       rw [zbc];refine zld t' ?_;left
       have e0 : B.step ⟨[], none, []⟩ y = ⟨[], none, [y]⟩ := by
        show B.app _ y = _;unfold BaseF.app;rw [if_neg h2];rfl
       rw [e0];exact ⟨rfl, rfl, [], rfl⟩
      obtain ⟨u, h6⟩ := zme h5;unfold BaseF.join at hf;rw [h6] at hf;injection hf with hf _;rw [hf] at h2;exact h2 hc
    obtain ⟨t', h1⟩ := zkm (B := B) t hx0;have hh : (B.full c [r]).headD 0 = x := (by rw [hfr, hxt, h1]; rfl);rw [hh] at hsec
    have e2 : B.full c (l ++ [r]) = B.full c l ++ B.full c [r] := by
     unfold BaseF.full;rw [B.all_app, B.all_one, hxt];exact zpk _ _ hx0
    rw [e2, hfr, hxt, h1, zog _ _ hx0 hsec, hl];rw [hfr, hxt, h1] at hf;rw [hf]
   ·rcases zof hf with h4 | h4
    ·have hi : B.parts c r = [] := by
      have := zdt (B := B) c [r] r (by rw [h4]; simp);exact this
     have hsr : B.sec r = false := by rw [h4] at hsec; exact hsec
     have e2 : B.full c (l ++ [r]) = (B.ins (B.full c l).reverse r).reverse := by
      unfold BaseF.full BaseF.ord;rw [B.all_app, B.all_one, B.one_none hi, B.ord_snoc, List.reverse_reverse]
     rw [e2, join_mark hc hsr (by rw [hl]; exact hsx), hl]
    ·exact absurd h4 hc
theorem zoq {c j : Bool} (a : List Int) {r : Int} (b : List Int) (h : B.safe c j r = true) : B.form c j (a ++ r :: b) = B.form c j a ++ B.form c j (r :: b) := by
 unfold BaseF.safe at h;rw [Bool.and_eq_true, decide_eq_true_eq] at h
 obtain ⟨x, t, hxt⟩ : ∃ x t, B.one c r = x :: t := by
  cases ho : B.one c r with
  | nil => exact absurd ho (B.one_ne c r)
  | cons x t => exact ⟨x, t, rfl⟩
 have hfr : B.full c [r] = B.ord (x :: t) := by unfold BaseF.full; rw [B.all_one, hxt]
 have hx0 : B.cls x = 0 := by
  refine Decidable.byContradiction fun hx => ?_;obtain ⟨y, t', h1, h2⟩ := zfv t hx;rw [hfr, h1] at h;exact h2 h.1
 obtain ⟨t', h1⟩ := zkm (B := B) t hx0;have hh : (B.full c [r]).headD 0 = x := (by rw [hfr, h1]; rfl);rw [hh] at h;have e1 : B.all c (r :: b) = x :: (t ++ B.all c b) := by rw [B.all_cons, hxt]; rfl
 have e2 : B.full c (a ++ r :: b) = B.full c a ++ B.full c (r :: b) := by
  unfold BaseF.full;rw [B.all_app, e1];exact zpk _ _ hx0
 obtain ⟨t2, h2⟩ := zkm (B := B) (t ++ B.all c b) hx0;have e3 : B.full c (r :: b) = x :: t2 := (by unfold BaseF.full; rw [e1]; exact h2);unfold BaseF.form
 cases j with
 | false => rw [if_neg (by simp), if_neg (by simp), if_neg (by simp)]; exact e2
 | true =>
  rw [if_pos rfl, if_pos rfl, if_pos rfl, e2, e3];refine zog _ _ hx0 ?_;simpa using h.2
end
section
variable {B : BaseF}
def BaseF.inv (B : BaseF) : List Int -> Nat
 | [] => 0
 | x :: t => t.countP (fun y => decide (0 < B.cls y /\ B.cls y < B.cls x)) + BaseF.inv B t
theorem zok {x y : Int} (hy : 0 < B.cls y) (hlt : B.cls y < B.cls x) : ∀ (p s : List Int), B.inv (p ++ x :: y :: s) = B.inv (p ++ y :: x :: s) + 1
 | [], s => by
  simp only [List.nil_append, BaseF.inv, List.countP_cons];rw [if_pos (by simp; omega), if_neg (by simp; omega)];omega
 | a :: p, s => by
  have ih := zok hy hlt p s;simp only [List.cons_append, BaseF.inv];have hc : (p ++ x :: y :: s).countP (fun z => decide (0 < B.cls z /\ B.cls z < B.cls a)) = (p ++ y :: x :: s).countP (fun z => decide (0 < B.cls z /\ B.cls z < B.cls a)) := ((List.Perm.swap y x s).append_left p).countP_eq _;omega
def BaseF.okTo (B : BaseF) (l : List Int) (k : Nat) : Prop := ∀ i x y, i + 1 < k -> l[i]? = some x -> l[i + 1]? = some y -> ¬ (0 < B.cls y /\ B.cls y < B.cls x)
theorem zi6 : ∀ {l : List Int} {k : Int}, (∀ i x y, l[i]? = some x -> l[i + 1]? = some y -> ¬ (0 < B.cls y /\ B.cls y < B.cls x)) -> (∀ x t, l = x :: t -> B.cls x = 0 \/ k <= B.cls x) -> B.srt k l = true
 | [], _, _, _ => rfl
 | x :: t, k, h, h0 => by
  have e : B.srt (B.cls x) t = true := zi6 (fun i u v hu hv => h (i + 1) u v (by simpa using hu) (by simpa using hv)) (fun y s ht => by
   subst ht;have := h 0 x y (by simp) (by simp);have := B.cls0 y
   omega)
  have h1 := h0 x t rfl;simp only [BaseF.srt, e, Bool.and_true, Bool.or_eq_true, decide_eq_true_eq];exact h1
theorem okTo_srt {l : List Int} (h : B.okTo l l.length) : B.srt 0 l = true :=
 zi6 (fun i x y hx hy => h i x y ((List.getElem?_eq_some_iff.1 hy).1) hx hy) (fun x t _ => .inr (B.cls0 x))
def swp (l : List Int) (i : Nat) : List Int := match l[i]?, l[i + 1]? with | some x, some y => (l.set i y).set (i + 1) x | _, _ => l
theorem swp_eq (p s : List Int) (x y : Int) : swp (p ++ x :: y :: s) p.length = p ++ y :: x :: s := by
 have h1 : (p ++ x :: y :: s)[p.length]? = some x := (by simp);have h2 : (p ++ x :: y :: s)[p.length + 1]? = some y := (by simp [List.getElem?_append]);unfold swp;rw [h1, h2];simp [List.set_append]
theorem at_two {l : List Int} {i : Nat} {x y : Int} (hx : l[i]? = some x) (hy : l[i + 1]? = some y) : ∃ p s, l = p ++ x :: y :: s /\ p.length = i := by
 obtain ⟨b1, c1⟩ := List.getElem?_eq_some_iff.1 hx;obtain ⟨b2, c2⟩ := List.getElem?_eq_some_iff.1 hy;refine ⟨l.take i, l.drop (i + 2), ?_, by simp; omega⟩
 calc l = l.take i ++ l.drop i := (List.take_append_drop i l).symm
  _ = _ := by rw [List.drop_eq_getElem_cons b1, List.drop_eq_getElem_cons b2, c1, c2]
theorem swp_set {l : List Int} {i : Nat} {x y : Int} (hx : l[i]? = some x) (hy : l[i + 1]? = some y) : swp l i = (l.set i y).set (i + 1) x := by unfold swp; rw [hx, hy]
theorem swp_len (l : List Int) (i : Nat) : (swp l i).length = l.length := by unfold swp; split <;> simp
theorem swp_inv {l : List Int} {i : Nat} {x y : Int} (hx : l[i]? = some x) (hy : l[i + 1]? = some y) (h : 0 < B.cls y /\ B.cls y < B.cls x) : B.inv (swp l i) < B.inv l /\ B.Eqv l (swp l i) := by
 obtain ⟨p, s, rfl, rfl⟩ := at_two hx hy;rw [swp_eq];have := zok h.1 h.2 p s;exact ⟨by omega, .swap p x y s (by omega) h.1 (by omega)⟩
theorem zom {r : Int} (hr : B.cls r ≠ 0) : ∀ {Q : List Int} (A : List Int), (∀ q ∈ Q, B.cls r < B.cls q) -> B.ins (Q ++ A) r = Q ++ B.ins A r
 | [], A, _ => rfl
 | q :: Q, A, h => by
  have := zom hr (Q := Q) A fun x hx => h x (by simp [hx]);simp only [List.cons_append, BaseF.ins];rw [if_pos ⟨hr, h q (by simp)⟩, this]
theorem zon {r : Int} {A : List Int} (h : ∀ a t, A = a :: t -> B.cls r = 0 \/ B.cls a <= B.cls r) : B.ins A r = r :: A := by
 cases A with
 | nil => rfl
 | cons a t =>
  have := h a t rfl;simp only [BaseF.ins];rw [if_neg (by omega)]
theorem ordR_len (l : List Int) : (B.ordR l).length = l.length := by
 have := (zeh (B := B) l).length;unfold BaseF.ord at this;simpa using this.symm
theorem zm7 (l : List Int) : (B.ord l).length = l.length := (zeh (B := B) l).length.symm
theorem ord_take_snoc {l : List Int} {k : Nat} {r : Int} (h : l[k]? = some r) : B.ordR (l.take (k + 1)) = B.ins (B.ordR (l.take k)) r := by
 rw [List.take_add_one, h];exact B.ord_snoc _ _
def BaseF.top (B : BaseF) (ms : List Int) : Int := ms.foldl (fun a m => max a (B.cls m)) 0
theorem zg5 (ms : List Int) (r : Int) : B.top (ms ++ [r]) = max (B.top ms) (B.cls r) := by unfold BaseF.top; rw [List.foldl_append]; rfl
theorem zo3 (ms : List Int) (k : Int) : (ms.all fun m => decide (B.cls m < k)) = true ↔ ms = [] \/ B.top ms < k := by
 induction ms using zfo with
 | h0 => simp
 | h1 l r ih =>
  rw [zg5, List.all_append, Bool.and_eq_true, ih];have := B.cls0 r;simp only [List.all_cons, List.all_nil, Bool.and_true, decide_eq_true_eq];constructor
  ·rintro ⟨h1 | h1, h2⟩
   ·subst h1; right; simp [BaseF.top]; omega
   ·right; omega
  ·rintro (h | h)
   ·simp at h
   ·exact ⟨.inr (by omega), by omega⟩
theorem top_nonneg (ms : List Int) : 0 <= B.top ms := by
 induction ms using zfo with
 | h0 => simp [BaseF.top]
 | h1 l r ih => rw [zg5]; omega
structure PutAt (B : BaseF) (s : JS) (l : List Int) (hd : Int) (last : Int) : Prop where
 ok : B.JOk s
 out : l = s.out
 none : s.hd = Option.none -> s.pre = [] /\ hd = -1
 some : ∀ h, s.hd = Option.some h -> hd = (s.pre.length : Int)
 last : last = B.top s.ms
theorem put_start : PutAt B ⟨[], none, []⟩ [] (-1) 0 := ⟨zig, rfl, fun _ => ⟨rfl, rfl⟩, fun h e => (by cases e), rfl⟩
theorem JS.out_at {s : JS} {h : Int} (e : s.hd = some h) : s.out[s.pre.length]? = some h := by
 unfold JS.out;rw [e];simp
theorem JS.out_len {s : JS} {h : Int} (e : s.hd = some h) : s.out.length = s.pre.length + 1 + s.ms.length := by
 unfold JS.out;rw [e];simp;omega
theorem zkg {s : JS} {l : List Int} {hd last : Int} (h : PutAt B s l hd last) (r : Int) :
  PutAt B (B.app s r) (l ++ [r]) (if B.cls r = 0 then (l.length : Int) else hd) (if B.cls r = 0 then 0 else max last (B.cls r)) := by
 have ho := h.out;refine ⟨zqr h.ok r, by rw [ho, zcy], fun e => ?_, fun c e => ?_, ?_⟩
 ·unfold BaseF.app at e ⊢
  by_cases h0 : B.cls r = 0
  ·rw [if_pos h0] at e; cases e
  ·rw [if_neg h0] at e ⊢;rw [if_neg h0];exact h.none e
 ·unfold BaseF.app at e ⊢
  by_cases h0 : B.cls r = 0
  ·rw [if_pos h0, if_pos h0, ho]
  ·rw [if_neg h0] at e ⊢;rw [if_neg h0];exact h.some c e
 ·unfold BaseF.app
  by_cases h0 : B.cls r = 0
  ·rw [if_pos h0, if_pos h0]; rfl
  ·rw [if_neg h0, if_neg h0, h.last, zg5]
theorem zny {s : JS} {l : List Int} {hd last : Int} (h : PutAt B s l hd last) (r : Int) {c0 c : Int} (e : s.hd = some c0) (ht : (l.length : Int) = hd + 1 \/ last < B.cls r) (hp : B.pair c0 r = some c) :
  PutAt B (B.step s r) (l.set s.pre.length c) hd last := by
 have ho := h.out
 have ha : (s.ms.all fun m => decide (B.cls m < B.cls r)) = true := by
  rw [zo3, <- h.last];rcases ht with ht | ht
  ·left;have h1 := h.some _ e;have h2 := JS.out_len e;rw [ho] at ht;exact List.eq_nil_of_length_eq_zero (by omega)
  ·exact .inr ht
 obtain ⟨pre, hd0, ms⟩ := s;simp only [] at e;subst e
 have hs : B.step ⟨pre, some c0, ms⟩ r = ⟨pre, some c, ms⟩ := by
  rw [zc2, if_pos ha, hp]
 refine ⟨zj9 h.ok r, ?_, ?_, ?_, ?_⟩
 ·rw [hs, ho]; simp [JS.out, List.set_append]
 ·rw [hs]; intro e; cases e
 ·rw [hs]; intro _ _; exact h.some c0 rfl
 ·rw [hs]; exact h.last
theorem zkf {s : JS} {l : List Int} {hd last : Int} (h : PutAt B s l hd last) (r : Int) (hn : s.hd = none \/ (¬ ((l.length : Int) = hd + 1) /\ ¬ last < B.cls r) \/ ∃ c0, s.hd = some c0 /\ B.pair c0 r = none) : B.step s r = B.app s r := by
 unfold BaseF.step;rcases hn with hn | ⟨hn1, hn2⟩ | ⟨c0, e, hp⟩
 ·rw [hn]
 ·cases e : s.hd with
  | none => rfl
  | some c0 =>
   simp only [];rw [if_neg];rw [zo3, <- h.last];rintro (hm | hm)
   ·have h1 := h.some _ e;have h2 := JS.out_len e;have ho := h.out;rw [hm] at h2;rw [<- ho] at h2;simp at h2;omega
   ·exact hn2 hm
 ·rw [e];simp only [hp];split <;> rfl
def BaseF.tailM (B : BaseF) (l : List Int) : List Int := (l.reverse.takeWhile fun x => decide (B.cls x ≠ 0)).reverse
def BaseF.blk (B : BaseF) (l : List Int) (k : Int) : Bool := (l.all fun x => decide (B.cls x ≠ 0)) || (B.tailM l).any fun m => decide (k <= B.cls m)
def BaseF.blocked (B : BaseF) (l : List Int) (i : Int) : Bool := if i < 0 \/ (l.length : Int) <= i then true else B.blk (l.take i.toNat) (B.cls (l.getD i.toNat 0))
theorem tailM_head (p : List Int) (h : Int) (ms : List Int) (hh : B.cls h = 0) (hm : ∀ m ∈ ms, B.cls m ≠ 0) : B.tailM (p ++ h :: ms) = ms := by
 unfold BaseF.tailM;rw [List.reverse_append, List.reverse_cons, List.append_assoc, List.takeWhile_append_of_pos (by simpa using hm)];simp [hh]
theorem zhh (p : List Int) (h : Int) (ms : List Int) (k : Int) (hh : B.cls h = 0) (hm : ∀ m ∈ ms, B.cls m ≠ 0) : B.blk (p ++ h :: ms) k = ms.any fun m => decide (k <= B.cls m) := by
 unfold BaseF.blk;rw [tailM_head p h ms hh hm];simp [hh]
theorem zoy (ms : List Int) (k : Int) (hm : ∀ m ∈ ms, B.cls m ≠ 0) : B.blk ms k = true := by
 unfold BaseF.blk;simp;exact .inl hm
theorem znd (l : List Int) : (∀ m ∈ l, B.cls m ≠ 0) \/ ∃ p h ms, l = p ++ h :: ms /\ B.cls h = 0 /\ ∀ m ∈ ms, B.cls m ≠ 0 := by
 induction l using zfo with
 | h0 => left; simp
 | h1 l r ih =>
  by_cases h0 : B.cls r = 0
  ·exact .inr ⟨l, r, [], rfl, h0, by simp⟩
  ·rcases ih with h | ⟨p, h, ms, e, hh, hm⟩
   ·left;intro m hm;rcases List.mem_append.1 hm with hm | hm
    ·exact h m hm
    ·simp at hm; subst hm; exact h0
   ·refine .inr ⟨p, h, ms ++ [r], by rw [e]; simp, hh, fun m hm' => ?_⟩;rcases List.mem_append.1 hm' with hm' | hm'
    ·exact hm m hm'
    ·simp at hm'; subst hm'; exact h0
theorem any_top (ms : List Int) (k : Int) : (ms.any fun m => decide (k <= B.cls m)) = (decide (ms ≠ []) && decide (k <= B.top ms)) := by
 have := zo3 (B := B) ms k;rw [Bool.eq_iff_iff];simp only [List.any_eq_true, decide_eq_true_eq, Bool.and_eq_true, List.all_eq_true] at this ⊢;constructor
 ·rintro ⟨m, hm, h⟩;refine ⟨fun e => (by subst e; cases hm), ?_⟩
  by_cases hk : k <= B.top ms
  ·exact hk
  ·have := this.2 (.inr (by omega)) m hm;omega
 ·rintro ⟨h1, h2⟩;apply Classical.byContradiction;intro hn
  have := this.1 fun m hm => by
   have : ¬ k <= B.cls m := fun e => hn ⟨m, hm, e⟩;omega
  rcases this with h | h
  ·exact h1 h
  ·omega
theorem step_blk {s : JS} (h : B.JOk s) (hn : s.hd = none -> s.pre = []) (r : Int) : B.blk s.out (B.cls r) = true -> B.step s r = B.app s r := by
 obtain ⟨pre, hd, ms⟩ := s
 cases hd with
 | none => intro _; rfl
 | some c0 =>
  intro hb;have e : JS.out ⟨pre, some c0, ms⟩ = pre ++ c0 :: ms := rfl;rw [e, zhh pre c0 ms _ (h.hd c0 rfl) h.ms] at hb;rw [zc2, if_neg];intro ha;simp only [List.any_eq_true, decide_eq_true_eq, List.all_eq_true] at hb ha;obtain ⟨m, hm, h1⟩ := hb;have := ha m hm;omega
theorem step_free {s : JS} (h : B.JOk s) (hn : s.hd = none -> s.pre = []) (r : Int) : B.blk s.out (B.cls r) = false -> ∃ c0, s.hd = some c0 /\ B.step s r = match B.pair c0 r with | some c => ⟨s.pre, some c, s.ms⟩ | none => B.app s r := by
 obtain ⟨pre, hd, ms⟩ := s
 cases hd with
 | none =>
  intro hb;have hp := hn rfl;simp only [] at hp;subst hp;have e : JS.out ⟨[], none, ms⟩ = ms := rfl;rw [e, zoy ms _ h.ms] at hb
  cases hb
 | some c0 =>
  intro hb;have e : JS.out ⟨pre, some c0, ms⟩ = pre ++ c0 :: ms := rfl;rw [e, zhh pre c0 ms _ (h.hd c0 rfl) h.ms] at hb;refine ⟨c0, rfl, ?_⟩
  have ha : (ms.all fun m => decide (B.cls m < B.cls r)) = true := by
   simp only [List.any_eq_false, decide_eq_true_eq, List.all_eq_true] at hb ⊢;intro m hm;have := hb m hm;omega
  rw [zc2, if_pos ha] <;> (cases B.pair c0 r <;> rfl)
theorem app_pre {s : JS} (hn : s.hd = none -> s.pre = []) (r : Int) : (B.app s r).hd = none -> (B.app s r).pre = [] := by
 unfold BaseF.app;split
 ·intro e; cases e
 ·exact hn
theorem step_pre {s : JS} (hn : s.hd = none -> s.pre = []) (r : Int) : (B.step s r).hd = none -> (B.step s r).pre = [] := by
 rcases zas (B := B) s r with h | ⟨h, c, e, _, _, h⟩
 ·rw [h]; exact app_pre hn r
 ·rw [h]; intro e; cases e
theorem zpa : ∀ (l : List Int) {s : JS}, (s.hd = none -> s.pre = []) -> ((B.run s l).hd = none -> (B.run s l).pre = [])
 | [], _, h => h
 | x :: l, s, h => by rw [zbc]; exact zpa l (step_pre h x)
structure CutAt (B : BaseF) (c j : Bool) (l : List Int) (n : Nat) : Prop where
 lt : n = 0 \/ n < l.length
 safe : 0 < n -> ∀ r, l[n]? = some r -> B.safe c j r = true
 last : ∀ k r, n < k -> l[k]? = some r -> B.safe c j r = false
theorem zkw {c j : Bool} {l : List Int} {n m : Nat} (h : CutAt B c j l n) (k : CutAt B c j l m) : n = m := by
 have key : ∀ {n m : Nat}, CutAt B c j l n -> CutAt B c j l m -> ¬ n < m := fun {n m} h k hlt => by
  have hm : m < l.length := (by have := k.lt; omega);have h1 := k.safe (by omega) _ (List.getElem?_eq_getElem hm);have h2 := h.last m _ hlt (List.getElem?_eq_getElem hm);rw [h1] at h2
  cases h2
 have h1 := key h k;have h2 := key k h;omega
noncomputable def BaseF.cut (B : BaseF) (c j : Bool) : List Int -> Nat
 | l => ((List.range l.length).filter fun i => decide (0 < i) && B.safe c j (l.getD i 0)).getLastD 0
theorem zpy (c j : Bool) : CutAt B c j [] 0 := ⟨.inl rfl, fun h => absurd h (by omega), fun k r _ h => by simp at h⟩
theorem CutAt.snoc {c j : Bool} {l : List Int} {n : Nat} (h : CutAt B c j l n) (r : Int) : CutAt B c j (l ++ [r]) (if l ≠ [] /\ B.safe c j r = true then l.length else n) := by
 split
 ·rename_i h1;refine ⟨.inr (by simp), fun _ x hx => ?_, fun k x hk hx => ?_⟩
  ·simp at hx; subst hx; exact h1.2
  ·have := (List.getElem?_eq_some_iff.1 hx).1;simp at this;omega
 ·rename_i h1;refine ⟨by rcases h.lt with h | h <;> simp <;> omega, fun h0 x hx => ?_, fun k x hk hx => ?_⟩
  ·have hn : n < l.length := (by have := h.lt; omega);rw [List.getElem?_append, if_pos hn] at hx;exact h.safe h0 x hx
  ·rw [List.getElem?_append] at hx;split at hx
   ·exact h.last k x hk hx
   ·have hk2 : k = l.length := by
     have := (List.getElem?_eq_some_iff.1 hx).1;simp at this;omega
    subst hk2;simp at hx;subst hx;have : l ≠ [] := fun e => by subst e; simp at hk
    simp [this] at h1;exact h1
theorem CutAt.form {c j : Bool} {l : List Int} {n : Nat} (h : CutAt B c j l n) (b : List Int) : B.form c j (l ++ b) = B.form c j (l.take n) ++ B.form c j (l.drop n ++ b) := by
 rcases Nat.eq_zero_or_pos n with h0 | h0
 ·subst h0;simp [zkr]
 ·have hn : n < l.length := (by have := h.lt; omega);have hs := h.safe h0 _ (List.getElem?_eq_getElem hn)
  have e : l ++ b = l.take n ++ l[n] :: (l.drop (n + 1) ++ b) := by
   have e2 : l = l.take n ++ l[n] :: l.drop (n + 1) := (by rw [<- List.drop_eq_getElem_cons hn, List.take_append_drop]);have e3 : ∀ (p q : List Int) (x : Int), l = p ++ x :: q -> l ++ b = p ++ x :: (q ++ b) := fun p q x e => by rw [e]; simp
   exact e3 _ _ _ e2
  rw [e, zoq _ _ hs, List.drop_eq_getElem_cons hn];rfl
theorem check_left {c j : Bool} {a b : List Int} (h : B.check c j (a ++ b) = 1) : B.check c j a = 1 /\ B.check c j b = 1 := by
 rw [zej] at h ⊢;rw [zej];obtain ⟨h1, h2⟩ := h;rw [zcu, Bool.and_eq_true] at h1;exact ⟨⟨h1.1, fun r hr => h2 r (by simp [hr])⟩, zka (zcq (Int.le_refl 0) a) h1.2, fun r hr => h2 r (by simp [hr])⟩
theorem check_part {c j : Bool} {a b : List Int} (h : B.check c j (a ++ b) ≠ 2) : B.check c j a ≠ 2 /\ B.check c j b ≠ 2 := by
 refine ⟨fun e => h ?_, fun e => h ?_⟩
 ·rw [zdx] at e ⊢;rcases e with e | ⟨r, hr, e⟩
  ·left; rw [zcu, e]; rfl
  ·exact .inr ⟨r, by simp [hr], e⟩
 ·rw [zdx] at e ⊢;rcases e with e | ⟨r, hr, e⟩
  ·left;rw [zcu]
   cases h3 : B.srt (B.lastC 0 a) b with
   | false => simp
   | true =>
    have := zka (zcq (Int.le_refl 0) a) h3;rw [e] at this
    cases this
  ·exact .inr ⟨r, by simp [hr], e⟩
noncomputable def BaseF.chk (B : BaseF) (c j : Bool) (l : List Int) : Int := if (∃ r ∈ l, B.kind c j r = 3) then 3 else 1
theorem chk_snoc {c j : Bool} (l : List Int) (r : Int) : B.chk c j (l ++ [r]) = if B.kind c j r = 3 then 3 else B.chk c j l := by
 unfold BaseF.chk
 by_cases h : B.kind c j r = 3
 ·rw [if_pos ⟨r, by simp, h⟩, if_pos h]
 ·rw [if_neg h];congr 1;apply propext;constructor
  ·rintro ⟨x, hx, e⟩;rcases List.mem_append.1 hx with hx | hx
   ·exact ⟨x, hx, e⟩
   ·simp at hx; subst hx; exact absurd e h
  ·rintro ⟨x, hx, e⟩;exact ⟨x, by simp [hx], e⟩
theorem zml {c j : Bool} {l : List Int} (hs : B.srt 0 l = true) (hn : ∀ r ∈ l, B.kind c j r ≠ 2) : B.check c j l = B.chk c j l := by
 unfold BaseF.check BaseF.worst BaseF.chk;rw [if_pos hs, if_neg];rintro ⟨r, hr, e⟩;exact hn r hr e
theorem zmj {c j : Bool} {l : List Int} (hs : B.srt 0 l = false) : B.check c j l = 2 := zdx.2 (.inl hs)
theorem zmk {c j : Bool} {l : List Int} {r : Int} (hr : r ∈ l) (h : B.kind c j r = 2) : B.check c j l = 2 := zdx.2 (.inr ⟨r, hr, h⟩)
theorem zjr {c j : Bool} {r : Int} : B.kind c j r = 1 \/ B.kind c j r = 2 \/ B.kind c j r = 3 := by
 unfold BaseF.kind;split
 ·simp
 ·split <;> simp
theorem zds {c : Bool} {r : Int} : ∃ x t, B.full c [r] = x :: t := by
 cases h : B.full c [r] with
 | nil => exact absurd h full_ne
 | cons x t => exact ⟨x, t, rfl⟩
end
section
variable {B : BaseF}
def BaseF.findR (B : BaseF) : List Int -> Int -> Int × Int
 | [], last => (-1, last)
 | r :: t, last => if B.cls r = 0 then ((t.length : Int), last) else B.findR t (max last (B.cls r))
def BaseF.findS (B : BaseF) (l : List Int) : Int × Int := B.findR l.reverse 0
theorem find_step {l : List Int} {k : Nat} {r : Int} (h : l[k]? = some r) (last : Int) :
  B.findR (l.take (k + 1)).reverse last = if B.cls r = 0 then ((k : Int), last) else B.findR (l.take k).reverse (max last (B.cls r)) := by
 have hk := (List.getElem?_eq_some_iff.1 h).1;rw [List.take_add_one, h];show B.findR (l.take k ++ [r]).reverse last = _;rw [List.reverse_append];show (if B.cls r = 0 then ((((l.take k).reverse).length : Int), last) else _) = _;rw [List.length_reverse, List.length_take, Nat.min_eq_left (by omega)];rfl
theorem zdc : ∀ (l : List Int) (last : Int), (∀ m ∈ l, B.cls m ≠ 0) -> (B.findR l last).1 = -1
 | [], _, _ => rfl
 | r :: t, last, h => by
  unfold BaseF.findR;rw [if_neg (h r (by simp))];exact zdc t _ fun m hm => h m (by simp [hm])
theorem zf5 (p : List Int) {h : Int} (hh : B.cls h = 0) (ms : List Int) : ∀ last : Int, 0 <= last -> (∀ m ∈ ms, B.cls m ≠ 0) -> B.findR (p ++ h :: ms).reverse last = ((p.length : Int), max last (B.top ms)) := by
 induction ms using zfo with
 | h0 =>
  intro last h0 _;rw [List.reverse_append];show (if B.cls h = 0 then ((p.reverse.length : Int), last) else _) = _;rw [if_pos hh, List.length_reverse];show (_, last) = (_, max last 0);rw [Int.max_eq_left h0]
 | h1 ms m ih =>
  intro last h0 hm;have e : (p ++ h :: (ms ++ [m])).reverse = m :: (p ++ h :: ms).reverse := (by simp);rw [e];show (if B.cls m = 0 then _ else B.findR (p ++ h :: ms).reverse (max last (B.cls m))) = _;rw [if_neg (hm m (by simp)), ih _ (by have := B.cls0 m; omega) fun x hx => hm x (by simp [hx]), zg5];congr 1;omega
theorem blk_find (q : List Int) (k : Int) : B.blk q k = (decide ((B.findS q).1 = -1) || (decide ((B.findS q).1 + 1 < (q.length : Int)) && decide (k <= (B.findS q).2))) := by
 rcases znd (B := B) q with h | ⟨p, h, ms, rfl, hh, hm⟩
 ·rw [zoy q k h];have e : (B.findS q).1 = -1 := zdc _ 0 fun m hm => h m (List.mem_reverse.1 hm);rw [decide_eq_true e, Bool.true_or]
 ·have e : B.findS (p ++ h :: ms) = ((p.length : Int), max 0 (B.top ms)) := zf5 p hh ms 0 (Int.le_refl _) hm;rw [zhh p h ms k hh hm, any_top, e];have h1 : decide (((p.length : Int)) = -1) = false := decide_eq_false (by omega);simp only [];rw [h1, Bool.false_or, Int.max_eq_right (top_nonneg ms)];congr 1;rw [Bool.eq_iff_iff, decide_eq_true_iff, decide_eq_true_iff, List.length_append, List.length_cons];constructor
  ·intro h2;have := List.length_pos_iff.2 h2;omega
  ·intro h2 e2;rw [e2] at h2;simp at h2
theorem find_place (q : List Int) : (B.findS q).1 = -1 \/ ∃ k : Nat, (B.findS q).1 = (k : Int) /\ k < q.length := by
 rcases znd (B := B) q with h | ⟨p, h, ms, rfl, hh, hm⟩
 ·exact .inl (zdc _ 0 fun m hm => h m (List.mem_reverse.1 hm))
 ·have e : B.findS (p ++ h :: ms) = ((p.length : Int), max 0 (B.top ms)) := zf5 p hh ms 0 (Int.le_refl _) hm;exact .inr ⟨p.length, by rw [e], by simp⟩
theorem blk_no (q : List Int) (k : Int) (h : (B.findS q).1 = -1) : B.blk q k = true := by rw [blk_find, h]; rfl
theorem blk_drop (q : List Int) (k : Int) {j : Nat} (h : (B.findS q).1 = (j : Int)) : B.blk q k = (q.drop (j + 1)).any fun m => decide (k <= B.cls m) := by
 rcases znd (B := B) q with h1 | ⟨p, c, ms, rfl, hh, hm⟩
 ·have : (B.findS q).1 = -1 := zdc _ 0 fun m hm => h1 m (List.mem_reverse.1 hm);omega
 ·have e : B.findS (p ++ c :: ms) = ((p.length : Int), max 0 (B.top ms)) := zf5 p hh ms 0 (Int.le_refl _) hm;rw [e] at h
  have hj : j = p.length := by
   have h2 : ((p.length : Int)) = (j : Int) := h;omega
  subst hj;rw [zhh p c ms k hh hm];congr 1;rw [List.drop_append, List.drop_eq_nil_of_le (by omega)];have : p.length + 1 - p.length = 1 := (by omega);rw [this];rfl
theorem find_out {s : JS} (h : B.JOk s) (hn : s.hd = none -> s.pre = []) : (s.hd = none -> (B.findS s.out).1 = -1) /\ ∀ c, s.hd = some c -> (B.findS s.out).1 = (s.pre.length : Int) := by
 obtain ⟨pre, hd, ms⟩ := s;refine ⟨fun e => ?_, fun c e => ?_⟩
 ·simp only [] at e;subst e;have hp := hn rfl;simp only [] at hp;subst hp;exact zdc _ 0 fun m hm => h.ms m (by have := List.mem_reverse.1 hm; simpa [JS.out] using this)
 ·simp only [] at e;subst e;have e2 : JS.out ⟨pre, some c, ms⟩ = pre ++ c :: ms := rfl;rw [e2];have := zf5 pre (h.hd c rfl) ms 0 (Int.le_refl _) h.ms;show (B.findR _ 0).1 = _;rw [this]
theorem ziv (l : List Int) (i : Int) (h : i < 0 \/ (l.length : Int) <= i) : B.blocked l i = true := by unfold BaseF.blocked; rw [if_pos h]
theorem zj4 {l : List Int} {i : Nat} {r : Int} (h : l[i]? = some r) : B.blocked l (i : Int) = B.blk (l.take i) (B.cls r) := by
 have hi := (List.getElem?_eq_some_iff.1 h).1;unfold BaseF.blocked;rw [if_neg (by omega), Int.toNat_natCast, List.getD_eq_getElem?_getD, h];rfl
end
end Go.Proofs.YtkocaoeednmkpaaGreatDoor
