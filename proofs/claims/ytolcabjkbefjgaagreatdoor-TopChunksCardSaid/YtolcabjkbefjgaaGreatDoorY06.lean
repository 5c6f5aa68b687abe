/- Forms of texts, over any base: parted, ordered, joined. Plain laws; no program stands here. Forms of texts, over any base: joined, and joined again. Plain laws; no program stands here. Forms of texts, over any base: the four forms, what single characters tell, and where texts are cut. Plain laws; no program stands here. Forms of texts, over any base: what turning characters about leaves, and how the code and the document reckon. Plain laws; no program stands here. A text fed part by part: plain laws. -/
set_option linter.unusedSimpArgs false
set_option linter.unusedVariables false
set_option maxRecDepth 20000
set_option maxHeartbeats 4000000
namespace Go.Proofs.YtolcabjkbefjgaaGreatDoor
section
structure BaseF where
 cls : Int -> Int
 dec : Int -> List UInt8 × List Int
 pair : Int -> Int -> Option Int
 sec : Int -> Bool
 cls0 : ∀ r,0 <= cls r
 made : ∀ x y r,pair x y = some r -> dec r = ([],[x,y]) /\ cls r = 0 /\ sec y = true
 wf : WellFounded fun y x => y ∈ (dec x).2
variable (B : BaseF)
def BaseF.parts (c : Bool) (r : Int) : List Int:=if (B.dec r).1 ≠ [] /\ c = false then [] else (B.dec r).2
theorem zet {B : BaseF} {c : Bool} {r x : Int} (h : x ∈ B.parts c r) : x ∈ (B.dec r).2:=by
 unfold BaseF.parts at h;split at h
 ·simp at h
 ·exact h
noncomputable def BaseF.one (c : Bool) : Int -> List Int :=
 B.wf.fix fun r ih => if B.parts c r = [] then [r] else (B.parts c r).attach.flatMap fun x => ih x.1 (zet x.2)
theorem flatMap_attach {α β : Type} (l : List α) (f : α -> List β) : (l.attach.flatMap fun x => f x.1) = l.flatMap f:=by
 rw [show (fun x : {x // x ∈ l} => f x.1) = f ∘ Subtype.val from rfl,<- List.flatMap_map];simp
theorem BaseF.one_eq (c : Bool) (r : Int) : B.one c r = if B.parts c r = [] then [r] else (B.parts c r).flatMap (B.one c):=by
 unfold BaseF.one;rw [WellFounded.fix_eq];split
 ·rfl
 ·exact flatMap_attach _ _
theorem BaseF.one_none {c : Bool} {r : Int} (h : B.parts c r = []) : B.one c r = [r]:=by rw [B.one_eq,if_pos h]
theorem BaseF.one_some {c : Bool} {r : Int} (h : B.parts c r ≠ []) : B.one c r = (B.parts c r).flatMap (B.one c):=by rw [B.one_eq,if_neg h]
theorem BaseF.one_ne (c : Bool) (r : Int) : B.one c r ≠ []:=by
 induction r using B.wf.induction with
 | _ r ih =>
  by_cases h : B.parts c r = []
  ·rw [B.one_none h]; simp
  ·rw [B.one_some h]
   obtain ⟨x,t,hx⟩ : ∃ x t,B.parts c r = x :: t:=by
    cases hp : B.parts c r with
    | nil => exact absurd hp h
    | cons x t => exact ⟨x,t,rfl⟩
   rw [hx,List.flatMap_cons];have:=ih x (zet (by rw [hx]; simp));simp [this]
noncomputable def BaseF.all (c : Bool) (l : List Int) : List Int:=l.flatMap (B.one c)
theorem BaseF.all_app (c : Bool) (a b : List Int) : B.all c (a ++ b) = B.all c a ++ B.all c b:=by simp [BaseF.all]
theorem BaseF.all_cons (c : Bool) (x : Int) (l : List Int) : B.all c (x :: l) = B.one c x ++ B.all c l:=rfl
theorem BaseF.all_one (c : Bool) (x : Int) : B.all c [x] = B.one c x:=by simp [BaseF.all]
def BaseF.ins : List Int -> Int -> List Int
 | [],r => [r]
 | x :: t,r => if B.cls r ≠ 0 /\ B.cls r < B.cls x then x :: BaseF.ins t r else r :: x :: t
def BaseF.ordR (l : List Int) : List Int:=l.foldl B.ins []
def BaseF.ord (l : List Int) : List Int:=(B.ordR l).reverse
theorem BaseF.ins_split (acc : List Int) (r : Int) : ∃ Q A,acc = Q ++ A /\ B.ins acc r = Q ++ r :: A /\ (∀ q ∈ Q,B.cls r < B.cls q /\ B.cls r ≠ 0) /\ (∀ a t,A = a :: t -> B.cls r = 0 \/ B.cls a <= B.cls r):=by
 induction acc with
 | nil => exact ⟨[],[],rfl,rfl,by simp,by simp⟩
 | cons x t ih =>
  unfold BaseF.ins;split
  ·rename_i h;obtain ⟨Q,A,h1,h2,h3,h4⟩:=ih;refine ⟨x :: Q,A,by rw [h1]; rfl,by rw [h2]; rfl,fun q hq => ?_,h4⟩;rcases List.mem_cons.1 hq with rfl | hq
   ·exact ⟨h.2,h.1⟩
   ·exact h3 q hq
  ·rename_i h;refine ⟨[],x :: t,rfl,rfl,by simp,fun a t' e => ?_⟩;injection e with e1 _;subst e1;omega
theorem BaseF.ord_snoc (l : List Int) (r : Int) : B.ordR (l ++ [r]) = B.ins (B.ordR l) r:=by
 unfold BaseF.ordR;rw [List.foldl_append];rfl
theorem BaseF.ordR_app (l m : List Int) : B.ordR (l ++ m) = m.foldl B.ins (B.ordR l):=by
 unfold BaseF.ordR;rw [List.foldl_append]
inductive BaseF.Eqv : List Int -> List Int -> Prop
 | refl (l : List Int) : Eqv l l
 | swap (p : List Int) (x y : Int) (s : List Int) : 0 < B.cls x -> 0 < B.cls y -> B.cls x ≠ B.cls y -> Eqv (p ++ x :: y :: s) (p ++ y :: x :: s)
 | trans {a b c : List Int} : Eqv a b -> Eqv b c -> Eqv a c
variable {B}
theorem BaseF.Eqv.left {a b : List Int} (q : List Int) (h : B.Eqv a b) : B.Eqv (q ++ a) (q ++ b):=by
 induction h with
 | refl => exact .refl _
 | swap p x y s h1 h2 h3 =>
  rw [<- List.append_assoc,<- List.append_assoc];exact .swap (q ++ p) x y s h1 h2 h3
 | trans _ _ i1 i2 => exact .trans i1 i2
theorem BaseF.Eqv.right {a b : List Int} (q : List Int) (h : B.Eqv a b) : B.Eqv (a ++ q) (b ++ q):=by
 induction h with
 | refl => exact .refl _
 | swap p x y s h1 h2 h3 =>
  rw [List.append_assoc,List.append_assoc];exact .swap p x y (s ++ q) h1 h2 h3
 | trans _ _ i1 i2 => exact .trans i1 i2
theorem ins_eqv (acc : List Int) (r : Int) : B.Eqv (acc.reverse ++ [r]) (B.ins acc r).reverse:=by
 obtain ⟨Q,A,h1,h2,h3,_⟩:=B.ins_split acc r;rw [h2,h1];simp only [List.reverse_append,List.reverse_cons,List.append_assoc];refine BaseF.Eqv.left _ ?_
 have : ∀ Q : List Int,(∀ q ∈ Q,B.cls r < B.cls q /\ B.cls r ≠ 0) -> B.Eqv (Q ++ [r]) ([r] ++ Q):=by
  intro Q;induction Q with
  | nil => intro _; exact .refl _
  | cons q Q ih =>
   intro h;have hq:=h q (by simp);have h0:=B.cls0 r;have h1:=BaseF.Eqv.left [q] (ih fun x hx => h x (by simp [hx]));have h2 : B.Eqv (q :: r :: Q) (r :: q :: Q):=.swap [] q r Q (by omega) (by omega) (by omega);exact h1.trans h2
 exact this _ fun q hq => h3 q (by simpa using hq)
theorem zha (l : List Int) : B.Eqv l (B.ord l):=by
 have : ∀ (s acc p : List Int),B.Eqv p acc.reverse -> B.Eqv (p ++ s) (s.foldl B.ins acc).reverse:=by
  intro s;induction s with
  | nil => intro acc p h; simpa using h
  | cons r s ih =>
   intro acc p h;have h1:=ih (B.ins acc r) (p ++ [r]) ((h.right [r]).trans (ins_eqv acc r));simpa using h1
 exact this l [] [] (.refl _)
theorem BaseF.Eqv.mem {a b : List Int} (h : B.Eqv a b) : ∀ x,x ∈ a ↔ x ∈ b:=by
 induction h with
 | refl => exact fun _ => Iff.rfl
 | swap p x y s _ _ _ =>
  intro z;simp only [List.mem_append,List.mem_cons];constructor <;> (rintro (h | h | h | h) <;> simp [h])
 | trans _ _ i1 i2 => exact fun x => (i1 x).trans (i2 x)
theorem BaseF.Eqv.length {a b : List Int} (h : B.Eqv a b) : a.length = b.length:=by
 induction h with
 | refl => rfl
 | swap p x y s _ _ _ => simp
 | trans _ _ i1 i2 => exact i1.trans i2
theorem BaseF.Eqv.nil_iff {a b : List Int} (h : B.Eqv a b) : a = [] ↔ b = []:=by
 rw [<- List.length_eq_zero_iff,<- List.length_eq_zero_iff,h.length]
theorem zex (x : Int) (hx : B.cls x = 0) : ∀ (s Q A : List Int),s.foldl B.ins (Q ++ x :: A) = s.foldl B.ins (Q ++ [x]) ++ A
 | [],Q,A => by simp
 | r :: s,Q,A => by
  have h0:=B.cls0 r
  have key : ∀ (Q A : List Int),B.ins (Q ++ x :: A) r = B.ins (Q ++ [x]) r ++ A:=by
   intro Q;induction Q with
   | nil =>
    intro A;simp only [List.nil_append,BaseF.ins];rw [if_neg (by omega),if_neg (by omega)];rfl
   | cons q Q ih =>
    intro A;simp only [List.cons_append,BaseF.ins];split
    ·rw [ih A]; rfl
    ·simp
  have hex : ∃ Q',B.ins (Q ++ [x]) r = Q' ++ [x]:=by
   obtain ⟨Q2,A2,h1,h2,h3,_⟩:=B.ins_split (Q ++ [x]) r;rcases List.eq_nil_or_concat A2 with rfl | ⟨A',a,rfl⟩
   ·rw [List.append_nil] at h1;have:=h3 x (by rw [<- h1]; simp);omega
   ·rw [List.concat_eq_append,<- List.append_assoc] at h1;have e:=List.append_inj_right' h1 rfl;injection e with e _;subst e;refine ⟨Q2 ++ r :: A',?_⟩;rw [h2,List.concat_eq_append];simp
  obtain ⟨Q',hQ'⟩:=hex;show s.foldl B.ins (B.ins (Q ++ x :: A) r) = s.foldl B.ins (B.ins (Q ++ [x]) r) ++ A;rw [key,hQ',List.append_assoc];exact zex x hx s Q' A
theorem ord_cut (a : List Int) {x : Int} (b : List Int) (hx : B.cls x = 0) : B.ord (a ++ x :: b) = B.ord a ++ B.ord (x :: b):=by
 unfold BaseF.ord;rw [B.ordR_app,<- List.reverse_append];congr 1
 have e1 : B.ins (B.ordR a) x = x :: B.ordR a:=by
  cases B.ordR a with
  | nil => rfl
  | cons y t => simp only [BaseF.ins]; rw [if_neg (by omega)]
 show b.foldl B.ins (B.ins (B.ordR a) x) = b.foldl B.ins [x] ++ B.ordR a;rw [e1];exact zex x hx b [] (B.ordR a)
theorem zln {x : Int} (b : List Int) (hx : B.cls x = 0) : ∃ t,B.ord (x :: b) = x :: t:=by
 have key : ∀ (s Q : List Int),∃ Q',s.foldl B.ins (Q ++ [x]) = Q' ++ [x]:=by
  intro s;induction s with
  | nil => intro Q; exact ⟨Q,rfl⟩
  | cons r s ih =>
   intro Q;have h0:=B.cls0 r;obtain ⟨Q2,A2,h1,h2,h3,_⟩:=B.ins_split (Q ++ [x]) r;rcases List.eq_nil_or_concat A2 with rfl | ⟨A',a,rfl⟩
   ·rw [List.append_nil] at h1;have:=h3 x (by rw [<- h1]; simp);omega
   ·rw [List.concat_eq_append,<- List.append_assoc] at h1;have e:=List.append_inj_right' h1 rfl;injection e with e _;subst e;have:=ih (Q2 ++ r :: A');simpa [h2] using this
 obtain ⟨Q',h⟩:=key b [];refine ⟨Q'.reverse,?_⟩;unfold BaseF.ord BaseF.ordR;show (b.foldl B.ins [x]).reverse = _;have e : b.foldl B.ins [x] = Q' ++ [x]:=h;rw [e];simp
theorem ord_head_mark {x : Int} (b : List Int) (hx : B.cls x ≠ 0) : ∃ y t,B.ord (x :: b) = y :: t /\ B.cls y ≠ 0:=by
 have key : ∀ (s Q : List Int) (z : Int),B.cls z ≠ 0 -> ∃ Q' z',s.foldl B.ins (Q ++ [z]) = Q' ++ [z'] /\ B.cls z' ≠ 0:=by
  intro s;induction s with
  | nil => intro Q z hz; exact ⟨Q,z,rfl,hz⟩
  | cons r s ih =>
   intro Q z hz;obtain ⟨Q2,A2,h1,h2,h3,_⟩:=B.ins_split (Q ++ [z]) r;rcases List.eq_nil_or_concat A2 with rfl | ⟨A',a,rfl⟩
   ·rw [List.append_nil] at h1;have h4:=h3 z (by rw [<- h1]; simp);show ∃ Q' z',s.foldl B.ins (B.ins (Q ++ [z]) r) = _ /\ _;rw [h2];exact ih Q2 r h4.2
   ·rw [List.concat_eq_append,<- List.append_assoc] at h1;have e:=List.append_inj_right' h1 rfl;injection e with e _;subst e;show ∃ Q' z',s.foldl B.ins (B.ins (Q ++ [z]) r) = _ /\ _;have:=ih (Q2 ++ r :: A') z hz;simpa [h2] using this
 obtain ⟨Q',z',h,hz'⟩:=key b [] x hx;refine ⟨z',Q'.reverse,?_,hz'⟩;unfold BaseF.ord BaseF.ordR;show (b.foldl B.ins [x]).reverse = _;have e : b.foldl B.ins [x] = Q' ++ [z']:=h;rw [e];simp
end
section
structure JS where
 pre : List Int
 hd : Option Int
 ms : List Int
def JS.out (s : JS) : List Int:=s.pre ++ (s.hd.toList ++ s.ms)
variable {B : BaseF}
def BaseF.app (B : BaseF) (s : JS) (r : Int) : JS:=if B.cls r = 0 then ⟨s.out,some r,[]⟩ else ⟨s.pre,s.hd,s.ms ++ [r]⟩
def BaseF.step (B : BaseF) (s : JS) (r : Int) : JS :=
 match s.hd with
 | none => B.app s r
 | some h => if (s.ms.all fun m => decide (B.cls m < B.cls r)) = true then (match B.pair h r with | some c => ⟨s.pre,some c,s.ms⟩ | none => B.app s r) else B.app s r
def BaseF.run (B : BaseF) (s : JS) (l : List Int) : JS:=l.foldl B.step s
def BaseF.join (B : BaseF) (l : List Int) : List Int:=(B.run ⟨[],none,[]⟩ l).out
theorem zlv (s : JS) (a b : List Int) : B.run s (a ++ b) = B.run (B.run s a) b:=by unfold BaseF.run; rw [List.foldl_append]
theorem zds (s : JS) (x : Int) (b : List Int) : B.run s (x :: b) = B.run (B.step s x) b:=rfl
theorem run_snoc (s : JS) (a : List Int) (x : Int) : B.run s (a ++ [x]) = B.step (B.run s a) x:=by rw [zlv]; rfl
def JS.behind (q : List Int) (s : JS) : JS:=⟨q ++ s.pre,s.hd,s.ms⟩
theorem JS.behind_out (q : List Int) (s : JS) : (s.behind q).out = q ++ s.out:=by simp [JS.behind,JS.out]
theorem zh5 (q : List Int) (s : JS) (r : Int) : B.app (s.behind q) r = (B.app s r).behind q:=by
 unfold BaseF.app;split
 ·rw [JS.behind_out]; rfl
 ·rfl
theorem zge (p : List Int) (h : Int) (ms : List Int) (r : Int) : B.step ⟨p,some h,ms⟩ r = if (ms.all fun m => decide (B.cls m < B.cls r)) = true then (match B.pair h r with | some c => ⟨p,some c,ms⟩ | none => B.app ⟨p,some h,ms⟩ r) else B.app ⟨p,some h,ms⟩ r:=rfl
theorem step_behind (q : List Int) (s : JS) (r : Int) : B.step (s.behind q) r = (B.step s r).behind q:=by
 obtain ⟨p,hd,ms⟩:=s
 cases hd with
 | none => exact zh5 q _ r
 | some h =>
  have ha:=zh5 (B:=B) q ⟨p,some h,ms⟩ r;show B.step ⟨q ++ p,some h,ms⟩ r = _;have ha' : B.app ⟨q ++ p,some h,ms⟩ r = (B.app ⟨p,some h,ms⟩ r).behind q:=ha;rw [zge,zge,ha'];split
  ·cases B.pair h r <;> rfl
  ·rfl
theorem zhs (q : List Int) : ∀ (l : List Int) (s : JS),B.run (s.behind q) l = (B.run s l).behind q
 | [],_ => rfl
 | r :: l,s => by
  rw [zds,zds,step_behind];exact zhs q l (B.step s r)
structure BaseF.JOk (B : BaseF) (s : JS) : Prop where
 ms : ∀ m ∈ s.ms,B.cls m ≠ 0
 hd : ∀ h,s.hd = some h -> B.cls h = 0
theorem jok_nil : B.JOk ⟨[],none,[]⟩:=⟨by simp,by simp⟩
theorem zn7 {s : JS} (h : B.JOk s) (r : Int) : B.JOk (B.app s r):=by
 unfold BaseF.app;split
 ·rename_i hr;exact ⟨by simp,fun x hx => by injection hx with hx; rw [<- hx]; exact hr⟩
 ·rename_i hr;refine ⟨fun m hm => ?_,h.hd⟩;rcases List.mem_append.1 hm with hm | hm
  ·exact h.ms m hm
  ·rw [List.mem_singleton] at hm; rw [hm]; exact hr
theorem zdn (s : JS) (r : Int) : B.step s r = B.app s r \/ ∃ h c,s.hd = some h /\ (∀ m ∈ s.ms,B.cls m < B.cls r) /\ B.pair h r = some c /\ B.step s r = ⟨s.pre,some c,s.ms⟩:=by
 obtain ⟨p,hd,ms⟩:=s
 cases hd with
 | none => exact .inl rfl
 | some h =>
  unfold BaseF.step;simp only [];split
  ·rename_i ha
   cases hp : B.pair h r with
   | none => exact .inl rfl
   | some c => exact .inr ⟨h,c,rfl,by simpa using ha,hp,rfl⟩
  ·exact .inl rfl
theorem step_ok {s : JS} (h : B.JOk s) (r : Int) : B.JOk (B.step s r):=by
 rcases zdn (B:=B) s r with e | ⟨x,c,h1,h2,h3,e⟩
 ·rw [e]; exact zn7 h r
 ·rw [e];exact ⟨h.ms,fun y hy => by injection hy with hy; rw [<- hy]; exact (B.made x r c h3).2.1⟩
theorem zkz (s : JS) (r : Int) : (B.app s r).out = s.out ++ [r]:=by
 unfold BaseF.app;split
 ·simp [JS.out]
 ·simp [JS.out]
theorem zla {s : JS} {x : Int} (hx : B.cls x = 0) (hs : B.sec x = false) : B.step s x = ⟨s.out,some x,[]⟩:=by
 rcases zdn (B:=B) s x with e | ⟨h,c,_,_,h3,_⟩
 ·rw [e]; unfold BaseF.app; rw [if_pos hx]
 ·have:=(B.made h x c h3).2.2;rw [hs] at this
  cases this
theorem join_cut (a : List Int) {x : Int} (b : List Int) (hx : B.cls x = 0) (hs : B.sec x = false) : B.join (a ++ x :: b) = B.join a ++ B.join (x :: b):=by
 unfold BaseF.join;rw [zlv,zds,zds,zla hx hs,zla hx hs];have e : (⟨(B.run ⟨[],none,[]⟩ a).out,some x,[]⟩ : JS) = (⟨[],some x,[]⟩ : JS).behind (B.run ⟨[],none,[]⟩ a).out:=(by simp [JS.behind]);rw [e,zhs,JS.behind_out];rfl
theorem step_len (s : JS) (r : Int) : (B.step s r).out.length <= s.out.length + 1:=by
 rcases zdn (B:=B) s r with e | ⟨x,y,h1,h2,h3,e⟩
 ·rw [e,zkz]; simp
 ·rw [e];unfold JS.out;rw [h1];simp
theorem zkn : ∀ (d : List Int) (s : JS),(B.run s d).out.length <= s.out.length + d.length
 | [],s => by simp [BaseF.run]
 | r :: d,s => by
  have h1:=zkn d (B.step s r);have h2:=step_len (B:=B) s r;rw [zds,List.length_cons];omega
theorem zil (d : List Int) : (B.join d).length <= d.length:=by
 have:=zkn (B:=B) d ⟨[],none,[]⟩;simpa [BaseF.join,JS.out] using this
end
section
variable {B : BaseF}
noncomputable def BaseF.full (B : BaseF) (c : Bool) (l : List Int) : List Int:=B.ord (B.all c l)
noncomputable def BaseF.form (B : BaseF) (c j : Bool) (l : List Int) : List Int:=if j = true then B.join (B.full c l) else B.full c l
theorem full_nil (c : Bool) : B.full c [] = []:=rfl
theorem form_nil (c j : Bool) : B.form c j [] = []:=by
 unfold BaseF.form;rw [full_nil];split <;> rfl
theorem full_ne {c : Bool} {r : Int} : B.full c [r] ≠ []:=by
 intro h;have:=(zha (B:=B) (B.all c [r])).nil_iff.2 h;rw [B.all_one] at this;exact B.one_ne c r this
noncomputable def BaseF.safe (B : BaseF) (c j : Bool) (r : Int) : Bool:=decide (B.cls ((B.full c [r]).headD 0) = 0) && !(j && B.sec ((B.full c [r]).headD 0))
theorem snoc_ind {p : List Int -> Prop} (h0 : p []) (h1 : ∀ l x,p l -> p (l ++ [x])) (l : List Int) : p l:=by
 rw [<- List.reverse_reverse l];induction l.reverse with
 | nil => exact h0
 | cons x t ih => rw [List.reverse_cons]; exact h1 _ _ ih
theorem form_cut {c j : Bool} (a : List Int) {r : Int} (b : List Int) (h : B.safe c j r = true) : B.form c j (a ++ r :: b) = B.form c j a ++ B.form c j (r :: b):=by
 unfold BaseF.safe at h;rw [Bool.and_eq_true,decide_eq_true_eq] at h
 obtain ⟨x,t,hxt⟩ : ∃ x t,B.one c r = x :: t:=by
  cases ho : B.one c r with
  | nil => exact absurd ho (B.one_ne c r)
  | cons x t => exact ⟨x,t,rfl⟩
 have hfr : B.full c [r] = B.ord (x :: t):=by unfold BaseF.full; rw [B.all_one,hxt]
 have hx0 : B.cls x = 0:=by
  refine Decidable.byContradiction fun hx => ?_;obtain ⟨y,t',h1,h2⟩:=ord_head_mark t hx;rw [hfr,h1] at h;exact h2 h.1
 obtain ⟨t',h1⟩:=zln (B:=B) t hx0;have hh : (B.full c [r]).headD 0 = x:=(by rw [hfr,h1]; rfl);rw [hh] at h;have e1 : B.all c (r :: b) = x :: (t ++ B.all c b):=by rw [B.all_cons,hxt]; rfl
 have e2 : B.full c (a ++ r :: b) = B.full c a ++ B.full c (r :: b):=by
  unfold BaseF.full;rw [B.all_app,e1];exact ord_cut _ _ hx0
 obtain ⟨t2,h2⟩:=zln (B:=B) (t ++ B.all c b) hx0;have e3 : B.full c (r :: b) = x :: t2:=(by unfold BaseF.full; rw [e1]; exact h2);unfold BaseF.form
 cases j with
 | false => rw [if_neg (by simp),if_neg (by simp),if_neg (by simp)]; exact e2
 | true =>
  rw [if_pos rfl,if_pos rfl,if_pos rfl,e2,e3];refine join_cut _ _ hx0 ?_;simpa using h.2
end
section
variable {B : BaseF}
def swp (l : List Int) (i : Nat) : List Int:=match l[i]?,l[i + 1]? with | some x,some y => (l.set i y).set (i + 1) x | _,_ => l
theorem zly {r : Int} (hr : B.cls r ≠ 0) : ∀ {Q : List Int} (A : List Int),(∀ q ∈ Q,B.cls r < B.cls q) -> B.ins (Q ++ A) r = Q ++ B.ins A r
 | [],A,_ => rfl
 | q :: Q,A,h => by
  have:=zly hr (Q:=Q) A fun x hx => h x (by simp [hx]);simp only [List.cons_append,BaseF.ins];rw [if_pos ⟨hr,h q (by simp)⟩,this]
theorem zlz {r : Int} {A : List Int} (h : ∀ a t,A = a :: t -> B.cls r = 0 \/ B.cls a <= B.cls r) : B.ins A r = r :: A:=by
 cases A with
 | nil => rfl
 | cons a t =>
  have:=h a t rfl;simp only [BaseF.ins];rw [if_neg (by omega)]
theorem ordR_len (l : List Int) : (B.ordR l).length = l.length:=by
 have:=(zha (B:=B) l).length;unfold BaseF.ord at this;simpa using this.symm
theorem zkq (l : List Int) : (B.ord l).length = l.length:=(zha (B:=B) l).length.symm
theorem ord_take_snoc {l : List Int} {k : Nat} {r : Int} (h : l[k]? = some r) : B.ordR (l.take (k + 1)) = B.ins (B.ordR (l.take k)) r:=by
 rw [List.take_add_one,h];exact B.ord_snoc _ _
def BaseF.top (B : BaseF) (ms : List Int) : Int:=ms.foldl (fun a m => max a (B.cls m)) 0
theorem zk3 (ms : List Int) (r : Int) : B.top (ms ++ [r]) = max (B.top ms) (B.cls r):=by unfold BaseF.top; rw [List.foldl_append]; rfl
theorem znj (ms : List Int) (k : Int) : (ms.all fun m => decide (B.cls m < k)) = true ↔ ms = [] \/ B.top ms < k:=by
 induction ms using snoc_ind with
 | h0 => simp
 | h1 l r ih =>
  rw [zk3,List.all_append,Bool.and_eq_true,ih];have:=B.cls0 r;simp only [List.all_cons,List.all_nil,Bool.and_true,decide_eq_true_eq];constructor
  ·rintro ⟨h1 | h1,h2⟩
   ·subst h1; right; simp [BaseF.top]; omega
   ·right; omega
  ·rintro (h | h)
   ·simp at h
   ·exact ⟨.inr (by omega),by omega⟩
structure PutAt (B : BaseF) (s : JS) (l : List Int) (hd : Int) (last : Int) : Prop where
 ok : B.JOk s
 out : l = s.out
 none : s.hd = Option.none -> s.pre = [] /\ hd = -1
 some : ∀ h,s.hd = Option.some h -> hd = (s.pre.length : Int)
 last : last = B.top s.ms
theorem put_start : PutAt B ⟨[],none,[]⟩ [] (-1) 0:=⟨jok_nil,rfl,fun _ => ⟨rfl,rfl⟩,fun h e => (by cases e),rfl⟩
theorem JS.out_at {s : JS} {h : Int} (e : s.hd = some h) : s.out[s.pre.length]? = some h:=by
 unfold JS.out;rw [e];simp
theorem JS.out_len {s : JS} {h : Int} (e : s.hd = some h) : s.out.length = s.pre.length + 1 + s.ms.length:=by
 unfold JS.out;rw [e];simp;omega
theorem zid {s : JS} {l : List Int} {hd last : Int} (h : PutAt B s l hd last) (r : Int) :
  PutAt B (B.app s r) (l ++ [r]) (if B.cls r = 0 then (l.length : Int) else hd) (if B.cls r = 0 then 0 else max last (B.cls r)):=by
 have ho:=h.out;refine ⟨zn7 h.ok r,by rw [ho,zkz],fun e => ?_,fun c e => ?_,?_⟩
 ·unfold BaseF.app at e ⊢
  by_cases h0 : B.cls r = 0
  ·rw [if_pos h0] at e; cases e
  ·rw [if_neg h0] at e ⊢;rw [if_neg h0];exact h.none e
 ·unfold BaseF.app at e ⊢
  by_cases h0 : B.cls r = 0
  ·rw [if_pos h0,if_pos h0,ho]
  ·rw [if_neg h0] at e ⊢;rw [if_neg h0];exact h.some c e
 ·unfold BaseF.app
  by_cases h0 : B.cls r = 0
  ·rw [if_pos h0,if_pos h0]; rfl
  ·rw [if_neg h0,if_neg h0,h.last,zk3]
theorem zli {s : JS} {l : List Int} {hd last : Int} (h : PutAt B s l hd last) (r : Int) {c0 c : Int} (e : s.hd = some c0) (ht : (l.length : Int) = hd + 1 \/ last < B.cls r) (hp : B.pair c0 r = some c) :
  PutAt B (B.step s r) (l.set s.pre.length c) hd last:=by
 have ho:=h.out
 have ha : (s.ms.all fun m => decide (B.cls m < B.cls r)) = true:=by
  rw [znj,<- h.last];rcases ht with ht | ht
  ·left;have h1:=h.some _ e;have h2:=JS.out_len e;rw [ho] at ht;exact List.eq_nil_of_length_eq_zero (by omega)
  ·exact .inr ht
 obtain ⟨pre,hd0,ms⟩:=s;simp only [] at e;subst e
 have hs : B.step ⟨pre,some c0,ms⟩ r = ⟨pre,some c,ms⟩:=by
  rw [zge,if_pos ha,hp]
 refine ⟨step_ok h.ok r,?_,?_,?_,?_⟩
 ·rw [hs,ho]; simp [JS.out,List.set_append]
 ·rw [hs]; intro e; cases e
 ·rw [hs]; intro _ _; exact h.some c0 rfl
 ·rw [hs]; exact h.last
theorem zic {s : JS} {l : List Int} {hd last : Int} (h : PutAt B s l hd last) (r : Int) (hn : s.hd = none \/ (¬ ((l.length : Int) = hd + 1) /\ ¬ last < B.cls r) \/ ∃ c0,s.hd = some c0 /\ B.pair c0 r = none) : B.step s r = B.app s r:=by
 unfold BaseF.step;rcases hn with hn | ⟨hn1,hn2⟩ | ⟨c0,e,hp⟩
 ·rw [hn]
 ·cases e : s.hd with
  | none => rfl
  | some c0 =>
   simp only [];rw [if_neg];rw [znj,<- h.last];rintro (hm | hm)
   ·have h1:=h.some _ e;have h2:=JS.out_len e;have ho:=h.out;rw [hm] at h2;rw [<- ho] at h2;simp at h2;omega
   ·exact hn2 hm
 ·rw [e];simp only [hp];split <;> rfl
structure CutAt (B : BaseF) (c j : Bool) (l : List Int) (n : Nat) : Prop where
 lt : n = 0 \/ n < l.length
 safe : 0 < n -> ∀ r,l[n]? = some r -> B.safe c j r = true
 last : ∀ k r,n < k -> l[k]? = some r -> B.safe c j r = false
theorem CutAt.form {c j : Bool} {l : List Int} {n : Nat} (h : CutAt B c j l n) (b : List Int) : B.form c j (l ++ b) = B.form c j (l.take n) ++ B.form c j (l.drop n ++ b):=by
 rcases Nat.eq_zero_or_pos n with h0 | h0
 ·subst h0;simp [form_nil]
 ·have hn : n < l.length:=(by have:=h.lt; omega);have hs:=h.safe h0 _ (List.getElem?_eq_getElem hn)
  have e : l ++ b = l.take n ++ l[n] :: (l.drop (n + 1) ++ b):=by
   have e2 : l = l.take n ++ l[n] :: l.drop (n + 1):=(by rw [<- List.drop_eq_getElem_cons hn,List.take_append_drop]);have e3 : ∀ (p q : List Int) (x : Int),l = p ++ x :: q -> l ++ b = p ++ x :: (q ++ b):=fun p q x e => by rw [e]; simp
   exact e3 _ _ _ e2
  rw [e,form_cut _ _ hs,List.drop_eq_getElem_cons hn];rfl
theorem full_one_ne {c : Bool} {r : Int} : ∃ x t,B.full c [r] = x :: t:=by
 cases h : B.full c [r] with
 | nil => exact absurd h full_ne
 | cons x t => exact ⟨x,t,rfl⟩
end
section
section
variable {B : BaseF} {c j : Bool} {all out wt : List Int}
structure Fed (B : BaseF) (c j : Bool) (all out wt : List Int) : Prop where
 app : ∀ r,B.form c j (all ++ r) = out ++ B.form c j (wt ++ r)
 few : wt.length <= all.length
 mem : ∀ x ∈ wt,x ∈ all
theorem Fed.nil : Fed B c j [] [] []:=⟨fun r => by simp,Nat.le_refl _,fun x h => h⟩
theorem Fed.step (h : Fed B c j all out wt) (l : List Int) {n : Nat} (hc : CutAt B c j (wt ++ l) n) : Fed B c j (all ++ l) (out ++ B.form c j ((wt ++ l).take n)) ((wt ++ l).drop n):=by
 refine ⟨fun r => ?_,?_,fun x hx => ?_⟩
 ·rw [List.append_assoc all l r,h.app (l ++ r),<- List.append_assoc wt l r,hc.form r,List.append_assoc out]
 ·have:=h.few;rw [List.length_drop,List.length_append,List.length_append];omega
 ·have hx:=List.mem_of_mem_drop hx;rw [List.mem_append] at hx ⊢;exact hx.imp (h.mem x) id
theorem Fed.close (h : Fed B c j all out wt) : out ++ B.form c j wt = B.form c j all:=by
 have:=h.app [];rw [List.append_nil,List.append_nil] at this;exact this.symm
end
end
end Go.Proofs.YtolcabjkbefjgaaGreatDoor
