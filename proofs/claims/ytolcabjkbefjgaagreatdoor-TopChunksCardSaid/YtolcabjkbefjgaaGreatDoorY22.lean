/- An argument that is lines of characters and of exclusions, opened. How many characters one is, parted as far as it can be. Plain. Rows of a file: plain laws. Rows of two texts, one behind the other: plain laws. Rows rise, and may be; what sets tell rises: plain laws. slices.Values, gone through, where something is known of each character. -/
import Derived.Test.YtolcabjkbefjgaaGreatDoorY21
set_option linter.unusedSimpArgs false
set_option linter.unusedVariables false
set_option maxRecDepth 20000
set_option maxHeartbeats 4000000
namespace Go.Proofs.YtolcabjkbefjgaaGreatDoor
section
open Go.ChangeShapes Go.WideShapes Go.ChangeAt Go.RowKit Go.Lib
theorem txt_c : Tryz.prog.cellsOf 23 = 2:=by kernel_rfl
theorem txt_cs : Tryz.prog.cellsOf 9 = 1:=by kernel_rfl
theorem open_text {H : Type} {enc : TypeId × Value -> H} {W : World} {base base' : Nat} {sp : Nat -> Bool} {held : Bool} {v : Value} {d : DataW H} {p : List MemPlace} (hv : Value.okWide Tryz.prog W .any base' 23 v)
  (h : DataW.Trod enc Tryz.prog W base sp held 23 v d p) : ∃ (s o : ByteArray),v = .agg #[.string s,.string o]:=by
 obtain ⟨cs,rfl,_⟩:=okWide_struct Tryz.underlying23 hv;obtain ⟨fuel,hf⟩:=h;obtain ⟨y0,y1,n,_,hl,g0,g1⟩:=Go.ChangeShapes.trod_struct2 Tryz.underlying23 hf;rw [txt_c] at hl;obtain ⟨l⟩:=cs;have hcl : (Value.agg ⟨l⟩).cells.toList = l:=(by simp [Value.cells]);rw [hcl] at hl g0 g1;match l,hl with
 | [a,b],_ =>
  have g0' : DataW.trod enc Tryz.prog W base sp held n 9 (([a,b].drop 0).take (Tryz.prog.cellsOf 9)) = some y0:=g0;have g1' : DataW.trod enc Tryz.prog W base sp held n 9 (([a,b].drop 1).take (Tryz.prog.cellsOf 9)) = some y1:=g1;rw [txt_cs] at g0' g1';obtain ⟨s,e0,_,_⟩:=DataW.trod_string Tryz.underlying9 g0';obtain ⟨o,e1,_,_⟩:=DataW.trod_string Tryz.underlying9 g1';simp at e0 e1;subst e0 e1;exact ⟨s,o,rfl⟩
end
section
theorem wf_of {D : Int -> List Int} (h : ∀ x,Ends D x) : WellFounded fun y x => y ∈ D x:=⟨h⟩
noncomputable def lenD (D : Int -> List Int) (wf : WellFounded fun y x => y ∈ D x) : Int -> Nat :=
 wf.fix fun x ih => if D x = [] then 1 else ((D x).attach.map fun y => ih y.1 y.2).sum
theorem map_attach' {α β : Type} (l : List α) (f : α -> β) : (l.attach.map fun x => f x.1) = l.map f:=by
 rw [show (fun x : {x // x ∈ l} => f x.1) = f ∘ Subtype.val from rfl,<- List.map_map];simp
theorem zfb (D : Int -> List Int) (wf : WellFounded fun y x => y ∈ D x) (x : Int) : lenD D wf x = if D x = [] then 1 else ((D x).map (lenD D wf)).sum:=by
 have : lenD D wf x = if D x = [] then 1 else ((D x).attach.map fun y => lenD D wf y.1).sum:=by
  unfold lenD;rw [WellFounded.fix_eq]
 rw [this,map_attach']
theorem lenD_pos (D : Int -> List Int) (wf : WellFounded fun y x => y ∈ D x) (x : Int) : 1 <= lenD D wf x:=by
 induction x using wf.induction with
 | _ x ih =>
  rw [zfb]
  by_cases h : D x = []
  ·rw [if_pos h]; exact Nat.le_refl _
  ·rw [if_neg h]
   cases hd : D x with
   | nil => exact absurd hd h
   | cons a l =>
    have:=ih a (by rw [hd]; simp);rw [List.map_cons,List.sum_cons];omega
theorem lenD_one (B : BaseF) (x : Int) : lenD (fun r => (B.dec r).2) B.wf x = (B.one true x).length:=by
 induction x using B.wf.induction with
 | _ x ih =>
  have hp : B.parts true x = (B.dec x).2:=(by unfold BaseF.parts; simp);rw [zfb,B.one_eq,hp]
  by_cases h : (B.dec x).2 = []
  ·simp [h]
  ·rw [if_neg h,if_neg h,List.length_flatMap];congr 1;exact List.map_congr_left fun y hy => ih y hy
end
end Go.Proofs.YtolcabjkbefjgaaGreatDoor
section
section
namespace Go.Proofs.YtolcabjkbefjgaaGreatDoor
open Go.RowKit
theorem zja {P : RowS -> Prop} (hp : ∀ l,(zae l).2 = 0 -> P (zae l).1) (hc : ∀ f x,P f -> P x -> ¬ zc4 f x -> P (zfq f x)) :
  ∀ (ls : List (Int × List UInt8)) (st : StU),(∀ x ∈ st.out,P x) -> (∀ f,st.op = some f -> P f) -> ∀ x ∈ (rowsW st ls).1.out,P x
 | [],st,ho,hf => ho
 | p :: ls,st,ho,hf => by
  have key : (∀ x ∈ (takeS st p.2).1.out,P x) /\ ∀ f,(takeS st p.2).1.op = some f -> P f:=by
   unfold takeS;split
   ·exact ⟨ho,hf⟩
   ·have hx:=hp p.2 (by simpa using ‹¬ (zae p.2).2 ≠ 0›);generalize (zae p.2).1 = x at *;unfold takeR zcj freeS;split
    ·rename_i f hst;split
     ·exact ⟨ho,hf⟩
     ·split
      ·exact ⟨ho,hf⟩
      ·refine ⟨fun y hy => ?_,fun f h => absurd h (by simp)⟩;rcases List.mem_append.1 hy with hy | hy
       ·exact ho y hy
       ·rw [List.mem_singleton] at hy;subst hy;exact hc f x (hf f hst) hx (by assumption)
    ·split
     ·exact ⟨ho,hf⟩
     ·split
      ·exact ⟨ho,hf⟩
      ·split
       ·exact ⟨ho,fun f h => by injection h with h; subst h; exact hx⟩
       ·refine ⟨fun y hy => ?_,fun f h => absurd h (by simp)⟩;rcases List.mem_append.1 hy with hy | hy
        ·exact ho y hy
        ·rw [List.mem_singleton] at hy;subst hy;exact hx
  by_cases he : (takeS st p.2).2 = 0
  ·rw [zdu he];exact zja hp hc ls _ key.1 key.2
  ·rw [zer he];exact ho
theorem rowsS_all {P : RowS -> Prop} (hp : ∀ l,(zae l).2 = 0 -> P (zae l).1) (hc : ∀ f x,P f -> P x -> ¬ zc4 f x -> P (zfq f x)) (s : List UInt8) : ∀ x ∈ (rowsS s).1,P x:=by
 unfold rowsS endU;split
 ·intro x hx; simp at hx
 ·split
  ·intro x hx; simp at hx
  ·split
   ·intro x hx; simp at hx
   ·exact zja hp hc _ _ (fun x hx => by simp at hx) (fun f h => by simp at h)
theorem takeS_len (st : StU) (l : List UInt8) : (takeS st l).1.out.length <= st.out.length + 1:=by
 unfold takeS;split
 ·exact Nat.le_succ _
 ·generalize (zae l).1 = x;unfold takeR zcj freeS;repeat' split
  all_goals simp
theorem zi9 : ∀ (ls : List (Int × List UInt8)) (st : StU),(rowsW st ls).1.out.length <= st.out.length + ls.length
 | [],st => by simp [rowsW]
 | p :: ls,st => by
  have h1:=takeS_len st p.2
  by_cases he : (takeS st p.2).2 = 0
  ·rw [zdu he];have:=zi9 ls (takeS st p.2).1;simp only [List.length_cons];omega
  ·rw [zer he];simp only [];omega
theorem zjb (s : List UInt8) : (rowsS s).1.length <= 4096:=by
 have hl:=(zgx s).2;unfold rowsS endU;split
 ·simp
 ·split
  ·simp
  ·split
   ·simp
   ·have:=zi9 (zbj s).1 ⟨[],none,-1⟩;simp only [List.length_nil] at this;show (rowsW ⟨[],none,-1⟩ (zbj s).1).1.out.length <= 4096;omega
end Go.Proofs.YtolcabjkbefjgaaGreatDoor
end
section
namespace Go.Proofs.YtolcabjkbefjgaaGreatDoor
open Go.RowKit
def zjt (l : List RowS) : Int:=match l.getLast? with | some x => x.up | none => -1
theorem zgy (l : List RowS) (x : RowS) : zjt (l ++ [x]) = x.up:=by simp [zjt]
theorem parse_up (l : List UInt8) : (zae l).1.up = (zae l).1.fr:=by
 unfold zae zjj;repeat' split
 all_goals rfl
theorem take_cases {st : StU} {l : List UInt8} (h : (takeS st l).2 = 0) :
  (∃ f,st.op = some f /\ ¬ zc4 f (zae l).1 /\ (takeS st l).1 = ⟨st.out ++ [zfq f (zae l).1],none,(zae l).1.fr⟩) \/
  (st.op = none /\ st.was < (zae l).1.fr /\ ((takeS st l).1 = ⟨st.out,some (zae l).1,st.was⟩ \/ (takeS st l).1 = ⟨st.out ++ [(zae l).1],none,(zae l).1.fr⟩)):=by
 have hp : (zae l).2 = 0:=by
  by_cases hp : (zae l).2 = 0
  ·exact hp
  ·exfalso;unfold takeS at h;rw [if_pos hp] at h;exact hp h
 have ht : takeS st l = takeR st (zae l).1:=(by unfold takeS; rw [if_neg (by rw [hp]; simp)]);rw [ht] at h ⊢;generalize (zae l).1 = x at *;unfold takeR at *
 cases hst : st.op with
 | some f =>
  simp only [hst] at h ⊢;refine .inl ⟨f,rfl,?_⟩;split at h
  ·simp at h
  ·rename_i hi;rw [if_neg hi];unfold zcj at *;split at h
   ·simp at h
   ·rename_i hc;rw [if_neg hc];exact ⟨hc,rfl⟩
 | none =>
  simp only [hst] at h ⊢;refine .inr ⟨by trivial,?_⟩;split at h
  ·simp at h
  ·rename_i hi;rw [if_neg hi];unfold freeS at *;split at h
   ·simp at h
   ·rename_i hw;rw [if_neg hw];refine ⟨by omega,?_⟩;split
    ·exact .inl rfl
    ·exact .inr rfl
end Go.Proofs.YtolcabjkbefjgaaGreatDoor
end
end
namespace Go.Proofs.YtolcabjkbefjgaaGreatDoor
section
open Go.RowKit
structure RowV (x : RowS) : Prop where
 fr : zaj x.fr = true
 up : zaj x.up = true
 le : x.fr <= x.up
 cl : 0 <= x.cl /\ x.cl <= 254
 len : x.il.length <= 18
 il : ∀ z ∈ x.il,zaj z = true
 kd : zbp x.kd = true
 some : x.kd ≠ [] -> x.il ≠ []
 one : x.fr < x.up -> x.il = []
theorem zg4 {l : List UInt8} (h : (hexS l).2 = 0) : zaj (hexS l).1 = true:=by
 unfold hexS at *;split at h
 ·simp at h
 ·rename_i h1;rw [if_neg h1];split at h
  ·rename_i h2;rw [if_pos h2];exact h2
  ·simp at h
theorem zeq : ∀ (ws : List (List UInt8)) (out : List Int),(zbi out ws).2 = 0 -> (∀ z ∈ out,zaj z = true) -> (∀ z ∈ (zbi out ws).1,zaj z = true) /\ (zbi out ws).1.length = out.length + ws.length
 | [],out,h,ho => ⟨ho,by simp [zbi]⟩
 | w :: ws,out,h,ho => by
  by_cases he : (hexS w).2 = 0
  ·rw [zgn he] at h ⊢
   obtain ⟨h1,h2⟩:=zeq ws _ h (fun z hz => by
    rcases List.mem_append.1 hz with hz | hz
    ·exact ho z hz
    ·rw [List.mem_singleton] at hz;subst hz
     exact zg4 he)
   refine ⟨h1,?_⟩;have e : (out ++ [(hexS w).1]).length = out.length + 1:=(by simp);rw [h2,e];simp only [List.length_cons];omega
  ·rw [zhr he] at h;exact absurd h he
theorem zh8 : ∀ (l w : List UInt8),(w ≠ [] \/ ∃ b ∈ l,zao b = false) -> zp w l ≠ []
 | [],w,h => by
  rcases h with h | ⟨b,hb,_⟩
  ·simp [zp,h]
  ·simp at hb
 | b :: t,w,h => by
  cases hb : zao b
  ·rw [zdj _ _ hb];exact zh8 t _ (.inl (by simp))
  ·rw [zed _ _ hb];split
   ·rename_i hw;refine zh8 t _ (.inr ?_);rcases h with h | ⟨c,hc,hcb⟩
    ·exact absurd hw h
    ·rcases List.mem_cons.1 hc with rfl | hc
     ·rw [hb] at hcb; simp at hcb
     ·exact ⟨c,hc,hcb⟩
   ·simp
theorem lstrip_all {l : List UInt8} (h : ∀ b ∈ l,zao b = true) : lstrip l = []:=by
 induction l with
 | nil => rfl
 | cons b t ih =>
  rw [lstrip_yes (h b (by simp))];exact ih (fun c hc => h c (by simp [hc]))
theorem bare_ne {l : List UInt8} (h : bareL l ≠ []) : ∃ b ∈ l,zao b = false:=by
 apply Classical.byContradiction;intro hn;apply h;unfold bareL
 rw [lstrip_all (fun b hb => by
  cases hbb : zao b
  ·exact absurd ⟨b,hb,hbb⟩ hn
  ·rfl)]
 rfl
theorem into_v {s : List UInt8} (h : (intoS s).2.2 = 0) : (intoS s).2.1.length <= 18 /\ (∀ z ∈ (intoS s).2.1,zaj z = true) /\ zbp (intoS s).1 = true /\ ((intoS s).1 ≠ [] -> (intoS s).2.1 ≠ []):=by
 have hr : ∀ k t,(intoR k t).2.2 = 0 -> (intoR k t).1 = k /\ (intoR k t).2.1.length <= 18 /\ (∀ z ∈ (intoR k t).2.1,zaj z = true) /\ (intoR k t).2.1.length = (zfn t).length:=by
  intro k t h;unfold intoR at *;split at h
  ·rename_i h1; exact absurd h h1
  ·rename_i h1;split at h
   ·simp at h
   ·rename_i h2;rw [if_neg h1,if_neg h2];obtain ⟨g1,g2⟩:=zeq (zfn t) [] (by simpa [zc6] using h1) (by simp);refine ⟨rfl,by simp only []; omega,g1,?_⟩;simpa [zc6] using g2
 unfold intoS at *;split at h
 ·rename_i hp;split at h
  ·simp at h
  ·rename_i hb;rw [if_pos hp,if_neg hb];obtain ⟨g1,g2,g3,g4⟩:=hr _ _ h;simp only [not_or] at hb;refine ⟨g2,g3,by rw [g1]; simpa using hb.2.2.1,fun _ => ?_⟩;intro he;rw [he] at g4;exact zh8 _ _ (.inr (bare_ne hb.2.2.2)) (List.eq_nil_of_length_eq_zero g4.symm)
 ·rename_i hp;rw [if_neg hp];obtain ⟨g1,g2,g3,g4⟩:=hr _ _ h;refine ⟨g2,g3,by rw [g1]; rfl,fun hk => absurd g1 hk⟩
theorem parse_v {l : List UInt8} (h : (zae l).2 = 0) : RowV (zae l).1:=by
 unfold zae zjj at *;split at h
 ·simp at h
 ·rename_i h1;split at h
  ·rename_i h2; exact absurd h h2
  ·rename_i h2;split at h
   ·rename_i h3; exact absurd h h3
   ·rename_i h3;split at h
    ·simp at h
    ·rename_i h4;split at h
     ·rename_i h5; exact absurd h h5
     ·rename_i h5;rw [if_neg h1,if_neg h2,if_neg h3,if_neg h4,if_neg h5];obtain ⟨v1,v2,v3,v4⟩:=into_v (Classical.not_not.1 h5);have hx:=zg4 (Classical.not_not.1 h2);refine ⟨hx,hx,Int.le_refl _,⟨?_,by simp only []; omega⟩,v1,v2,v3,v4,fun hlt => absurd hlt (Int.lt_irrefl _)⟩;show 0 <= (decS _).1;unfold decS at h3 ⊢;split
      ·simp
      ·simp only []; omega
theorem range_v {f x : RowS} (hf : RowV f) (hx : RowV x) (hc : ¬ zc4 f x) : RowV (zfq f x):=by
 unfold zc4 at hc;simp only [not_or] at hc;exact ⟨hf.fr,hx.fr,by show f.fr <= x.fr; omega,hx.cl,by simp [zfq],fun z hz => by simp [zfq] at hz,rfl,fun h => absurd rfl h,fun _ => rfl⟩
theorem rows_v (s : List UInt8) : ∀ x ∈ (rowsS s).1,RowV x:=rowsS_all (fun l h => parse_v h) (fun f x hf hx hc => range_v hf hx hc) s
def Rise (l : List RowS) : Prop:=∀ i a b,l[i]? = some a -> l[i + 1]? = some b -> a.up < b.fr
theorem Rise.snoc {l : List RowS} {x : RowS} (h : Rise l) (hx : l ≠ [] -> zjt l < x.fr) : Rise (l ++ [x]):=by
 intro i a b ha hb
 by_cases hi : i + 1 < l.length
 ·rw [List.getElem?_append_left hi] at hb;rw [List.getElem?_append_left (by omega)] at ha;exact h i a b ha hb
 ·have hlt : i + 1 < (l ++ [x]).length:=(List.getElem?_eq_some_iff.1 hb).1;rw [List.length_append,List.length_singleton] at hlt;have hil : i + 1 = l.length:=(by omega);rw [hil,List.getElem?_append_right (Nat.le_refl _),Nat.sub_self] at hb;simp at hb;subst hb;rw [List.getElem?_append_left (by omega)] at ha;have hne : l ≠ []:=(by intro h; rw [h] at hil; simp at hil);have:=hx hne;unfold zjt at this;rw [List.getLast?_eq_getElem?,show l.length - 1 = i by omega,ha] at this;exact this
theorem zdt : ∀ (L : List (Int × List UInt8)) (st : StU),Rise st.out -> st.was = zjt st.out -> (∀ f,st.op = some f -> st.was < f.fr) -> Rise (rowsW st L).1.out
 | [],st,h,_,_ => h
 | p :: L,st,h,hw,hf => by
  by_cases he : (takeS st p.2).2 = 0
  ·rw [zdu he];rcases take_cases he with ⟨f,hop,hc,hh⟩ | ⟨_,hlt,hh | hh⟩
   ·rw [hh];refine zdt L _ (h.snoc fun _ => ?_) (by rw [zgy]; rfl) (fun f h => by simp at h);have:=hf f hop;rw [hw] at this;exact this
   ·rw [hh];exact zdt L _ h hw (fun f h => by injection h with h; subst h; exact hlt)
   ·rw [hh];refine zdt L _ (h.snoc fun _ => ?_) (by rw [zgy,parse_up]) (fun f h => by simp at h);rw [hw] at hlt;exact hlt
  ·rw [zer he];exact h
theorem rows_rise (s : List UInt8) : Rise (rowsS s).1:=by
 have hn : Rise []:=fun i a b ha => by simp at ha
 unfold rowsS endU;split
 ·exact hn
 ·split
  ·exact hn
  ·split
   ·exact hn
   ·exact zdt _ _ hn rfl (fun f h => by simp at h)
def SetV (l : List Int) : Prop:=(∀ z ∈ l,zaj z = true) /\ l.Nodup
theorem zn8 : ∀ (n : Nat) (out : List Int) (r : Int),SetV out -> (∀ z ∈ out,z < r \/ r + n <= z) -> SetV (addW out r n).1
 | 0,out,r,h,_ => h
 | n + 1,out,r,h,hz => by
  have h2 : SetV (addO out r) /\ ∀ z ∈ addO out r,z < r + 1 \/ r + 1 + n <= z:=by
   unfold addO;split
   ·rename_i hs;refine ⟨⟨fun z hz => ?_,?_⟩,fun z hm => ?_⟩
    ·rcases List.mem_append.1 hz with hz | hz
     ·exact h.1 z hz
     ·rw [List.mem_singleton] at hz; subst hz; exact hs
    ·rw [List.nodup_append];refine ⟨h.2,by simp,fun a ha b hb => ?_⟩;rw [List.mem_singleton] at hb;subst hb;have:=hz a ha;omega
    ·rcases List.mem_append.1 hm with hm | hm
     ·have:=hz z hm; omega
     ·rw [List.mem_singleton] at hm; subst hm; left; omega
   ·exact ⟨h,fun z hm => by have:=hz z hm; omega⟩
  by_cases hl : 4096 < (addO out r).length
  ·rw [zhh hl];exact h2.1
  ·rw [ziu hl];exact zn8 n _ _ h2.1 h2.2
theorem setStep_v {out : List Int} {l : List UInt8} (h : SetV out) : SetV (zav out l).1:=by
 unfold zav setR;split
 ·exact h
 ·rename_i h1;split
  ·exact h
  ·rename_i h2;split
   ·exact h
   ·unfold zhp;obtain ⟨k1,k2,k3⟩:=zjf (l:=fldS l) (by simpa using h1);refine zn8 _ _ _ h (fun z hz => ?_)
    have hb : betw (zbe (fldS l)).1 (zbe (fldS l)).2.1 z = false:=by
     rw [Bool.not_eq_true,List.any_eq_false] at h2;simpa using h2 z hz
    unfold betw at hb;simp at hb;omega
theorem zmm : ∀ (ls : List (Int × List UInt8)) (out : List Int),SetV out -> SetV (setsW out ls).1
 | [],out,h => h
 | p :: ls,out,h => by
  by_cases he : (zav out p.2).2 = 0
  ·rw [ze7 he];exact zmm ls _ (setStep_v h)
  ·rw [zc5 he];exact ⟨fun z hz => by simp at hz,by simp⟩
theorem sets_v (s : List UInt8) : (∀ z ∈ (setsS s).1,zaj z = true) /\ (setsS s).1.Pairwise (· < ·):=by
 unfold setsS setsE;split
 ·simp
 ·obtain ⟨h1,h2⟩:=zmm (zbj s).1 [] ⟨fun z hz => by simp at hz,by simp⟩;generalize (setsW [] (zbj s).1).1 = out at *;refine ⟨fun z hz => h1 z ((zdp out).mem_iff.1 hz),?_⟩;have hs:=srt_sorted out;have hn : (srt out).Nodup:=(zdp out).nodup_iff.2 h2;show (srt out).Pairwise (· < ·);have:=hs.and hn;exact this.imp (fun ⟨h,k⟩ => by omega)
end
section
open Go.RowKit Go.Lib Go.Maps Go.Sort Go.Shelf
attribute [local go_sem] Oper.semAt_some
abbrev Ok32 (ok : Int -> Prop):={x : Int // ok x}
section
variable {ok : Int -> Prop}
theorem values1S_in (F : Fence) (n : Nat) (hf : F.fn 114) (hro : F.round = none) (hn : 1 <= n) (l Bs b len cap : Nat) (ks : List (Ok32 ok)) (hlen : ks.length = len) (hreach : len <= 100000000) (J Jx : List (Ok32 ok) -> World -> Prop) (W : World)
  (hY : ∀ pre x W,J pre W -> pre.length < len -> YieldAt F (n - 1) Tryz.prog l #[runeV x.1] W fun e W' =>
   (e = .returned (.bool true) /\ J (pre ++ [x]) W' /\ KpV b W W') \/ (e = .returned (.bool false) /\ Jx (pre ++ [x]) W'))
  (hBs : W.cell? ⟨Bs,0,none⟩ = some (.slice (some ⟨b,0,none⟩) len cap)) (hc : ∀ j u,(Rs (ks.map (·.1)))[j]? = some u -> W.cell? ⟨b,0 + j,none⟩ = some u) (h0 : J [] W) :
  CallsIn F n Tryz.prog 114 #[.func (.yield l) #[] #[],.pointer (some ⟨Bs,0,none⟩)] W fun e W' => (∃ v,e = .returned v) /\
   ((∃ ys,ys = ks /\ J ys W') \/ (∃ pre,pre <+: ks /\ Jx pre W')):=by
 refine callsIn_of_wp Tryz.func114 rfl hf ?_ hro;simp only [Tryz.ntmps114,List.size_toArray,List.length_cons,List.length_nil,Nat.reduceAdd,Nat.reduceSub,Array.replicate_succ,Array.replicate_zero,List.push_toArray,List.append_toArray,List.nil_append,List.cons_append]
 gi_wp2
 gi_loopw [7] (fun i wr => ∃ k : Nat,k <= len /\ i = .int .i64 k /\ J (ks.take k) wr /\ KpV b W wr)
  (fun i _ => len - (intOf i).toNat)
 case atStart => exact ⟨0,Nat.zero_le _,rfl,h0,KpV.refl _ _⟩
 case round =>
  obtain ⟨k,hk,rfl,hJs,hnx⟩:=hrel
  by_cases hlt : k < len
  ·obtain ⟨x,hx⟩ : ∃ x,ks[k]? = some x:=⟨_,List.getElem?_eq_getElem (by omega)⟩
   have c0 : wr.cell? ⟨b,k,none⟩ = some (.int .i32 x.1):=by
    have:=hnx.cell.trans (hc k (.int .i32 x.1) (by simp [Rs,hx]));simpa using this
   have hkk : (k : Int) < (len : Int):=(by omega);have hLk : ks.take (k + 1) = ks.take k ++ [x]:=(by rw [List.take_add_one]; simp [hx]);have HLK:=hz0q hLk;have hll : (ks.take k).length < len:=(by rw [List.length_take]; omega);have HX:=hz0q (And.intro hx hll);obtain ⟨fn,tmps,assign,body,hy,hR⟩:=hY _ x _ hJs hll;dsimp only [runeV] at hy;clear hx hLk hc hll hY
   gi_wp2
   try rw [hy]
   gi_wp2
   refine hR.mono ?_;rintro e W3 (⟨rfl,hJ3,hk3⟩ | ⟨rfl,hJx3⟩)
   ·rw [<- HLK.out] at hJ3;have hn3:=hnx.trans hk3;clear hk3 hnx hR hy
    gi_wp2
    go_roundw
    case rel => exact ⟨k + 1,by omega,by simp,hJ3,hn3⟩
    case measure => simp [intOf]; omega
   ·rw [<- HLK.out] at hJx3;clear hnx hR hy
    gi_wp2
    refine bodyPost_ret (results_none rfl _ _ _) rfl ?_;exact ⟨⟨_,rfl⟩,.inr ⟨_,List.take_prefix _ _,hJx3⟩⟩
  ·obtain rfl : k = len:=(by omega);have hki : (k : Int) <= (k : Int):=Int.le_refl _
   gi_wp2
   go_end0;exact ⟨⟨_,rfl⟩,.inl ⟨_,rfl,by rwa [List.take_of_length_le (by omega)] at hJs⟩⟩
theorem values1S_nil_in (F : Fence) (n : Nat) (hf : F.fn 114) (hro : F.round = none) (l Bs : Nat) (J : List (Ok32 ok) -> World -> Prop) (W : World) (hBs : W.cell? ⟨Bs,0,none⟩ = some (.slice none 0 0)) (h0 : J [] W) :
  CallsIn F n Tryz.prog 114 #[.func (.yield l) #[] #[],.pointer (some ⟨Bs,0,none⟩)] W fun e W' => (∃ v,e = .returned v) /\ J [] W':=by
 refine callsIn_of_wp Tryz.func114 rfl hf ?_ hro;simp only [Tryz.ntmps114,List.size_toArray,List.length_cons,List.length_nil,Nat.reduceAdd,Nat.reduceSub,Array.replicate_succ,Array.replicate_zero,List.push_toArray,List.append_toArray,List.nil_append,List.cons_append]
 gi_wp2
 gi_loopw [7] (fun p wr => p = .int .i64 0 /\ J [] wr) (fun _ _ => 0)
 case atStart => exact ⟨rfl,h0⟩
 case round =>
  obtain ⟨rfl,hj⟩:=hrel
  gi_wp2
  go_end0;exact ⟨⟨_,rfl⟩,hj⟩
theorem zem (F : Fence) (n : Nat) (hf : F.fn 114) (hro : F.round = none) (hn : 1 <= n) (g Bs : Nat) (ks : List (Ok32 ok)) (hreach : ks.length <= 100000000) (w : World) (h : ItAt w g Bs (ks.map (·.1))) :
  SeqStopsK F n Tryz.prog 114 #[.pointer (some ⟨Bs,0,none⟩)] (fun x : Ok32 ok => #[runeV x.1]) (KpV g) (fun ys => ys = ks) (fun pre => pre <+: ks) ks.length w:=fun l J Jx W hW hJa _ hY h0 => by
 obtain ⟨h1,h2⟩:=h;rcases h2 with ⟨e,h2⟩ | ⟨h2,cap,h3,h4⟩
 ·obtain rfl : ks = []:=List.map_eq_nil_iff.1 e;exact (values1S_nil_in F n hf hro l Bs J W ((hW.cell (p:=⟨Bs,0,none⟩) h1).trans h2) h0).mono fun e W' ⟨he,hj⟩ => ⟨he,.inl ⟨_,rfl,hj⟩⟩
 ·rw [List.length_map] at h3;exact values1S_in F n hf hro hn l Bs g ks.length cap ks rfl hreach J Jx W hY ((hW.cell (p:=⟨Bs,0,none⟩) h1).trans h3) (fun j u hu => (hW.cell (p:=⟨g,0 + j,none⟩) h2).trans (h4 j u hu)) h0
end
end
end Go.Proofs.YtolcabjkbefjgaaGreatDoor
