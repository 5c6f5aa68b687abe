/- charset.New: where it comes back without an error, its texts are good; what there was stands. -/
import Derived.Laws.Cover4
import Derived.Test.YtolcabjkbefjgaaGreatDoorY37
import Derived.Test.YtolcabjkbefjgaaGreatDoorY38
set_option linter.unusedSimpArgs false
set_option linter.unusedVariables false
set_option maxRecDepth 20000
set_option maxHeartbeats 4000000
namespace Go.Proofs.YtolcabjkbefjgaaGreatDoor
section
open Go.RowKit Go.Lib Go.Maps
def zkj (w : World) (e : Ending) (w' : World) : Prop:=(∃ (x : Option Addr) (l k : Int),e = .returned (.tuple #[.pointer x,.int .i64 l,.int .i64 k]) /\ (k = 0 -> ∃ (c : Nat) (cs : Array Value) (mt mh m n : Nat) (T : TxC) (H : HdC),x = some ⟨c,0,none⟩ /\ ChsM w' c cs mt mh m n T H /\ GoodT T)) /\ Below w.heap.size w w'
theorem atsT : Tryz.prog.underlying 207 = some (.map 9 3):=by kernel_rfl
theorem nk_lt (k : Nat) : (k : Int) < ((k + 1 : Nat) : Int):=by omega
theorem zkx {α β : Type} {P : Program} {K : TypeId} {lit : α -> Lit} {ok : α -> Prop} {mkV : β -> Value} {w w' : World} {b n bx : Nat} {f : α -> Option β} {cs : Array Value} {t : TypeId} (h : w.heap[bx]? = some (.cells cs t (0,0))) (hm : MapF w P K lit ok mkV b n f) (hg : w.grownBy w' (some b)) : w'.heap[bx]? = some (.cells cs t (0,0)) :=
 (hg.block bx (za5 h) (fun e => hm.ne_cells h (Option.some.inj e).symm)).trans h
theorem own_map {α β : Type} {P : Program} {K : TypeId} {lit : α -> Lit} {ok : α -> Prop} {mkV : β -> Value} {w w' : World} {b n base kk k : Nat} {f : α -> Option β} {e : TypeId} {v : Value} {xs : List Value} (h : w.ownsRow base e kk v k xs) (hm : MapF w P K lit ok mkV b n f) (hg : w.grownBy w' (some b)) : w'.ownsRow base e kk v k xs :=
 z8 h (fun j cur fr hj => (hg.block j (Array.getElem?_eq_some_iff.1 hj).1 (fun e => hm.ne_cells hj (Option.some.inj e).symm)).trans hj)
theorem NwI.all_alloc {w0 w : World} {c mt mh ma m n na nb nk : Nat} {cs : Array Value} {T : TxC} {H : HdC} {Aa : Option Addr} {ca : Nat} {ks : List KY} (h : NwI w0 c mt mh ma cs T H m n na nb Aa ca ks w) (hn : nk = ks.length) (o : Obj) : (w.alloc o).ownsRow w0.heap.size 211 4 (.slice Aa nk ca) nk (Kys ks):=by
 subst hn;exact h.all.alloc o
theorem four_one {a : Value} {s1 s2 : ByteArray} {z : Int} (h : a.oneCell' = true) : ∀ u ∈ [a,.string s1,.string s2,.int .i64 z],u.oneCell' = true:=by
 intro u hu;simp at hu;rcases hu with rfl | rfl | rfl | rfl
 ·exact h
 all_goals rfl
theorem zkj.bad {w w' : World} {k l : Int} (hk : k ≠ 0) (hb : Below w.heap.size w w') : zkj w (.returned (.tuple #[.pointer none,.int .i64 l,.int .i64 k])) w':=⟨⟨none,l,k,rfl,fun e => absurd e hk⟩,hb⟩
section
variable {w : World} {p : Option Addr} {B : BaseF}
theorem chnew_any (hB : Hid (∀ W,Below w.heap.size w W -> zac W (.pointer p) B /\ Kinds W)) (hTab : Hid (∀ W,Below w.heap.size w W -> TabsU W)) (hbd : zap B) (hoR : ∀ c r,R32 r -> ∀ y ∈ B.one c r,R32 y)
  (A : Option Addr) (n cp : Nat) (rs : List MR) (hR : ArgMR w A n rs) (hn40 : n <= 40) (h200 : ∀ r ∈ rs,r.cd.size <= 200 /\ r.tx.size <= 200) :
  Calls Tryz.prog 44 #[wlV p,.slice A n cp] w (zkj w):=by
 have CL:=mrclone_any A n cp rs w hR hn40;have HRR:=hz0q hR;have H200:=hz0q h200;have HOR:=hz0q (And.intro hbd hoR);have qn : ∀ w : World,(binOp .eql 199 (wlV p) .nilIface).run Tryz.prog w = .ok (.bool false) w:=fun _ => rfl;have q40 : ¬ ((4096 : Int) < (n : Int)):=(by omega);have hmm:=@run_makeMap Tryz.prog;clear hR h200 hbd hoR;go_enter Tryz.func44,Tryz.ntmps44;go_wp2_with fail;refine CL.mono ?_;rintro e w1 ⟨⟨A2,n2,c2,rfl⟩,hb1⟩;clear CL;obtain ⟨mt,hmt⟩ : ∃ mt,w1.heap.size = mt:=⟨_,rfl⟩;obtain ⟨W1,hW1⟩ : ∃ W1,w1.alloc (.map #[] 0) = W1:=⟨_,rfl⟩;obtain ⟨mh,hmh⟩ : ∃ mh,W1.heap.size = mh:=⟨_,rfl⟩;obtain ⟨W2,hW2⟩ : ∃ W2,W1.alloc (.map #[] 0) = W2:=⟨_,rfl⟩;obtain ⟨c,hc⟩ : ∃ c,W2.heap.size = c:=⟨_,rfl⟩;obtain ⟨W3,hW3⟩ : ∃ W3,W2.alloc (.cells #[.pointer none,wlV p,.slice A2 n2 c2,.map (some mt),.map (some mh),.slice none 0 0,.slice none 0 0] 206) = W3:=⟨_,rfl⟩;obtain ⟨ma,hma⟩ : ∃ ma,W3.heap.size = ma:=⟨_,rfl⟩;obtain ⟨W4,hW4⟩ : ∃ W4,W3.alloc (.map #[] 0) = W4:=⟨_,rfl⟩;have z0:=hb1.size;have z1 : W1.heap.size = w1.heap.size + 1:=(by rw [<- hW1]; simp);have z2 : W2.heap.size = W1.heap.size + 1:=(by rw [<- hW2]; simp);have z3 : W3.heap.size = W2.heap.size + 1:=(by rw [<- hW3]; simp);have b1 : Below w1.heap.size w1 W1:=(by rw [<- hW1]; exact (Below.refl _ _).alloc (Nat.le_refl _) _);have b2 : Below W1.heap.size W1 W2:=(by rw [<- hW2]; exact (Below.refl _ _).alloc (Nat.le_refl _) _);have b3 : Below W2.heap.size W2 W3:=by rw [<- hW3]; exact (Below.refl _ _).alloc (Nat.le_refl _) _
 have b4 : Below W3.heap.size W3 W4:=(by rw [<- hW4]; exact (Below.refl _ _).alloc (Nat.le_refl _) _);have m1 : MapF W1 Tryz.prog 9 zbv StrOk strV mt 0 (fun _ => none):=(by rw [<- hW1,<- hmt]; exact MapF.made _ _ _ _ _ _);have m2 : MapF W2 Tryz.prog 9 zbv StrOk boolV mh 0 (fun _ => none):=(by rw [<- hW2,<- hmh]; exact MapF.made _ _ _ _ _ _);have m4 : MapF W4 Tryz.prog 9 zbv StrOk intV ma 0 (fun _ => none):=(by rw [<- hW4,<- hma]; exact MapF.made _ _ _ _ _ _);have x3 : W3.heap[c]? = some (.cells #[.pointer none,wlV p,.slice A2 n2 c2,.map (some mt),.map (some mh),.slice none 0 0,.slice none 0 0] 206 (0,0)):=by rw [<- hW3,<- hc]; exact zm _ _ _
 have HI0 : Hid (NwI w c mt mh ma #[.pointer none,wlV p,.slice A2 n2 c2,.map (some mt),.map (some mh),.slice none 0 0,.slice none 0 0] (fun _ => none) (fun _ => none) 0 0 0 0 none 0 [] W4) :=
  ⟨zb (zb (zb (zb hb1 b1) b2) b3) b4,⟨zd x3 b4,rfl,rfl,m1.below (zb (zb b2 b3) b4) m1.lt,m2.below (zb b3 b4) m2.lt⟩,⟨_,m4,fun s v h => (by cases h)⟩,World.ownsRow_nil _ _ _ _,fun x h => (by cases h),fun s t h => (by cases h),⟨by omega,by omega,by omega,by omega⟩,⟨by omega,by omega,by omega⟩⟩
 clear z0 z1 z2 z3 b1 b2 b3 b4 m1 m2 m4 x3 hb1;go_wp2_with fail;clear hW1 hW2 hW3 hW4 hmt hmh hc hma hmm
 go_loopw [9,37] (fun v9 v37 wr => ∃ (i nk m nn na : Nat) (Aa : Option Addr) (ca : Nat) (ks : List KY) (T : TxC) (H : HdC),v9 = .slice Aa nk ca /\ v37 = .int .i64 i /\ i <= n /\ nk <= i /\ m <= i /\ nn <= 4 * i /\ na <= i /\ Hid (nk = ks.length) /\ Hid (NwI w c mt mh ma #[.pointer none,wlV p,.slice A2 n2 c2,.map (some mt),.map (some mh),.slice none 0 0,.slice none 0 0] T H m nn na nk Aa ca ks wr)) (fun _ v37 _ => n - (intOf v37).toNat)
 case atStart => exact ⟨0,0,0,0,0,none,0,[],_,_,rfl,rfl,Nat.zero_le _,Nat.le_refl _,Nat.le_refl _,Nat.le_refl _,Nat.le_refl _,hz0q rfl,HI0⟩
 case round =>
  obtain ⟨i,nk,m,nn,na,Aa,ca,ks,T,H,rfl,rfl,hin,hnk,hm,hnn,hna,HNK,HI⟩:=hrel;obtain ⟨wo,rfl⟩ : ∃ wo,wo = wr:=⟨wr,rfl⟩
  by_cases hlt : i < n
  ·have hii : (i : Int) < (n : Int):=(by omega);obtain ⟨bk,ok,⟨cd,tx,fl⟩,rfl,hr,k0,k1,k2⟩:=(HRR.out.below HI.out.bel).at_ hlt;dsimp only at k0 k1 k2;have HSZ:=hz0q (H200.out _ (List.mem_of_getElem? hr));clear hr;obtain ⟨bx,hbx⟩ : ∃ bx,wo.heap.size = bx:=⟨_,rfl⟩;obtain ⟨Wb,hWb⟩ : ∃ Wb,wo.alloc (.cells (mrC ⟨cd,tx,fl⟩) 197) = Wb:=⟨_,rfl⟩;have hbb : Below wo.heap.size wo Wb:=(by rw [<- hWb]; exact (Below.refl _ _).alloc (Nat.le_refl _) _);have hxb : Wb.heap[bx]? = some (.cells (mrC ⟨cd,tx,fl⟩) 197 (0,0)):=(by rw [<- hWb,<- hbx]; exact zm _ _ _);have HIb:=hz0q (HI.out.below hbb);have HBb:=hz0q HIb.out.bel;have ROW:=row_any (p:=p) (B:=B) HIb.out.ch HIb.out.ne.1 HIb.out.good rfl cd tx fl HSZ.out.2 (by omega) (by omega) (hz0q fun W hW => hTab.out W (zb HBb.out hW)) (hz0q fun W hW => hB.out W (zb HBb.out hW)) HOR.out.1 HOR.out.2;have HXB:=hz0q hxb;have d0:=za hxb 0 rfl;have d1:=za hxb 1 rfl;have d2:=za hxb 2 rfl;clear hbb hxb HI;go_wp2_with fail;refine ROW.mono ?_;rintro e w2 ⟨k,A',n',c',zs,T',H',m',n'',rfl,h18,hzn,hzR,hown,hnil,hnc,hch,hgT,hm',hn',hw2⟩;have HI2:=hz0q (HIb.out.rowed hw2 hch hgT)
   have HX2 : Hid (w2.heap[bx]? = some (.cells (mrC ⟨cd,tx,fl⟩) 197 (0,0))):=hw2.blk HXB.out (fun hS => by
    rcases hS with hS | hS
    ·exact HIb.out.ch.t.ne_cells HXB.out hS.symm
    ·exact HIb.out.ch.h.ne_cells HXB.out hS.symm)
   have HOW : Hid (w2.ownsRow w.heap.size 21 1 (.slice A' n' c') n' (Rs zs)):=zax hown HBb.out.size;have HZ:=hz0q (And.intro hzn hzR);clear d0 d1 d2 ROW hown hch hgT hw2 k0 k1 k2 hWb hbx HIb HBb HXB hnil hnc hzn hzR
   by_cases hk0 : k = 0
   ·subst hk0;have h18:=h18 rfl;have d0:=za HX2.out 0 rfl;have d1:=za HX2.out 1 rfl;have d2:=za HX2.out 2 rfl
    by_cases hf3 : fl = 3
    ·subst hf3;go_wp2;go_roundw
     case rel => exact ⟨i + 1,nk,m',n'',na,Aa,ca,ks,T',H',rfl,by go_num,by omega,by omega,by omega,by omega,by omega,HNK,HI2⟩
     case measure => simp [intOf] <;> omega
    ·have qf : (fl == 3) = false:=by simpa using hf3
     obtain ⟨s,hcv,hs⟩ : ∃ s,(convert 42 9 (.slice A' n' c')).run Tryz.prog w2 = .ok (.string s) w2 /\ StrOk s:=by
      cases A' with
      | none => exact ⟨.empty,run_convert_runes_nil w2 _ _ 21 n' c' Tryz.underlying42 Tryz.underlying21 Tryz.underlying9,by show _ <= maxLen; unfold maxLen; simp⟩
      | some a =>
       obtain ⟨A1,c1,e0,_,_,hrd⟩:=Rd.of_own HOW.out;injection e0 with e0;subst e0;refine ⟨_,run_convert_runes w2 _ _ 21 a n' c' zs (by rw [HZ.out.1]; exact Nat.le_refl _) Tryz.underlying42 Tryz.underlying21 Tryz.underlying9 (fun j hj => ?_),?_⟩
       ·obtain ⟨b',off',e1,_,hc⟩:=hrd.at_ (by have:=HZ.out.1; omega);injection e1 with e1;subst e1;have:=hc j (.int .i32 zs[j]) (by rw [Rs,List.getElem?_map,List.getElem?_eq_getElem hj]; rfl);rw [show (⟨b',off',none⟩ : Addr).add j = ⟨b',off' + j,none⟩ by simp [Addr.add],this];simp [List.getD,List.getElem?_eq_getElem hj]
       ·have h1:=runesBytes_size_le (zs.take n');have h2 : (zs.take n').length <= n':=(by simp; omega);show _ <= maxLen;unfold maxLen;omega
     obtain ⟨fa,hfa,hfab⟩:=HI2.out.at_;have hnax : na < maxLen:=by unfold maxLen; omega
     cases hx : fa s with
     | none =>
      have HFB:=hz0q hfab;have hall0 : ∀ W,Below w2.heap.size w2 W -> True:=fun _ _ => trivial;clear hfab hall0;go_wp2_with (first | (at_lookup; refine zj rfl _ _ rfl zah atsT (zaw _) hfa (k:=s) hs rfl rfl ?_; rw [hx]) | (refine zbk rfl _ _ _ rfl zah atsT hnax hfa (k:=s) hs (nk : Int) rfl rfl rfl ?_; intro w3 hm3 hg3 hs3; have e0:=za (zkx HX2.out hfa hg3) 0 rfl; have e1:=za (zkx HX2.out hfa hg3) 1 rfl; have e2:=za (zkx HX2.out hfa hg3) 2 rfl; have HI3:=hz0q (HI2.out.atPut HFB.out hm3 hg3 (Int.natCast_nonneg nk) (nk_lt nk) (Nat.le_succ nk)); have HO3:=hz0q (own_map HOW.out hfa hg3); clear d0 d1 d2 hfa hm3 hg3 hs3 hcv) | (at_builtin; refine zcp krElem _ rfl _ _ rfl w.heap.size rfl (HI3.out.all_alloc HNK.out _) rfl (RdK.new _ _ 1 _ rfl) (four_one rfl) (by omega) (by decide) (by have:=HI3.out.bel.size; simp; omega) ?_; intro A9 c9 w9 hown9 hg9 hat9) | go_in)
      go_roundw
      case rel => exact ⟨i + 1,nk + 1,m',n'',na + 1,A9,c9,ks ++ [((zs,A',c'),⟨cd,tx,fl⟩)],T',H',rfl,by go_num,by omega,by omega,by omega,by omega,by omega,hz0q (by rw [List.length_append,<- HNK.out]; rfl),hz0q ((HI3.out.below ((Below.refl _ _).alloc (Nat.le_refl _) _)).allApp' (cd:=cd) (tx:=tx) (fl:=fl) HNK.out HZ.out.1 (HO3.out.alloc _) ⟨by assumption,HZ.out.2,HSZ.out.1⟩ hown9 hg9)⟩
      case measure => simp [intOf] <;> omega
     | some jv =>
      obtain ⟨hj0,hjn⟩:=hfab s jv hx;obtain ⟨j,rfl⟩ : ∃ j : Nat,jv = (j : Int):=⟨jv.toNat,by omega⟩;have hjn : j < nk:=(by omega);have hjz : (j : Int) < (nk : Int):=(by omega);obtain ⟨g,cg,hv,_,_⟩:=HI2.out.all.form (by have:=HNK.out; omega);injection hv with hv1 hv2 hv3;subst hv1 hv3;obtain ⟨x,hxk⟩ : ∃ x,ks[j]? = some x:=⟨_,List.getElem?_eq_getElem (by have:=HNK.out; omega)⟩;obtain ⟨_,hy1,hy2,hy3⟩:=zob hxk;have hjl : j * 4 + 3 < ks.length * 4:=(by have:=HNK.out; omega);have ca1:=(HI2.out.all.cellAt (j * 4 + 1) (by omega)).trans hy1;have ca2:=(HI2.out.all.cellAt (j * 4 + 2) (by omega)).trans hy2;have ca3:=(HI2.out.all.cellAt (j * 4 + 3) (by omega)).trans hy3;have fr:=HI2.out.all.frozenAt;have HCA:=hz0q (And.intro ca1 (And.intro ca2 ca3));have HXK:=hz0q hxk;have HXS:=hz0q (HI2.out.into x (List.mem_of_getElem? hxk)).2.2.2;have BT:=fun W => better_any ⟨cd,tx,fl⟩ x.2 HSZ.out.1 HXS.out W;have HBT:=hz0q BT;clear hfab hj0 hv2 hxk hy1 hy2 hy3 hjl ca1 ca2 ca3 BT;go_upto_region 19 with (first | (at_lookup; refine zj rfl _ _ rfl zah atsT (zaw _) hfa (k:=s) hs rfl rfl ?_; rw [hx]) | go_in)
      (try simp only [Act.put,gD,gE,gF])
      have HS0 : Hid (Below w2.heap.size w2 w2.drew):=(show Drew w2 w2.drew from ⟨1,rfl⟩).to
      refine wp_region_held_drew (S:=fun w' => Below w2.heap.size w2 w') (by kernel_rfl) (HS0.out) (fun hH0 => ?_);refine wpAnyH_take (i:=0) (v:=mrV ⟨cd,tx,fl⟩) rfl (by kernel_rfl) (by kernel_rfl) (by kernel_rfl) (fun _ _ _ h => h) (Or.inl ⟨by kernel_rfl,?_⟩) hH0 ?_
      ·intro w hSw;have s1:=hSw;have e0:=za (zd HX2.out s1) 0 rfl;have e1:=za (zd HX2.out s1) 1 rfl;have e2:=za (zd HX2.out s1) 2 rfl;have f1:=ze HCA.out.1 s1;have f2:=ze HCA.out.2.1 s1;have f3:=ze HCA.out.2.2 s1;go_simp
       all_goals try first | with_reducible rfl | (intro hq; exfalso; omega) | omega
      try simp only [gA,gB,gC,Act.put,gD,gE,gF]
      refine wpAnyH_take (i:=1) (v:=.slice (some ⟨g,0,none⟩) nk ca) rfl (by kernel_rfl) (by kernel_rfl) (by kernel_rfl) (fun _ _ _ h => h) (Or.inl ⟨by kernel_rfl,?_⟩) hH0 ?_
      ·intro w hSw;have s1:=hSw;have e0:=za (zd HX2.out s1) 0 rfl;have e1:=za (zd HX2.out s1) 1 rfl;have e2:=za (zd HX2.out s1) 2 rfl;have f1:=ze HCA.out.1 s1;have f2:=ze HCA.out.2.1 s1;have f3:=ze HCA.out.2.2 s1;go_simp
       all_goals try first | with_reducible rfl | (intro hq; exfalso; omega) | omega
      try simp only [gA,gB,gC,Act.put,gD,gE,gF]
      refine wpAnyH_take (i:=2) (v:=.int .i64 (j : Int)) rfl (by kernel_rfl) (by kernel_rfl) (by kernel_rfl) (fun _ _ _ h => h) (Or.inl ⟨by kernel_rfl,?_⟩) hH0 ?_
      ·intro w hSw;have s1:=hSw;have e0:=za (zd HX2.out s1) 0 rfl;have e1:=za (zd HX2.out s1) 1 rfl;have e2:=za (zd HX2.out s1) 2 rfl;have f1:=ze HCA.out.1 s1;have f2:=ze HCA.out.2.1 s1;have f3:=ze HCA.out.2.2 s1;go_simp
       all_goals try first | with_reducible rfl | (intro hq; exfalso; omega) | omega
      try simp only [gA,gB,gC,Act.put,gD,gE,gF]
      refine wpAnyH_take (i:=3) (v:=.pointer (some ⟨g,j * 4,none⟩)) rfl (by kernel_rfl) (by kernel_rfl) (by kernel_rfl) (fun _ _ _ h => h) (Or.inl ⟨by kernel_rfl,?_⟩) hH0 ?_
      ·intro w hSw;have s1:=hSw;have e0:=za (zd HX2.out s1) 0 rfl;have e1:=za (zd HX2.out s1) 1 rfl;have e2:=za (zd HX2.out s1) 2 rfl;have f1:=ze HCA.out.1 s1;have f2:=ze HCA.out.2.1 s1;have f3:=ze HCA.out.2.2 s1;go_simp
       all_goals try first | with_reducible rfl | (intro hq; exfalso; omega) | omega
      try simp only [gA,gB,gC,Act.put,gD,gE,gF]
      refine wpAnyH_take (i:=4) (v:=.pointer (some ⟨g,j * 4 + 1,none⟩)) rfl (by kernel_rfl) (by kernel_rfl) (by kernel_rfl) (fun _ _ _ h => h) (Or.inl ⟨by kernel_rfl,?_⟩) hH0 ?_
      ·intro w hSw;have s1:=hSw;have e0:=za (zd HX2.out s1) 0 rfl;have e1:=za (zd HX2.out s1) 1 rfl;have e2:=za (zd HX2.out s1) 2 rfl;have f1:=ze HCA.out.1 s1;have f2:=ze HCA.out.2.1 s1;have f3:=ze HCA.out.2.2 s1;go_simp
       all_goals try first | with_reducible rfl | (intro hq; exfalso; omega) | omega
      try simp only [gA,gB,gC,Act.put,gD,gE,gF]
      refine wpAnyH_take (i:=5) (v:=mrV x.2) rfl (by kernel_rfl) (by kernel_rfl) (by kernel_rfl) (fun _ _ _ h => h) (Or.inl ⟨by kernel_rfl,?_⟩) hH0 ?_
      ·intro w hSw;have s1:=hSw;have e0:=za (zd HX2.out s1) 0 rfl;have e1:=za (zd HX2.out s1) 1 rfl;have e2:=za (zd HX2.out s1) 2 rfl;have f1:=ze HCA.out.1 s1;have f2:=ze HCA.out.2.1 s1;have f3:=ze HCA.out.2.2 s1;go_simp
       all_goals try first | with_reducible rfl | (intro hq; exfalso; omega) | omega
      try simp only [gA,gB,gC,Act.put,gD,gE,gF]
      refine wpAnyH_ready (rs:=[6]) (by kernel_rfl) (by simp) ?_;refine AllReadyH.cons rfl (fun K hK => ?_) AllReadyH.nil;go_simp
      refine (HBT.out _).mono ?_;rintro e w50 ⟨⟨kb,rfl⟩,hb5⟩;refine hK.out _ _ (zb hH0 hb5) (fun hH1 => ?_);clear hK K hH0;try simp only [gA,gB,gC,Act.put,gD,gE,gF]
      refine wpAnyH_done (by kernel_rfl) ?_ _;have HI5:=hz0q (HI2.out.below hH1);have d0:=za (zd HX2.out hH1) 0 rfl;have d1:=za (zd HX2.out hH1) 1 rfl;have d2:=za (zd HX2.out hH1) 2 rfl;have f1:=ze HCA.out.1 hH1;have f2:=ze HCA.out.2.1 hH1;have f3:=ze HCA.out.2.2 hH1;have fr:=HI5.out.all.frozenAt;clear hH1 hb5 hcv hfa HS0
      cases kb with
      | false =>
       go_wp2;go_roundw
       case rel => exact ⟨i + 1,nk,m',n'',na,_,ca,ks,T',H',rfl,by go_num,by omega,by omega,by omega,by omega,by omega,HNK,HI5⟩
       case measure => simp [intOf] <;> omega
      | true =>
       go_wp2;go_roundw
       case rel => exact ⟨i + 1,nk,m',n'',na,_,ca,ks.set j (x.1,⟨cd,tx,fl⟩),T',H',rfl,by go_num,by omega,by omega,by omega,by omega,by omega,hz0q (by rw [List.length_set]; exact HNK.out),hz0q (HI5.out.bestPut rfl HNK.out HXK.out HSZ.out.1 (r:=⟨cd,tx,fl⟩) rfl rfl rfl)⟩
       case measure => simp [intOf] <;> omega
   ·have q0 : (k != 0) = true:=(by simp [hk0]);clear h18;go_wp2;go_returns;exact zkj.bad hk0 HI2.out.bel
  ·obtain rfl : i = n:=(by omega);have hii : ¬ ((i : Int) < (i : Int)):=(by omega);have HK0:=hz0q (HI.out.kws HNK.out);clear HI;go_wp2_with fail
   go_loopw [91] (fun v91 wr => ∃ (k : Nat) (Ak : Option Addr) (ck : Nat) (Ad : Option Addr) (cd : Nat),v91 = .int .i64 k /\ k <= nk /\ Hid (KwS w c mt mh m nn T H #[.pointer none,wlV p,.slice A2 n2 c2,.map (some mt),.map (some mh),.slice Ak k ck,.slice Ad k cd] Aa ca nk ks (.slice Ak k ck) k (Kl (ks.take k)) (.slice Ad k cd) k (Dl (ks.take k)) wr)) (fun v91 _ => nk - (intOf v91).toNat)
   case atStart => exact ⟨0,none,0,none,0,rfl,Nat.zero_le _,HK0⟩
   case round =>
    obtain ⟨k,Ak,ck,Ad,cd,rfl,hk,HK⟩:=hrel;obtain ⟨wq,rfl⟩ : ∃ wq,wq = wr:=⟨wr,rfl⟩
    by_cases hkn : k < nk
    ·have hki : (k : Int) < (nk : Int):=(by omega);obtain ⟨x,hxk⟩ : ∃ x,ks[k]? = some x:=⟨_,List.getElem?_eq_getElem (by have:=HNK.out; omega)⟩;obtain ⟨g,cg,hv,_,_⟩:=HK.out.all.form (by omega);injection hv with hv1 hv2 hv3;subst hv1 hv3;clear hv2;obtain ⟨hy0,hy1,hy2,hy3⟩:=zob hxk;have ca0:=(HK.out.all.cellAt (k * 4) (by omega)).trans hy0;have ca1:=(HK.out.all.cellAt (k * 4 + 1) (by omega)).trans hy1;have ca2:=(HK.out.all.cellAt (k * 4 + 2) (by omega)).trans hy2;have ca3:=(HK.out.all.cellAt (k * 4 + 3) (by omega)).trans hy3;obtain ⟨kA,kn,kc,hkx⟩ : ∃ a b c,laV x.1 = .slice a b c:=⟨_,_,_,rfl⟩;obtain ⟨sc,hsc⟩ : ∃ v,x.2.cd = v:=⟨_,rfl⟩;obtain ⟨st,hst⟩ : ∃ v,x.2.tx = v:=⟨_,rfl⟩;obtain ⟨sf,hsf⟩ : ∃ v,x.2.fl = v:=⟨_,rfl⟩;rw [hkx] at ca0;rw [hsc] at ca1;rw [hst] at ca2;rw [hsf] at ca3;obtain ⟨bq,hbq⟩ : ∃ bq,wq.heap.size = bq:=⟨_,rfl⟩;obtain ⟨Wq,hWq⟩ : ∃ Wq,wq.alloc (.cells #[.slice kA kn kc,.string sc,.string st,.int .i64 sf] 211) = Wq:=⟨_,rfl⟩;have hbb : Below wq.heap.size wq Wq:=(by rw [<- hWq]; exact (Below.refl _ _).alloc (Nat.le_refl _) _);have hxb : Wq.heap[bq]? = some (.cells #[.slice kA kn kc,.string sc,.string st,.int .i64 sf] 211 (0,0)):=(by rw [<- hWq,<- hbq]; exact zm _ _ _);have HXB:=hz0q hxb;have HKB:=hz0q (HK.out.below hbb);have HXK:=hz0q hxk;have HSC:=hz0q (And.intro hkx hsc);clear hy0 hy1 hy2 hy3 hxk hkx hsc hst hsf hbb hxb HK;go_upto_region 25 with fail;clear ca0 ca1 ca2 ca3 hWq hbq;(try simp only [Act.put,gD,gE,gF])
     have hKS:=hz0q (HKB.out.below (show Drew Wq Wq.drew from ⟨1,rfl⟩).to)
     have hHx : Wq.drew.heap[bq]? = some (.cells #[.slice kA kn kc,.string sc,.string st,.int .i64 sf] 211 (0,0)):=HXB.out;have HS0 : Hid (Wq.drew.heap[bq]? = some (.cells #[.slice kA kn kc,.string sc,.string st,.int .i64 sf] 211 (0,0)) /\ Wq.drew.cell? ⟨c,5,none⟩ = some (.slice Ak k ck) /\ Wq.drew.cell? ⟨c,6,none⟩ = some (.slice Ad k cd)):=⟨hHx,za hKS.out.ch.box 5 rfl,za hKS.out.ch.box 6 rfl⟩;refine till_start 21 (fun w' => w'.heap[bq]? = some (.cells #[.slice kA kn kc,.string sc,.string st,.int .i64 sf] 211 (0,0))) (fun w' => w'.cell? ⟨c,5,none⟩ = some (.slice Ak k ck) /\ w'.cell? ⟨c,6,none⟩ = some (.slice Ad k cd)) (by kernel_rfl) ?_;refine tkR 0 (.pointer (some ⟨c,0,none⟩)) HS0.out (hy:=?_) (h:=?_)
     ·intro w s;have s0:=za s 0 rfl;have s1:=za s 1 rfl;go_simp
      all_goals try first | with_reducible rfl | omega
     try simp only [gA,gB,gC,Act.put,gD,gE,gF]
     refine tkR 1 (.pointer (some ⟨c,0,none⟩)) HS0.out (hy:=?_) (h:=?_)
     ·intro w s;have s0:=za s 0 rfl;have s1:=za s 1 rfl;go_simp
      all_goals try first | with_reducible rfl | omega
     try simp only [gA,gB,gC,Act.put,gD,gE,gF]
     refine tkR 2 (.pointer (some ⟨c,0,none⟩)) HS0.out (hy:=?_) (h:=?_)
     ·intro w s;have s0:=za s 0 rfl;have s1:=za s 1 rfl;go_simp
      all_goals try first | with_reducible rfl | omega
     try simp only [gA,gB,gC,Act.put,gD,gE,gF]
     refine tkR 3 (.pointer (some ⟨c,0,none⟩)) HS0.out (hy:=?_) (h:=?_)
     ·intro w s;have s0:=za s 0 rfl;have s1:=za s 1 rfl;go_simp
      all_goals try first | with_reducible rfl | omega
     try simp only [gA,gB,gC,Act.put,gD,gE,gF]
     refine tkR 4 (.pointer (some ⟨c,5,none⟩)) HS0.out (hy:=?_) (h:=?_)
     ·intro w s;have s0:=za s 0 rfl;have s1:=za s 1 rfl;go_simp
      all_goals try first | with_reducible rfl | omega
     try simp only [gA,gB,gC,Act.put,gD,gE,gF]
     refine tkT 5 (.slice Ak k ck) HS0.out (hy:=?_) (h:=?_)
     ·intro w s;intro ⟨c5,c6⟩;have s0:=za s 0 rfl;have s1:=za s 1 rfl;go_simp
      all_goals try first | with_reducible rfl | omega
     try simp only [gA,gB,gC,Act.put,gD,gE,gF]
     refine tkR 6 (.pointer (some ⟨bq,0,none⟩)) HS0.out (hy:=?_) (h:=?_)
     ·intro w s;have s0:=za s 0 rfl;have s1:=za s 1 rfl;go_simp
      all_goals try first | with_reducible rfl | omega
     try simp only [gA,gB,gC,Act.put,gD,gE,gF]
     refine tkR 7 (.slice kA kn kc) HS0.out (hy:=?_) (h:=?_)
     ·intro w s;have s0:=za s 0 rfl;have s1:=za s 1 rfl;go_simp
      all_goals try first | with_reducible rfl | omega
     try simp only [gA,gB,gC,Act.put,gD,gE,gF]
     refine tkR 10 (.pointer (some ⟨c,0,none⟩)) HS0.out (hy:=?_) (h:=?_)
     ·intro w s;have s0:=za s 0 rfl;have s1:=za s 1 rfl;go_simp
      all_goals try first | with_reducible rfl | omega
     try simp only [gA,gB,gC,Act.put,gD,gE,gF]
     refine tkR 11 (.pointer (some ⟨c,0,none⟩)) HS0.out (hy:=?_) (h:=?_)
     ·intro w s;have s0:=za s 0 rfl;have s1:=za s 1 rfl;go_simp
      all_goals try first | with_reducible rfl | omega
     try simp only [gA,gB,gC,Act.put,gD,gE,gF]
     refine tkR 12 (.pointer (some ⟨c,6,none⟩)) HS0.out (hy:=?_) (h:=?_)
     ·intro w s;have s0:=za s 0 rfl;have s1:=za s 1 rfl;go_simp
      all_goals try first | with_reducible rfl | omega
     try simp only [gA,gB,gC,Act.put,gD,gE,gF]
     refine tkT 13 (.slice Ad k cd) HS0.out (hy:=?_) (h:=?_)
     ·intro w s;intro ⟨c5,c6⟩;have s0:=za s 0 rfl;have s1:=za s 1 rfl;go_simp
      all_goals try first | with_reducible rfl | omega
     try simp only [gA,gB,gC,Act.put,gD,gE,gF]
     refine tkR 14 (.pointer (some ⟨bq,1,none⟩)) HS0.out (hy:=?_) (h:=?_)
     ·intro w s;have s0:=za s 0 rfl;have s1:=za s 1 rfl;go_simp
      all_goals try first | with_reducible rfl | omega
     try simp only [gA,gB,gC,Act.put,gD,gE,gF]
     refine tkR 15 (.pointer (some ⟨bq,1,none⟩)) HS0.out (hy:=?_) (h:=?_)
     ·intro w s;have s0:=za s 0 rfl;have s1:=za s 1 rfl;go_simp
      all_goals try first | with_reducible rfl | omega
     try simp only [gA,gB,gC,Act.put,gD,gE,gF]
     refine tkR 16 (.string sc) HS0.out (hy:=?_) (h:=?_)
     ·intro w s;have s0:=za s 0 rfl;have s1:=za s 1 rfl;go_simp
      all_goals try first | with_reducible rfl | omega
     try simp only [gA,gB,gC,Act.put,gD,gE,gF]
     refine rdT2 8 17 (h:=fun K hK => ?_) (h2:=fun K hK => ?_)
     ·first
       | have hbA:=hKS.out.allocD (.cells #[.slice kA kn kc] 42)
       | have hbA:=hKS.out.allocB (.cells #[.slice kA kn kc] 42)
      first
       | have hx8:=hz0q (hKS.out.newBoxD2 #[.slice kA kn kc] 42)
       | have hx8:=hz0q (hKS.out.newBoxD #[.slice kA kn kc] 42)
       | have hx8:=hz0q (hKS.out.newBox #[.slice kA kn kc] 42)
      (try have hx17:=hz0q (zd hx17.out hbA))
      have hHx:=zd hHx hbA;have hKS:=hz0q (hKS.out.below hbA);go_simp
      refine hK.out _ _ hHx (fun _ => ⟨za hKS.out.ch.box 5 rfl,za hKS.out.ch.box 6 rfl⟩) ?_;clear hK K;try simp only [gA,gB,gC,Act.put,gD,gE,gF]
      refine rdT2 9 17 (h:=fun K hK => ?_) (h2:=fun K hK => ?_)
      ·refine zbd zd0 _ rfl (.tmp 100) (.tmp 103) rfl w.heap.size rfl hKS.out.keys rfl (zff hx8.out) (za7 rfl) (by omega) (by omega) hKS.out.bel.size ?_;intro A9 c9 w9 hown9 hg9 hat9;(try have hx17:=hz0q (zcz hx17.out hKS.out.keys hg9 (by decide)))
       have hHx:=zcz hHx hKS.out.keys hg9 (by decide);have hKS:=hz0q (hKS.out.keyApp hown9 hg9);refine hK.out _ _ hHx (fun _ => ⟨za hKS.out.ch.box 5 rfl,za hKS.out.ch.box 6 rfl⟩) ?_;clear hK K;try simp only [gA,gB,gC,Act.put,gD,gE,gF]
       refine rdT 17 (h:=fun K hK => ?_)
       first
        | have hbA:=hKS.out.allocD (.cells #[.string sc] 9)
        | have hbA:=hKS.out.allocB (.cells #[.string sc] 9)
       first
        | have hx17:=hz0q (hKS.out.newBoxD2 #[.string sc] 9)
        | have hx17:=hz0q (hKS.out.newBoxD #[.string sc] 9)
        | have hx17:=hz0q (hKS.out.newBox #[.string sc] 9)
       (try have hx8:=hz0q (zd hx8.out hbA))
       have hHx:=zd hHx hbA;have hKS:=hz0q (hKS.out.below hbA);go_simp
       refine hK.out _ _ hHx (fun _ => ⟨za hKS.out.ch.box 5 rfl,za hKS.out.ch.box 6 rfl⟩) ?_;clear hK K;try simp only [gA,gB,gC,Act.put,gD,gE,gF]
       refine rdT 18 (h:=fun K hK => ?_);refine zbd zh9 _ rfl (.tmp 108) (.tmp 112) rfl w.heap.size rfl hKS.out.codes rfl (zff hx17.out) (za7 rfl) (by omega) (by omega) hKS.out.bel.size ?_;intro A18 c18 w18 hown18 hg18 hat18;have hHx:=zcz hHx hKS.out.codes hg18 (by decide);have hKS:=hz0q (hKS.out.codeApp hown18 hg18);refine hK.out _ _ hHx (fun _ => ⟨za hKS.out.ch.box 5 rfl,za hKS.out.ch.box 6 rfl⟩) ?_;clear hK K;try simp only [gA,gB,gC,Act.put,gD,gE,gF]
       refine rdT 19 (h:=fun K hK => ?_);go_simp
       refine hK.out _ _ hHx (fun _ => ⟨za hKS.out.ch.box 5 rfl,za hKS.out.ch.box 6 rfl⟩) ?_;clear hK K;try simp only [gA,gB,gC,Act.put,gD,gE,gF]
       refine rdT 20 (h:=fun K hK => ?_);go_simp
       refine hK.out _ _ hHx (fun _ => ⟨za hKS.out.ch.box 5 rfl,za hKS.out.ch.box 6 rfl⟩) ?_;clear hK K;try simp only [gA,gB,gC,Act.put,gD,gE,gF]
       refine rdT 21 (h:=fun K hK => ?_);have c5:=za hKS.out.ch.box 5 rfl;have f5:=zc hKS.out.ch.box 5;have hHx:=hKS.out.boxSet (j:=5) (v:=.slice A9 (k + 1) c9) hHx (by decide);have hKS:=hz0q (hKS.out.cset 5 (by decide) (by decide) (.slice A9 (k + 1) c9));go_simp
       clear c5 f5;refine hK.out _ _ hHx (za8) ?_;clear hK K;try simp only [gA,gB,gC,Act.put,gD,gE,gF]
       refine rdT 22 (h:=fun K hK => ?_);go_simp
       refine hK.out _ _ hHx (za8) ?_;clear hK K;try simp only [gA,gB,gC,Act.put,gD,gE,gF]
       refine rdT 23 (h:=fun K hK => ?_);go_simp
       refine hK.out _ _ hHx (za8) ?_;clear hK K;try simp only [gA,gB,gC,Act.put,gD,gE,gF]
       refine rdT 24 (h:=fun K hK => ?_);have c6:=za hKS.out.ch.box 6 rfl;have f6:=zc hKS.out.ch.box 6;have hHx:=hKS.out.boxSet (j:=6) (v:=.slice A18 (k + 1) c18) hHx (by decide);have hKS:=hz0q (hKS.out.cset 6 (by decide) (by decide) (.slice A18 (k + 1) c18));go_simp
       clear c6 f6;refine hK.out _ _ hHx (za8) ?_;clear hK K;try simp only [gA,gB,gC,Act.put,gD,gE,gF]
       refine zgb (by kernel_rfl) ?_ _;have h9:=hKS.out;rw [<- HSC.out.1,<- HSC.out.2] at h9;have HI9 : Hid (KwS w c mt mh m nn T H #[.pointer none,wlV p,.slice A2 n2 c2,.map (some mt),.map (some mh),.slice A9 (k + 1) c9,.slice A18 (k + 1) c18] (some ⟨g,0,none⟩) ca nk ks (.slice A9 (k + 1) c9) (k + 1) (Kl (ks.take (k + 1))) (.slice A18 (k + 1) c18) (k + 1) (Dl (ks.take (k + 1))) _):=hz0q (h9.next HXK.out);clear h9;go_wp2;go_roundw
       case rel => exact ⟨k + 1,A9,c9,A18,c18,by go_num,by omega,HI9⟩
       case measure => simp [intOf] <;> omega
      ·first
        | have hbA:=hKS.out.allocD (.cells #[.string sc] 9)
        | have hbA:=hKS.out.allocB (.cells #[.string sc] 9)
       first
        | have hx17:=hz0q (hKS.out.newBoxD2 #[.string sc] 9)
        | have hx17:=hz0q (hKS.out.newBoxD #[.string sc] 9)
        | have hx17:=hz0q (hKS.out.newBox #[.string sc] 9)
       (try have hx8:=hz0q (zd hx8.out hbA))
       have hHx:=zd hHx hbA;have hKS:=hz0q (hKS.out.below hbA);go_simp
       refine hK.out _ _ hHx (fun _ => ⟨za hKS.out.ch.box 5 rfl,za hKS.out.ch.box 6 rfl⟩) ?_;clear hK K;try simp only [gA,gB,gC,Act.put,gD,gE,gF]
       refine rdT 9 (h:=fun K hK => ?_);refine zbd zd0 _ rfl (.tmp 100) (.tmp 103) rfl w.heap.size rfl hKS.out.keys rfl (zff hx8.out) (za7 rfl) (by omega) (by omega) hKS.out.bel.size ?_;intro A9 c9 w9 hown9 hg9 hat9;(try have hx17:=hz0q (zcz hx17.out hKS.out.keys hg9 (by decide)))
       have hHx:=zcz hHx hKS.out.keys hg9 (by decide);have hKS:=hz0q (hKS.out.keyApp hown9 hg9);refine hK.out _ _ hHx (fun _ => ⟨za hKS.out.ch.box 5 rfl,za hKS.out.ch.box 6 rfl⟩) ?_;clear hK K;try simp only [gA,gB,gC,Act.put,gD,gE,gF]
       refine rdT 18 (h:=fun K hK => ?_);refine zbd zh9 _ rfl (.tmp 108) (.tmp 112) rfl w.heap.size rfl hKS.out.codes rfl (zff hx17.out) (za7 rfl) (by omega) (by omega) hKS.out.bel.size ?_;intro A18 c18 w18 hown18 hg18 hat18;have hHx:=zcz hHx hKS.out.codes hg18 (by decide);have hKS:=hz0q (hKS.out.codeApp hown18 hg18);refine hK.out _ _ hHx (fun _ => ⟨za hKS.out.ch.box 5 rfl,za hKS.out.ch.box 6 rfl⟩) ?_;clear hK K;try simp only [gA,gB,gC,Act.put,gD,gE,gF]
       refine rdT 19 (h:=fun K hK => ?_);go_simp
       refine hK.out _ _ hHx (fun _ => ⟨za hKS.out.ch.box 5 rfl,za hKS.out.ch.box 6 rfl⟩) ?_;clear hK K;try simp only [gA,gB,gC,Act.put,gD,gE,gF]
       refine rdT 20 (h:=fun K hK => ?_);go_simp
       refine hK.out _ _ hHx (fun _ => ⟨za hKS.out.ch.box 5 rfl,za hKS.out.ch.box 6 rfl⟩) ?_;clear hK K;try simp only [gA,gB,gC,Act.put,gD,gE,gF]
       refine rdT 21 (h:=fun K hK => ?_);have c5:=za hKS.out.ch.box 5 rfl;have f5:=zc hKS.out.ch.box 5;have hHx:=hKS.out.boxSet (j:=5) (v:=.slice A9 (k + 1) c9) hHx (by decide);have hKS:=hz0q (hKS.out.cset 5 (by decide) (by decide) (.slice A9 (k + 1) c9));go_simp
       clear c5 f5;refine hK.out _ _ hHx (za8) ?_;clear hK K;try simp only [gA,gB,gC,Act.put,gD,gE,gF]
       refine rdT 22 (h:=fun K hK => ?_);go_simp
       refine hK.out _ _ hHx (za8) ?_;clear hK K;try simp only [gA,gB,gC,Act.put,gD,gE,gF]
       refine rdT 23 (h:=fun K hK => ?_);go_simp
       refine hK.out _ _ hHx (za8) ?_;clear hK K;try simp only [gA,gB,gC,Act.put,gD,gE,gF]
       refine rdT 24 (h:=fun K hK => ?_);have c6:=za hKS.out.ch.box 6 rfl;have f6:=zc hKS.out.ch.box 6;have hHx:=hKS.out.boxSet (j:=6) (v:=.slice A18 (k + 1) c18) hHx (by decide);have hKS:=hz0q (hKS.out.cset 6 (by decide) (by decide) (.slice A18 (k + 1) c18));go_simp
       clear c6 f6;refine hK.out _ _ hHx (za8) ?_;clear hK K;try simp only [gA,gB,gC,Act.put,gD,gE,gF]
       refine zgb (by kernel_rfl) ?_ _;have h9:=hKS.out;rw [<- HSC.out.1,<- HSC.out.2] at h9;have HI9 : Hid (KwS w c mt mh m nn T H #[.pointer none,wlV p,.slice A2 n2 c2,.map (some mt),.map (some mh),.slice A9 (k + 1) c9,.slice A18 (k + 1) c18] (some ⟨g,0,none⟩) ca nk ks (.slice A9 (k + 1) c9) (k + 1) (Kl (ks.take (k + 1))) (.slice A18 (k + 1) c18) (k + 1) (Dl (ks.take (k + 1))) _):=hz0q (h9.next HXK.out);clear h9;go_wp2;go_roundw
       case rel => exact ⟨k + 1,A9,c9,A18,c18,by go_num,by omega,HI9⟩
       case measure => simp [intOf] <;> omega
     ·first
       | have hbA:=hKS.out.allocD (.cells #[.string sc] 9)
       | have hbA:=hKS.out.allocB (.cells #[.string sc] 9)
      first
       | have hx17:=hz0q (hKS.out.newBoxD2 #[.string sc] 9)
       | have hx17:=hz0q (hKS.out.newBoxD #[.string sc] 9)
       | have hx17:=hz0q (hKS.out.newBox #[.string sc] 9)
      (try have hx8:=hz0q (zd hx8.out hbA))
      have hHx:=zd hHx hbA;have hKS:=hz0q (hKS.out.below hbA);go_simp
      refine hK.out _ _ hHx (fun _ => ⟨za hKS.out.ch.box 5 rfl,za hKS.out.ch.box 6 rfl⟩) ?_;clear hK K;try simp only [gA,gB,gC,Act.put,gD,gE,gF]
      refine rdT 8 (h:=fun K hK => ?_)
      first
       | have hbA:=hKS.out.allocD (.cells #[.slice kA kn kc] 42)
       | have hbA:=hKS.out.allocB (.cells #[.slice kA kn kc] 42)
      first
       | have hx8:=hz0q (hKS.out.newBoxD2 #[.slice kA kn kc] 42)
       | have hx8:=hz0q (hKS.out.newBoxD #[.slice kA kn kc] 42)
       | have hx8:=hz0q (hKS.out.newBox #[.slice kA kn kc] 42)
      (try have hx17:=hz0q (zd hx17.out hbA))
      have hHx:=zd hHx hbA;have hKS:=hz0q (hKS.out.below hbA);go_simp
      refine hK.out _ _ hHx (fun _ => ⟨za hKS.out.ch.box 5 rfl,za hKS.out.ch.box 6 rfl⟩) ?_;clear hK K;try simp only [gA,gB,gC,Act.put,gD,gE,gF]
      refine rdT 9 (h:=fun K hK => ?_);refine zbd zd0 _ rfl (.tmp 100) (.tmp 103) rfl w.heap.size rfl hKS.out.keys rfl (zff hx8.out) (za7 rfl) (by omega) (by omega) hKS.out.bel.size ?_;intro A9 c9 w9 hown9 hg9 hat9;(try have hx17:=hz0q (zcz hx17.out hKS.out.keys hg9 (by decide)))
      have hHx:=zcz hHx hKS.out.keys hg9 (by decide);have hKS:=hz0q (hKS.out.keyApp hown9 hg9);refine hK.out _ _ hHx (fun _ => ⟨za hKS.out.ch.box 5 rfl,za hKS.out.ch.box 6 rfl⟩) ?_;clear hK K;try simp only [gA,gB,gC,Act.put,gD,gE,gF]
      refine rdT 18 (h:=fun K hK => ?_);refine zbd zh9 _ rfl (.tmp 108) (.tmp 112) rfl w.heap.size rfl hKS.out.codes rfl (zff hx17.out) (za7 rfl) (by omega) (by omega) hKS.out.bel.size ?_;intro A18 c18 w18 hown18 hg18 hat18;have hHx:=zcz hHx hKS.out.codes hg18 (by decide);have hKS:=hz0q (hKS.out.codeApp hown18 hg18);refine hK.out _ _ hHx (fun _ => ⟨za hKS.out.ch.box 5 rfl,za hKS.out.ch.box 6 rfl⟩) ?_;clear hK K;try simp only [gA,gB,gC,Act.put,gD,gE,gF]
      refine rdT 19 (h:=fun K hK => ?_);go_simp
      refine hK.out _ _ hHx (fun _ => ⟨za hKS.out.ch.box 5 rfl,za hKS.out.ch.box 6 rfl⟩) ?_;clear hK K;try simp only [gA,gB,gC,Act.put,gD,gE,gF]
      refine rdT 20 (h:=fun K hK => ?_);go_simp
      refine hK.out _ _ hHx (fun _ => ⟨za hKS.out.ch.box 5 rfl,za hKS.out.ch.box 6 rfl⟩) ?_;clear hK K;try simp only [gA,gB,gC,Act.put,gD,gE,gF]
      refine rdT 21 (h:=fun K hK => ?_);have c5:=za hKS.out.ch.box 5 rfl;have f5:=zc hKS.out.ch.box 5;have hHx:=hKS.out.boxSet (j:=5) (v:=.slice A9 (k + 1) c9) hHx (by decide);have hKS:=hz0q (hKS.out.cset 5 (by decide) (by decide) (.slice A9 (k + 1) c9));go_simp
      clear c5 f5;refine hK.out _ _ hHx (za8) ?_;clear hK K;try simp only [gA,gB,gC,Act.put,gD,gE,gF]
      refine rdT 22 (h:=fun K hK => ?_);go_simp
      refine hK.out _ _ hHx (za8) ?_;clear hK K;try simp only [gA,gB,gC,Act.put,gD,gE,gF]
      refine rdT 23 (h:=fun K hK => ?_);go_simp
      refine hK.out _ _ hHx (za8) ?_;clear hK K;try simp only [gA,gB,gC,Act.put,gD,gE,gF]
      refine rdT 24 (h:=fun K hK => ?_);have c6:=za hKS.out.ch.box 6 rfl;have f6:=zc hKS.out.ch.box 6;have hHx:=hKS.out.boxSet (j:=6) (v:=.slice A18 (k + 1) c18) hHx (by decide);have hKS:=hz0q (hKS.out.cset 6 (by decide) (by decide) (.slice A18 (k + 1) c18));go_simp
      clear c6 f6;refine hK.out _ _ hHx (za8) ?_;clear hK K;try simp only [gA,gB,gC,Act.put,gD,gE,gF]
      refine zgb (by kernel_rfl) ?_ _;have h9:=hKS.out;rw [<- HSC.out.1,<- HSC.out.2] at h9;have HI9 : Hid (KwS w c mt mh m nn T H #[.pointer none,wlV p,.slice A2 n2 c2,.map (some mt),.map (some mh),.slice A9 (k + 1) c9,.slice A18 (k + 1) c18] (some ⟨g,0,none⟩) ca nk ks (.slice A9 (k + 1) c9) (k + 1) (Kl (ks.take (k + 1))) (.slice A18 (k + 1) c18) (k + 1) (Dl (ks.take (k + 1))) _):=hz0q (h9.next HXK.out);clear h9;go_wp2;go_roundw
      case rel => exact ⟨k + 1,A9,c9,A18,c18,by go_num,by omega,HI9⟩
      case measure => simp [intOf] <;> omega
    ·obtain rfl : k = nk:=(by omega);have hki : ¬ ((k : Int) < (k : Int)):=(by omega);have HKL : Hid (KwS w c mt mh m nn T H #[.pointer none,wlV p,.slice A2 n2 c2,.map (some mt),.map (some mh),.slice Ak k ck,.slice Ad k cd] Aa ca k ks (.slice Ak k ck) k (Kl ks) (.slice Ad k cd) k (Dl ks) wq):=hz0q (by have h1:=HK.out; rw [List.take_of_length_le (by have:=HNK.out; omega)] at h1; exact h1);clear HK;have AG:=HKL.out.args HNK.out HNK.out (by omega);have PN:=fun W (hW : Below wq.heap.size wq W) => pnew_any (p:=p) (B:=B) (w:=W) (hz0q fun V hV => (hB.out V (HKL.out.bel.trans ((hW.trans (hV.mono hW.size)).mono HKL.out.bel.size))).1) Ad k cd (ks.map fun x => x.2.cd) (AG.1.below hW) (by omega) Ak k ck (ks.map fun x => x.1) (AG.2.below hW) (by omega);have HPN:=hz0q PN;have HS0 : Hid (Below wq.heap.size wq wq.drew):=(show Drew wq wq.drew from ⟨1,rfl⟩).to
     clear AG PN;go_upto_region 27 with fail;(try simp only [Act.put,gD,gE,gF])
     refine wp_region_held_drew (S:=fun w' => Below wq.heap.size wq w') (by kernel_rfl) (HS0.out) (fun hH0 => ?_);refine wpAnyH_take (i:=0) (v:=wlV p) rfl (by kernel_rfl) (by kernel_rfl) (by kernel_rfl) (fun _ _ _ h => h) (Or.inl ⟨by kernel_rfl,?_⟩) hH0 ?_
     ·intro w hSw;have s1:=hSw;have e5:=za (zd HKL.out.ch.box s1) 5 rfl;have e6:=za (zd HKL.out.ch.box s1) 6 rfl;go_simp
      all_goals try first | with_reducible rfl | (intro hq; exfalso; omega) | omega
     try simp only [gA,gB,gC,Act.put,gD,gE,gF]
     refine wpAnyH_take (i:=1) (v:=.pointer (some ⟨c,0,none⟩)) rfl (by kernel_rfl) (by kernel_rfl) (by kernel_rfl) (fun _ _ _ h => h) (Or.inl ⟨by kernel_rfl,?_⟩) hH0 ?_
     ·intro w hSw;have s1:=hSw;have e5:=za (zd HKL.out.ch.box s1) 5 rfl;have e6:=za (zd HKL.out.ch.box s1) 6 rfl;go_simp
      all_goals try first | with_reducible rfl | (intro hq; exfalso; omega) | omega
     try simp only [gA,gB,gC,Act.put,gD,gE,gF]
     refine wpAnyH_take (i:=2) (v:=.pointer (some ⟨c,0,none⟩)) rfl (by kernel_rfl) (by kernel_rfl) (by kernel_rfl) (fun _ _ _ h => h) (Or.inl ⟨by kernel_rfl,?_⟩) hH0 ?_
     ·intro w hSw;have s1:=hSw;have e5:=za (zd HKL.out.ch.box s1) 5 rfl;have e6:=za (zd HKL.out.ch.box s1) 6 rfl;go_simp
      all_goals try first | with_reducible rfl | (intro hq; exfalso; omega) | omega
     try simp only [gA,gB,gC,Act.put,gD,gE,gF]
     refine wpAnyH_take (i:=3) (v:=.pointer (some ⟨c,6,none⟩)) rfl (by kernel_rfl) (by kernel_rfl) (by kernel_rfl) (fun _ _ _ h => h) (Or.inl ⟨by kernel_rfl,?_⟩) hH0 ?_
     ·intro w hSw;have s1:=hSw;have e5:=za (zd HKL.out.ch.box s1) 5 rfl;have e6:=za (zd HKL.out.ch.box s1) 6 rfl;go_simp
      all_goals try first | with_reducible rfl | (intro hq; exfalso; omega) | omega
     try simp only [gA,gB,gC,Act.put,gD,gE,gF]
     refine wpAnyH_take (i:=4) (v:=.slice Ad k cd) rfl (by kernel_rfl) (by kernel_rfl) (by kernel_rfl) (fun _ _ _ h => h) (Or.inl ⟨by kernel_rfl,?_⟩) hH0 ?_
     ·intro w hSw;have s1:=hSw;have e5:=za (zd HKL.out.ch.box s1) 5 rfl;have e6:=za (zd HKL.out.ch.box s1) 6 rfl;go_simp
      all_goals try first | with_reducible rfl | (intro hq; exfalso; omega) | omega
     try simp only [gA,gB,gC,Act.put,gD,gE,gF]
     refine wpAnyH_take (i:=5) (v:=.pointer (some ⟨c,0,none⟩)) rfl (by kernel_rfl) (by kernel_rfl) (by kernel_rfl) (fun _ _ _ h => h) (Or.inl ⟨by kernel_rfl,?_⟩) hH0 ?_
     ·intro w hSw;have s1:=hSw;have e5:=za (zd HKL.out.ch.box s1) 5 rfl;have e6:=za (zd HKL.out.ch.box s1) 6 rfl;go_simp
      all_goals try first | with_reducible rfl | (intro hq; exfalso; omega) | omega
     try simp only [gA,gB,gC,Act.put,gD,gE,gF]
     refine wpAnyH_take (i:=6) (v:=.pointer (some ⟨c,0,none⟩)) rfl (by kernel_rfl) (by kernel_rfl) (by kernel_rfl) (fun _ _ _ h => h) (Or.inl ⟨by kernel_rfl,?_⟩) hH0 ?_
     ·intro w hSw;have s1:=hSw;have e5:=za (zd HKL.out.ch.box s1) 5 rfl;have e6:=za (zd HKL.out.ch.box s1) 6 rfl;go_simp
      all_goals try first | with_reducible rfl | (intro hq; exfalso; omega) | omega
     try simp only [gA,gB,gC,Act.put,gD,gE,gF]
     refine wpAnyH_take (i:=7) (v:=.pointer (some ⟨c,5,none⟩)) rfl (by kernel_rfl) (by kernel_rfl) (by kernel_rfl) (fun _ _ _ h => h) (Or.inl ⟨by kernel_rfl,?_⟩) hH0 ?_
     ·intro w hSw;have s1:=hSw;have e5:=za (zd HKL.out.ch.box s1) 5 rfl;have e6:=za (zd HKL.out.ch.box s1) 6 rfl;go_simp
      all_goals try first | with_reducible rfl | (intro hq; exfalso; omega) | omega
     try simp only [gA,gB,gC,Act.put,gD,gE,gF]
     refine wpAnyH_take (i:=8) (v:=.slice Ak k ck) rfl (by kernel_rfl) (by kernel_rfl) (by kernel_rfl) (fun _ _ _ h => h) (Or.inl ⟨by kernel_rfl,?_⟩) hH0 ?_
     ·intro w hSw;have s1:=hSw;have e5:=za (zd HKL.out.ch.box s1) 5 rfl;have e6:=za (zd HKL.out.ch.box s1) 6 rfl;go_simp
      all_goals try first | with_reducible rfl | (intro hq; exfalso; omega) | omega
     try simp only [gA,gB,gC,Act.put,gD,gE,gF]
     refine wpAnyH_ready (rs:=[9]) (by kernel_rfl) (by simp) ?_;refine AllReadyH.cons rfl (fun K hK => ?_) AllReadyH.nil;go_simp
     refine (HPN.out _ hH0).mono ?_;rintro e w50 ⟨⟨y,z,rfl⟩,hb5⟩;refine hK.out _ _ (zb hH0 hb5) (fun hH1 => ?_);clear hK K hH0;try simp only [gA,gB,gC,Act.put,gD,gE,gF]
     refine wpAnyH_take (i:=10) (v:=.tuple #[.pointer y,.int .i64 z]) rfl (by kernel_rfl) (by kernel_rfl) (by kernel_rfl) (fun _ _ _ h => h) (Or.inl ⟨by kernel_rfl,?_⟩) hH1 ?_
     ·intro w hSw;have s1:=hSw;have e5:=za (zd HKL.out.ch.box s1) 5 rfl;have e6:=za (zd HKL.out.ch.box s1) 6 rfl;go_simp
      all_goals try first | with_reducible rfl | (intro hq; exfalso; omega) | omega
     try simp only [gA,gB,gC,Act.put,gD,gE,gF]
     refine wpAnyH_take (i:=11) (v:=.pointer y) rfl (by kernel_rfl) (by kernel_rfl) (by kernel_rfl) (fun _ _ _ h => h) (Or.inl ⟨by kernel_rfl,?_⟩) hH1 ?_
     ·intro w hSw;have s1:=hSw;have e5:=za (zd HKL.out.ch.box s1) 5 rfl;have e6:=za (zd HKL.out.ch.box s1) 6 rfl;go_simp
      all_goals try first | with_reducible rfl | (intro hq; exfalso; omega) | omega
     try simp only [gA,gB,gC,Act.put,gD,gE,gF]
     refine wpAnyH_take (i:=12) (v:=.int .i64 z) rfl (by kernel_rfl) (by kernel_rfl) (by kernel_rfl) (fun _ _ _ h => h) (Or.inl ⟨by kernel_rfl,?_⟩) hH1 ?_
     ·intro w hSw;have s1:=hSw;have e5:=za (zd HKL.out.ch.box s1) 5 rfl;have e6:=za (zd HKL.out.ch.box s1) 6 rfl;go_simp
      all_goals try first | with_reducible rfl | (intro hq; exfalso; omega) | omega
     try simp only [gA,gB,gC,Act.put,gD,gE,gF]
     refine wpAnyH_take (i:=13) (v:=.pointer y) rfl (by kernel_rfl) (by kernel_rfl) (by kernel_rfl) (fun _ _ _ h => h) (Or.inl ⟨by kernel_rfl,?_⟩) hH1 ?_
     ·intro w hSw;have s1:=hSw;have e5:=za (zd HKL.out.ch.box s1) 5 rfl;have e6:=za (zd HKL.out.ch.box s1) 6 rfl;go_simp
      all_goals try first | with_reducible rfl | (intro hq; exfalso; omega) | omega
     try simp only [gA,gB,gC,Act.put,gD,gE,gF]
     refine wpAnyH_take (i:=14) (v:=.int .i64 z) rfl (by kernel_rfl) (by kernel_rfl) (by kernel_rfl) (fun _ _ _ h => h) (Or.inl ⟨by kernel_rfl,?_⟩) hH1 ?_
     ·intro w hSw;have s1:=hSw;have e5:=za (zd HKL.out.ch.box s1) 5 rfl;have e6:=za (zd HKL.out.ch.box s1) 6 rfl;go_simp
      all_goals try first | with_reducible rfl | (intro hq; exfalso; omega) | omega
     try simp only [gA,gB,gC,Act.put,gD,gE,gF]
     refine wpAnyH_done (by kernel_rfl) ?_ _;have HKF:=hz0q (HKL.out.below hH1);clear hH1 hb5
     by_cases hz0 : z = 0
     ·subst hz0;have f0:=za HKF.out.ch.box 0 rfl;have f1:=zc HKF.out.ch.box 0;have HKE:=hz0q (HKF.out.cset 0 (by decide) (by decide) (.pointer y));go_wp2;go_returns;exact ⟨⟨_,0,0,rfl,fun _ => ⟨c,_,mt,mh,m,nn,T,H,rfl,HKE.out.ch,HKE.out.good⟩⟩,HKE.out.bel⟩
     ·have q0 : (z != 0) = true:=(by simp [hz0]);go_wp2;go_returns;exact zkj.bad hz0 HKF.out.bel
end
end
end Go.Proofs.YtolcabjkbefjgaaGreatDoor
