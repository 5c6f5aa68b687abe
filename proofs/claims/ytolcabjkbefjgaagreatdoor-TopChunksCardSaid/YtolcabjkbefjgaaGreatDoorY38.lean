/- cover.New: it comes back, whatever it says; what there was stands. policy.New: it comes back, whatever it says; what there was stands. -/
import Derived.Test.YtolcabjkbefjgaaGreatDoorY36
import Derived.Test.YtolcabjkbefjgaaGreatDoorY33
set_option linter.unusedSimpArgs false
set_option linter.unusedVariables false
set_option maxRecDepth 20000
set_option maxHeartbeats 4000000
namespace Go.Proofs.YtolcabjkbefjgaaGreatDoor
section
open Go.RowKit Go.Lib Go.Maps
theorem CvI.boxKey {p : Option Addr} {w0 w w9 : World} {o mf mw ms nk nf nw ns : Nat} {kv : Value} {f : Int -> Option SL} (h : CvI p w0 o mf mw ms kv nk nf nw ns f w) (hg : w.grownBy w9 kv.ownBlock) : w9.heap[o]? = some (.cells #[wlV p,kv,.map (some mf),.map (some mw)] 307 (0,0)):=by
 obtain ⟨vs0,h1⟩:=h.own
 exact (hg.block o (Array.getElem?_eq_some_iff.1 h.box).1 (fun e => by
  obtain ⟨cur2,hc⟩:=zar h1 e.symm
  exact zaz h.box hc (by decide) rfl)).trans h.box
def CvbP (w : World) (e : Ending) (w' : World) : Prop:=(∃ (x : Option Addr) (k : Int),e = .returned (.tuple #[.pointer x,.int .i64 k])) /\ Below w.heap.size w w'
section
variable {w : World} {p : Option Addr} {B : BaseF}
theorem cvnew_any (hB : Hid (∀ W,Below w.heap.size w W -> zac W (.pointer p) B)) (A : Option Addr) (n cp : Nat) (os : List LA) (hK : ArgK w A n os) (hn40 : n <= 40) :
  Calls Tryz.prog 139 #[wlV p,.slice A n cp] w (CvbP w):=by
 obtain ⟨mf,hmf⟩ : ∃ mf,w.heap.size = mf:=⟨_,rfl⟩;obtain ⟨W1,hW1⟩ : ∃ W1,w.alloc (.map #[] 0) = W1:=⟨_,rfl⟩;obtain ⟨mw,hmw⟩ : ∃ mw,W1.heap.size = mw:=⟨_,rfl⟩;obtain ⟨W2,hW2⟩ : ∃ W2,W1.alloc (.map #[] 0) = W2:=⟨_,rfl⟩;obtain ⟨o,ho⟩ : ∃ o,W2.heap.size = o:=⟨_,rfl⟩;obtain ⟨W3,hW3⟩ : ∃ W3,W2.alloc (.cells #[wlV p,.slice none 0 0,.map (some mf),.map (some mw)] 307) = W3:=⟨_,rfl⟩;obtain ⟨ms,hms⟩ : ∃ ms,W3.heap.size = ms:=⟨_,rfl⟩;obtain ⟨W4,hW4⟩ : ∃ W4,W3.alloc (.map #[] 0) = W4:=⟨_,rfl⟩;have z1 : W1.heap.size = w.heap.size + 1:=(by rw [<- hW1]; simp);have z2 : W2.heap.size = W1.heap.size + 1:=(by rw [<- hW2]; simp);have z3 : W3.heap.size = W2.heap.size + 1:=(by rw [<- hW3]; simp);have b1 : Below w.heap.size w W1:=(by rw [<- hW1]; exact (Below.refl _ _).alloc (Nat.le_refl _) _);have b2 : Below W1.heap.size W1 W2:=(by rw [<- hW2]; exact (Below.refl _ _).alloc (Nat.le_refl _) _);have b3 : Below W2.heap.size W2 W3:=(by rw [<- hW3]; exact (Below.refl _ _).alloc (Nat.le_refl _) _);have b4 : Below W3.heap.size W3 W4:=(by rw [<- hW4]; exact (Below.refl _ _).alloc (Nat.le_refl _) _);have m1 : MapF W1 Tryz.prog 21 zn R32 slV mf 0 (fun _ => none):=(by rw [<- hW1,<- hmf]; exact MapF.made _ _ _ _ _ _);have m2 : MapF W2 Tryz.prog 21 zn R32 boolV mw 0 (fun _ => none):=(by rw [<- hW2,<- hmw]; exact MapF.made _ _ _ _ _ _);have m4 : MapF W4 Tryz.prog 9 zbv StrOk boolV ms 0 (fun _ => none):=by rw [<- hW4,<- hms]; exact MapF.made _ _ _ _ _ _
 have x3 : W3.heap[o]? = some (.cells #[wlV p,.slice none 0 0,.map (some mf),.map (some mw)] 307 (0,0)):=by rw [<- hW3,<- ho]; exact zm _ _ _
 have HI0 : Hid (CvI p w o mf mw ms (.slice none 0 0) 0 0 0 0 (fun _ => none) W4) :=
  ⟨zb (zb (zb b1 b2) b3) b4,zd x3 b4,⟨[],World.ownsRow_nil _ _ _ _⟩,m1.below (zb (zb b2 b3) b4) m1.lt,fun a x h => (by cases h),fun a x h => (by cases h),fun a b x y _ h => (by cases h),⟨_,m2.below (zb b3 b4) m2.lt⟩,⟨_,m4⟩,⟨by omega,by omega,by omega,by omega⟩,⟨by omega,by omega,by omega⟩⟩
 have qn : ∀ w : World,(binOp .eql 260 (wlV p) .nilIface).run Tryz.prog w = .ok (.bool false) w:=fun _ => rfl;have q40 : ¬ ((4096 : Int) < (n : Int)):=(by omega);have hmm:=@run_makeMap Tryz.prog;have MC:=zc8 p;have NC:=zd6 p;have hmf' : ∀ (fn : Fn) (first cap : Array Value) (w : World),(Instr.makeFunc fn first cap).run Tryz.prog w = .ok (.func fn first cap) w:=fun _ _ _ _ => rfl;have HKK:=hz0q hK;clear hK z1 z2 z3 b1 b2 b3 b4 m1 m2 m4 x3;go_enter Tryz.func139,Tryz.ntmps139;go_wp2_with fail;clear hW1 hW2 hW3 hW4 hmf hmw ho hms hmm
 go_loopw [29] (fun v29 wr => ∃ (i nk nf nw ns : Nat) (kv : Value) (f : Int -> Option SL),v29 = .int .i64 i /\ i <= n /\ nk <= i /\ nf <= i /\ nw <= 18 * i /\ ns <= i /\ Hid (CvI p w o mf mw ms kv nk nf nw ns f wr)) (fun v29 _ => n - (intOf v29).toNat)
 case atStart => exact ⟨0,0,0,0,0,_,_,rfl,Nat.zero_le _,Nat.le_refl _,Nat.le_refl _,Nat.le_refl _,Nat.le_refl _,HI0⟩
 case round =>
  obtain ⟨i,nk,nf,nw,ns,kv,f,rfl,hin,hnk,hnf,hnw,hns,HI⟩:=hrel;obtain ⟨wo,rfl⟩ : ∃ wo,wo = wr:=⟨wr,rfl⟩
  by_cases hlt : i < n
  ·have hii : (i : Int) < (n : Int):=(by omega);have hKo:=HKK.out.below HI.out.bel;obtain ⟨la,hla⟩ : ∃ la,os[i]? = some la:=⟨_,List.getElem?_eq_getElem (by rw [hKo.len]; exact hlt)⟩;obtain ⟨xs,Ax,cx⟩:=la;obtain ⟨bk,ok,rfl,_,hck⟩:=hKo.rd.at_ (by omega);have ck : wo.cell? ⟨bk,ok + i,none⟩ = some (.slice Ax xs.length cx):=hck i _ (by rw [LLs,List.getElem?_map,hla]; rfl);obtain ⟨hrx,h18,hxR,hxn,hxc⟩:=HKK.out.into _ (List.mem_of_getElem? hla);dsimp only at hrx h18 hxR hxn hxc;obtain ⟨nx,hnx⟩ : ∃ nx,nx = xs.length:=⟨_,rfl⟩;rw [<- hnx] at hrx h18 hxn hxc ck;have HNX:=hz0q hnx;have HRX : Hid (∀ W,Below w.heap.size w W -> Rd W Ax nx (Rs xs)):=fun W hW => hrx.below hW;have HXR:=hz0q hxR;have HXN:=hz0q hxn;clear hla hck hKo hrx hxR hxn hnx;have WG:=wrong_any (w:=wo) (p:=p) (B:=B) (hz0q fun W hW => hB.out W (HI.out.bel.trans (hW.mono HI.out.bel.size))) Ax nx cx xs (HRX.out wo HI.out.bel) HNX.out.symm HXR.out h18;go_wp2_with fail;refine WG.mono ?_;rintro e w1 ⟨⟨k,rfl,hk⟩,hb1⟩;have HI1:=hz0q (HI.out.below hb1);clear WG hb1 ck
   by_cases hk0 : k = 0
   ·subst hk0;have h1x:=hk rfl;have PL:=cplain_any Ax nx cx xs (HRX.out w1 HI1.out.bel) HNX.out.symm h1x h18;clear hk;go_wp2_with fail;refine PL.mono ?_;rintro e w2 ⟨⟨tx,rfl,htx⟩,hb2⟩;have HI2:=hz0q (HI1.out.below hb2);have htk : StrOk tx:=(by show _ <= maxLen; unfold maxLen; omega);obtain ⟨fs,hfs⟩:=HI2.out.seen;have hsx : ns < maxLen:=(by unfold maxLen; omega);clear PL hb2;obtain ⟨b0,hb0⟩ : ∃ b0,(fs tx).getD false = b0:=⟨_,rfl⟩
    cases b0 with
    | true =>
     go_wp2_with (first | (at_lookup; refine zj rfl _ _ rfl zah zg6 (zcc _) hfs (k:=tx) htk rfl rfl ?_; rw [hb0]) | go_in)
     go_wp2;go_returns;exact ⟨⟨none,12,rfl⟩,HI2.out.bel⟩
    | false =>
     go_wp2_with (first | (at_lookup; refine zj rfl _ _ rfl zah zg6 (zcc _) hfs (k:=tx) htk rfl rfl ?_; rw [hb0]) | (refine zbk rfl _ _ _ rfl zah zg6 hsx hfs (k:=tx) htk true rfl rfl rfl ?_; intro w3 hm3 hg3 hs3) | go_in)
     have HI3:=hz0q (HI2.out.seenPut hm3 hg3);clear hfs hb0 hm3 hg3 hs3 hsx htk;have CL:=zdv Ax nx cx xs w3.drew ((HRX.out w3 HI3.out.bel).below (Drew.to ⟨1,rfl⟩)) HXN.out (by omega);have CL1 : ∀ W,Below w3.heap.size w3 W -> Calls Tryz.prog 85 #[.slice Ax nx cx] W (zne nx xs W):=fun W hW => zdv Ax nx cx xs W (HRX.out W (HI3.out.bel.trans (hW.mono HI3.out.bel.size))) HXN.out (by omega);have HCL:=hz0q CL1;have e1 : w3.drew.cell? ⟨o,1,none⟩ = some kv:=za (w:=w3.drew) HI3.out.box 1 rfl;have HE1:=hz0q e1;have HS0 : Hid (Below w.heap.size w w3.drew):=HI3.out.bel.trans ((show Drew w3 w3.drew from ⟨1,rfl⟩).below _)
     obtain ⟨vs,hvs⟩:=HI3.out.own;obtain ⟨Ak,ckv,hkv⟩:=zbs hvs;subst hkv;have HVS:=hz0q hvs;clear CL CL1 hvs;go_upto_region 17 with fail;(try simp only [Act.put,gD,gE,gF])
     go_cut [29] (fun v29 wx => v29 = .int .i64 i /\ ∃ (A8 : Option Addr) (c8 : Nat),Hid (CvI p w o mf mw ms (.slice A8 (nk + 1) c8) (nk + 1) nf nw (ns + 1) f wx))
     case first =>
      refine wp_region_held_drew (S:=fun w' => Below w.heap.size w w') (by kernel_rfl) (HS0.out) (fun hH0 => ?_);refine wpAnyH_take (i:=0) (v:=.pointer (some ⟨o,0,none⟩)) rfl (by kernel_rfl) (by kernel_rfl) (by kernel_rfl) (fun _ _ _ h => h) (Or.inl ⟨by kernel_rfl,?_⟩) hH0 ?_
      ·intro w hSw;have s1:=hSw;go_simp
       all_goals try first | with_reducible rfl | (intro hq; exfalso; omega) | omega
      try simp only [gA,gB,gC,Act.put,gD,gE,gF]
      refine wpAnyH_take (i:=1) (v:=.pointer (some ⟨o,0,none⟩)) rfl (by kernel_rfl) (by kernel_rfl) (by kernel_rfl) (fun _ _ _ h => h) (Or.inl ⟨by kernel_rfl,?_⟩) hH0 ?_
      ·intro w hSw;have s1:=hSw;go_simp
       all_goals try first | with_reducible rfl | (intro hq; exfalso; omega) | omega
      try simp only [gA,gB,gC,Act.put,gD,gE,gF]
      refine wpAnyH_take (i:=2) (v:=.pointer (some ⟨o,0,none⟩)) rfl (by kernel_rfl) (by kernel_rfl) (by kernel_rfl) (fun _ _ _ h => h) (Or.inl ⟨by kernel_rfl,?_⟩) hH0 ?_
      ·intro w hSw;have s1:=hSw;go_simp
       all_goals try first | with_reducible rfl | (intro hq; exfalso; omega) | omega
      try simp only [gA,gB,gC,Act.put,gD,gE,gF]
      refine wpAnyH_take (i:=3) (v:=.pointer (some ⟨o,1,none⟩)) rfl (by kernel_rfl) (by kernel_rfl) (by kernel_rfl) (fun _ _ _ h => h) (Or.inl ⟨by kernel_rfl,?_⟩) hH0 ?_
      ·intro w hSw;have s1:=hSw;go_simp
       all_goals try first | with_reducible rfl | (intro hq; exfalso; omega) | omega
      try simp only [gA,gB,gC,Act.put,gD,gE,gF]
      refine wpAnyH_take (i:=5) (v:=.slice Ax nx cx) rfl (by kernel_rfl) (by kernel_rfl) (by kernel_rfl) (fun _ _ _ h => h) (Or.inl ⟨by kernel_rfl,?_⟩) hH0 ?_
      ·intro w hSw;have s1:=hSw;go_simp
       all_goals try first | with_reducible rfl | (intro hq; exfalso; omega) | omega
      try simp only [gA,gB,gC,Act.put,gD,gE,gF]
      refine wpAnyH_ready (rs:=[4,6]) (by kernel_rfl) (by simp) ?_;refine AllReadyH.cons rfl (fun K hK => ?_) (AllReadyH.cons rfl (fun K hK => ?_) AllReadyH.nil)
      ·have e4:=HE1.out;(try have e3:=e2)
       (try have e5:=e6)
       go_simp
       clear e4;(try clear e3)
       (try clear e5)
       refine hK.out _ _ (hH0) (fun hH1 => ?_);clear hK K hH0;try simp only [gA,gB,gC,Act.put,gD,gE,gF]
       refine wpAnyH_ready (rs:=[6]) (by kernel_rfl) (by simp) ?_;refine AllReadyH.cons rfl (fun K hK => ?_) AllReadyH.nil;go_simp
       refine (HCL.out _ (Drew.to ⟨1,rfl⟩)).mono ?_;rintro e w50 ⟨A5,c5,rfl,hown5,hb5⟩;have e2:=(hb5.cell (p:=⟨o,1,none⟩) (by have:=(Array.getElem?_eq_some_iff.1 HI3.out.box).1; exact this)).trans HE1.out;refine hK.out _ _ ((HS0.out.trans (hb5.mono HS0.out.size))) (fun hH2 => ?_);clear hK K hH1;try simp only [gA,gB,gC,Act.put,gD,gE,gF]
       refine wpAnyH_ready (rs:=[7]) (by kernel_rfl) (by simp) ?_;refine AllReadyH.cons rfl (fun K hK => ?_) AllReadyH.nil;have hbA : Below w50.heap.size w50 (w50.alloc (.cells #[.slice A5 nx c5] 42)):=(Below.refl _ _).alloc (Nat.le_refl _) _;have e6:=(hbA.cell (p:=⟨o,1,none⟩) (by have h1:=(Array.getElem?_eq_some_iff.1 HI3.out.box).1; exact Nat.lt_of_lt_of_le h1 hb5.size)).trans e2;go_simp
       refine hK.out _ _ ((HS0.out.trans (hb5.mono HS0.out.size)).alloc (Nat.le_trans HS0.out.size hb5.size) _) (fun hH3 => ?_);clear hK K hH2;try simp only [gA,gB,gC,Act.put,gD,gE,gF]
       refine wpAnyH_ready (rs:=[8]) (by kernel_rfl) (by simp) ?_;refine AllReadyH.cons rfl (fun K hK => ?_) AllReadyH.nil;have hb7 : Below w3.heap.size w3 (w50.alloc (.cells #[.slice A5 nx c5] 42)):=zb (zb (Drew.to ⟨1,rfl⟩) hb5) ((Below.refl _ _).alloc (Nat.le_refl _) _);refine zbd zd0 _ rfl (.tmp 51) (.tmp 54) rfl w.heap.size rfl (zy HVS.out hb7) rfl (Rd.new1 _ _ _) (za7 rfl) (by omega) (by omega) (Nat.le_trans HI3.out.bel.size hb7.size) ?_;intro A8 c8 w8 hown8 hg8 hat8;refine hK.out _ _ (((HI3.out.bel.trans (hb7.mono HI3.out.bel.size))).grown hg8 (Nat.le_trans HI3.out.bel.size hb7.size) (fun k hk => (HVS.out.lt k hk).1)) (fun hH4 => ?_);clear hK K hH3;try simp only [gA,gB,gC,Act.put,gD,gE,gF]
       refine wpAnyH_take (i:=9) (v:=.pointer (some ⟨o,0,none⟩)) rfl (by kernel_rfl) (by kernel_rfl) (by kernel_rfl) (fun _ _ _ h => h) (Or.inl ⟨by kernel_rfl,?_⟩) hH4 ?_
       ·intro w hSw;have s1:=hSw;go_simp
        all_goals try first | with_reducible rfl | (intro hq; exfalso; omega) | omega
       try simp only [gA,gB,gC,Act.put,gD,gE,gF]
       refine wpAnyH_take (i:=10) (v:=.pointer (some ⟨o,1,none⟩)) rfl (by kernel_rfl) (by kernel_rfl) (by kernel_rfl) (fun _ _ _ h => h) (Or.inl ⟨by kernel_rfl,?_⟩) hH4 ?_
       ·intro w hSw;have s1:=hSw;go_simp
        all_goals try first | with_reducible rfl | (intro hq; exfalso; omega) | omega
       try simp only [gA,gB,gC,Act.put,gD,gE,gF]
       refine wpAnyH_ready (rs:=[11]) (by kernel_rfl) (by simp) ?_;refine AllReadyH.cons rfl (fun K hK => ?_) AllReadyH.nil;have hx8:=(HI3.out.below hb7).boxKey hg8;have dd1:=za hx8 1 rfl;have ff1:=zc hx8 1;go_simp
       clear dd1 ff1 hx8;refine hK.out _ _ ((((HI3.out.bel.trans (hb7.mono HI3.out.bel.size))).grown hg8 (Nat.le_trans HI3.out.bel.size hb7.size) (fun k hk => (HVS.out.lt k hk).1)).setCell (p:=⟨o,1,none⟩) HI3.out.q.1 _) (fun hH5 => ?_);clear hK K hH4;try simp only [gA,gB,gC,Act.put,gD,gE,gF]
       refine wpAnyH_done (by kernel_rfl) ?_ _;have HI9:=hz0q ((HI3.out.below hb7).keyed (Nat.le_succ _) hown8 hg8);clear hH5 hown8 hg8 hat8 hb7 hbA hown5 hb5 e1 e2 e6;first | go_meet | (go_wp2; go_meet)
       case rel => exact ⟨rfl,A8,c8,HI9⟩
      ·go_simp
       refine (HCL.out _ (Drew.to ⟨1,rfl⟩)).mono ?_;rintro e w50 ⟨A5,c5,rfl,hown5,hb5⟩;have e2:=(hb5.cell (p:=⟨o,1,none⟩) (by have:=(Array.getElem?_eq_some_iff.1 HI3.out.box).1; exact this)).trans HE1.out;refine hK.out _ _ ((HS0.out.trans (hb5.mono HS0.out.size))) (fun hH1 => ?_);clear hK K hH0;try simp only [gA,gB,gC,Act.put,gD,gE,gF]
       refine wpAnyH_ready (rs:=[4,7]) (by kernel_rfl) (by simp) ?_;refine AllReadyH.cons rfl (fun K hK => ?_) (AllReadyH.cons rfl (fun K hK => ?_) AllReadyH.nil)
       ·have e4:=HE1.out;(try have e3:=e2)
        (try have e5:=e6)
        go_simp
        clear e4;(try clear e3)
        (try clear e5)
        refine hK.out _ _ (hH1) (fun hH2 => ?_);clear hK K hH1;try simp only [gA,gB,gC,Act.put,gD,gE,gF]
        refine wpAnyH_ready (rs:=[7]) (by kernel_rfl) (by simp) ?_;refine AllReadyH.cons rfl (fun K hK => ?_) AllReadyH.nil;have hbA : Below w50.heap.size w50 (w50.alloc (.cells #[.slice A5 nx c5] 42)):=(Below.refl _ _).alloc (Nat.le_refl _) _;have e6:=(hbA.cell (p:=⟨o,1,none⟩) (by have h1:=(Array.getElem?_eq_some_iff.1 HI3.out.box).1; exact Nat.lt_of_lt_of_le h1 hb5.size)).trans e2;go_simp
        refine hK.out _ _ ((HS0.out.trans (hb5.mono HS0.out.size)).alloc (Nat.le_trans HS0.out.size hb5.size) _) (fun hH3 => ?_);clear hK K hH2;try simp only [gA,gB,gC,Act.put,gD,gE,gF]
        refine wpAnyH_ready (rs:=[8]) (by kernel_rfl) (by simp) ?_;refine AllReadyH.cons rfl (fun K hK => ?_) AllReadyH.nil;have hb7 : Below w3.heap.size w3 (w50.alloc (.cells #[.slice A5 nx c5] 42)):=zb (zb (Drew.to ⟨1,rfl⟩) hb5) ((Below.refl _ _).alloc (Nat.le_refl _) _);refine zbd zd0 _ rfl (.tmp 51) (.tmp 54) rfl w.heap.size rfl (zy HVS.out hb7) rfl (Rd.new1 _ _ _) (za7 rfl) (by omega) (by omega) (Nat.le_trans HI3.out.bel.size hb7.size) ?_;intro A8 c8 w8 hown8 hg8 hat8;refine hK.out _ _ (((HI3.out.bel.trans (hb7.mono HI3.out.bel.size))).grown hg8 (Nat.le_trans HI3.out.bel.size hb7.size) (fun k hk => (HVS.out.lt k hk).1)) (fun hH4 => ?_);clear hK K hH3;try simp only [gA,gB,gC,Act.put,gD,gE,gF]
        refine wpAnyH_take (i:=9) (v:=.pointer (some ⟨o,0,none⟩)) rfl (by kernel_rfl) (by kernel_rfl) (by kernel_rfl) (fun _ _ _ h => h) (Or.inl ⟨by kernel_rfl,?_⟩) hH4 ?_
        ·intro w hSw;have s1:=hSw;go_simp
         all_goals try first | with_reducible rfl | (intro hq; exfalso; omega) | omega
        try simp only [gA,gB,gC,Act.put,gD,gE,gF]
        refine wpAnyH_take (i:=10) (v:=.pointer (some ⟨o,1,none⟩)) rfl (by kernel_rfl) (by kernel_rfl) (by kernel_rfl) (fun _ _ _ h => h) (Or.inl ⟨by kernel_rfl,?_⟩) hH4 ?_
        ·intro w hSw;have s1:=hSw;go_simp
         all_goals try first | with_reducible rfl | (intro hq; exfalso; omega) | omega
        try simp only [gA,gB,gC,Act.put,gD,gE,gF]
        refine wpAnyH_ready (rs:=[11]) (by kernel_rfl) (by simp) ?_;refine AllReadyH.cons rfl (fun K hK => ?_) AllReadyH.nil;have hx8:=(HI3.out.below hb7).boxKey hg8;have dd1:=za hx8 1 rfl;have ff1:=zc hx8 1;go_simp
        clear dd1 ff1 hx8;refine hK.out _ _ ((((HI3.out.bel.trans (hb7.mono HI3.out.bel.size))).grown hg8 (Nat.le_trans HI3.out.bel.size hb7.size) (fun k hk => (HVS.out.lt k hk).1)).setCell (p:=⟨o,1,none⟩) HI3.out.q.1 _) (fun hH5 => ?_);clear hK K hH4;try simp only [gA,gB,gC,Act.put,gD,gE,gF]
        refine wpAnyH_done (by kernel_rfl) ?_ _;have HI9:=hz0q ((HI3.out.below hb7).keyed (Nat.le_succ _) hown8 hg8);clear hH5 hown8 hg8 hat8 hb7 hbA hown5 hb5 e1 e2 e6;first | go_meet | (go_wp2; go_meet)
        case rel => exact ⟨rfl,A8,c8,HI9⟩
       ·have hbA : Below w50.heap.size w50 (w50.alloc (.cells #[.slice A5 nx c5] 42)):=(Below.refl _ _).alloc (Nat.le_refl _) _;have e6:=(hbA.cell (p:=⟨o,1,none⟩) (by have h1:=(Array.getElem?_eq_some_iff.1 HI3.out.box).1; exact Nat.lt_of_lt_of_le h1 hb5.size)).trans e2;go_simp
        refine hK.out _ _ ((HS0.out.trans (hb5.mono HS0.out.size)).alloc (Nat.le_trans HS0.out.size hb5.size) _) (fun hH2 => ?_);clear hK K hH1;try simp only [gA,gB,gC,Act.put,gD,gE,gF]
        refine wpAnyH_ready (rs:=[4]) (by kernel_rfl) (by simp) ?_;refine AllReadyH.cons rfl (fun K hK => ?_) AllReadyH.nil;have e4:=HE1.out;(try have e3:=e2)
        (try have e5:=e6)
        go_simp
        clear e4;(try clear e3)
        (try clear e5)
        refine hK.out _ _ (hH2) (fun hH3 => ?_);clear hK K hH2;try simp only [gA,gB,gC,Act.put,gD,gE,gF]
        refine wpAnyH_ready (rs:=[8]) (by kernel_rfl) (by simp) ?_;refine AllReadyH.cons rfl (fun K hK => ?_) AllReadyH.nil;have hb7 : Below w3.heap.size w3 (w50.alloc (.cells #[.slice A5 nx c5] 42)):=zb (zb (Drew.to ⟨1,rfl⟩) hb5) ((Below.refl _ _).alloc (Nat.le_refl _) _);refine zbd zd0 _ rfl (.tmp 51) (.tmp 54) rfl w.heap.size rfl (zy HVS.out hb7) rfl (Rd.new1 _ _ _) (za7 rfl) (by omega) (by omega) (Nat.le_trans HI3.out.bel.size hb7.size) ?_;intro A8 c8 w8 hown8 hg8 hat8;refine hK.out _ _ (((HI3.out.bel.trans (hb7.mono HI3.out.bel.size))).grown hg8 (Nat.le_trans HI3.out.bel.size hb7.size) (fun k hk => (HVS.out.lt k hk).1)) (fun hH4 => ?_);clear hK K hH3;try simp only [gA,gB,gC,Act.put,gD,gE,gF]
        refine wpAnyH_take (i:=9) (v:=.pointer (some ⟨o,0,none⟩)) rfl (by kernel_rfl) (by kernel_rfl) (by kernel_rfl) (fun _ _ _ h => h) (Or.inl ⟨by kernel_rfl,?_⟩) hH4 ?_
        ·intro w hSw;have s1:=hSw;go_simp
         all_goals try first | with_reducible rfl | (intro hq; exfalso; omega) | omega
        try simp only [gA,gB,gC,Act.put,gD,gE,gF]
        refine wpAnyH_take (i:=10) (v:=.pointer (some ⟨o,1,none⟩)) rfl (by kernel_rfl) (by kernel_rfl) (by kernel_rfl) (fun _ _ _ h => h) (Or.inl ⟨by kernel_rfl,?_⟩) hH4 ?_
        ·intro w hSw;have s1:=hSw;go_simp
         all_goals try first | with_reducible rfl | (intro hq; exfalso; omega) | omega
        try simp only [gA,gB,gC,Act.put,gD,gE,gF]
        refine wpAnyH_ready (rs:=[11]) (by kernel_rfl) (by simp) ?_;refine AllReadyH.cons rfl (fun K hK => ?_) AllReadyH.nil;have hx8:=(HI3.out.below hb7).boxKey hg8;have dd1:=za hx8 1 rfl;have ff1:=zc hx8 1;go_simp
        clear dd1 ff1 hx8;refine hK.out _ _ ((((HI3.out.bel.trans (hb7.mono HI3.out.bel.size))).grown hg8 (Nat.le_trans HI3.out.bel.size hb7.size) (fun k hk => (HVS.out.lt k hk).1)).setCell (p:=⟨o,1,none⟩) HI3.out.q.1 _) (fun hH5 => ?_);clear hK K hH4;try simp only [gA,gB,gC,Act.put,gD,gE,gF]
        refine wpAnyH_done (by kernel_rfl) ?_ _;have HI9:=hz0q ((HI3.out.below hb7).keyed (Nat.le_succ _) hown8 hg8);clear hH5 hown8 hg8 hat8 hb7 hbA hown5 hb5 e1 e2 e6;first | go_meet | (go_wp2; go_meet)
        case rel => exact ⟨rfl,A8,c8,HI9⟩
     case rest =>
      obtain ⟨rfl,A8,c8,HI9⟩:=hcut;have HFEW:=hz0q HI3.out.few;obtain ⟨W9,rfl⟩ : ∃ W9,W9 = wc:=⟨wc,rfl⟩;clear e1 HE1 HCL HS0;obtain ⟨kb,koff,rfl,hkbl,_⟩:=(HRX.out w (Below.refl _ _)).at_ (by omega);have HKB:=hz0q hkbl;obtain ⟨r0,hr0⟩ : ∃ r0,xs[0]? = some r0:=⟨_,List.getElem?_eq_getElem (by have:=HNX.out; omega)⟩;have HR0:=hz0q (HXR.out r0 (List.mem_of_getElem? hr0))
      have ck0 : W9.cell? ⟨kb,koff,none⟩ = some (.int .i32 r0):=by
       obtain ⟨b',off',e1,_,hc⟩:=(HRX.out W9 HI9.out.bel).at_ (by omega);injection e1 with e1;injection e1 with e1 e2;have:=hc 0 _ (by rw [Rs,List.getElem?_map,hr0]; rfl);rw [<- e1,<- e2] at this;exact this
      obtain ⟨x0,hx0⟩ : ∃ x0 : SL,x0 = (f r0).getD (none,0,0):=⟨_,rfl⟩;obtain ⟨Aq,nq,cq⟩:=x0;have HX0:=hz0q hx0
      have HNQ : Hid (nq <= nk):=by
       show nq <= nk
       cases hf : f r0 with
       | none => rw [hf] at hx0; injection hx0 with _ h2; injection h2 with h2 _; omega
       | some y => rw [hf] at hx0; have:=HFEW.out r0 y hf; rw [<- show (Aq,nq,cq) = y from hx0] at this; exact this
      have hbW : Below W9.heap.size W9 ((W9.alloc (.cells #[.int .i64 i] 3)).drew):=zb ((Below.refl _ _).alloc (Nat.le_refl _) _) (Drew.to ⟨1,rfl⟩);have HI10:=hz0q (HI9.out.below hbW)
      obtain ⟨us,hus⟩ : ∃ us,((W9.alloc (.cells #[.int .i64 i] 3)).drew).ownsRow w.heap.size 3 1 (.slice Aq nq cq) nq us:=by
       cases hf : f r0 with
       | none =>
        rw [hf] at hx0;injection hx0 with h1 h2;injection h2 with h2 h3;subst h1 h2 h3;exact ⟨[],World.ownsRow_nil _ _ _ _⟩
       | some y =>
        rw [hf] at hx0;have:=HI10.out.fam r0 y hf;rw [<- show (Aq,nq,cq) = y from hx0] at this;exact this
      have HUS:=hz0q hus;have hla:=(HI9.out.first.below (w':=W9.drew) (Drew.to ⟨1,rfl⟩) HI9.out.first.lt).look (both:=false) zh intsT (ziw _) HR0.out;have hlb:=HI10.out.first.look (both:=false) zh intsT (ziw _) HR0.out;simp only [Bool.false_eq_true,if_false] at hla hlb;rw [<- hx0] at hla hlb;have HLA:=hz0q hla;have HLB:=hz0q hlb;have HSA : Hid (W9.drew.heap[o]? = some (.cells #[wlV p,.slice A8 (nk + 1) c8,.map (some mf),.map (some mw)] 307 (0,0)) /\ W9.drew.cell? ⟨kb,koff,none⟩ = some (.int .i32 r0)):=⟨HI9.out.box,ck0⟩;have HSB : Hid (((W9.alloc (.cells #[.int .i64 i] 3)).drew).heap[o]? = some (.cells #[wlV p,.slice A8 (nk + 1) c8,.map (some mf),.map (some mw)] 307 (0,0)) /\ ((W9.alloc (.cells #[.int .i64 i] 3)).drew).cell? ⟨kb,koff,none⟩ = some (.int .i32 r0)):=⟨HI10.out.box,(hbW.cell (World.block_lt_of_cell? _ _ ck0)).trans ck0⟩;have HRD : Hid (Rd ((W9.alloc (.cells #[.int .i64 i] 3)).drew) (some ⟨W9.heap.size,0,none⟩) 1 [.int .i64 i]):=hz0q ((Rd.new1 W9 _ _).below (Drew.to ⟨1,rfl⟩));have HBS : Hid (w.heap.size <= ((W9.alloc (.cells #[.int .i64 i] 3)).drew).heap.size):=hz0q HI10.out.bel.size;have hmx : nf < maxLen:=(by unfold maxLen; omega);have hnxz : (0 : Int) < (nx : Int):=(by omega);have hnq2 : nq <= 40:=(by have:=HNQ.out; omega);clear hkbl hr0 hx0 hbW hus hla hlb HFEW;go_upto_region 18 with fail;(try simp only [Act.put,gD,gE,gF])
      go_cut [29] (fun v29 wx => v29 = .int .i64 i /\ ∃ f1 : Int -> Option SL,Hid (CvI p w o mf mw ms (.slice A8 (nk + 1) c8) (nk + 1) (nf + 1) nw (ns + 1) f1 wx))
      case first =>
       clear ck0;refine wp_region_held_drew (S:=fun w' => w'.heap[o]? = some (.cells #[wlV p,.slice A8 (nk + 1) c8,.map (some mf),.map (some mw)] 307 (0,0)) /\ w'.cell? ⟨kb,koff,none⟩ = some (.int .i32 r0)) (by kernel_rfl) (by exact ⟨HI9.out.box,HSA.out.2⟩) (fun hH0 => ?_);refine wpAnyH_take (i:=0) (v:=.pointer (some ⟨o,0,none⟩)) rfl (by kernel_rfl) (by kernel_rfl) (by kernel_rfl) (fun _ _ _ h => h) (Or.inl ⟨by kernel_rfl,?_⟩) hH0 ?_
       ·intro w hSw;obtain ⟨s1,s2⟩:=hSw;have s3:=za s1 2 rfl;go_simp
        all_goals try first | with_reducible rfl | (intro hq; exfalso; omega) | omega
       try simp only [gA,gB,gC,Act.put,gD,gE,gF]
       refine wpAnyH_take (i:=1) (v:=.pointer (some ⟨o,0,none⟩)) rfl (by kernel_rfl) (by kernel_rfl) (by kernel_rfl) (fun _ _ _ h => h) (Or.inl ⟨by kernel_rfl,?_⟩) hH0 ?_
       ·intro w hSw;obtain ⟨s1,s2⟩:=hSw;have s3:=za s1 2 rfl;go_simp
        all_goals try first | with_reducible rfl | (intro hq; exfalso; omega) | omega
       try simp only [gA,gB,gC,Act.put,gD,gE,gF]
       refine wpAnyH_take (i:=2) (v:=.pointer (some ⟨o,2,none⟩)) rfl (by kernel_rfl) (by kernel_rfl) (by kernel_rfl) (fun _ _ _ h => h) (Or.inl ⟨by kernel_rfl,?_⟩) hH0 ?_
       ·intro w hSw;obtain ⟨s1,s2⟩:=hSw;have s3:=za s1 2 rfl;go_simp
        all_goals try first | with_reducible rfl | (intro hq; exfalso; omega) | omega
       try simp only [gA,gB,gC,Act.put,gD,gE,gF]
       refine wpAnyH_take (i:=3) (v:=.map (some mf)) rfl (by kernel_rfl) (by kernel_rfl) (by kernel_rfl) (fun _ _ _ h => h) (Or.inl ⟨by kernel_rfl,?_⟩) hH0 ?_
       ·intro w hSw;obtain ⟨s1,s2⟩:=hSw;have s3:=za s1 2 rfl;go_simp
        all_goals try first | with_reducible rfl | (intro hq; exfalso; omega) | omega
       try simp only [gA,gB,gC,Act.put,gD,gE,gF]
       refine wpAnyH_take (i:=4) (v:=.slice (some ⟨kb,koff,none⟩) nx cx) rfl (by kernel_rfl) (by kernel_rfl) (by kernel_rfl) (fun _ _ _ h => h) (Or.inl ⟨by kernel_rfl,?_⟩) hH0 ?_
       ·intro w hSw;obtain ⟨s1,s2⟩:=hSw;have s3:=za s1 2 rfl;go_simp
        all_goals try first | with_reducible rfl | (intro hq; exfalso; omega) | omega
       try simp only [gA,gB,gC,Act.put,gD,gE,gF]
       refine wpAnyH_take (i:=5) (v:=.pointer (some ⟨kb,koff,none⟩)) rfl (by kernel_rfl) (by kernel_rfl) (by kernel_rfl) (fun _ _ _ h => h) (Or.inl ⟨by kernel_rfl,?_⟩) hH0 ?_
       ·intro w hSw;obtain ⟨s1,s2⟩:=hSw;have s3:=za s1 2 rfl;go_simp
        all_goals try first | with_reducible rfl | (intro hq; exfalso; omega) | omega
       try simp only [gA,gB,gC,Act.put,gD,gE,gF]
       refine wpAnyH_take (i:=6) (v:=.int .i32 r0) rfl (by kernel_rfl) (by kernel_rfl) (by kernel_rfl) (fun _ _ _ h => h) (Or.inl ⟨by kernel_rfl,?_⟩) hH0 ?_
       ·intro w hSw;obtain ⟨s1,s2⟩:=hSw;have s3:=za s1 2 rfl;go_simp
        all_goals try first | with_reducible rfl | (intro hq; exfalso; omega) | omega
       try simp only [gA,gB,gC,Act.put,gD,gE,gF]
       refine wpAnyH_take (i:=7) (v:=.pointer (some ⟨o,0,none⟩)) rfl (by kernel_rfl) (by kernel_rfl) (by kernel_rfl) (fun _ _ _ h => h) (Or.inl ⟨by kernel_rfl,?_⟩) hH0 ?_
       ·intro w hSw;obtain ⟨s1,s2⟩:=hSw;have s3:=za s1 2 rfl;go_simp
        all_goals try first | with_reducible rfl | (intro hq; exfalso; omega) | omega
       try simp only [gA,gB,gC,Act.put,gD,gE,gF]
       refine wpAnyH_take (i:=8) (v:=.pointer (some ⟨o,0,none⟩)) rfl (by kernel_rfl) (by kernel_rfl) (by kernel_rfl) (fun _ _ _ h => h) (Or.inl ⟨by kernel_rfl,?_⟩) hH0 ?_
       ·intro w hSw;obtain ⟨s1,s2⟩:=hSw;have s3:=za s1 2 rfl;go_simp
        all_goals try first | with_reducible rfl | (intro hq; exfalso; omega) | omega
       try simp only [gA,gB,gC,Act.put,gD,gE,gF]
       refine wpAnyH_take (i:=9) (v:=.pointer (some ⟨o,2,none⟩)) rfl (by kernel_rfl) (by kernel_rfl) (by kernel_rfl) (fun _ _ _ h => h) (Or.inl ⟨by kernel_rfl,?_⟩) hH0 ?_
       ·intro w hSw;obtain ⟨s1,s2⟩:=hSw;have s3:=za s1 2 rfl;go_simp
        all_goals try first | with_reducible rfl | (intro hq; exfalso; omega) | omega
       try simp only [gA,gB,gC,Act.put,gD,gE,gF]
       refine wpAnyH_take (i:=10) (v:=.map (some mf)) rfl (by kernel_rfl) (by kernel_rfl) (by kernel_rfl) (fun _ _ _ h => h) (Or.inl ⟨by kernel_rfl,?_⟩) hH0 ?_
       ·intro w hSw;obtain ⟨s1,s2⟩:=hSw;have s3:=za s1 2 rfl;go_simp
        all_goals try first | with_reducible rfl | (intro hq; exfalso; omega) | omega
       try simp only [gA,gB,gC,Act.put,gD,gE,gF]
       refine wpAnyH_take (i:=11) (v:=.slice (some ⟨kb,koff,none⟩) nx cx) rfl (by kernel_rfl) (by kernel_rfl) (by kernel_rfl) (fun _ _ _ h => h) (Or.inl ⟨by kernel_rfl,?_⟩) hH0 ?_
       ·intro w hSw;obtain ⟨s1,s2⟩:=hSw;have s3:=za s1 2 rfl;go_simp
        all_goals try first | with_reducible rfl | (intro hq; exfalso; omega) | omega
       try simp only [gA,gB,gC,Act.put,gD,gE,gF]
       refine wpAnyH_take (i:=12) (v:=.pointer (some ⟨kb,koff,none⟩)) rfl (by kernel_rfl) (by kernel_rfl) (by kernel_rfl) (fun _ _ _ h => h) (Or.inl ⟨by kernel_rfl,?_⟩) hH0 ?_
       ·intro w hSw;obtain ⟨s1,s2⟩:=hSw;have s3:=za s1 2 rfl;go_simp
        all_goals try first | with_reducible rfl | (intro hq; exfalso; omega) | omega
       try simp only [gA,gB,gC,Act.put,gD,gE,gF]
       refine wpAnyH_take (i:=13) (v:=.int .i32 r0) rfl (by kernel_rfl) (by kernel_rfl) (by kernel_rfl) (fun _ _ _ h => h) (Or.inl ⟨by kernel_rfl,?_⟩) hH0 ?_
       ·intro w hSw;obtain ⟨s1,s2⟩:=hSw;have s3:=za s1 2 rfl;go_simp
        all_goals try first | with_reducible rfl | (intro hq; exfalso; omega) | omega
       try simp only [gA,gB,gC,Act.put,gD,gE,gF]
       refine wpAnyH_take (i:=15) (v:=.int .i64 (i : Int)) rfl (by kernel_rfl) (by kernel_rfl) (by kernel_rfl) (fun _ _ _ h => h) (Or.inl ⟨by kernel_rfl,?_⟩) hH0 ?_
       ·intro w hSw;obtain ⟨s1,s2⟩:=hSw;have s3:=za s1 2 rfl;go_simp
        all_goals try first | with_reducible rfl | (intro hq; exfalso; omega) | omega
       try simp only [gA,gB,gC,Act.put,gD,gE,gF]
       refine wpAnyH_ready (rs:=[14,16]) (by kernel_rfl) (by simp) ?_;refine AllReadyH.cons rfl (fun K hK => ?_) (AllReadyH.cons rfl (fun K hK => ?_) AllReadyH.nil)
       ·have la:=HLA.out;have lb:=HLB.out;go_simp
        clear la lb;refine hK.out _ _ (by first | exact HSA.out | exact HSB.out) (fun hH1 => ?_)
        clear hK K hH0;try simp only [gA,gB,gC,Act.put,gD,gE,gF]
        refine wpAnyH_ready (rs:=[16]) (by kernel_rfl) (by simp) ?_;refine AllReadyH.cons rfl (fun K hK => ?_) AllReadyH.nil;go_simp
        refine hK.out _ _ (HSB.out) (fun hH2 => ?_);clear hK K hH1;try simp only [gA,gB,gC,Act.put,gD,gE,gF]
        refine wpAnyH_ready (rs:=[17]) (by kernel_rfl) (by simp) ?_;refine AllReadyH.cons rfl (fun K hK => ?_) AllReadyH.nil;refine zbd zlx _ rfl (.tmp 72) (.tmp 74) rfl w.heap.size rfl HUS.out rfl HRD.out (za7 rfl) (by omega) (by omega) HBS.out ?_;intro A11 c11 w11 hown11 hg11 hat11;have hrow11 : ∀ g,(Value.slice Aq nq cq).ownBlock = some g -> w.heap.size <= g /\ ∃ cur,((W9.alloc (.cells #[.int .i64 i] 3)).drew).heap[g]? = some (.cells cur 3 (0,0)):=fun g hgb => ⟨(HUS.out.lt g hgb).1,zar HUS.out hgb⟩
        have hS11 : w11.heap[o]? = some (.cells #[wlV p,.slice A8 (nk + 1) c8,.map (some mf),.map (some mw)] 307 (0,0)) /\ w11.cell? ⟨kb,koff,none⟩ = some (.int .i32 r0):=⟨(hg11.block o (Array.getElem?_eq_some_iff.1 HSB.out.1).1 (fun e => by
         obtain ⟨_,cur2,hc⟩:=hrow11 o e.symm
         exact zaz HSB.out.1 hc (by decide) rfl)).trans HSB.out.1,hg11.cell HSB.out.2 (fun e => by
         have h1:=(hrow11 kb e.symm).1;have h2:=HKB.out
         omega)⟩
        have hm11:=HI10.out.first.kept hg11 (fun e => by
         obtain ⟨_,cur2,hc⟩:=hrow11 mf e.symm
         exact HI10.out.first.ne_cells hc rfl)
        refine hK.out _ _ (hS11) (fun hH3 => ?_);clear hK K hH2;try simp only [gA,gB,gC,Act.put,gD,gE,gF]
        refine wpAnyH_ready (rs:=[18]) (by kernel_rfl) (by simp) ?_;refine AllReadyH.cons rfl (fun K hK => ?_) AllReadyH.nil;refine za6 rfl _ _ _ rfl zh intsT hmx hm11 (k:=r0) HR0.out (A11,nq + 1,c11) rfl rfl rfl ?_;intro w12 hm12 hg12 hs12
        refine hK.out _ _ (⟨(hg12.block o (Array.getElem?_eq_some_iff.1 hS11.1).1 (fun e => hm11.ne_cells hS11.1 (Option.some.inj e).symm)).trans hS11.1,hg12.cell hS11.2 (fun e => by
        have h1:=HI10.out.q.2.1;have h2:=HKB.out;have h3:=Option.some.inj e;have h4 : kb = mf:=h3
        omega)⟩) (fun hH4 => ?_)
        clear hK K hH3;try simp only [gA,gB,gC,Act.put,gD,gE,gF]
        refine wpAnyH_done (by kernel_rfl) ?_ _;have hnq1 : nq + 1 <= nk + 1:=(by have:=HNQ.out; omega);have HI12:=hz0q (HI10.out.firstPut (r:=r0) (x0:=(Aq,nq,cq)) (x1:=(A11,nq + 1,c11)) HX0.out hown11 hnq1 hg11 hat11 hm12 hg12);clear hH4 hown11 hg11 hat11 hrow11 hS11 hm11 hm12 hg12 hs12 hnq1;first | go_meet | (go_wp2; go_meet)
        case rel => exact ⟨rfl,_,HI12⟩
       ·go_simp
        refine hK.out _ _ (HSB.out) (fun hH1 => ?_);clear hK K hH0;try simp only [gA,gB,gC,Act.put,gD,gE,gF]
        refine wpAnyH_ready (rs:=[14]) (by kernel_rfl) (by simp) ?_;refine AllReadyH.cons rfl (fun K hK => ?_) AllReadyH.nil;have la:=HLA.out;have lb:=HLB.out;go_simp
        clear la lb;refine hK.out _ _ (by first | exact HSA.out | exact HSB.out) (fun hH2 => ?_)
        clear hK K hH1;try simp only [gA,gB,gC,Act.put,gD,gE,gF]
        refine wpAnyH_ready (rs:=[17]) (by kernel_rfl) (by simp) ?_;refine AllReadyH.cons rfl (fun K hK => ?_) AllReadyH.nil;refine zbd zlx _ rfl (.tmp 72) (.tmp 74) rfl w.heap.size rfl HUS.out rfl HRD.out (za7 rfl) (by omega) (by omega) HBS.out ?_;intro A11 c11 w11 hown11 hg11 hat11;have hrow11 : ∀ g,(Value.slice Aq nq cq).ownBlock = some g -> w.heap.size <= g /\ ∃ cur,((W9.alloc (.cells #[.int .i64 i] 3)).drew).heap[g]? = some (.cells cur 3 (0,0)):=fun g hgb => ⟨(HUS.out.lt g hgb).1,zar HUS.out hgb⟩
        have hS11 : w11.heap[o]? = some (.cells #[wlV p,.slice A8 (nk + 1) c8,.map (some mf),.map (some mw)] 307 (0,0)) /\ w11.cell? ⟨kb,koff,none⟩ = some (.int .i32 r0):=⟨(hg11.block o (Array.getElem?_eq_some_iff.1 HSB.out.1).1 (fun e => by
         obtain ⟨_,cur2,hc⟩:=hrow11 o e.symm
         exact zaz HSB.out.1 hc (by decide) rfl)).trans HSB.out.1,hg11.cell HSB.out.2 (fun e => by
         have h1:=(hrow11 kb e.symm).1;have h2:=HKB.out
         omega)⟩
        have hm11:=HI10.out.first.kept hg11 (fun e => by
         obtain ⟨_,cur2,hc⟩:=hrow11 mf e.symm
         exact HI10.out.first.ne_cells hc rfl)
        refine hK.out _ _ (hS11) (fun hH3 => ?_);clear hK K hH2;try simp only [gA,gB,gC,Act.put,gD,gE,gF]
        refine wpAnyH_ready (rs:=[18]) (by kernel_rfl) (by simp) ?_;refine AllReadyH.cons rfl (fun K hK => ?_) AllReadyH.nil;refine za6 rfl _ _ _ rfl zh intsT hmx hm11 (k:=r0) HR0.out (A11,nq + 1,c11) rfl rfl rfl ?_;intro w12 hm12 hg12 hs12
        refine hK.out _ _ (⟨(hg12.block o (Array.getElem?_eq_some_iff.1 hS11.1).1 (fun e => hm11.ne_cells hS11.1 (Option.some.inj e).symm)).trans hS11.1,hg12.cell hS11.2 (fun e => by
        have h1:=HI10.out.q.2.1;have h2:=HKB.out;have h3:=Option.some.inj e;have h4 : kb = mf:=h3
        omega)⟩) (fun hH4 => ?_)
        clear hK K hH3;try simp only [gA,gB,gC,Act.put,gD,gE,gF]
        refine wpAnyH_done (by kernel_rfl) ?_ _;have hnq1 : nq + 1 <= nk + 1:=(by have:=HNQ.out; omega);have HI12:=hz0q (HI10.out.firstPut (r:=r0) (x0:=(Aq,nq,cq)) (x1:=(A11,nq + 1,c11)) HX0.out hown11 hnq1 hg11 hat11 hm12 hg12);clear hH4 hown11 hg11 hat11 hrow11 hS11 hm11 hm12 hg12 hs12 hnq1;first | go_meet | (go_wp2; go_meet)
        case rel => exact ⟨rfl,_,HI12⟩
      case rest =>
       obtain ⟨rfl,f1,HI12⟩:=hcut;obtain ⟨W12,rfl⟩ : ∃ W12,W12 = wc:=⟨wc,rfl⟩;clear ck0 hmx HLA HLB HSA HSB HUS HRD HBS HI10 HX0;have q1x : (1 : Int) <= (nx : Int):=(by omega);have q2x : ((nx : Int) - 1).toNat = nx - 1:=(by omega);have q3x : ((nx - 1 : Nat) : Int) = (nx : Int) - 1:=by omega
       by_cases h1c : 1 < cx
       ·have hc0 : ¬ (cx - 1 = 0):=(by omega);have hc1 : (1 : Int) < (cx : Int):=(by omega);have hc2 : ((cx : Int) - 1).toNat = cx - 1:=(by omega);have hc3 : ¬ (cx <= 1):=(by omega);have hnl : nx - 1 <= 17:=(by omega);obtain ⟨nl,hnl2⟩ : ∃ nl,nl = nx - 1:=⟨_,rfl⟩;go_wp2_with fail
        go_loopw [79] (fun v79 wr => ∃ (j nw' : Nat),v79 = .int .i64 j /\ j <= nx - 1 /\ nw' <= nw + j /\ Hid (CvI p w o mf mw ms (.slice A8 (nk + 1) c8) (nk + 1) (nf + 1) nw' (ns + 1) f1 wr)) (fun v79 _ => nx - 1 - (intOf v79).toNat)
        case atStart => exact ⟨0,nw,rfl,Nat.zero_le _,Nat.le_refl _,HI12⟩
        case round =>
         obtain ⟨j,nw',rfl,hj,hnw',HIJ⟩:=hrel;obtain ⟨wq,rfl⟩ : ∃ wq,wq = wr:=⟨wr,rfl⟩
         by_cases hjl : j < nx - 1
         ·have hji : (j : Int) < ((nx - 1 : Nat) : Int):=(by omega);have hji2 : (j : Int) < (nx : Int) - 1:=(by omega);obtain ⟨r,hr⟩ : ∃ r,xs[1 + j]? = some r:=⟨_,List.getElem?_eq_getElem (by have:=HNX.out; omega)⟩;have hrR:=HXR.out r (List.mem_of_getElem? hr)
          have cr : wq.cell? ⟨kb,koff + 1 + j,none⟩ = some (.int .i32 r):=by
           obtain ⟨b',off',e1,_,hc⟩:=(HRX.out wq HIJ.out.bel).at_ (by omega);injection e1 with e1;injection e1 with e1 e2;have:=hc (1 + j) _ (by rw [Rs,List.getElem?_map,hr]; rfl);rw [<- e1,<- e2,<- Nat.add_assoc] at this;exact this
          obtain ⟨fw,hfw⟩:=HIJ.out.within;have hmw1 : nw' < maxLen:=(by unfold maxLen; omega);have LK:=(hfw.below (w':=wq.drew) (Drew.to ⟨1,rfl⟩) hfw.lt).look (both:=false) zh zm8 (zcc _) hrR;obtain ⟨b1,hb1⟩ : ∃ b1,(fw r).getD false = b1:=⟨_,rfl⟩;simp only [Bool.false_eq_true,if_false] at LK;rw [hb1] at LK;have HLK:=hz0q LK;have HFW:=hz0q hfw;have HS0 : Hid (wq.drew.heap[o]? = some (.cells #[wlV p,.slice A8 (nk + 1) c8,.map (some mf),.map (some mw)] 307 (0,0)) /\ Below w.heap.size w wq.drew):=⟨HIJ.out.box,HIJ.out.bel.trans ((show Drew wq wq.drew from ⟨1,rfl⟩).below _)⟩
          clear LK hb1 hr;go_upto_region 22 with fail;clear cr hfw
          cases b1 with
          | true =>
           refine wp_region_held_drew (S:=fun w' => w'.heap[o]? = some (.cells #[wlV p,.slice A8 (nk + 1) c8,.map (some mf),.map (some mw)] 307 (0,0)) /\ Below w.heap.size w w') (by kernel_rfl) (HS0.out) (fun hH0 => ?_);refine wpAnyH_take (i:=0) (v:=.pointer (some ⟨o,0,none⟩)) rfl (by kernel_rfl) (by kernel_rfl) (by kernel_rfl) (fun _ _ _ h => h) (Or.inl ⟨by kernel_rfl,?_⟩) hH0 ?_
           ·intro w hSw;obtain ⟨s1,s2⟩:=hSw;have s3:=za s1 3 rfl;go_simp
            all_goals try first | with_reducible rfl | omega
           try simp only [gA,gB,gC,Act.put,gD,gE,gF]
           refine wpAnyH_take (i:=1) (v:=.pointer (some ⟨o,0,none⟩)) rfl (by kernel_rfl) (by kernel_rfl) (by kernel_rfl) (fun _ _ _ h => h) (Or.inl ⟨by kernel_rfl,?_⟩) hH0 ?_
           ·intro w hSw;obtain ⟨s1,s2⟩:=hSw;have s3:=za s1 3 rfl;go_simp
            all_goals try first | with_reducible rfl | omega
           try simp only [gA,gB,gC,Act.put,gD,gE,gF]
           refine wpAnyH_take (i:=2) (v:=.pointer (some ⟨o,3,none⟩)) rfl (by kernel_rfl) (by kernel_rfl) (by kernel_rfl) (fun _ _ _ h => h) (Or.inl ⟨by kernel_rfl,?_⟩) hH0 ?_
           ·intro w hSw;obtain ⟨s1,s2⟩:=hSw;have s3:=za s1 3 rfl;go_simp
            all_goals try first | with_reducible rfl | omega
           try simp only [gA,gB,gC,Act.put,gD,gE,gF]
           refine wpAnyH_take (i:=3) (v:=.map (some mw)) rfl (by kernel_rfl) (by kernel_rfl) (by kernel_rfl) (fun _ _ _ h => h) (Or.inl ⟨by kernel_rfl,?_⟩) hH0 ?_
           ·intro w hSw;obtain ⟨s1,s2⟩:=hSw;have s3:=za s1 3 rfl;go_simp
            all_goals try first | with_reducible rfl | omega
           try simp only [gA,gB,gC,Act.put,gD,gE,gF]
           refine wpAnyH_take (i:=4) (v:=.int .i32 r) rfl (by kernel_rfl) (by kernel_rfl) (by kernel_rfl) (fun _ _ _ h => h) (Or.inl ⟨by kernel_rfl,?_⟩) hH0 ?_
           ·intro w hSw;obtain ⟨s1,s2⟩:=hSw;have s3:=za s1 3 rfl;go_simp
            all_goals try first | with_reducible rfl | omega
           try simp only [gA,gB,gC,Act.put,gD,gE,gF]
           refine wpAnyH_take (i:=5) (v:=.pointer (some ⟨o,0,none⟩)) rfl (by kernel_rfl) (by kernel_rfl) (by kernel_rfl) (fun _ _ _ h => h) (Or.inl ⟨by kernel_rfl,?_⟩) hH0 ?_
           ·intro w hSw;obtain ⟨s1,s2⟩:=hSw;have s3:=za s1 3 rfl;go_simp
            all_goals try first | with_reducible rfl | omega
           try simp only [gA,gB,gC,Act.put,gD,gE,gF]
           refine wpAnyH_take (i:=6) (v:=.pointer (some ⟨o,0,none⟩)) rfl (by kernel_rfl) (by kernel_rfl) (by kernel_rfl) (fun _ _ _ h => h) (Or.inl ⟨by kernel_rfl,?_⟩) hH0 ?_
           ·intro w hSw;obtain ⟨s1,s2⟩:=hSw;have s3:=za s1 3 rfl;go_simp
            all_goals try first | with_reducible rfl | omega
           try simp only [gA,gB,gC,Act.put,gD,gE,gF]
           refine wpAnyH_take (i:=7) (v:=.pointer (some ⟨o,3,none⟩)) rfl (by kernel_rfl) (by kernel_rfl) (by kernel_rfl) (fun _ _ _ h => h) (Or.inl ⟨by kernel_rfl,?_⟩) hH0 ?_
           ·intro w hSw;obtain ⟨s1,s2⟩:=hSw;have s3:=za s1 3 rfl;go_simp
            all_goals try first | with_reducible rfl | omega
           try simp only [gA,gB,gC,Act.put,gD,gE,gF]
           refine wpAnyH_take (i:=8) (v:=.map (some mw)) rfl (by kernel_rfl) (by kernel_rfl) (by kernel_rfl) (fun _ _ _ h => h) (Or.inl ⟨by kernel_rfl,?_⟩) hH0 ?_
           ·intro w hSw;obtain ⟨s1,s2⟩:=hSw;have s3:=za s1 3 rfl;go_simp
            all_goals try first | with_reducible rfl | omega
           try simp only [gA,gB,gC,Act.put,gD,gE,gF]
           refine wpAnyH_take (i:=9) (v:=.int .i32 r) rfl (by kernel_rfl) (by kernel_rfl) (by kernel_rfl) (fun _ _ _ h => h) (Or.inl ⟨by kernel_rfl,?_⟩) hH0 ?_
           ·intro w hSw;obtain ⟨s1,s2⟩:=hSw;have s3:=za s1 3 rfl;go_simp
            all_goals try first | with_reducible rfl | omega
           try simp only [gA,gB,gC,Act.put,gD,gE,gF]
           refine wpAnyH_ready (rs:=[10]) (by kernel_rfl) (by simp) ?_;refine AllReadyH.cons rfl (fun K hK => ?_) AllReadyH.nil;have la:=HLK.out;go_simp
           clear la;refine hK.out _ _ (HS0.out) (fun hH1 => ?_);clear hK K hH0;try simp only [gA,gB,gC,Act.put,gD,gE,gF]
           refine wpAnyH_take (i:=11) (v:=.bool true) rfl (by kernel_rfl) (by kernel_rfl) (by kernel_rfl) (fun _ _ _ h => h) (Or.inl ⟨by kernel_rfl,?_⟩) hH1 ?_
           ·intro w hSw;obtain ⟨s1,s2⟩:=hSw;have s3:=za s1 3 rfl;go_simp
            all_goals try first | with_reducible rfl | omega
           try simp only [gA,gB,gC,Act.put,gD,gE,gF]
           refine psH 12 rfl hH1 ?_;try simp only [gA,gB,gC,Act.put,gD,gE,gF]
           refine psH 13 rfl hH1 ?_;try simp only [gA,gB,gC,Act.put,gD,gE,gF]
           refine psH 14 rfl hH1 ?_;try simp only [gA,gB,gC,Act.put,gD,gE,gF]
           refine psH 15 rfl hH1 ?_;try simp only [gA,gB,gC,Act.put,gD,gE,gF]
           refine wpAnyH_take (i:=16) (v:=.bool true) rfl (by kernel_rfl) (by kernel_rfl) (by kernel_rfl) (fun _ _ _ h => h) (Or.inl ⟨by kernel_rfl,?_⟩) hH1 ?_
           ·intro w hSw;obtain ⟨s1,s2⟩:=hSw;have s3:=za s1 3 rfl;go_simp
            all_goals try first | with_reducible rfl | omega
           try simp only [gA,gB,gC,Act.put,gD,gE,gF]
           refine wpAnyH_ready (rs:=[17]) (by kernel_rfl) (by simp) ?_;refine AllReadyH.cons rfl (fun K hK => ?_) AllReadyH.nil;refine za6 rfl _ _ _ rfl zh zm8 hmw1 (HFW.out.below (w':=wq.drew) (Drew.to ⟨1,rfl⟩) HFW.out.lt) (k:=r) hrR true rfl rfl rfl ?_;intro w13 hm13 hg13 hs13;refine hK.out _ _ (⟨(hg13.block o (Array.getElem?_eq_some_iff.1 hH1.1).1 (fun e => ((HFW.out.below (w':=wq.drew) (Drew.to ⟨1,rfl⟩) HFW.out.lt)).ne_cells hH1.1 (Option.some.inj e).symm)).trans hH1.1,hH1.2.grown hg13 hH1.2.size (fun k e => by have:=HIJ.out.q.2.2.1; injection e with e; omega)⟩) (fun hH2 => ?_);clear hK K hH1;try simp only [gA,gB,gC,Act.put,gD,gE,gF]
           refine wpAnyH_done (by kernel_rfl) ?_ _;have HIN:=hz0q ((HIJ.out.below (w':=wq.drew) (Drew.to ⟨1,rfl⟩)).withinPut hm13 hg13);clear hH2 hm13 hg13 hs13;go_wp2;go_roundw
           case rel => exact ⟨j + 1,nw' + 1,by go_num,by omega,by omega,HIN⟩
           case measure => simp [intOf] <;> omega
          | false =>
           obtain ⟨ck,hck⟩ : ∃ ck,ck = B.cls r:=⟨_,rfl⟩;have HCX : Hid (∀ W,Below wq.heap.size wq W -> Calls Tryz.prog 257 #[wlC p,.int .i32 r] W fun e W' => e = .returned (.int .i64 ck) /\ Below W.heap.size W W'):=fun W hW => by rw [hck]; exact zdk (hB.out W (HIJ.out.bel.trans (hW.mono HIJ.out.bel.size))) r hrR
           clear hck;refine wp_region_held_drew (S:=fun w' => w'.heap[o]? = some (.cells #[wlV p,.slice A8 (nk + 1) c8,.map (some mf),.map (some mw)] 307 (0,0)) /\ Below w.heap.size w w') (by kernel_rfl) (HS0.out) (fun hH0 => ?_);refine wpAnyH_take (i:=0) (v:=.pointer (some ⟨o,0,none⟩)) rfl (by kernel_rfl) (by kernel_rfl) (by kernel_rfl) (fun _ _ _ h => h) (Or.inl ⟨by kernel_rfl,?_⟩) hH0 ?_
           ·intro w hSw;obtain ⟨s1,s2⟩:=hSw;have s3:=za s1 3 rfl;go_simp
            all_goals try first | with_reducible rfl | omega
           try simp only [gA,gB,gC,Act.put,gD,gE,gF]
           refine wpAnyH_take (i:=1) (v:=.pointer (some ⟨o,0,none⟩)) rfl (by kernel_rfl) (by kernel_rfl) (by kernel_rfl) (fun _ _ _ h => h) (Or.inl ⟨by kernel_rfl,?_⟩) hH0 ?_
           ·intro w hSw;obtain ⟨s1,s2⟩:=hSw;have s3:=za s1 3 rfl;go_simp
            all_goals try first | with_reducible rfl | omega
           try simp only [gA,gB,gC,Act.put,gD,gE,gF]
           refine wpAnyH_take (i:=2) (v:=.pointer (some ⟨o,3,none⟩)) rfl (by kernel_rfl) (by kernel_rfl) (by kernel_rfl) (fun _ _ _ h => h) (Or.inl ⟨by kernel_rfl,?_⟩) hH0 ?_
           ·intro w hSw;obtain ⟨s1,s2⟩:=hSw;have s3:=za s1 3 rfl;go_simp
            all_goals try first | with_reducible rfl | omega
           try simp only [gA,gB,gC,Act.put,gD,gE,gF]
           refine wpAnyH_take (i:=3) (v:=.map (some mw)) rfl (by kernel_rfl) (by kernel_rfl) (by kernel_rfl) (fun _ _ _ h => h) (Or.inl ⟨by kernel_rfl,?_⟩) hH0 ?_
           ·intro w hSw;obtain ⟨s1,s2⟩:=hSw;have s3:=za s1 3 rfl;go_simp
            all_goals try first | with_reducible rfl | omega
           try simp only [gA,gB,gC,Act.put,gD,gE,gF]
           refine wpAnyH_take (i:=4) (v:=.int .i32 r) rfl (by kernel_rfl) (by kernel_rfl) (by kernel_rfl) (fun _ _ _ h => h) (Or.inl ⟨by kernel_rfl,?_⟩) hH0 ?_
           ·intro w hSw;obtain ⟨s1,s2⟩:=hSw;have s3:=za s1 3 rfl;go_simp
            all_goals try first | with_reducible rfl | omega
           try simp only [gA,gB,gC,Act.put,gD,gE,gF]
           refine wpAnyH_take (i:=5) (v:=.pointer (some ⟨o,0,none⟩)) rfl (by kernel_rfl) (by kernel_rfl) (by kernel_rfl) (fun _ _ _ h => h) (Or.inl ⟨by kernel_rfl,?_⟩) hH0 ?_
           ·intro w hSw;obtain ⟨s1,s2⟩:=hSw;have s3:=za s1 3 rfl;go_simp
            all_goals try first | with_reducible rfl | omega
           try simp only [gA,gB,gC,Act.put,gD,gE,gF]
           refine wpAnyH_take (i:=6) (v:=.pointer (some ⟨o,0,none⟩)) rfl (by kernel_rfl) (by kernel_rfl) (by kernel_rfl) (fun _ _ _ h => h) (Or.inl ⟨by kernel_rfl,?_⟩) hH0 ?_
           ·intro w hSw;obtain ⟨s1,s2⟩:=hSw;have s3:=za s1 3 rfl;go_simp
            all_goals try first | with_reducible rfl | omega
           try simp only [gA,gB,gC,Act.put,gD,gE,gF]
           refine wpAnyH_take (i:=7) (v:=.pointer (some ⟨o,3,none⟩)) rfl (by kernel_rfl) (by kernel_rfl) (by kernel_rfl) (fun _ _ _ h => h) (Or.inl ⟨by kernel_rfl,?_⟩) hH0 ?_
           ·intro w hSw;obtain ⟨s1,s2⟩:=hSw;have s3:=za s1 3 rfl;go_simp
            all_goals try first | with_reducible rfl | omega
           try simp only [gA,gB,gC,Act.put,gD,gE,gF]
           refine wpAnyH_take (i:=8) (v:=.map (some mw)) rfl (by kernel_rfl) (by kernel_rfl) (by kernel_rfl) (fun _ _ _ h => h) (Or.inl ⟨by kernel_rfl,?_⟩) hH0 ?_
           ·intro w hSw;obtain ⟨s1,s2⟩:=hSw;have s3:=za s1 3 rfl;go_simp
            all_goals try first | with_reducible rfl | omega
           try simp only [gA,gB,gC,Act.put,gD,gE,gF]
           refine wpAnyH_take (i:=9) (v:=.int .i32 r) rfl (by kernel_rfl) (by kernel_rfl) (by kernel_rfl) (fun _ _ _ h => h) (Or.inl ⟨by kernel_rfl,?_⟩) hH0 ?_
           ·intro w hSw;obtain ⟨s1,s2⟩:=hSw;have s3:=za s1 3 rfl;go_simp
            all_goals try first | with_reducible rfl | omega
           try simp only [gA,gB,gC,Act.put,gD,gE,gF]
           refine wpAnyH_ready (rs:=[10]) (by kernel_rfl) (by simp) ?_;refine AllReadyH.cons rfl (fun K hK => ?_) AllReadyH.nil;have la:=HLK.out;go_simp
           clear la;refine hK.out _ _ (HS0.out) (fun hH1 => ?_);clear hK K hH0;try simp only [gA,gB,gC,Act.put,gD,gE,gF]
           refine wpAnyH_take (i:=11) (v:=.bool false) rfl (by kernel_rfl) (by kernel_rfl) (by kernel_rfl) (fun _ _ _ h => h) (Or.inl ⟨by kernel_rfl,?_⟩) hH1 ?_
           ·intro w hSw;obtain ⟨s1,s2⟩:=hSw;have s3:=za s1 3 rfl;go_simp
            all_goals try first | with_reducible rfl | omega
           try simp only [gA,gB,gC,Act.put,gD,gE,gF]
           refine wpAnyH_take (i:=12) (v:=wlV p) rfl (by kernel_rfl) (by kernel_rfl) (by kernel_rfl) (fun _ _ _ h => h) (Or.inl ⟨by kernel_rfl,?_⟩) hH1 ?_
           ·intro w hSw;obtain ⟨s1,s2⟩:=hSw;have s3:=za s1 3 rfl;go_simp
            all_goals try first | with_reducible rfl | omega
           try simp only [gA,gB,gC,Act.put,gD,gE,gF]
           refine wpAnyH_take (i:=13) (v:=.int .i32 r) rfl (by kernel_rfl) (by kernel_rfl) (by kernel_rfl) (fun _ _ _ h => h) (Or.inl ⟨by kernel_rfl,?_⟩) hH1 ?_
           ·intro w hSw;obtain ⟨s1,s2⟩:=hSw;have s3:=za s1 3 rfl;go_simp
            all_goals try first | with_reducible rfl | omega
           try simp only [gA,gB,gC,Act.put,gD,gE,gF]
           refine wpAnyH_ready (rs:=[14]) (by kernel_rfl) (by simp) ?_;refine AllReadyH.cons rfl (fun K hK => ?_) AllReadyH.nil;go_simp
           refine (HCX.out _ (Drew.to ⟨1,rfl⟩)).mono ?_;rintro e w51 ⟨rfl,hb⟩;refine hK.out _ _ (⟨zd hH1.1 hb,hH1.2.trans (hb.mono hH1.2.size)⟩) (fun hH2 => ?_);clear hK K hH1;try simp only [gA,gB,gC,Act.put,gD,gE,gF]
           refine wpAnyH_take (i:=15) (v:=.bool (ck == 0)) rfl (by kernel_rfl) (by kernel_rfl) (by kernel_rfl) (fun _ _ _ h => h) (Or.inl ⟨by kernel_rfl,?_⟩) hH2 ?_
           ·intro w hSw;obtain ⟨s1,s2⟩:=hSw;have s3:=za s1 3 rfl;go_simp
            all_goals try first | with_reducible rfl | omega
           try simp only [gA,gB,gC,Act.put,gD,gE,gF]
           refine wpAnyH_take (i:=16) (v:=.bool (ck == 0)) rfl (by kernel_rfl) (by kernel_rfl) (by kernel_rfl) (fun _ _ _ h => h) (Or.inl ⟨by kernel_rfl,?_⟩) hH2 ?_
           ·intro w hSw;obtain ⟨s1,s2⟩:=hSw;have s3:=za s1 3 rfl;go_simp
            all_goals try first | with_reducible rfl | omega
           try simp only [gA,gB,gC,Act.put,gD,gE,gF]
           refine wpAnyH_ready (rs:=[17]) (by kernel_rfl) (by simp) ?_;refine AllReadyH.cons rfl (fun K hK => ?_) AllReadyH.nil;refine za6 rfl _ _ _ rfl zh zm8 hmw1 (HFW.out.below (w':=w51) (zb (Drew.to ⟨1,rfl⟩) hb) HFW.out.lt) (k:=r) hrR (ck == 0) rfl rfl rfl ?_;intro w13 hm13 hg13 hs13;refine hK.out _ _ (⟨(hg13.block o (Array.getElem?_eq_some_iff.1 hH2.1).1 (fun e => ((HFW.out.below (w':=w51) (zb (Drew.to ⟨1,rfl⟩) hb) HFW.out.lt)).ne_cells hH2.1 (Option.some.inj e).symm)).trans hH2.1,hH2.2.grown hg13 hH2.2.size (fun k e => by have:=HIJ.out.q.2.2.1; injection e with e; omega)⟩) (fun hH3 => ?_);clear hK K hH2;try simp only [gA,gB,gC,Act.put,gD,gE,gF]
           refine wpAnyH_done (by kernel_rfl) ?_ _;have HIN:=hz0q ((HIJ.out.below (w':=w51) (zb (Drew.to ⟨1,rfl⟩) hb)).withinPut hm13 hg13);clear hH3 hm13 hg13 hs13;go_wp2;go_roundw
           case rel => exact ⟨j + 1,nw' + 1,by go_num,by omega,by omega,HIN⟩
           case measure => simp [intOf] <;> omega
         ·obtain rfl : j = nx - 1:=(by omega);have hji : ¬ (((nx - 1 : Nat) : Int) < ((nx - 1 : Nat) : Int)):=(by omega);have hji2 : ¬ ((nx : Int) - 1 < (nx : Int) - 1):=(by omega);go_wp2;go_roundw
          case rel => exact ⟨i + 1,nk + 1,nf + 1,nw',ns + 1,_,f1,by go_num,by omega,by omega,by omega,by omega,by omega,HIJ⟩
          case measure => simp [intOf] <;> omega
       ·obtain rfl : nx = 1:=(by omega);obtain rfl : cx = 1:=(by omega);go_wp2_with fail
        go_loopw [79] (fun v79 wr => ∃ (nw' : Nat),v79 = .int .i64 0 /\ nw' <= nw /\ Hid (CvI p w o mf mw ms (.slice A8 (nk + 1) c8) (nk + 1) (nf + 1) nw' (ns + 1) f1 wr)) (fun v79 _ => 0)
        case atStart => exact ⟨nw,rfl,Nat.le_refl _,HI12⟩
        case round =>
         obtain ⟨nw',rfl,hnw',HIJ⟩:=hrel;go_wp2;go_roundw
         case rel => exact ⟨i + 1,nk + 1,nf + 1,nw',ns + 1,_,f1,by go_num,by omega,by omega,by omega,by omega,by omega,HIJ⟩
         case measure => simp [intOf] <;> omega
   ·have q0 : (k != 0) = true:=(by simp [hk0]);clear hk;go_wp2;go_returns;exact ⟨⟨none,k,rfl⟩,HI1.out.bel⟩
  ·obtain rfl : i = n:=(by omega);have hii : ¬ ((i : Int) < (i : Int)):=(by omega);go_wp2;go_returns;exact ⟨⟨_,0,rfl⟩,HI.out.bel⟩
end
end
section
open Go.RowKit Go.Lib Go.Maps
theorem sclone_any (A : Option Addr) (n c : Nat) (ss : List ByteArray) (w : World) (hs : ArgSS w A n ss) (hn : n <= 1000) : Calls Tryz.prog 141 #[.slice A n c] w fun e w' => (∃ A' n' c',e = .returned (.slice A' n' c')) /\ Below w.heap.size w w':=by
 cases A with
 | none =>
  refine (Tryz.slices_Clone_string_nil n c w).mono ?_;rintro e w' h;exact ⟨⟨none,0,0,h.1⟩,by rw [h.2]; exact Below.refl _ _⟩
 | some a =>
  by_cases h0 : n = 0
  ·subst h0;refine (Tryz.slices_Clone_string_zero a c w).mono ?_;rintro e w' ⟨v,rfl,ho,_,hb⟩;obtain ⟨A',c',rfl⟩:=zbs ho;exact ⟨⟨_,_,_,rfl⟩,hb⟩
  ·obtain ⟨b,off,e1,_,hc⟩:=hs.rd.at_ (by omega);injection e1 with e1;subst e1
   refine (Tryz.slices_Clone_string b off n c ss w (by rw [hs.len]; exact Nat.le_refl _) (by omega) (fun j hj => by
    have:=hc j _ (by rw [List.getElem?_map,List.getElem?_eq_getElem hj]; rfl);rw [this]
    simp [List.getD,List.getElem?_eq_getElem hj])).mono ?_
   rintro e w' ⟨v,rfl,ho,_,hb⟩;obtain ⟨A',c',rfl⟩:=zbs ho;exact ⟨⟨_,_,_,rfl⟩,hb⟩
theorem scont_any (A : Option Addr) (n c : Nat) (ss : List ByteArray) (x : ByteArray) (w : World) (hs : ArgSS w A n ss) (hn : n <= 1000) : Calls Tryz.prog 140 #[.slice A n c,.string x] w fun e w' => (∃ b : Bool,e = .returned (.bool b)) /\ SameT w w':=by
 by_cases h0 : n = 0
 ·subst h0;refine (Tryz.slices_Contains_string_empty A c x w).mono ?_;rintro e w' ⟨rfl,rfl⟩;exact ⟨⟨_,rfl⟩,rfl⟩
 ·obtain ⟨b,off,rfl,_,hc⟩:=hs.rd.at_ (by omega)
  refine (Tryz.slices_Contains_string b off n c ss x w (by rw [hs.len]; exact Nat.le_refl _) (by omega) (fun j hj => by
   have:=hc j _ (by rw [List.getElem?_map,List.getElem?_eq_getElem hj]; rfl);rw [this]
   simp [List.getD,List.getElem?_eq_getElem hj])).mono ?_
  rintro e w' ⟨rfl,rfl⟩;exact ⟨⟨_,rfl⟩,rfl⟩
section
variable {w : World} {p : Option Addr} {B : BaseF}
theorem pnew_any (hB : Hid (∀ W,Below w.heap.size w W -> zac W (.pointer p) B)) (Ac : Option Addr) (nc cc : Nat) (ss : List ByteArray) (hs : ArgSS w Ac nc ss) (hnc : nc <= 40) (A : Option Addr) (n cp : Nat) (os : List LA) (hK : ArgK w A n os) (hn40 : n <= 40) :
  Calls Tryz.prog 93 #[wlV p,.slice Ac nc cc,.slice A n cp] w (CvbP w):=by
 have CV:=cvnew_any hB A n cp os hK hn40;have HS:=hz0q hs;clear hs hK hB;go_enter Tryz.func93,Tryz.ntmps93;go_wp2_with fail;refine CV.mono ?_;rintro e w1 ⟨⟨x,k,rfl⟩,hb1⟩;have HB1:=hz0q hb1;have hs1:=HS.out.below hb1;clear CV hb1
 by_cases hk : k = 0
 ·subst hk
  by_cases hnn : nc = n
  ·subst hnn;have hz : ((nc : Int) == (nc : Int)) = true:=(by simp);have hz2 : ((nc : Int) != (nc : Int)) = false:=(by simp);have SC:=scont_any Ac nc cc ss .empty w1 hs1 (by omega);have CL:=fun W (hW : Below w1.heap.size w1 W) => sclone_any Ac nc cc ss W (hs1.below hW) (by omega);have HCL:=hz0q CL;clear CL hs1;go_wp2_with fail;refine SC.mono ?_;rintro e w2 ⟨⟨b,rfl⟩,hsm⟩;obtain rfl : w1 = w2:=hsm;clear SC
   cases b with
   | true =>
    go_wp2;go_returns;exact ⟨⟨none,1,rfl⟩,HB1.out⟩
   | false =>
    go_wp2_with fail;refine (HCL.out w1 (Below.refl _ _)).mono ?_;rintro e w3 ⟨⟨A3,n3,c3,rfl⟩,hb3⟩;have HB3:=hz0q (zb HB1.out hb3);clear hb3;go_wp2;go_returns;exact ⟨⟨_,0,rfl⟩,HB3.out.alloc HB3.out.size _⟩
  ·have hz : ((nc : Int) == (n : Int)) = false:=(by simp; omega);have hz2 : ((nc : Int) != (n : Int)) = true:=(by simp; omega);go_wp2;go_returns;exact ⟨⟨none,1,rfl⟩,HB1.out⟩
 ·have q0 : (k != 0) = true:=(by simp [hk]);go_wp2;go_returns;exact ⟨⟨none,k,rfl⟩,HB1.out⟩
end
end
end Go.Proofs.YtolcabjkbefjgaaGreatDoor
