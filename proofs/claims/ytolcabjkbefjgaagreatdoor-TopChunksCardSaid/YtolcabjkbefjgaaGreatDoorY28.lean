/- makes: the code. New: both loops, and what is made: the code. -/
import Derived.Test.YtolcabjkbefjgaaGreatDoorY25
set_option linter.unusedSimpArgs false
set_option linter.unusedVariables false
set_option maxRecDepth 20000
set_option maxHeartbeats 4000000
namespace Go.Proofs.YtolcabjkbefjgaaGreatDoor
section
open Go.RowKit Go.Lib Go.Maps
section
variable {W0 : World} {bp n : Nat} {a : BAddr} {cls : Int -> Int} {prt : Int -> Option (List UInt8 × List Int)}
theorem makes_any {w : World} (h : BaseM w bp a n cls prt (fun _ => none) (fun _ => none) (fun _ => none)) (ap : a.Apart) (hn : n <= 100000) (A : Option Addr) (c : Nat) (out : List Int) (hr : Rd w A out.length (Rs out)) (hR : Rises out) (hol : out.length <= 1000000) (hk : Kinds w) (hI : ∀ r q,prt r = some q -> ∀ y ∈ q.2,R32 y) :
  Calls Tryz.prog 32 #[.pointer (some ⟨bp,0,none⟩),.slice A out.length c] w (zoa bp n a cls prt out w):=by
 have c1:=za h.box 1 rfl;obtain ⟨f,hC⟩:=h.cOf;have hV:=h.vOf;have hnc:=hV.notCells;have hm:=hC.map;have hbl : a.m1 < w.heap.size /\ a.m2 < w.heap.size /\ a.m3 < w.heap.size /\ a.m4 < w.heap.size:=⟨hm.lt,hV.pr.lt,hV.md.lt,hV.sc.lt⟩;have HNC:=hz0q hnc;have HCC:=hz0q hC;have HR:=hz0q hr;have HRI:=hz0q hR;have HK:=hz0q hk;have HAP:=hz0q ap;clear h hnc hC hr hR hk ap;go_enter Tryz.func32,Tryz.ntmps32;go_wp2_with (first | (refine wpList_rangeF rfl _ rfl zh zll hm rfl ?_; intro w1 cnt hrg hcn hg1 hs1) | go_in)
 have hI0 : MkR a cls prt f out n w.heap.size w w1 false cnt:=by
  have hb1 : Below w.heap.size w w1:=(Below.refl _ _).grown hg1 (Nat.le_refl _) (fun k e => by cases e);exact ⟨_,[],_,_,_,hrg,Came.start,MkI.start,by simpa using hV.below hb1,by simpa using hcn,.of_below hb1⟩
 clear hm hrg hV;go_frame
 go_loopw [5] (fun e wr => ∃ (bad : Bool) (ev : Int) (cnt : Nat),e = .int .i64 ev /\ Hid (ev = if bad = true then 12 else 0) /\ MkR a cls prt f out n w.heap.size w wr bad cnt) (fun _ wr => wr.rangeLeft a.m1 w.heap.size)
 case atStart => exact ⟨false,0,cnt,rfl,(by show _ = _; rfl),hI0⟩
 case round =>
  obtain ⟨bad,ev,cnt2,rfl,HEV,left,ss,pr,md,sc,hrg,hCm,hM,hVr,hle,hW⟩:=hrel;have HCM:=hz0q hCm;have HM:=hz0q hM;clear hCm hM;go_wp2_with (first | (refine wpList_nextF rfl _ rfl zh rfl hrg (fun hl0 => ?_) (fun x p w2 cnt3 hx hlk hf hrg2 hlt hg2 hs2 hen => ?_)))
  rotate_left
  ·have HL:=hz0q (And.intro hrg.left_eq hlt);have hW2:=hW.grown_new hg2 (Nat.le_refl _);have hV2:=hVr.kept hg2 (by omega) (by omega) (by omega);have hC2:=HCC.out.wrote HAP.out HNC.out hW2;have HCAME:=hz0q (HCM.out.step hx hlk hf);have HNI : Hid (x ∉ ss):=fun hm => by have:=((HCM.out.2 x).1 hm).2.2; rw [hlk] at this; cases this
   have HXR:=hz0q hx;have HRG:=hz0q hrg2;have HLE : Hid (ss.length + cnt2 <= n):=hle;obtain ⟨pk,pA,pn,pc⟩:=p
   obtain ⟨kd,il,hpr,e1,e2,hrd,hpl⟩ : ∃ kd il,prt x = some (kd,il) /\ pk = kd /\ pn = il.length /\ Rd w2 pA il.length (Rs il) /\ il.length <= 18:=by
    have:=hC2.parts x hx;rw [hf] at this
    cases hq : prt x with
    | none => rw [hq] at this; exact this.elim
    | some q => rw [hq] at this; exact ⟨q.1,q.2,rfl,this.1,this.2.1,this.2.2.2.1,this.2.2.1⟩
   subst e1 e2;have hB2:=hC2.toM hV2 (Nat.le_add_right n ss.length);have HPR:=hz0q hpr;have HVV:=hz0q hV2;have HHW:=hz0q hW2;have hba : Below w2.heap.size w2 (w2.alloc (.cells #[.string (mk8 pk),.slice pA il.length pc] 165)):=(Below.refl _ _).alloc (Nat.le_refl _) _;have hbx : (w2.alloc (.cells #[.string (mk8 pk),.slice pA il.length pc] 165)).heap[wr.heap.size]? = some (.cells #[.string (mk8 pk),.slice pA il.length pc] 165 (0,0)):=by rw [<- hs2]; exact zm _ _ _
   have hrdA : Rd w2 A out.length (Rs out):=HR.out.wrote HHW.out fun h0 ad had hm => by
    obtain ⟨b,off,e,_,hc⟩:=HR.out.at_ h0;rw [had] at e; injection e with e; subst e;obtain ⟨cs,t,fr,hb⟩:=zcx (hc 0 _ (List.getElem?_eq_getElem (by have:=HR.out.1; omega)));exact HNC.out _ hm _ _ _ hb
   have hkw : Kinds w2:=HK.out.keep fun o => HHW.out.cell (p:=⟨1,o,none⟩) HK.out.lt fun hm => by
    obtain ⟨cs,t,fr,hb⟩:=zcx HK.out.c0;exact HNC.out _ hm _ _ _ hb
   generalize (w2.alloc (.cells #[.string (mk8 pk),.slice pA il.length pc] 165)) = W at *;obtain ⟨q,hq⟩ : ∃ q,q = wr.heap.size:=⟨_,rfl⟩;rw [<- hq] at hbx;simp only [<- hq];have HQ:=hz0q hq;have hrdW:=hrd.below hba;have hrdAW:=hrdA.below hba;have hBW:=hB2.below hba;have hkW:=hkw.below' hba;have HCE : Hid (∀ w',Below W.heap.size W w' -> w'.cell? ⟨q,0,none⟩ = some (.string (mk8 pk)) /\ w'.cell? ⟨q,1,none⟩ = some (.slice pA il.length pc)):=fun w' h => ⟨za (zd hbx h) 0 rfl,za (zd hbx h) 1 rfl⟩;have HBA:=hz0q hba
   have HSK : Hid (∀ w',Below W.heap.size W w' -> madeQ cls prt out x = false -> MkR a cls prt f out n w.heap.size w w' bad cnt3 /\ w'.rangeLeft a.m1 w.heap.size = cnt3):=fun w' hbw hq => by
    have hb:=zb HBA.out hbw;have hrgW:=hrg2.at (hb.block _ hrg2.owns.lt) (hb.block _ hrg2.lt);refine ⟨⟨_,ss ++ [x],pr,md,sc,hrgW,HCAME.out,HM.out.skip hq,?_,?_,HHW.out.then_below hb⟩,hrgW.left_eq⟩
    ·have:=(HVV.out.below hb).mono (k:=n + (ss ++ [x]).length) (by simp);exact this
    ·have:=HL.out.2;rw [List.length_append,List.length_singleton];omega
   obtain ⟨bo,hbo⟩ : ∃ b : Bool,b = decide (x ∈ out):=⟨_,rfl⟩;have BS:=bsearch_any A out.length c out x W hrdAW hol HRI.out;rw [<- hbo] at BS;have HBS:=hz0q BS;have HBO:=hz0q hbo;obtain ⟨cx,hcx⟩ : ∃ z,z = cls x:=⟨_,rfl⟩;have CX:=zhd hBW x hx;rw [<- hcx] at CX;have HCX:=hz0q hcx;have HCXC:=hz0q CX;obtain ⟨d0,d1⟩:=HCE.out W (Below.refl _ _);clear BS CX hbo hcx hpr hV2 hW2 hC2 hf hlk hg2 hs2 hlt hrg hrg2 hVr hW hx hle HCM hcn hg1 hs1 hI0 hba c1 hq hbx hrdA hrd hB2 hkw
   by_cases hk0 : pk = []
   rotate_left
   ·have hte : (mk8 pk).toList.isEmpty = false:=by
     rw [z7,za0]
     cases pk with
     | nil => exact absurd rfl hk0
     | cons c t => rfl
    have hq : madeQ cls prt out x = false:=by
     unfold madeQ;rw [HPR.out]
     cases pk with
     | nil => exact absurd rfl hk0
     | cons c t => rfl
    have HQF:=hz0q hq;clear hq hk0 HCXC HCX hrdW hrdAW hBW;go_wp2_with (first | (go_at_call 74; refine HBS.out.mono ?_; rintro e w' ⟨⟨i,rfl⟩,rfl⟩) | go_in)
    obtain ⟨hfin,hms⟩:=HSK.out _ (Below.refl _ _) HQF.out;go_roundw
    case rel => exact ⟨bad,ev,cnt3,rfl,HEV,hfin⟩
    case measure => rw [hms,HL.out.1]; exact HL.out.2
   ·subst hk0;have hte : (mk8 ([] : List UInt8)).toList.isEmpty = true:=by rw [z7,za0]; rfl
    by_cases hl2 : il.length = 2
    rotate_left
    ·have hq : madeQ cls prt out x = false:=by
      unfold madeQ;rw [HPR.out];match il,hl2 with
      | [],_ => rfl
      | [_],_ => rfl
      | [_,_],h => exact absurd rfl h
      | _ :: _ :: _ :: _,_ => rfl
     have HQF:=hz0q hq;obtain ⟨m,hm⟩ : ∃ m,m = il.length:=⟨_,rfl⟩;rw [<- hm] at d1 hl2;have hl3 : ((m : Int) == 2) = false:=(by simpa using fun e : (m : Int) = 2 => hl2 (by omega));have hl4 : ((m : Int) != 2) = true:=(by simpa using fun e : (m : Int) = 2 => hl2 (by omega));clear hq HCXC HCX hrdW hrdAW hBW hm hl2;go_wp2_with (first | (go_at_call 74; refine HBS.out.mono ?_; rintro e w' ⟨⟨i,rfl⟩,rfl⟩) | go_in)
     obtain ⟨hfin,hms⟩:=HSK.out _ (Below.refl _ _) HQF.out;go_roundw
     case rel => exact ⟨bad,ev,cnt3,rfl,HEV,hfin⟩
     case measure => rw [hms,HL.out.1]; exact HL.out.2
    ·obtain ⟨u,v,rfl⟩ : ∃ u v,il = [u,v]:=by
      match il,hl2 with
      | [u,v],_ => exact ⟨u,v,rfl⟩
     clear hl2;rw [show ([u,v] : List Int).length = 2 from rfl] at d1 hrdW HCE
     cases bo with
     | true =>
      have HQF : Hid (madeQ cls prt out x = false):=by
       show _ = _;unfold madeQ;rw [HPR.out,<- HBO.out];rfl
      clear HCXC HCX hrdW hrdAW hBW;go_wp2_with (first | (go_at_call 74; refine HBS.out.mono ?_; rintro e w' ⟨⟨i,rfl⟩,rfl⟩) | go_in)
      obtain ⟨hfin,hms⟩:=HSK.out _ (Below.refl _ _) HQF.out;go_roundw
      case rel => exact ⟨bad,ev,cnt3,rfl,HEV,hfin⟩
      case measure => rw [hms,HL.out.1]; exact HL.out.2
     | false =>
      by_cases hcp : 0 < cx
      ·have HQF : Hid (madeQ cls prt out x = false):=by
        show _ = _;unfold madeQ;rw [HPR.out,<- HCX.out];simp [hcp]
       clear hrdW hrdAW hBW;go_wp2_with (first | (go_at_call 74; refine HBS.out.mono ?_; rintro e w' ⟨⟨i,rfl⟩,rfl⟩) | (go_at_call 75; refine HCXC.out.mono ?_; rintro e w3 ⟨rfl,hb3⟩) | go_in)
       obtain ⟨hfin,hms⟩:=HSK.out _ hb3 HQF.out;go_roundw
       case rel => exact ⟨bad,ev,cnt3,rfl,HEV,hfin⟩
       case measure => rw [hms,HL.out.1]; exact HL.out.2
      ·obtain ⟨cu,hcu⟩ : ∃ z,z = cls u:=⟨_,rfl⟩;have hcp' : cx <= 0:=(by omega);obtain ⟨b,off,rfl,hbl2,hcel⟩:=hrdW.at_ (by omega);have hu0 : W.cell? ⟨b,off,none⟩ = some (.int .i32 u):=(by have:=hcel 0 (.int .i32 u) (by simp [Rs]); simpa using this);have hu1 : W.cell? ⟨b,off + 1,none⟩ = some (.int .i32 v):=hcel 1 (.int .i32 v) (by simp [Rs]);have hRu : R32 u:=hI x _ HPR.out u (by simp);have hRv : R32 v:=hI x _ HPR.out v (by simp);have HCE2 : Hid (∀ w',Below W.heap.size W w' -> w'.cell? ⟨q,0,none⟩ = some (.string (mk8 [])) /\ w'.cell? ⟨q,1,none⟩ = some (.slice (some ⟨b,off,none⟩) 2 pc) /\ w'.cell? ⟨b,off,none⟩ = some (.int .i32 u) /\ w'.cell? ⟨b,off + 1,none⟩ = some (.int .i32 v)):=fun w' h => ⟨(HCE.out w' h).1,(HCE.out w' h).2,(h.cell (p:=⟨b,off,none⟩) hbl2).trans hu0,(h.cell (p:=⟨b,off + 1,none⟩) hbl2).trans hu1⟩;have CU:=fun w' (hb : Below W.heap.size W w') => zhd (hBW.below hb) u hRu;rw [<- hcu] at CU;have HCU:=hz0q hcu;have HCUC:=hz0q CU;clear hcu CU hcel hu0 hu1 d0 d1 HCE hrdW hrdAW
       by_cases hup : 0 < cu
       ·have HQF : Hid (madeQ cls prt out x = false):=by
         show _ = _;rw [zjq HPR.out,<- HCU.out];simp [hup]
        obtain ⟨d0,d1,d2,d3⟩:=HCE2.out W (Below.refl _ _);clear hBW;go_wp2_with (first | (go_at_call 74; refine HBS.out.mono ?_; rintro e w' ⟨⟨i,rfl⟩,rfl⟩) | (go_at_call 75; refine HCXC.out.mono ?_; rintro e w3 ⟨rfl,hb3⟩; obtain ⟨d4,d5,d6,d7⟩:=HCE2.out w3 hb3; clear d0 d1 d2 d3 HCXC) | (go_at_call 75; refine (HCUC.out _ hb3).mono ?_; rintro e w4 ⟨rfl,hb4⟩) | go_in)
        obtain ⟨hfin,hms⟩:=HSK.out _ (zb hb3 hb4) HQF.out;go_roundw
        case rel => exact ⟨bad,ev,cnt3,rfl,HEV,hfin⟩
        case measure => rw [hms,HL.out.1]; exact HL.out.2
       ·have hup' : cu <= 0:=(by omega);obtain ⟨d0,d1,d2,d3⟩:=HCE2.out W (Below.refl _ _);have HBW:=hz0q hBW;clear hBW;go_wp2_with (first | (go_at_call 74; refine HBS.out.mono ?_; rintro e w' ⟨⟨i,rfl⟩,rfl⟩) | (go_at_call 75; refine HCXC.out.mono ?_; rintro e w3 ⟨rfl,hb3⟩; obtain ⟨d4,d5,d6,d7⟩:=HCE2.out w3 hb3; clear d0 d1 d2 d3 HCXC) | (go_at_call 75; refine (HCUC.out _ hb3).mono ?_; rintro e w4 ⟨rfl,hb4⟩; have hb34:=zb hb3 hb4; clear d4 d5 d6 d7 hb3 hb4) | go_in)
        have HM7 : Hid (∀ w',Below w4.heap.size w4 w' -> (w'.cell? ⟨q,1,none⟩ = some (.slice (some ⟨b,off,none⟩) 2 pc) /\ w'.cell? ⟨b,off,none⟩ = some (.int .i32 u) /\ w'.cell? ⟨b,off + 1,none⟩ = some (.int .i32 v)) /\ Below w4.heap.size w4 w'):=fun w' h => ⟨(HCE2.out w' (zb hb34 h)).2,h⟩;have HBD : Hid (∀ o,Below w4.heap.size w4 (w4.alloc o).drew):=fun o => zb ((Below.refl _ _).alloc (Nat.le_refl _) o) (Drew.to ⟨1,rfl⟩);refine wp_region_held_drew (S:=fun w' => (w'.cell? ⟨q,1,none⟩ = some (.slice (some ⟨b,off,none⟩) 2 pc) /\ w'.cell? ⟨b,off,none⟩ = some (.int .i32 u) /\ w'.cell? ⟨b,off + 1,none⟩ = some (.int .i32 v)) /\ Below w4.heap.size w4 w') (by kernel_rfl) (HM7.out _ (Drew.to ⟨1,rfl⟩)) (fun hH0 => ?_);refine tkH 0 (.pointer (some ⟨q,1,none⟩)) rfl hH0 ?_;try simp only [gA,gB,gC,Act.put,gD,gE,gF]
        refine tkH 1 (.slice (some ⟨b,off,none⟩) 2 pc) rfl hH0 ?_;try simp only [gA,gB,gC,Act.put,gD,gE,gF]
        refine tkH 2 (.pointer (some ⟨b,off,none⟩)) rfl hH0 ?_;try simp only [gA,gB,gC,Act.put,gD,gE,gF]
        refine tkH 3 (.int .i32 u) rfl hH0 ?_;try simp only [gA,gB,gC,Act.put,gD,gE,gF]
        refine tkH 4 (.pointer (some ⟨q,1,none⟩)) rfl hH0 ?_;try simp only [gA,gB,gC,Act.put,gD,gE,gF]
        refine tkH 5 (.slice (some ⟨b,off,none⟩) 2 pc) rfl hH0 ?_;try simp only [gA,gB,gC,Act.put,gD,gE,gF]
        refine tkH 6 (.pointer (some ⟨b,off + 1,none⟩)) rfl hH0 ?_;try simp only [gA,gB,gC,Act.put,gD,gE,gF]
        refine tkH 7 (.int .i32 v) rfl hH0 ?_;try simp only [gA,gB,gC,Act.put,gD,gE,gF]
        refine tkH 8 (pairV (u,v)) rfl hH0 ?_;try simp only [gA,gB,gC,Act.put,gD,gE,gF]
        refine wpAnyH_ready (rs:=[9]) (by kernel_rfl) (by simp) ?_;refine AllReadyH.cons rfl (fun K hK => ?_) AllReadyH.nil;go_simp
        refine hK.out _ _ (HM7.out _ (HBD.out _)) (fun hH1 => ?_);clear hK K hH0;try simp only [gA,gB,gC,Act.put,gD,gE,gF]
        refine wpAnyH_ready (rs:=[10]) (by kernel_rfl) (by simp) ?_;refine AllReadyH.cons rfl (fun K hK => ?_) AllReadyH.nil;go_simp
        refine hK.out _ _ (HM7.out _ (HBD.out _)) (fun hH2 => ?_);clear hK K hH1;try simp only [gA,gB,gC,Act.put,gD,gE,gF]
        refine wpAnyH_done (by kernel_rfl) ?_ _;have hbx5 : (w4.alloc (.cells #[.int .i32 u,.int .i32 v] 173)).drew.heap[w4.heap.size]? = some (.cells #[.int .i32 u,.int .i32 v] 173 (0,0)):=zm w4 _ _;have hb5:=HBD.out (.cells #[.int .i32 u,.int .i32 v] 173);have hsz5 : (w4.alloc (.cells #[.int .i32 u,.int .i32 v] 173)).drew.heap.size = w4.heap.size + 1:=World.size_alloc _ _;clear hH2;generalize (w4.alloc (.cells #[.int .i32 u,.int .i32 v] 173)).drew = W5 at *;obtain ⟨q2,hq2⟩ : ∃ q2,q2 = w4.heap.size:=⟨_,rfl⟩;rw [<- hq2] at hbx5;simp only [<- hq2];have HQ2:=hz0q hq2;have HB5:=hz0q (zb hb34 hb5);have HBX5:=hz0q hbx5;have e0:=za hbx5 0 rfl;have e1:=za hbx5 1 rfl;obtain ⟨pz,ps,hpz⟩ : ∃ (pz : Int) (ps : Bool),zc2 (pairH pr u v) = .tuple #[.int .i32 pz,.bool ps] /\ (pairH pr u v).isSome = ps:=⟨_,_,rfl,rfl⟩;have PRC:=zlm (HBW.out.below HB5.out) u v hRu hRv (hkW.below' HB5.out);rw [hpz.1] at PRC;have HPS:=hz0q hpz.2;clear hpz hq2 hbx5 hb5 hsz5
        cases ps
        all_goals
         go_wp2_with (first | (go_at_call 76; refine PRC.mono ?_; rintro e w6 ⟨rfl,hb6⟩) | go_in)
         clear PRC;have hWP:=HHW.out.then_below (zb HBA.out (zb HB5.out hb6));have hbp:=(HCC.out.box);have hTw : Two bp q2 a u v w6:=⟨(HCC.out.wrote HAP.out HNC.out hWP).box,zd HBX5.out hb6⟩;have hV6:=HVV.out.below (zb HBA.out (zb HB5.out hb6));have HB26:=hz0q (zb HBA.out (zb HB5.out hb6));have hq2m : w.heap.size <= q2:=(by have:=HHW.out.size; have:=HBA.out.size; have:=hb34.size; have:=HQ2.out; omega);have hNE : bp ≠ a.m2 /\ bp ≠ a.m3 /\ bp ≠ a.m4:=⟨fun e => HNC.out _ (.inl rfl) _ _ _ (e ▸ hbp),fun e => HNC.out _ (.inr (.inl rfl)) _ _ _ (e ▸ hbp),fun e => HNC.out _ (.inr (.inr rfl)) _ _ _ (e ▸ hbp)⟩;have hQE : q2 ≠ a.m2 /\ q2 ≠ a.m3 /\ q2 ≠ a.m4:=⟨by omega,by omega,by omega⟩;have hmx : n + ss.length < maxLen:=(by have:=HLE.out; unfold maxLen; omega);have hmd6 : MkV w6.drew a (n + ss.length) pr md sc:=⟨hV6.pr.at rfl,hV6.md.at rfl,hV6.sc.at rfl⟩;have HV6:=hz0q hmd6;have HNE:=hz0q (And.intro hNE hQE);have HTW:=hz0q (hTw.below (Drew.to ⟨1,rfl⟩));have HMZ:=hz0q (HM.out.sc1 v)
         have HQT : Hid (madeQ cls prt out x = true):=by
          show _ = _;rw [zjq HPR.out,<- HBO.out,<- HCX.out,<- HCU.out];simp [hcp,hup]
         clear hWP hbp hV6 hNE hQE hmd6 e0 e1 hq2m hTw HBX5;refine wp_region_held_drew (S:=fun w' => Two bp q2 a u v w') (by kernel_rfl) (HTW.out) (fun hH0 => ?_);refine wpAnyH_take (i:=0) (v:=.pointer (some ⟨bp,0,none⟩)) rfl (by kernel_rfl) (by kernel_rfl) (by kernel_rfl) (fun _ _ _ h => h) (Or.inl ⟨by kernel_rfl,?_⟩) hH0 ?_
         ·intro w hSw;obtain ⟨hS1,hS2⟩:=hSw;have s2:=za hS1 2 rfl;have s3:=za hS1 3 rfl;have t0:=za hS2 0 rfl;have t1:=za hS2 1 rfl;go_simp
          all_goals try with_reducible rfl
         try simp only [gA,gB,gC,Act.put,gD,gE,gF]
         refine wpAnyH_take (i:=1) (v:=.pointer (some ⟨bp,0,none⟩)) rfl (by kernel_rfl) (by kernel_rfl) (by kernel_rfl) (fun _ _ _ h => h) (Or.inl ⟨by kernel_rfl,?_⟩) hH0 ?_
         ·intro w hSw;obtain ⟨hS1,hS2⟩:=hSw;have s2:=za hS1 2 rfl;have s3:=za hS1 3 rfl;have t0:=za hS2 0 rfl;have t1:=za hS2 1 rfl;go_simp
          all_goals try with_reducible rfl
         try simp only [gA,gB,gC,Act.put,gD,gE,gF]
         refine wpAnyH_take (i:=2) (v:=.pointer (some ⟨bp,2,none⟩)) rfl (by kernel_rfl) (by kernel_rfl) (by kernel_rfl) (fun _ _ _ h => h) (Or.inl ⟨by kernel_rfl,?_⟩) hH0 ?_
         ·intro w hSw;obtain ⟨hS1,hS2⟩:=hSw;have s2:=za hS1 2 rfl;have s3:=za hS1 3 rfl;have t0:=za hS2 0 rfl;have t1:=za hS2 1 rfl;go_simp
          all_goals try with_reducible rfl
         try simp only [gA,gB,gC,Act.put,gD,gE,gF]
         refine wpAnyH_take (i:=3) (v:=.map (some a.m2)) rfl (by kernel_rfl) (by kernel_rfl) (by kernel_rfl) (fun _ _ _ h => h) (Or.inl ⟨by kernel_rfl,?_⟩) hH0 ?_
         ·intro w hSw;obtain ⟨hS1,hS2⟩:=hSw;have s2:=za hS1 2 rfl;have s3:=za hS1 3 rfl;have t0:=za hS2 0 rfl;have t1:=za hS2 1 rfl;go_simp
          all_goals try with_reducible rfl
         try simp only [gA,gB,gC,Act.put,gD,gE,gF]
         refine wpAnyH_take (i:=4) (v:=pairV (u,v)) rfl (by kernel_rfl) (by kernel_rfl) (by kernel_rfl) (fun _ _ _ h => h) (Or.inl ⟨by kernel_rfl,?_⟩) hH0 ?_
         ·intro w hSw;obtain ⟨hS1,hS2⟩:=hSw;have s2:=za hS1 2 rfl;have s3:=za hS1 3 rfl;have t0:=za hS2 0 rfl;have t1:=za hS2 1 rfl;go_simp
          all_goals try with_reducible rfl
         try simp only [gA,gB,gC,Act.put,gD,gE,gF]
         refine wpAnyH_take (i:=5) (v:=.pointer (some ⟨bp,0,none⟩)) rfl (by kernel_rfl) (by kernel_rfl) (by kernel_rfl) (fun _ _ _ h => h) (Or.inl ⟨by kernel_rfl,?_⟩) hH0 ?_
         ·intro w hSw;obtain ⟨hS1,hS2⟩:=hSw;have s2:=za hS1 2 rfl;have s3:=za hS1 3 rfl;have t0:=za hS2 0 rfl;have t1:=za hS2 1 rfl;go_simp
          all_goals try with_reducible rfl
         try simp only [gA,gB,gC,Act.put,gD,gE,gF]
         refine wpAnyH_take (i:=6) (v:=.pointer (some ⟨bp,0,none⟩)) rfl (by kernel_rfl) (by kernel_rfl) (by kernel_rfl) (fun _ _ _ h => h) (Or.inl ⟨by kernel_rfl,?_⟩) hH0 ?_
         ·intro w hSw;obtain ⟨hS1,hS2⟩:=hSw;have s2:=za hS1 2 rfl;have s3:=za hS1 3 rfl;have t0:=za hS2 0 rfl;have t1:=za hS2 1 rfl;go_simp
          all_goals try with_reducible rfl
         try simp only [gA,gB,gC,Act.put,gD,gE,gF]
         refine wpAnyH_take (i:=7) (v:=.pointer (some ⟨bp,3,none⟩)) rfl (by kernel_rfl) (by kernel_rfl) (by kernel_rfl) (fun _ _ _ h => h) (Or.inl ⟨by kernel_rfl,?_⟩) hH0 ?_
         ·intro w hSw;obtain ⟨hS1,hS2⟩:=hSw;have s2:=za hS1 2 rfl;have s3:=za hS1 3 rfl;have t0:=za hS2 0 rfl;have t1:=za hS2 1 rfl;go_simp
          all_goals try with_reducible rfl
         try simp only [gA,gB,gC,Act.put,gD,gE,gF]
         refine wpAnyH_take (i:=8) (v:=.map (some a.m3)) rfl (by kernel_rfl) (by kernel_rfl) (by kernel_rfl) (fun _ _ _ h => h) (Or.inl ⟨by kernel_rfl,?_⟩) hH0 ?_
         ·intro w hSw;obtain ⟨hS1,hS2⟩:=hSw;have s2:=za hS1 2 rfl;have s3:=za hS1 3 rfl;have t0:=za hS2 0 rfl;have t1:=za hS2 1 rfl;go_simp
          all_goals try with_reducible rfl
         try simp only [gA,gB,gC,Act.put,gD,gE,gF]
         refine wpAnyH_take (i:=9) (v:=runeV x) rfl (by kernel_rfl) (by kernel_rfl) (by kernel_rfl) (fun _ _ _ h => h) (Or.inl ⟨by kernel_rfl,?_⟩) hH0 ?_
         ·intro w hSw;obtain ⟨hS1,hS2⟩:=hSw;have s2:=za hS1 2 rfl;have s3:=za hS1 3 rfl;have t0:=za hS2 0 rfl;have t1:=za hS2 1 rfl;go_simp
          all_goals try with_reducible rfl
         try simp only [gA,gB,gC,Act.put,gD,gE,gF]
         refine wpAnyH_take (i:=10) (v:=runeV x) rfl (by kernel_rfl) (by kernel_rfl) (by kernel_rfl) (fun _ _ _ h => h) (Or.inl ⟨by kernel_rfl,?_⟩) hH0 ?_
         ·intro w hSw;obtain ⟨hS1,hS2⟩:=hSw;have s2:=za hS1 2 rfl;have s3:=za hS1 3 rfl;have t0:=za hS2 0 rfl;have t1:=za hS2 1 rfl;go_simp
          all_goals try with_reducible rfl
         try simp only [gA,gB,gC,Act.put,gD,gE,gF]
         refine wpAnyH_take (i:=11) (v:=pairV (u,v)) rfl (by kernel_rfl) (by kernel_rfl) (by kernel_rfl) (fun _ _ _ h => h) (Or.inl ⟨by kernel_rfl,?_⟩) hH0 ?_
         ·intro w hSw;obtain ⟨hS1,hS2⟩:=hSw;have s2:=za hS1 2 rfl;have s3:=za hS1 3 rfl;have t0:=za hS2 0 rfl;have t1:=za hS2 1 rfl;go_simp
          all_goals try with_reducible rfl
         try simp only [gA,gB,gC,Act.put,gD,gE,gF]
         refine wpAnyH_ready (rs:=[12]) (by kernel_rfl) (by simp) ?_;refine AllReadyH.cons rfl (fun K hK => ?_) AllReadyH.nil;refine zgf rfl _ _ rfl ze9 zms zf5 hmx HV6.out.pr (k:=(u,v)) ⟨hRu,hRv⟩ rfl rfl ?_;intro v0 st w7 hH7 hg7 hs7;refine hK.out _ _ (HTW.out.grown hg7 HNE.out.1.1 HNE.out.2.1) (fun hH1 => ?_);clear hK K hH0;try simp only [gA,gB,gC,Act.put,gD,gE,gF]
         refine wpAnyH_take (i:=13) (v:=st) rfl (by kernel_rfl) (by kernel_rfl) (by kernel_rfl) (fun _ _ _ h => h) (Or.inl ⟨by kernel_rfl,?_⟩) hH1 ?_
         ·intro w hSw;obtain ⟨hS1,hS2⟩:=hSw;have s2:=za hS1 2 rfl;have s3:=za hS1 3 rfl;have t0:=za hS2 0 rfl;have t1:=za hS2 1 rfl;go_simp
          all_goals try with_reducible rfl
         try simp only [gA,gB,gC,Act.put,gD,gE,gF]
         refine wpAnyH_ready (rs:=[14]) (by kernel_rfl) (by simp) ?_;refine AllReadyH.cons rfl (fun K hK => ?_) AllReadyH.nil;refine zc1 rfl _ _ _ rfl hH7 rfl x rfl rfl rfl ?_;intro w8 hm8 hg8 hs8;refine hK.out _ _ (hH1.grown hg8 HNE.out.1.1 HNE.out.2.1) (fun hH2 => ?_);clear hK K hH1;try simp only [gA,gB,gC,Act.put,gD,gE,gF]
         refine wpAnyH_ready (rs:=[15]) (by kernel_rfl) (by simp) ?_;refine AllReadyH.cons rfl (fun K hK => ?_) AllReadyH.nil;refine zgf rfl _ _ rfl zh madeT zero_two hmx ((HV6.out.md.kept hg7 (by simpa using fun e => HAP.out.t23 e.symm)).kept hg8 (by simpa using fun e => HAP.out.t23 e.symm)) (k:=x) HXR.out rfl rfl ?_;intro v1 st1 w9 hH9 hg9 hs9;refine hK.out _ _ (hH2.grown hg9 HNE.out.1.2.1 HNE.out.2.2.1) (fun hH3 => ?_);clear hK K hH2;try simp only [gA,gB,gC,Act.put,gD,gE,gF]
         refine wpAnyH_take (i:=16) (v:=st1) rfl (by kernel_rfl) (by kernel_rfl) (by kernel_rfl) (fun _ _ _ h => h) (Or.inl ⟨by kernel_rfl,?_⟩) hH3 ?_
         ·intro w hSw;obtain ⟨hS1,hS2⟩:=hSw;have s2:=za hS1 2 rfl;have s3:=za hS1 3 rfl;have t0:=za hS2 0 rfl;have t1:=za hS2 1 rfl;go_simp
          all_goals try with_reducible rfl
         try simp only [gA,gB,gC,Act.put,gD,gE,gF]
         refine wpAnyH_ready (rs:=[17]) (by kernel_rfl) (by simp) ?_;refine AllReadyH.cons rfl (fun K hK => ?_) AllReadyH.nil;refine zc1 rfl _ _ _ rfl hH9 rfl (u,v) rfl rfl rfl ?_;intro w10 hm10 hg10 hs10;refine hK.out _ _ (hH3.grown hg10 HNE.out.1.2.1 HNE.out.2.2.1) (fun hH4 => ?_);clear hK K hH3;try simp only [gA,gB,gC,Act.put,gD,gE,gF]
         refine wpAnyH_done (by kernel_rfl) ?_ _;have HTW2:=hz0q ((hH4).below (Drew.to ⟨1,rfl⟩));have hsc10:=(((HV6.out.sc.kept hg7 (by simpa using fun e => HAP.out.t24 e.symm)).kept hg8 (by simpa using fun e => HAP.out.t24 e.symm)).kept hg9 (by simpa using fun e => HAP.out.t34 e.symm)).kept hg10 (by simpa using fun e => HAP.out.t34 e.symm);have hsc11 : MapF w10.drew Tryz.prog 21 zn R32 intV a.m4 (n + ss.length) sc:=hsc10.at rfl;have HM8:=hz0q ((hm8.kept hg9 (by simpa using HAP.out.t23)).kept hg10 (by simpa using HAP.out.t23));have HM10:=hz0q hm10;have HWR:=hz0q ((((Wrote.grown (S:=M234 a) hg7 (fun k e => .inl (by injection e with e; exact e.symm))).trans (Wrote.grown hg8 fun k e => .inl (by injection e with e; exact e.symm))).trans (Wrote.grown hg9 fun k e => .inr (.inl (by injection e with e; exact e.symm)))).trans (Wrote.grown hg10 fun k e => .inr (.inl (by injection e with e; exact e.symm))));obtain ⟨z,hz⟩ : ∃ z,z = gd sc v:=⟨_,rfl⟩;have hz1:=HMZ.out.1;have hz2:=HMZ.out.2;rw [<- hz] at hz1 hz2;have hz3:=HLE.out;have HZ:=hz0q hz;have hzw : IntKind.i64.wrap (z + 1) = z + 1:=IntWalk.i64_in _ (by omega);clear hH4 hg7 hg8 hg9 hg10 hs7 hs8 hs9 hs10 hm8 hm10 hH7 hH9 hsc10 hz hz1 hz2 hz3;go_upto_region 12 with fail;refine wp_region_held_drew (S:=fun w' => Two bp q2 a u v w') (by kernel_rfl) (HTW2.out) (fun hH0 => ?_);refine wpAnyH_take (i:=0) (v:=.pointer (some ⟨bp,0,none⟩)) rfl (by kernel_rfl) (by kernel_rfl) (by kernel_rfl) (fun _ _ _ h => h) (Or.inl ⟨by kernel_rfl,?_⟩) hH0 ?_
         ·intro w hSw;obtain ⟨hS1,hS2⟩:=hSw;have s4:=za hS1 4 rfl;have t1:=za hS2 1 rfl;go_simp
          all_goals try with_reducible rfl
         try simp only [gA,gB,gC,Act.put,gD,gE,gF]
         refine wpAnyH_take (i:=1) (v:=.pointer (some ⟨bp,0,none⟩)) rfl (by kernel_rfl) (by kernel_rfl) (by kernel_rfl) (fun _ _ _ h => h) (Or.inl ⟨by kernel_rfl,?_⟩) hH0 ?_
         ·intro w hSw;obtain ⟨hS1,hS2⟩:=hSw;have s4:=za hS1 4 rfl;have t1:=za hS2 1 rfl;go_simp
          all_goals try with_reducible rfl
         try simp only [gA,gB,gC,Act.put,gD,gE,gF]
         refine wpAnyH_take (i:=2) (v:=.pointer (some ⟨bp,4,none⟩)) rfl (by kernel_rfl) (by kernel_rfl) (by kernel_rfl) (fun _ _ _ h => h) (Or.inl ⟨by kernel_rfl,?_⟩) hH0 ?_
         ·intro w hSw;obtain ⟨hS1,hS2⟩:=hSw;have s4:=za hS1 4 rfl;have t1:=za hS2 1 rfl;go_simp
          all_goals try with_reducible rfl
         try simp only [gA,gB,gC,Act.put,gD,gE,gF]
         refine wpAnyH_take (i:=3) (v:=.map (some a.m4)) rfl (by kernel_rfl) (by kernel_rfl) (by kernel_rfl) (fun _ _ _ h => h) (Or.inl ⟨by kernel_rfl,?_⟩) hH0 ?_
         ·intro w hSw;obtain ⟨hS1,hS2⟩:=hSw;have s4:=za hS1 4 rfl;have t1:=za hS2 1 rfl;go_simp
          all_goals try with_reducible rfl
         try simp only [gA,gB,gC,Act.put,gD,gE,gF]
         refine wpAnyH_take (i:=4) (v:=.pointer (some ⟨q2,1,none⟩)) rfl (by kernel_rfl) (by kernel_rfl) (by kernel_rfl) (fun _ _ _ h => h) (Or.inl ⟨by kernel_rfl,?_⟩) hH0 ?_
         ·intro w hSw;obtain ⟨hS1,hS2⟩:=hSw;have s4:=za hS1 4 rfl;have t1:=za hS2 1 rfl;go_simp
          all_goals try with_reducible rfl
         try simp only [gA,gB,gC,Act.put,gD,gE,gF]
         refine wpAnyH_take (i:=5) (v:=runeV v) rfl (by kernel_rfl) (by kernel_rfl) (by kernel_rfl) (fun _ _ _ h => h) (Or.inl ⟨by kernel_rfl,?_⟩) hH0 ?_
         ·intro w hSw;obtain ⟨hS1,hS2⟩:=hSw;have s4:=za hS1 4 rfl;have t1:=za hS2 1 rfl;go_simp
          all_goals try with_reducible rfl
         try simp only [gA,gB,gC,Act.put,gD,gE,gF]
         refine wpAnyH_ready (rs:=[6]) (by kernel_rfl) (by simp) ?_;refine AllReadyH.cons rfl (fun K hK => ?_) AllReadyH.nil;refine step_lookF rfl _ _ rfl zh secsT (zaw _) hsc11 (k:=v) hRv rfl rfl (z:=z) HZ.out ?_;refine hK.out _ _ (hH0) (fun hH1 => ?_);clear hK K hH0;try simp only [gA,gB,gC,Act.put,gD,gE,gF]
         refine wpAnyH_take (i:=7) (v:=.int .i64 (z + 1)) rfl (by kernel_rfl) (by kernel_rfl) (by kernel_rfl) (fun _ _ _ h => h) (Or.inl ⟨by kernel_rfl,?_⟩) hH1 ?_
         ·intro w hSw;obtain ⟨hS1,hS2⟩:=hSw;have s4:=za hS1 4 rfl;have t1:=za hS2 1 rfl;go_simp
          all_goals try with_reducible rfl
         try simp only [gA,gB,gC,Act.put,gD,gE,gF]
         refine wpAnyH_ready (rs:=[8]) (by kernel_rfl) (by simp) ?_;refine AllReadyH.cons rfl (fun K hK => ?_) AllReadyH.nil;refine za6 rfl _ _ _ rfl zh secsT hmx hsc11 (k:=v) hRv (z + 1) rfl rfl rfl ?_;intro w11 hm11 hg11 hs11;refine hK.out _ _ (hH1.grown hg11 HNE.out.1.2.2 HNE.out.2.2.2) (fun hH2 => ?_);clear hK K hH1;try simp only [gA,gB,gC,Act.put,gD,gE,gF]
         refine wpAnyH_done (by kernel_rfl) ?_ _;have HFIN:=MkR.made HRG.out HCAME.out HM.out HNI.out HQT.out (madeT_two HPR.out) (by have:=HLE.out; have:=HL.out.2; omega) HHW.out (zb HB26.out (Drew.to ⟨1,rfl⟩)) ((HWR.out.trans (.of_below (Drew.to ⟨1,rfl⟩))).trans (Wrote.grown hg11 fun k e => .inr (.inr (by injection e with e; exact e.symm)))) ((HM8.out.at (w':=w10.drew) rfl).kept hg11 (by simpa using HAP.out.t24)) ((HM10.out.at (w':=w10.drew) rfl).kept hg11 (by simpa using HAP.out.t34)) (by rw [<- HZ.out]; exact hm11) (by rintro (e | e | e) <;> omega) (fun e => e.elim HAP.out.p2 (fun e => e.elim HAP.out.p3 HAP.out.p4)) HPS.out
         have EV1 : Hid ((12 : Int) = if (bad || true) = true then 12 else 0):=(by show _ = _; simp);have EV2 : Hid (ev = if (bad || false) = true then 12 else 0):=(by show _ = _; rw [Bool.or_false]; exact HEV.out);clear hH2 hm11 hg11 hs11 hsc11;obtain ⟨hfin,hms⟩:=HFIN;go_wp2;go_roundw
         case rel => first | exact ⟨_,_,cnt3,rfl,EV2,hfin⟩ | exact ⟨_,_,cnt3,rfl,EV1,hfin⟩
         case measure => rw [hms,HL.out.1]; exact HL.out.2
  ·have HD:=hz0q (MkR.done HCC.out HAP.out HNC.out hl0 HCM.out HM.out hVr (by omega) hW);clear hrg hVr hW hle hl0;go_wp2;go_returns;have:=HD.out;rw [<- HEV.out] at this;exact this
end
end
section
open Go.RowKit Go.Lib Go.Maps Go.Sort Go.Shelf
attribute [local go_sem] Oper.semAt_some
def LpI (D : Int -> List Int) (db : Nat) (w6 : World) (pre : List Int) (W : World) : Prop :=
 (∃ dn,MapF W Tryz.prog 21 zn R32 intV db 1114112 dn /\ Marks dn /\ ∀ x,gd dn x = 1 -> Ends D x) /\ (∀ x ∈ pre,Ends D x) /\ Wrote (· = db) w6 W
theorem zf7 {S : Nat -> Prop} {w6 W W' : World} {row : Option Nat} (h : Wrote S w6 W) (hg : W.grownBy W' row) (hr : ∀ r,row = some r -> w6.heap.size <= r) : Wrote S w6 W':=by
 cases row with
 | none => exact h.trans (Wrote.grown hg fun k e => by cases e)
 | some r => exact h.grown_new hg (hr r rfl)
theorem lpI_own (D : Int -> List Int) (db : Nat) (w6 : World) (hdb : db < w6.heap.size) : OwnFrom w6.heap.size (LpI D db w6):=fun s W W' row h hg hr => by
 obtain ⟨⟨dn,h1,h2,h3⟩,h4,h5⟩:=h;exact ⟨⟨dn,h1.kept hg (fun e => by have:=(hr db e.symm).1; omega),h2,h3⟩,h4,zf7 h5 hg fun r e => (hr r e).1⟩
def LpX (Q : Prop) (S : Nat -> Prop) (r4 r5 : Nat) (er : Int) (w6 : World) (c : Code) (pre : List Int) (W : World) : Prop :=
 c = .ret /\ Q /\ Wrote (fun k => S k \/ k = r4 \/ k = r5) w6 W /\ Boxed W r4 32 (.pointer none) /\ Boxed W r5 33 (.int .i64 er)
theorem zmy (Q : Prop) (S : Nat -> Prop) (r4 r5 : Nat) (er : Int) (w6 : World) (h4 : r4 < w6.heap.size) (h5 : r5 < w6.heap.size) (c : Code) : OwnFrom w6.heap.size (LpX Q S r4 r5 er w6 c):=fun s W W' row h hg hr => by
 obtain ⟨h1,h2,h3,b1,b2⟩:=h;exact ⟨h1,h2,zf7 h3 hg fun r e => (hr r e).1,b1.kept hg (fun e => by have:=(hr r4 e.symm).1; omega),b2.kept hg (fun e => by have:=(hr r5 e.symm).1; omega)⟩
def MnI (L : Int -> Nat) (kb : Nat) (w6 : World) (pre : List Int) (W : World) : Prop:=(∃ kn,KSt W kb L kn) /\ (∀ x ∈ pre,L x <= 18) /\ Wrote (· = kb) w6 W
theorem mnI_own (L : Int -> Nat) (kb : Nat) (w6 : World) (hkb : kb < w6.heap.size) : OwnFrom w6.heap.size (MnI L kb w6):=fun s W W' row h hg hr => by
 obtain ⟨⟨kn,h1,h2,h3⟩,h4,h5⟩:=h;exact ⟨⟨kn,h1.kept hg (fun e => by have:=(hr kb e.symm).1; omega),h2,h3⟩,h4,zf7 h5 hg fun r e => (hr r e).1⟩
theorem znx {F : Fence} {n : Nat} {P : Program} {fn : Func} {R : Ending -> World -> Prop} {tmps : Array Value} {W : World} {D1 : Nat} (h1 : W.heap[D1]? = some (.deferred (some []))) (h : LeavesInM F n P fn tmps R [] .returning (W.putObj D1 (.deferred none))) :
  LeavesInM F n P fn tmps R [{ target:=.collected D1,args:=#[] }] .returning W:=⟨by simp,.inl ⟨_,_,rfl,run_takeDeferred h1,h⟩⟩
theorem zm0 {F : Fence} {n : Nat} {P : Program} {fn : Func} {R : Ending -> World -> Prop} {tmps : Array Value} {W : World} {D1 D2 : Nat} (h1 : W.heap[D1]? = some (.deferred (some []))) (h2 : W.heap[D2]? = some (.deferred (some []))) (hne : D1 ≠ D2)
  (h : LeavesInM F n P fn tmps R [] .returning ((W.putObj D2 (.deferred none)).putObj D1 (.deferred none))) :
  LeavesInM F n P fn tmps R [{ target:=.collected D2,args:=#[] },{ target:=.collected D1,args:=#[] }] .returning W :=
 ⟨by simp,.inl ⟨_,_,rfl,run_takeDeferred h2,znx ((World.putObj_heap_other hne).trans h1) h⟩⟩
theorem cnt_ex (l : List Int) (f : Int -> Option Int) : ∃ m,cntL l f < m:=⟨_,Nat.lt_succ_self _⟩
theorem zcv {S : Nat -> Prop} {B : Nat} {W W' : World} (h : Wrote S W W') (hS : ∀ k,B <= k -> k < W.heap.size -> ¬ S k) : KeepsFrom B W W':=⟨h.size,fun k o hB hk _ => h.blk hk (hS k hB (Array.getElem?_eq_some_iff.1 hk).1)⟩
theorem zhg (w : World) (o : Obj) (S : Nat -> Prop) : Wrote S w (w.alloc o):=.of_below ((Below.refl _ _).alloc (Nat.le_refl _) _)
section
variable {w : World}
theorem new_main (s o : ByteArray) (hE : Env w) (hk : Kinds w) (hs : s.size <= 1073741824) (ho1 : o.size <= 1073741824) (h0 : (rowsS (bs s)).2.2 = 0) (h01 : (setsS (bs o)).2.2 = 0) (ht : (rowsS (bs s)).1.any zbq = false) (hf : (rowsS (bs s)).1.any formB = false) : Calls Tryz.prog 8 #[.string s,.string o] w (NewP (bs s) (bs o) w):=by
 have hg:=zmp (bs s);have hsv:=sets_v (bs o);have hsl:=setsS_len (bs o);refine (callsIn_wide (n:=5)).1 ?_;have hro : Fence.wide.round = none:=rfl;have h1 : 1 <= 5:=(by omega);refine callsIn_of_wp_marks Tryz.func8 rfl trivial ?_ hro;simp only [Tryz.ntmps8,List.size_toArray,List.length_cons,List.length_nil,Nat.reduceAdd,Nat.reduceSub,Array.replicate_succ,Array.replicate_zero,List.push_toArray,List.append_toArray,List.nil_append,List.cons_append];have RW:=fun W (hb : Below w.heap.size w W) => zfx s W (hE.below hb) hs;have ST:=fun W (hb : Below w.heap.size w W) => zia o W (hE.below hb) ho1;have hrl:=zjb (bs s);obtain ⟨⟨rows,ln,e0⟩,hR⟩ : ∃ R,R = rowsS (bs s):=⟨_,rfl⟩;rw [<- hR] at RW h0 hrl ht hf hg;simp only [] at h0 hrl ht hf hg;subst h0;obtain ⟨⟨out,ln2,er⟩,hS⟩ : ∃ R,R = setsS (bs o):=⟨_,rfl⟩;rw [<- hS] at ST h01 hsv hsl;simp only [] at h01 hsv hsl;subst h01;have HG:=hz0q hg;have HSV:=hz0q hsv
 have HP : Hid (∀ e w',(¬ NewOk rows out /\ zkg w e w') \/ (NewOk rows out /\ zk0 rows out w e w') -> NewP (bs s) (bs o) w e w'):=fun e w' h => by
  unfold NewP NewC;rw [<- hR,<- hS];rcases h with ⟨h1,h2⟩ | ⟨h1,h2⟩
  ·exact .inl ⟨fun h => h1 h.2.2,h2⟩
  ·exact .inr ⟨⟨rfl,rfl,h1⟩,h2⟩
 have HTH:=hz0q ht;have HFO:=hz0q hf;have HKW:=hz0q hk;clear hR hS hg hsv ht hf hk;obtain ⟨W0,hW0⟩ : ∃ W0,(w.alloc (.cells #[.pointer none] 32)).alloc (.cells #[.int .i64 0] 33) = W0:=⟨_,rfl⟩;have hB0 : Below w.heap.size w W0:=(by rw [<- hW0]; exact ((Below.refl _ w).alloc (Nat.le_refl _) _).alloc (by simp) _);have bx1 : Boxed W0 w.heap.size 32 (.pointer none):=by rw [<- hW0]; exact (Boxed.new w _ _).alloc _
 have bx2 : Boxed W0 (w.heap.size + 1) 33 (.int .i64 0):=by
  rw [<- hW0];have:=Boxed.new (w.alloc (.cells #[.pointer none] 32)) 33 (.int .i64 0);rwa [World.size_alloc] at this
 have RW0:=RW _ hB0;clear RW
 gi_wp2
 refine ⟨trivial,(callsIn_wide.2 RW0).mono ?_⟩;rintro e w1 ⟨os,A,c,ho,rfl,hat,hb1⟩;have hb:=zb hB0 hb1;have ST1:=ST _ hb;have by1:=zg bx1 hb1;have by2:=zg bx2 hb1;simp only [] at ho;clear ST bx1 bx2 hb1 hB0 hW0 RW0
 gi_wp2
 refine ⟨trivial,(callsIn_wide.2 ST1).mono ?_⟩;rintro e w2 ⟨A2,c2,rfl,hown2,hb2⟩;have b1:=zg by1 hb2;have b2:=zg by2 hb2;have hbb:=zb hb hb2;have hatR:=hat.rd.below hb2
 have hnil : ∀ x ∈ os,x.2.1 = none -> x.1.il.length = 0 /\ x.2.2 = 0:=fun x hx hx0 => by
  have:=hat.into x hx;unfold zh6 at this;rcases this.2 with ⟨hv,hz⟩ | ⟨g,cap,cur,hv,_⟩
  ·injection hv with e1 e2 e3;exact ⟨hz,e3⟩
  ·injection hv with e1 e2 e3;rw [hx0] at e1
   cases e1
 have TN:=zga w2;clear by1 by2 hb hb2 ST1 hat
 gi_wp2
 refine ⟨trivial,(callsIn_wide.2 TN).mono ?_⟩;rintro e w3 ⟨rfl,hT3,hb3,hz3⟩;have HOL : Hid (os.length = rows.length):=(by show _ = _; rw [<- ho,List.length_map]);have hoo : os.length <= 4096:=(by rw [HOL.out]; exact hrl);have HO:=hz0q ho;obtain ⟨q,hq⟩ : ∃ q,q = w2.heap.size:=⟨_,rfl⟩;rw [<- hq] at hT3 hz3;obtain ⟨W,hWd,hTI,hV,hbx11,hbW,hzW⟩:=zh1 (4353 * rows.length) hq hT3 hb3 hz3;have b3:=zg b1 hbW;have b4:=zg b2 hbW;have hbbW:=zb hbb hbW;have hcW:=hbx11.cell;have HS3:=hz0q (And.intro hq hz3);have HZW:=hz0q hzW;have HQW:=hz0q hWd;simp only [<- hq];have hmm:=@run_makeMap Tryz.prog;have BT:=btakes_any hTI hbW (by show w2.heap.size <= q; omega) (by show w2.heap.size <= q + 2; omega) (by show q ≠ q + 2; omega) A os.length c os hatR rfl (by omega) hnil (fun x hx => HG.out.rowT _ (by rw [<- HO.out]; exact List.mem_map_of_mem hx)) (by rw [HO.out]; exact HTH.out) (by rw [HO.out]; exact HFO.out);rw [HO.out] at BT;have HBW:=hz0q hbW;have HBBW:=hz0q hbbW;have HV:=hz0q hV;obtain ⟨A3,cap3,hv3,_,_,hrd2⟩:=Rd.of_own hown2;injection hv3 with e1 _ _;subst e1;clear ho hE hatR hown2 hnil hTI hT3 hb3 hq hzW TN hWd hV hbbW hbW
 gi_wp2
 simp only [show q + 2 + 1 = q + 3 from rfl,show q + 3 + 1 = q + 4 from rfl,show q + 4 + 1 = q + 5 from rfl,show q + 5 + 1 = q + 6 from rfl,show q + 6 + 1 = q + 7 from rfl];rw [HQW.out];refine ⟨trivial,(callsIn_wide.2 BT).mono ?_⟩;rintro e w4 ⟨rfl,hTI4⟩;have hq2 : w2.heap.size = q:=HS3.out.1.symm
 have hrq : w.heap.size + 1 < w2.heap.size:=by
  have:=b2.lt;omega
 have hWr:=hTI4.wrote;have hbW4 : Below w2.heap.size w2 w4:=HBW.out.trans (hWr.below (by rintro k (rfl | rfl) <;> first | omega | (show w2.heap.size <= q; omega) | (show w2.heap.size <= q + 2; omega)) HBW.out.size);have hM4:=hTI4.toM HV.out (zg7 q _) (by rw [HOL.out]) hbW4;have b5 : Boxed w4 w.heap.size 32 (.pointer none):=hWr.blk b3 (by rintro (e | e) <;> first | omega | (simp only [] at e; omega));have b6 : Boxed w4 (w.heap.size + 1) 33 (.int .i64 0):=hWr.blk b4 (by rintro (e | e) <;> first | omega | (simp only [] at e; omega));have b7 : Boxed w4 (q + 7) 32 (.pointer (some ⟨q + 6,0,none⟩)):=hWr.blk hbx11 (by rintro (e | e) <;> first | omega | (simp only [] at e; omega));have hbw4 : Below w.heap.size w w4:=hbb.trans (hbW4.mono (by omega));have hrd4:=hrd2.below hbW4;have hk4:=HKW.out.below' hbw4;have hz4 : q + 8 <= w4.heap.size:=(by have:=hWr.size; have:=HZW.out; omega);have c7:=b7.cell;have HM4:=hz0q hM4;have H5:=hz0q b5;have H6:=hz0q b6;have H7:=hz0q b7;have HBW4:=hz0q hbw4;have HRD4:=hz0q hrd4;have HK4:=hz0q hk4;have HQ2:=hz0q hq2;have hb45 : Below w4.heap.size w4 ((w4.alloc (.map #[] 0)).alloc (.cells #[.map (some w4.heap.size)] 79)):=((Below.refl _ _).alloc (Nat.le_refl _) _).alloc (by simp) _;have hmd:=(MapF.made w4 Tryz.prog 21 zn R32 intV).alloc (.cells #[.map (some w4.heap.size)] 79);have KN:=zju (hM4.below hb45) (by omega)
 have b8 : Boxed ((w4.alloc (.map #[] 0)).alloc (.cells #[.map (some w4.heap.size)] 79)) (w4.heap.size + 1) 79 (.map (some w4.heap.size)):=by
  have:=Boxed.new (w4.alloc (.map #[] 0)) 79 (.map (some w4.heap.size));rwa [World.size_alloc] at this
 have HB45:=hz0q hb45;have HZ5 : Hid (((w4.alloc (.map #[] 0)).alloc (.cells #[.map (some w4.heap.size)] 79)).heap.size = w4.heap.size + 2):=(by show _ = _; rw [World.size_alloc,World.size_alloc]);have cc7:=(zg b7 hb45).cell;clear hTI4 hWr hbW4 hM4 b5 b6 b7 hbw4 hrd4 hk4 hq2 hb45 b1 b2 b3 b4 BT hbb hbx11 hcW hrd2
 gi_wp2
 refine ⟨trivial,(callsIn_wide.2 KN).mono ?_⟩;rintro e w6 ⟨g,Bs,ks,rfl,hIt,hAll,hkl,hBs,hg1,hg2,hb56⟩;have hs56:=hb56.size;rw [HZ5.out] at hs56 hBs hg1;have hmd6:=hmd.below hb56 hmd.lt;have HIN : Hid (∀ r q,prtL rows r = some q -> r ∈ allR /\ (∀ y ∈ q.2,y ∈ allR) /\ q.2.length <= 18 /\ q.2 ≠ []):=HG.out.into;obtain ⟨D,hD⟩ : ∃ D,D = fun x => (decH (prtL rows) x).2:=⟨_,rfl⟩;have HD:=hz0q hD
 have hka : ∀ x ∈ ks,x ∈ allR:=fun x hx => by
  obtain ⟨_,h2⟩:=(hAll.2 x).1 hx;obtain ⟨p,hp⟩:=Option.isSome_iff_exists.1 h2;exact (HIN.out x p hp).1
 obtain ⟨ks',hks⟩ : ∃ ks' : List (Ok32 (· ∈ allR)),ks = ks'.map (·.1):=⟨ks.attachWith _ hka,by simp⟩;subst hks;have HALL:=hz0q hAll;have b8':=zg b8 hb56;have hb46 : Below w4.heap.size w4 w6:=zb HB45.out hb56;have HB46:=hz0q hb46;have H8:=hz0q b8';have hA1 : ∀ x ∈ allR,∀ y ∈ (decH (prtL rows) x).2,y ∈ allR:=fun x _ => zj5 (fun r q hq => (HIN.out r q hq).2.1) x;have hA2 : ∀ x,(decH (prtL rows) x).2.length <= 18:=zl4 fun r q hq => (HIN.out r q hq).2.2.1
 have LPC : Hid (∀ (W : World) (x : Int) (dn : Int -> Option Int),x ∈ allR -> Below w4.heap.size w4 W -> MapF W Tryz.prog 21 zn R32 intV w4.heap.size 1114112 dn -> Marks dn -> (∀ x,gd dn x = 1 -> Ends D x) ->
   Calls Tryz.prog 30 #[.pointer (some ⟨q + 6,0,none⟩),.int .i32 x,.map (some W.heap.size),.map (some w4.heap.size)] (W.alloc (.map #[] 0)) (zki W.heap.size w4.heap.size D (fun _ => none) dn x (W.alloc (.map #[] 0)))):=fun W x dn hx hb hm hmk hok => by
  rw [HD.out] at hok ⊢;have hsz:=hb.size;have hml:=hm.lt;obtain ⟨m0,hm0⟩:=cnt_ex allR (fun _ => none);refine loops_any HM4.out HK4.out hA1 hA2 (by omega) hsz (Nat.le_refl _) m0 (W.alloc (.map #[] 0)) x (fun _ => none) dn hx hm0 (zb hb ((Below.refl _ _).alloc (Nat.le_refl _) _)) ⟨(MapF.made W _ _ _ _ _).mono (Nat.zero_le _),hm.alloc _,⟨fun _ => .inl rfl,fun _ _ h => by cases h⟩,hmk,hok⟩ (fun y hy => by cases hy)
 have KPB : ∀ (W : World) (l : Nat) (o o' : Obj),w6.heap.size <= l -> W.heap[l]? = some o -> o.isCells = false -> o.isWalk = false -> KpV g W (W.putObj l o'):=KpV.put hg2;have hlp0 : LpI D w4.heap.size w6 [] w6:=⟨⟨_,hmd6.mono (Nat.zero_le _),⟨fun _ => .inl rfl,fun _ _ h => by cases h⟩,fun x h => by cases h⟩,by simp,Wrote.refl _ _⟩;have hz6 : w4.heap.size + 2 <= w6.heap.size:=hs56;have hlt4 : w.heap.size + 1 < w4.heap.size:=(by have:=HQ2.out; omega);have hr6 : w.heap.size + 1 < w6.heap.size:=(by have:=HQ2.out; omega);rw [List.length_map] at hkl;clear hmd hmd6 b8 hb56 hAll hD hka KN hA1 hA2 hmm cc7 c7 b8' hb46
 gi_wp2
 refine wpIn_rangeFunc_ownG hro h1 (gf:=114) (lb:=#[.pointer (some ⟨Bs,0,none⟩)]) rfl trivial (enters_of Tryz.func114 (by kernel_rfl) rfl)
  (zem Fence.wide (5 - 1) trivial hro (by omega) g Bs ks' (by omega) w6 hIt) (fun h k => h.trans k) KPB (Below.refl _ _) (fun _ => rfl)
  (fun pre W => LpI D w4.heap.size w6 (pre.map (·.1)) W) (fun c pre W => LpX (∃ x ∈ allR,¬ Ends D x) (· = w4.heap.size) w.heap.size (w.heap.size + 1) 15 w6 c (pre.map (·.1)) W)
  (fun s A B row h hg hr => lpI_own D w4.heap.size w6 (by omega) _ A B row h hg hr) (fun c s A B row h hg hr => zmy (∃ x ∈ allR,¬ Ends D x) (· = w4.heap.size) w.heap.size (w.heap.size + 1) 15 w6 (by omega) (by omega) c _ A B row h hg hr) hlp0
  (fun x => { tmps:=#[Value.string s,Value.string o,undef,undef,Value.pointer (some { block:=w.heap.size,off:=0 }),Value.pointer (some { block:=w.heap.size + 1,off:=0 }),Value.slice A os.length c,Value.int IntKind.i64 ln,Value.int IntKind.i64 0,Value.slice A2 out.length cap3,Value.int IntKind.i64 ln2,Value.pointer (some { block:=q + 7,off:=0 }),Value.int IntKind.i64 0,Value.pointer (some { block:=w4.heap.size + 1,off:=0 }),runeV x.1,undef,undef,undef,Value.tuple #[Value.slice A os.length c,Value.int IntKind.i64 ln,Value.int IntKind.i64 0],Value.string s,Value.tuple #[Value.slice A os.length c,Value.int IntKind.i64 ln,Value.int IntKind.i64 0],Value.slice A os.length c,Value.int IntKind.i64 ln,Value.int IntKind.i64 0,Value.int IntKind.i64 0,Value.bool false,undef,Value.tuple #[Value.slice A2 out.length cap3,Value.int IntKind.i64 ln2,Value.int IntKind.i64 0],Value.string o,Value.tuple #[Value.slice A2 out.length cap3,Value.int IntKind.i64 ln2,Value.int IntKind.i64 0],Value.slice A2 out.length cap3,Value.int IntKind.i64 ln2,Value.int IntKind.i64 0,Value.int IntKind.i64 0,Value.bool false,undef,Value.pointer (some { block:=q + 1,off:=0 }),Value.map (some (q + 2)),Value.map (some (q + 3)),Value.map (some (q + 4)),Value.map (some (q + 5)),Value.agg #[Value.pointer (some { block:=q + 1,off:=0 }),Value.map (some (q + 2)),Value.map (some (q + 3)),Value.map (some (q + 4)),Value.map (some (q + 5))],Value.pointer (some { block:=q + 6,off:=0 }),Value.pointer (some { block:=q + 6,off:=0 }),Value.slice A os.length c,Value.int IntKind.i64 0,Value.int IntKind.i64 0,Value.bool false,undef,Value.map (some w4.heap.size),Value.pointer (some { block:=q + 6,off:=0 }),Value.func (Fn.func 114) #[] #[Value.pointer (some { block:=Bs,off:=0 })],runeV x.1,undef,undef,undef,undef,undef,undef,undef,undef,undef,undef,undef,undef,undef,undef,undef,undef,undef,undef,undef,undef,undef],defers:=[] }) ?assign ?body ?done ?stop
 case assign =>
  intro l x W K hK
  gi_wp2
  exact hK
 case body =>
  rintro l pre x W ⟨⟨dn,hm,hmk,hok⟩,hpre,hW⟩ hlt;have hb4W : Below w4.heap.size w4 W:=HB46.out.trans (hW.below (by rintro k rfl; exact Nat.le_refl _) (by omega));have c7:=(zg H7.out hb4W).cell;have c8:=(show Boxed W (w4.heap.size + 1) _ _ from hW.blk H8.out (by omega)).cell
  have c9:=((show Boxed W (w4.heap.size + 1) _ _ from hW.blk H8.out (by omega)).alloc (.map #[] 0)).cell
  have LP:=LPC.out W x.1 dn x.2 hb4W hm hmk hok;have hmm:=@run_makeMap Tryz.prog;have HPRE:=hz0q hpre;have HWW:=hz0q hW;have hml:=hm.lt;have hsW:=hW.size;have hB4W:=hz0q hb4W;clear hm hmk hok hpre hW hb4W;have hB6 : w6.heap.size <= W.heap.size:=hsW;have y4:=zg H5.out hB4W.out;have y5:=zg H6.out hB4W.out;have HX:=hz0q x.2
  gi_wp2
  refine ⟨trivial,(CallsIn.inRound l (callsIn_wide.2 LP)).mono ?_⟩;rintro e W2 ⟨hW2,(⟨rfl,hex⟩ | ⟨rfl,wy',dn',hS,_,_,_,h4⟩)⟩
  ·have x4 : Boxed W2 w.heap.size 32 (.pointer none):=hW2.blk (y4.alloc _) (by rintro (e | e) <;> omega);have x5 : Boxed W2 (w.heap.size + 1) 33 (.int .i64 0):=hW2.blk (y5.alloc _) (by rintro (e | e) <;> omega);have q4:=x4.cell;have g4:=x4.frozen;have q5:=(zo x5 (.pointer none) (show w.heap.size + 1 ≠ w.heap.size by omega)).cell;have g5:=(zo x5 (.pointer none) (show w.heap.size + 1 ≠ w.heap.size by omega)).frozen;have HXX:=hz0q hex;clear LP y4 y5 c7 c8 c9 hex hmm
   gi_wp2
   have k4:=zo (x4.set (.pointer none)) (.int .i64 15) (show w.heap.size ≠ w.heap.size + 1 by omega);have k5:=(zo x5 (.pointer none) (show w.heap.size + 1 ≠ w.heap.size by omega)).set (.int .i64 15)
   have hWF : Wrote (fun k => (k = W.heap.size \/ k = w4.heap.size) \/ k = w.heap.size \/ k = w.heap.size + 1) W ((W2.setCell ⟨w.heap.size,0,none⟩ (.pointer none)).setCell ⟨w.heap.size + 1,0,none⟩ (.int .i64 15)) :=
    (((zhg W (.map #[] 0) _).trans (hW2.mono fun k _ h => .inl h)).trans (Wrote.setCell (.inl (.inr (.inl rfl))) _)).trans (Wrote.setCell (.inl (.inr (.inr rfl))) _)
   refine ⟨zcv hWF (by intro k h1 h2; rintro ((e | e) | e | e) <;> omega),rfl,HXX.out,?_,k4,k5⟩
   exact ((HWW.out.mono (R:=fun k => (k = W.heap.size \/ k = w4.heap.size) \/ k = w.heap.size \/ k = w.heap.size + 1) fun k _ h => .inl (.inr h)).trans hWF).mono fun k hk h => by
    rcases h with (h | h) | h | h
    ·omega
    ·exact .inl h
    ·exact .inr (.inl h)
    ·exact .inr (.inr h)
  ·have HSS:=hz0q (And.intro hS h4);clear LP y4 y5 c7 c8 c9 hmm hS h4
   gi_wp2
   have hWF : Wrote (fun k => k = W.heap.size \/ k = w4.heap.size) W W2:=(zhg W (.map #[] 0) _).trans hW2;obtain ⟨hS,h4⟩:=HSS.out;refine ⟨zcv hWF (by intro k h1 h2; rintro (e | e) <;> omega),⟨hWF.size,hWF.block g (by omega) (by rintro (e | e) <;> omega)⟩,⟨dn',hS.mdn,hS.md,hS.ok⟩,?_,?_⟩
   ·intro y hy;have hy' : y ∈ (pre ++ [x]).map (·.1):=hy;rw [List.map_append,List.mem_append] at hy';rcases hy' with hy | hy
    ·exact HPRE.out y hy
    ·simp at hy;subst hy;exact hS.ok _ h4
   ·exact ((HWW.out.mono (R:=fun k => k = W.heap.size \/ k = w4.heap.size) fun k _ h => .inr h).trans hWF).mono fun k hk h => by
     rcases h with h | h
     ·omega
     ·exact h
 case stop =>
  rintro D1 c pre W hD hpre ⟨rfl,⟨y,hy,hne⟩,hW,x4,x5⟩ hK;have hD1 : w.heap.size + 1 < D1:=(by omega);have k4:=(x4.kept (grownBy_putObj' W D1 (.deferred none)) (by simp; omega)).cell;have k5:=(x5.kept (grownBy_putObj' W D1 (.deferred none)) (by simp; omega)).cell;have hno : ¬ NewOk rows out:=fun h => hne (by rw [HD.out]; exact zlp h y)
  have hbF : Below w.heap.size w (W.putObj D1 (.deferred none)):=by
   have h1 : Below w.heap.size w W:=(HBW4.out.trans (HB46.out.mono (by omega))).trans (hW.below (by
    intro k e;rcases e with e | e | e
    ·have : k = w4.heap.size:=e;omega
    ·omega
    ·omega) (by omega))
   exact h1.trans (belowK_b (w:=w) (Nat.le_refl _) _ D1 _ _ (by omega) hK rfl rfl)
  gi_wp2
  refine znx hK ⟨.tuple #[.pointer none,.int .i64 15],?_,HP.out _ _ (.inl ⟨hno,⟨15,by decide,rfl⟩,hbF⟩)⟩;simp [results,Tryz.f8,go_sem,k4,k5]
 case done =>
  rintro D1 ys W hD rfl ⟨⟨dn,hm,hmk,hok⟩,hpre,hW⟩ hK;have hb4W : Below w4.heap.size w4 W:=HB46.out.trans (hW.below (by rintro k rfl; exact Nat.le_refl _) (by omega))
  have hen : ∀ r,(prtL rows r).isSome = true -> Ends (fun x => (decH (prtL rows) x).2) r:=fun r hr => by
   rw [<- HD.out];obtain ⟨p,hp⟩:=Option.isSome_iff_exists.1 hr;exact hpre r ((HALL.out.2 r).2 ⟨zea (HIN.out r p hp).1,hr⟩)
  have HEN:=hz0q hen;have hDl1 : W.heap[D1]? = some (.deferred (some [])):=hK;have hD1:=(Array.getElem?_eq_some_iff.1 hK).1;have HB4W:=hz0q hb4W;have hbA : Below W.heap.size W ((W.alloc (.map #[] 0)).alloc (.cells #[.map (some W.heap.size)] 79)):=((Below.refl _ _).alloc (Nat.le_refl _) _).alloc (by simp) _;have KN2:=zju (HM4.out.below (zb hb4W hbA)) (by omega);have cc7:=(zg H7.out (zb hb4W hbA)).cell;have hmd:=(MapF.made W Tryz.prog 21 zn R32 intV).alloc (.cells #[.map (some W.heap.size)] 79)
  have b8 : Boxed ((W.alloc (.map #[] 0)).alloc (.cells #[.map (some W.heap.size)] 79)) (W.heap.size + 1) 79 (.map (some W.heap.size)):=by
   have:=Boxed.new (W.alloc (.map #[] 0)) 79 (.map (some W.heap.size));rwa [World.size_alloc] at this
  have HZ8 : Hid (((W.alloc (.map #[] 0)).alloc (.cells #[.map (some W.heap.size)] 79)).heap.size = W.heap.size + 2):=(by show _ = _; rw [World.size_alloc,World.size_alloc]);have HBA:=hz0q hbA;have HDL:=hz0q hDl1;have hsW:=hb4W.size;have hmm:=@run_makeMap Tryz.prog;clear hm hmk hok hpre hW hen hK hDl1 hb4W hbA LPC hlp0 KPB hIt
  gi_wp2
  refine ⟨trivial,(callsIn_wide.2 KN2).mono ?_⟩;rintro e w9 ⟨g2,Bs2,ks2,rfl,hIt2,hAll2,hkl2,hBs2,hg3,hg4,hb89⟩;obtain ⟨wf,hwf⟩ : ∃ wf : WellFounded fun y x => y ∈ (decH (prtL rows) x).2,True:=⟨wf_of (zf2 HEN.out),trivial⟩;obtain ⟨L,hL⟩ : ∃ L,L = lenD (fun x => (decH (prtL rows) x).2) wf:=⟨_,rfl⟩;have HL:=hz0q hL
  have hka2 : ∀ x ∈ ks2,x ∈ allR /\ (prtL rows x).isSome = true:=fun x hx => by
   obtain ⟨_,h2⟩:=(hAll2.2 x).1 hx;obtain ⟨p,hp⟩:=Option.isSome_iff_exists.1 h2;exact ⟨(HIN.out x p hp).1,h2⟩
  obtain ⟨ks3,hks3⟩ : ∃ ks3 : List (Ok32 fun x => x ∈ allR /\ (prtL rows x).isSome = true),ks2 = ks3.map (·.1):=⟨ks2.attachWith _ hka2,by simp⟩;subst hks3;have HALL2:=hz0q hAll2;have hs89:=hb89.size;rw [HZ8.out] at hs89 hBs2 hg3;have hmd9:=hmd.below hb89 hmd.lt;have b9:=zg b8 hb89;have H9:=hz0q b9;have hb49 : Below w4.heap.size w4 w9:=HB4W.out.trans ((zb HBA.out hb89).mono (by omega));have HB49:=hz0q hb49;have hd9 : w9.heap[D1]? = some (.deferred (some [])):=((zb HBA.out hb89).block D1 hD1).trans HDL.out;have HD9:=hz0q hd9;have hA1 : ∀ x ∈ allR,∀ y ∈ (decH (prtL rows) x).2,y ∈ allR:=fun x _ => zj5 (fun r q hq => (HIN.out r q hq).2.1) x;have hA2 : ∀ x,(decH (prtL rows) x).2.length <= 18:=zl4 fun r q hq => (HIN.out r q hq).2.2.1
  have MNC : Hid (∀ (V : World) (x : Int) (kn : Int -> Option Int),x ∈ allR -> Below w4.heap.size w4 V -> KSt V W.heap.size L kn ->
    Calls Tryz.prog 31 #[.pointer (some ⟨q + 6,0,none⟩),.int .i32 x,.map (some W.heap.size)] V (ManyP W.heap.size L x V)):=fun V x kn hx hb hK => by
   rw [HL.out] at hK ⊢;exact many_any HM4.out HK4.out hA1 hA2 hsW _ (zfb _ wf) (lenD_pos _ wf) x (zf2 HEN.out x) V kn hx hb hK
  have KPB : ∀ (V : World) (l : Nat) (o o' : Obj),w9.heap.size <= l -> V.heap[l]? = some o -> o.isCells = false -> o.isWalk = false -> KpV g2 V (V.putObj l o'):=KpV.put hg4;have hmn0 : MnI L W.heap.size w9 [] w9:=⟨⟨_,hmd9.mono (Nat.zero_le _),fun _ _ h => (by cases h),fun x => Or.inl rfl⟩,by simp,Wrote.refl _ _⟩;have hr9 : w.heap.size + 1 < w9.heap.size:=(by omega);rw [List.length_map] at hkl2;clear hmd hmd9 b8 hb89 hAll2 hL hka2 KN2 hA1 hA2 hmm cc7 b9 hb49 hd9 hwf
  gi_wp2
  refine wpIn_rangeFunc_ownG hro h1 (gf:=114) (lb:=#[.pointer (some ⟨Bs2,0,none⟩)]) rfl trivial (enters_of Tryz.func114 (by kernel_rfl) rfl)
   (zem Fence.wide (5 - 1) trivial hro (by omega) g2 Bs2 ks3 (by omega) w9 hIt2) (fun h k => h.trans k) KPB (Below.refl _ _) (fun _ => rfl)
   (fun pre V => MnI L W.heap.size w9 (pre.map (·.1)) V) (fun c pre V => LpX (¬ NewOk rows out) (· = W.heap.size) w.heap.size (w.heap.size + 1) 14 w9 c (pre.map (·.1)) V)
   (fun s A B row h hg hr => mnI_own L W.heap.size w9 (by omega) _ A B row h hg hr) (fun c s A B row h hg hr => zmy (¬ NewOk rows out) (· = W.heap.size) w.heap.size (w.heap.size + 1) 14 w9 (by omega) (by omega) c _ A B row h hg hr) hmn0
   (fun x => { tmps:=#[Value.string s,Value.string o,undef,undef,Value.pointer (some { block:=w.heap.size,off:=0 }),Value.pointer (some { block:=w.heap.size + 1,off:=0 }),Value.slice A os.length c,Value.int IntKind.i64 ln,Value.int IntKind.i64 0,Value.slice A2 out.length cap3,Value.int IntKind.i64 ln2,Value.pointer (some { block:=q + 7,off:=0 }),Value.int IntKind.i64 0,Value.pointer (some { block:=w4.heap.size + 1,off:=0 }),undef,.pointer (some ⟨W.heap.size + 1,0,none⟩),runeV x.1,undef,Value.tuple #[Value.slice A os.length c,Value.int IntKind.i64 ln,Value.int IntKind.i64 0],Value.string s,Value.tuple #[Value.slice A os.length c,Value.int IntKind.i64 ln,Value.int IntKind.i64 0],Value.slice A os.length c,Value.int IntKind.i64 ln,Value.int IntKind.i64 0,Value.int IntKind.i64 0,Value.bool false,undef,Value.tuple #[Value.slice A2 out.length cap3,Value.int IntKind.i64 ln2,Value.int IntKind.i64 0],Value.string o,Value.tuple #[Value.slice A2 out.length cap3,Value.int IntKind.i64 ln2,Value.int IntKind.i64 0],Value.slice A2 out.length cap3,Value.int IntKind.i64 ln2,Value.int IntKind.i64 0,Value.int IntKind.i64 0,Value.bool false,undef,Value.pointer (some { block:=q + 1,off:=0 }),Value.map (some (q + 2)),Value.map (some (q + 3)),Value.map (some (q + 4)),Value.map (some (q + 5)),Value.agg #[Value.pointer (some { block:=q + 1,off:=0 }),Value.map (some (q + 2)),Value.map (some (q + 3)),Value.map (some (q + 4)),Value.map (some (q + 5))],Value.pointer (some { block:=q + 6,off:=0 }),Value.pointer (some { block:=q + 6,off:=0 }),Value.slice A os.length c,Value.int IntKind.i64 0,Value.int IntKind.i64 0,Value.bool false,undef,Value.map (some w4.heap.size),Value.pointer (some { block:=q + 6,off:=0 }),Value.func (Fn.func 114) #[] #[Value.pointer (some { block:=Bs,off:=0 })],undef,undef,undef,undef,undef,undef,.map (some W.heap.size),.pointer (some ⟨q + 6,0,none⟩),.func (.func 114) #[] #[.pointer (some ⟨Bs2,0,none⟩)],runeV x.1,undef,undef,undef,undef,undef,undef,undef,undef,undef,undef,undef,undef],defers:=[] }) ?assign2 ?body2 ?done2 ?stop2
  case assign2 =>
   intro l x V K hK
   gi_wp2
   exact hK
  case body2 =>
   rintro l pre x V ⟨⟨kn,hkn⟩,hpre,hW⟩ hlt;have hb4V : Below w4.heap.size w4 V:=HB49.out.trans (hW.below (by rintro k rfl; exact hsW) (by omega));have c7:=(zg H7.out hb4V).cell;have c8:=(show Boxed V (W.heap.size + 1) _ _ from hW.blk H9.out (by omega)).cell
   have MN:=MNC.out V x.1 kn x.2.1 hb4V hkn;have HPRE:=hz0q hpre;have HWW:=hz0q hW;have hml:=hkn.mkn.lt;have hsV:=hW.size;have y4:=zg H5.out hb4V;have y5:=zg H6.out hb4V;have HX:=hz0q x.2;obtain ⟨v,hv⟩ : ∃ v : Int,v = ((min (L x.1) 19 : Nat) : Int):=⟨_,rfl⟩;unfold ManyP at MN;rw [<- hv] at MN;have HVV:=hz0q hv;clear hkn hpre hW hb4V hv
   gi_wp2
   refine ⟨trivial,(CallsIn.inRound l (callsIn_wide.2 MN)).mono ?_⟩;rintro e W2 ⟨rfl,hW2,kn2,hk2⟩;have hWL:=hW2.size
   by_cases hbig : 18 < v
   ·have x4 : Boxed W2 w.heap.size 32 (.pointer none):=hW2.blk y4 (by omega);have x5 : Boxed W2 (w.heap.size + 1) 33 (.int .i64 0):=hW2.blk y5 (by omega);have q4:=x4.cell;have g4:=x4.frozen;have q5:=(zo x5 (.pointer none) (show w.heap.size + 1 ≠ w.heap.size by omega)).cell;have g5:=(zo x5 (.pointer none) (show w.heap.size + 1 ≠ w.heap.size by omega)).frozen
    have HNO : Hid (¬ NewOk rows out):=fun h => by
     have h1:=h.few wf x.1 HX.out.2;rw [<- HL.out] at h1;have:=HVV.out;omega
    have HW2:=hz0q hW2;clear MN y4 y5 c7 c8 hk2 hW2
    gi_wp2
    have k4:=zo (x4.set (.pointer none)) (.int .i64 14) (show w.heap.size ≠ w.heap.size + 1 by omega);have k5:=(zo x5 (.pointer none) (show w.heap.size + 1 ≠ w.heap.size by omega)).set (.int .i64 14)
    have hWF : Wrote (fun k => (k = W.heap.size) \/ k = w.heap.size \/ k = w.heap.size + 1) V ((W2.setCell ⟨w.heap.size,0,none⟩ (.pointer none)).setCell ⟨w.heap.size + 1,0,none⟩ (.int .i64 14)) :=
     ((HW2.out.mono fun k _ h => .inl h).trans (Wrote.setCell (.inl (.inr (.inl rfl))) _)).trans (Wrote.setCell (.inl (.inr (.inr rfl))) _)
    refine ⟨zcv hWF (by intro k h1 h2; rintro (e | e | e) <;> omega),rfl,HNO.out,?_,k4,k5⟩;exact (HWW.out.mono (R:=fun k => (k = W.heap.size) \/ k = w.heap.size \/ k = w.heap.size + 1) fun k _ h => .inl h).trans hWF
   ·have hv2 : v <= 18:=(by omega);have HW2:=hz0q hW2;have HK2:=hz0q hk2;clear MN y4 y5 c7 c8 hk2 hW2 hbig
    gi_wp2
    refine ⟨zcv HW2.out (by intro k h1 h2 e; omega),⟨HW2.out.size,HW2.out.block g2 (by omega) (by omega)⟩,⟨kn2,HK2.out⟩,?_,HWW.out.trans HW2.out⟩;intro y hy;have hy' : y ∈ (pre ++ [x]).map (·.1):=hy;rw [List.map_append,List.mem_append] at hy';rcases hy' with hy | hy
    ·exact HPRE.out y hy
    ·simp at hy;subst hy;have:=HVV.out;omega
  case stop2 =>
   rintro D2 c pre V hD2 hpre ⟨rfl,hno,hW,x4,x5⟩ hK
   have hd1 : V.heap[D1]? = some (.deferred (some [])):=hW.blk HD9.out (by
    rintro (e | e | e)
    ·have : D1 = W.heap.size:=e;omega
    ·omega
    ·omega)
   have hne : D1 ≠ D2:=by
    have:=(Array.getElem?_eq_some_iff.1 HD9.out).1;omega
   have k4:=((x4.kept (grownBy_putObj' V D2 (.deferred none)) (by simp; omega)).kept (grownBy_putObj' _ D1 (.deferred none)) (by simp; omega)).cell;have k5:=((x5.kept (grownBy_putObj' V D2 (.deferred none)) (by simp; omega)).kept (grownBy_putObj' _ D1 (.deferred none)) (by simp; omega)).cell
   have hbF : Below w.heap.size w ((V.putObj D2 (.deferred none)).putObj D1 (.deferred none)):=by
    have h1 : Below w.heap.size w V:=(HBW4.out.trans (HB49.out.mono (by omega))).trans (hW.below (by
     intro k e;rcases e with e | e | e
     ·have : k = W.heap.size:=e;omega
     ·omega
     ·omega) (by omega))
    exact (h1.trans (belowK_b (w:=w) (Nat.le_refl _) _ D2 _ _ (by omega) hK rfl rfl)).trans (belowK_b (w:=w) (Nat.le_refl _) _ D1 _ _ (by omega) ((World.putObj_heap_other hne).trans hd1) rfl rfl)
   gi_wp2
   refine zm0 hd1 hK hne ⟨.tuple #[.pointer none,.int .i64 14],?_,HP.out _ _ (.inl ⟨hno,⟨14,by decide,rfl⟩,hbF⟩)⟩;simp [results,Tryz.f8,go_sem,k4,k5]
  case done2 =>
   rintro D2 ys V hD2 rfl ⟨⟨kn,hkn⟩,hpre,hW⟩ hK;have hb4V : Below w4.heap.size w4 V:=HB49.out.trans (hW.below (by rintro k rfl; exact hsW) (by omega));have hd1 : V.heap[D1]? = some (.deferred (some [])):=hW.blk HD9.out (by omega)
   have hne : D1 ≠ D2:=by
    have:=(Array.getElem?_eq_some_iff.1 HD9.out).1;omega
   have hfew : ∀ r,(prtL rows r).isSome = true -> lenD (fun x => (decH (prtL rows) x).2) wf r <= 18:=fun r hr => by
    obtain ⟨p,hp⟩:=Option.isSome_iff_exists.1 hr;rw [<- HL.out];exact hpre r ((HALL2.out.2 r).2 ⟨zea (HIN.out r p hp).1,hr⟩)
   have MK:=makes_any (HM4.out.below hb4V) (zg7 q _) (by omega) A2 cap3 out (HRD4.out.below hb4V) HSV.out.2 (by omega) (HK4.out.below' hb4V) (fun r p hp y hy => zea ((HIN.out r p hp).2.1 y hy));have c7:=(zg H7.out hb4V).cell;have y4:=zg H5.out hb4V;have y5:=zg H6.out hb4V;have y7:=zg H7.out hb4V;have hbV : Below w.heap.size w V:=HBW4.out.trans (hb4V.mono (by omega));have HKD:=hz0q hK;have HD1:=hz0q hd1;have HFEW:=hz0q hfew;have hsV:=hW.size;have HBV:=hz0q hbV;clear hpre hW hkn hK hd1 hfew hb4V hbV hmn0 KPB MNC
   gi_wp2
   refine ⟨trivial,(callsIn_wide.2 MK).mono ?_⟩;rintro e w11 ⟨bad,ss,pr,md,sc,rfl,hkeys,hMk,hM11,hssl,hW11⟩
   have nM : ∀ k,k < q \/ q + 6 < k -> ¬ M234 ⟨q + 1,q,q + 2,q + 3,q + 4,q + 5,4353 * rows.length⟩ k:=fun k hk e => by
    rcases e with e | e | e
    ·have : k = q + 3:=e;omega
    ·have : k = q + 4:=e;omega
    ·have : k = q + 5:=e;omega
   have hrq2 : w.heap.size + 1 < q:=(by have:=HQ2.out; omega);have x4 : Boxed w11 w.heap.size 32 (.pointer none):=hW11.blk y4 (nM _ (by omega));have x5 : Boxed w11 (w.heap.size + 1) 33 (.int .i64 0):=hW11.blk y5 (nM _ (by omega));have x7 : Boxed w11 (q + 7) 32 (.pointer (some ⟨q + 6,0,none⟩)):=hW11.blk y7 (nM _ (by omega));have hd1 : w11.heap[D1]? = some (.deferred (some [])):=hW11.blk HD1.out (nM _ (by omega));have hd2 : w11.heap[D2]? = some (.deferred (some [])):=hW11.blk HKD.out (nM _ (by omega))
   have hb11 : Below w.heap.size w w11:=HBV.out.trans (hW11.below (by
    intro k e;rcases e with e | e | e
    ·have : k = q + 3:=e;omega
    ·have : k = q + 4:=e;omega
    ·have : k = q + 5:=e
     omega) (by omega))
   have q4:=x4.cell;have g4:=x4.frozen;have q7:=x7.cell;have HX4:=hz0q x4;have HX5:=hz0q x5;have HD1':=hz0q hd1;have HD2':=hz0q hd2;have HMK:=hz0q hMk;have HKY:=hz0q hkeys;have HM11:=hz0q hM11;have HB11:=hz0q hb11;have hs11:=hW11.size
   have hin : Hid (∀ x,madeQ (clsL rows) (prtL rows) out x = true -> x ∈ ss):=fun x hx => by
    have h1:=(zci hx).1;exact (HKY.out.2 x).2 ⟨zea (HIN.out x _ h1).1,by rw [h1]; rfl⟩
   cases bad with
   | true =>
    have HNO : Hid (¬ NewOk rows out):=fun h => by
     rcases HMK.out.no rfl with ⟨x,_,h2,h3⟩ | ⟨x,_,y,_,h2,h3,h4,h5⟩
     ·rw [h.join x h2] at h3; cases h3
     ·exact h5 (h.one x y h2 h3 h4)
    have q5:=(zo x5 (.pointer none) (show w.heap.size + 1 ≠ w.heap.size by omega)).cell;have g5:=(zo x5 (.pointer none) (show w.heap.size + 1 ≠ w.heap.size by omega)).frozen;clear MK y4 y5 y7 c7 hMk hkeys hM11 hb11 x7 hd1 hd2 hW11
    gi_wp2
    have z4:=zo (x4.set (.pointer none)) (.int .i64 12) (show w.heap.size ≠ w.heap.size + 1 by omega);have z5:=(zo x5 (.pointer none) (show w.heap.size + 1 ≠ w.heap.size by omega)).set (.int .i64 12);have hWF : Wrote (fun k => k = w.heap.size \/ k = w.heap.size + 1) w11 ((w11.setCell ⟨w.heap.size,0,none⟩ (.pointer none)).setCell ⟨w.heap.size + 1,0,none⟩ (.int .i64 12)):=(Wrote.setCell (.inl (.inl rfl)) _).trans (Wrote.setCell (.inl (.inr rfl)) _);have hbF:=HB11.out.trans (hWF.below (B:=w.heap.size) (by rintro k (e | e) <;> omega) (by omega));have e1:=hWF.blk HD1'.out (by omega);have e2:=hWF.blk HD2'.out (by omega);generalize ((w11.setCell ⟨w.heap.size,0,none⟩ (.pointer none)).setCell ⟨w.heap.size + 1,0,none⟩ (.int .i64 12)) = V2 at *;have k4:=((z4.kept (grownBy_putObj' V2 D2 (.deferred none)) (by simp; omega)).kept (grownBy_putObj' _ D1 (.deferred none)) (by simp; omega)).cell;have k5:=((z5.kept (grownBy_putObj' V2 D2 (.deferred none)) (by simp; omega)).kept (grownBy_putObj' _ D1 (.deferred none)) (by simp; omega)).cell;have hbG : Below w.heap.size w ((V2.putObj D2 (.deferred none)).putObj D1 (.deferred none)):=(hbF.trans (belowK_b (w:=w) (Nat.le_refl _) _ D2 _ _ (by omega) e2 rfl rfl)).trans (belowK_b (w:=w) (Nat.le_refl _) _ D1 _ _ (by omega) ((World.putObj_heap_other hne).trans e1) rfl rfl);refine zm0 e1 e2 hne ⟨.tuple #[.pointer none,.int .i64 12],?_,HP.out _ _ (.inl ⟨HNO.out,⟨12,by decide,rfl⟩,hbG⟩)⟩;simp [results,Tryz.f8,go_sem,k4,k5]
   | false =>
    have HOK : Hid (NewOk rows out):=⟨HTH.out,HFO.out,HEN.out,fun _ => HFEW.out,fun x hx => (HMK.out.ok rfl).1 x (hin.out x hx) hx,fun x y hx hy e => (HMK.out.ok rfl).2 x (hin.out x hx) y (hin.out y hy) hx hy e⟩;have q5:=(zo x5 (.pointer (some ⟨q + 6,0,none⟩)) (show w.heap.size + 1 ≠ w.heap.size by omega)).cell;have g5:=(zo x5 (.pointer (some ⟨q + 6,0,none⟩)) (show w.heap.size + 1 ≠ w.heap.size by omega)).frozen;clear MK y4 y5 y7 c7 hMk hkeys hM11 hb11 x7 hd1 hd2 hW11
    gi_wp2
    have z4:=zo (x4.set (.pointer (some ⟨q + 6,0,none⟩))) (.int .i64 0) (show w.heap.size ≠ w.heap.size + 1 by omega);have z5:=(zo x5 (.pointer (some ⟨q + 6,0,none⟩)) (show w.heap.size + 1 ≠ w.heap.size by omega)).set (.int .i64 0);have hWF : Wrote (fun k => (k = w.heap.size \/ k = w.heap.size + 1) \/ k = D1 \/ k = D2) w11 ((w11.setCell ⟨w.heap.size,0,none⟩ (.pointer (some ⟨q + 6,0,none⟩))).setCell ⟨w.heap.size + 1,0,none⟩ (.int .i64 0)):=(Wrote.setCell (.inl (.inl (.inl rfl))) _).trans (Wrote.setCell (.inl (.inl (.inr rfl))) _);have hWS : Wrote (fun k => k = w.heap.size \/ k = w.heap.size + 1) w11 ((w11.setCell ⟨w.heap.size,0,none⟩ (.pointer (some ⟨q + 6,0,none⟩))).setCell ⟨w.heap.size + 1,0,none⟩ (.int .i64 0)):=(Wrote.setCell (.inl (.inl rfl)) _).trans (Wrote.setCell (.inl (.inr rfl)) _);have hbF:=HB11.out.trans (hWS.below (B:=w.heap.size) (by rintro k (e | e) <;> omega) (by omega));have e1:=hWS.blk HD1'.out (by omega);have e2:=hWS.blk HD2'.out (by omega);generalize ((w11.setCell ⟨w.heap.size,0,none⟩ (.pointer (some ⟨q + 6,0,none⟩))).setCell ⟨w.heap.size + 1,0,none⟩ (.int .i64 0)) = V2 at *;have k4:=((z4.kept (grownBy_putObj' V2 D2 (.deferred none)) (by simp; omega)).kept (grownBy_putObj' _ D1 (.deferred none)) (by simp; omega)).cell;have k5:=((z5.kept (grownBy_putObj' V2 D2 (.deferred none)) (by simp; omega)).kept (grownBy_putObj' _ D1 (.deferred none)) (by simp; omega)).cell;have hbG : Below w.heap.size w ((V2.putObj D2 (.deferred none)).putObj D1 (.deferred none)):=(hbF.trans (belowK_b (w:=w) (Nat.le_refl _) _ D2 _ _ (by omega) e2 rfl rfl)).trans (belowK_b (w:=w) (Nat.le_refl _) _ D1 _ _ (by omega) ((World.putObj_heap_other hne).trans e1) rfl rfl)
    have hWG : Wrote (fun k => (k = w.heap.size \/ k = w.heap.size + 1) \/ k = D1 \/ k = D2) w11 ((V2.putObj D2 (.deferred none)).putObj D1 (.deferred none)) :=
     (hWF.trans (Wrote.grown (grownBy_putObj' V2 D2 (.deferred none)) fun k e => .inr (.inr (by injection e with e; exact e.symm)))).trans (Wrote.grown (grownBy_putObj' _ D1 (.deferred none)) fun k e => .inr (.inl (by injection e with e; exact e.symm)))
    have hMF:=HM11.out.wrote hWG (by
     intro k hk
     have hn : k ≠ q + 6 /\ k ≠ q + 1 /\ k ≠ q /\ k ≠ q + 2 /\ k ≠ q + 3 /\ k ≠ q + 4 /\ k ≠ q + 5:=by
      rcases hk with (e | e) | e | e <;> omega
     refine ⟨hn.1,hn.2.1,hn.2.2.1,hn.2.2.2.1,hn.2.2.2.2.1,hn.2.2.2.2.2.1,hn.2.2.2.2.2.2,?_⟩;rcases hk with (e | e) | e | e
     ·rw [e]; exact zj9 HX4.out (by intro z h; cases h)
     ·rw [e]; exact zj9 HX5.out (by intro z h; cases h)
     ·rw [e]; exact zm6 HD1'.out
     ·rw [e]; exact zm6 HD2'.out)
    refine zm0 e1 e2 hne ⟨.tuple #[.pointer (some ⟨q + 6,0,none⟩),.int .i64 0],?_,HP.out _ _ (.inr ⟨HOK.out,q + 6,_,_,ss,pr,md,sc,rfl,hMF,by omega,HKY.out,HMK.out,by omega,hbG⟩)⟩;simp [results,Tryz.f8,go_sem,k4,k5]
theorem zmv (s o : ByteArray) (hE : Env w) (hk : Kinds w) (hs : s.size <= 1073741824) (ho1 : o.size <= 1073741824) : Calls Tryz.prog 8 #[.string s,.string o] w (NewP (bs s) (bs o) w):=by
 by_cases h0 : (rowsS (bs s)).2.2 = 0
 ·by_cases h1 : (setsS (bs o)).2.2 = 0
  ·cases h2 : (rowsS (bs s)).1.any zbq with
   | true => exact (zjp s o hE hs ho1 h0 h1 (.inl h2)).mono fun e w' h => .inl ⟨fun hc => (by have:=hc.2.2.there; rw [h2] at this; cases this),h⟩
   | false =>
    cases h3 : (rowsS (bs s)).1.any formB with
    | true => exact (zjp s o hE hs ho1 h0 h1 (.inr ⟨h2,h3⟩)).mono fun e w' h => .inl ⟨fun hc => (by have:=hc.2.2.form; rw [h3] at this; cases this),h⟩
    | false => exact new_main s o hE hk hs ho1 h0 h1 h2 h3
  ·exact (new_sets s o hE hs ho1 h0 h1).mono fun e w' h => .inl ⟨fun hc => h1 hc.2.1,h⟩
 ·exact (new_rows s o hE hs h0).mono fun e w' h => .inl ⟨fun hc => h0 hc.1,h⟩
end
end
end Go.Proofs.YtolcabjkbefjgaaGreatDoor
