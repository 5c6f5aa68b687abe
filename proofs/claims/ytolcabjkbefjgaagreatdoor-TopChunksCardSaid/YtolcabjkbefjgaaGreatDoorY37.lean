/- charset: a row for decoding is taken. charset: a row is taken, and its key. -/
import Derived.Test.YtolcabjkbefjgaaGreatDoorY34
set_option linter.unusedSimpArgs false
set_option linter.unusedVariables false
set_option maxRecDepth 20000
set_option maxHeartbeats 4000000
namespace Go.Proofs.YtolcabjkbefjgaaGreatDoor
section
open Go.RowKit Go.Lib Go.Maps
theorem good_upd {T : TxC} (hT : GoodT T) {cd tx : ByteArray} (hv : zai (bs tx) = true) (ht : tx.size <= 200) : GoodT (upd T cd (some tx)):=fun c t h => by
 unfold upd at h;split at h
 ·injection h with h;subst h;exact ⟨hv,ht⟩
 ·exact hT c t h
def DcdP (c : Nat) (cs : Array Value) (mt mh m n : Nat) (w : World) (e : Ending) (w' : World) : Prop:=∃ (k : Int) (T' : TxC) (H' : HdC) (m' n' : Nat),e = .returned (.int .i64 k) /\ ChsM w' c cs mt mh m' n' T' H' /\ GoodT T' /\ m' <= m + 1 /\ n' <= n + 4 /\ Wrote (fun k => k = mt \/ k = mh) w w'
section
variable {w : World} {c : Nat} {cs : Array Value} {mt mh m n : Nat} {T : TxC} {H : HdC}
theorem decodes_any (h : ChsM w c cs mt mh m n T H) (hne : mt ≠ mh) (hT : GoodT T) (cd tx : ByteArray) (fl : Int) (hc4 : cd.size <= 4) (hv : zai (bs tx) = true) (ht : tx.size <= 200) (hm : m <= 100000) (hn : n <= 100000) :
  Calls Tryz.prog 135 #[.pointer (some ⟨c,0,none⟩),mrV ⟨cd,tx,fl⟩] w (DcdP c cs mt mh m n w):=by
 obtain ⟨bx,hbx⟩ : ∃ bx,w.heap.size = bx:=⟨_,rfl⟩;obtain ⟨Wb,hWb⟩ : ∃ Wb,w.alloc (.cells (mrC ⟨cd,tx,fl⟩) 197) = Wb:=⟨_,rfl⟩;have hbb : Below w.heap.size w Wb:=(by rw [<- hWb]; exact (Below.refl _ _).alloc (Nat.le_refl _) _);have hxb : Wb.heap[bx]? = some (.cells (mrC ⟨cd,tx,fl⟩) 197 (0,0)):=(by rw [<- hWb,<- hbx]; exact zm _ _ _);have HM:=hz0q (h.below hbb);have HT:=hz0q hT;have HT2:=hz0q (good_upd (cd:=cd) hT hv ht);have HBB:=hz0q hbb;have HXB:=hz0q hxb;have hsk : StrOk cd:=(by show _ <= maxLen; unfold maxLen; omega);have hlen : (cd.size : Int) <= 4:=(by omega);have c3:=za HM.out.box 3 HM.out.ct;have c4:=za HM.out.box 4 HM.out.ch;have d0:=za hxb 0 rfl;clear h hT hv ht hbb hxb
 have LK : ∀ q,(Instr.lookup 201 (.map (some mt)) (.string cd) true).run Tryz.prog (Wb.drewN q) = .ok (.tuple #[.string ((T cd).getD .empty),.bool (T cd).isSome]) (Wb.drewN q):=fun q =>
  (HM.out.below (zf (Below.refl _ _) q)).t.look (both:=true) zah zi1 (zfu _) hsk
 cases hTc : T cd with
 | some t0 =>
  rw [hTc] at LK;have hg:=hz0q (show Option.isSome (some t0) = true from rfl)
  simp only [Option.isSome,Option.getD] at LK;clear hTc;go_enter Tryz.func135,Tryz.ntmps135;go_wp2_with fail;go_quiet (fail)
  have HB5 : Hid (Below Wb.heap.size Wb (Wb.drewN nq)):=zf (Below.refl _ _) _;obtain ⟨W5,hW5⟩ : ∃ W5,Wb.drewN nq = W5:=⟨_,rfl⟩;rw [hW5] at HB5 ⊢;clear hW5 LK hWb hbx;go_wp2;go_returns;exact ⟨_,T,H,m,n,rfl,HM.out.below HB5.out,HT.out,by omega,by omega,Wrote.of_below (zb HBB.out HB5.out)⟩
 | none =>
  rw [hTc] at LK;simp only [Option.isSome,Option.getD] at LK;go_enter Tryz.func135,Tryz.ntmps135;go_wp2_with fail;go_quiet (fail)
  have HB5 : Hid (Below Wb.heap.size Wb (Wb.drewN nq)):=zf (Below.refl _ _) _;obtain ⟨W5,hW5⟩ : ∃ W5,Wb.drewN nq = W5:=⟨_,rfl⟩;rw [hW5] at HB5 ⊢;clear hW5 LK hWb hbx c3 c4 d0 hTc;have HM5:=hz0q (HM.out.below HB5.out);have hx5:=zd HXB.out HB5.out;have HX5:=hz0q hx5;have c4:=za HM5.out.box 4 HM5.out.ch;have d0:=za hx5 0 rfl;clear hx5
  have LK : ∀ q,(Instr.lookup 202 (.map (some mh)) (.string cd) false).run Tryz.prog (W5.drewN q) = .ok (.bool ((H cd).getD false)) (W5.drewN q):=fun q =>
   (HM5.out.below (zf (Below.refl _ _) q)).h.look (both:=false) zah zg6 (zcc _) hsk
  obtain ⟨hb,hhb⟩ : ∃ hb,(H cd).getD false = hb:=⟨_,rfl⟩;rw [hhb] at LK;clear hhb;go_wp2_with fail;go_quiet (fail)
  have HB6 : Hid (Below Wb.heap.size Wb (W5.drewN nq)):=hz0q (HB5.out.trans ((zf (Below.refl _ W5) nq).mono HB5.out.size));have HM6:=hz0q (HM5.out.below (w':=W5.drewN nq) (zf (Below.refl _ _) nq));have HX6:=hz0q (zd HX5.out (w':=W5.drewN nq) (zf (Below.refl _ _) nq));obtain ⟨W6,hW6⟩ : ∃ W6,W5.drewN nq = W6:=⟨_,rfl⟩;rw [hW6] at HB6 HM6 HX6 ⊢;clear hW6 LK c4 d0
  cases hb with
  | true =>
   go_wp2;go_returns;exact ⟨_,T,H,m,n,rfl,HM6.out,HT.out,by omega,by omega,Wrote.of_below (zb HBB.out HB6.out)⟩
  | false =>
   have d0:=za HX6.out 0 rfl;go_wp2_with fail;clear d0
   go_loopw [32] (fun v32 wr => ∃ k : Nat,k <= cd.size /\ v32 = .int .i64 k /\ Hid (Below Wb.heap.size Wb wr)) (fun v32 _ => cd.size - (intOf v32).toNat)
   case atStart => exact ⟨0,Nat.zero_le _,rfl,HB6⟩
   case round =>
    obtain ⟨k,hk,rfl,HB7⟩:=hrel;obtain ⟨wo,rfl⟩ : ∃ wo,wo = wr:=⟨wr,rfl⟩;have HM7:=hz0q (HM.out.below HB7.out);have hx7:=zd HXB.out HB7.out;have HX7:=hz0q hx7;have d0:=za hx7 0 rfl
    by_cases hlt : k < cd.size
    ·have hki : (k : Int) < (cd.size : Int):=(by omega);have hkl : (k : Int) <= (cd.size : Int):=(by omega);have c3:=za HM7.out.box 3 HM7.out.ct;obtain ⟨x,hxe⟩ : ∃ x,cd.extract 0 k = x:=⟨_,rfl⟩;have hxk : StrOk x:=by rw [<- hxe]; show _ <= maxLen; simp; unfold maxLen; omega
     have LK : ∀ q,(Instr.lookup 201 (.map (some mt)) (.string x) true).run Tryz.prog (wo.drewN q) = .ok (.tuple #[.string ((T x).getD .empty),.bool (T x).isSome]) (wo.drewN q):=fun q =>
      (HM7.out.below (zf (Below.refl _ _) q)).t.look (both:=true) zah zi1 (zfu _) hxk
     obtain ⟨u,hu⟩ : ∃ u,(T x).getD .empty = u:=⟨_,rfl⟩;obtain ⟨is,his⟩ : ∃ is,(T x).isSome = is:=⟨_,rfl⟩;rw [hu,his] at LK;clear hu his hx7 hxk;go_wp2_with fail;go_quiet (fail)
     have HB8 : Hid (Below Wb.heap.size Wb (wo.drewN nq)):=hz0q (HB7.out.trans ((zf (Below.refl _ wo) nq).mono HB7.out.size));have HM8:=hz0q (HM7.out.below (w':=wo.drewN nq) (zf (Below.refl _ _) nq));obtain ⟨W8,hW8⟩ : ∃ W8,wo.drewN nq = W8:=⟨_,rfl⟩;rw [hW8] at HB8 HM8 ⊢;clear hW8 LK c3 d0 hxe
     cases is with
     | true =>
      go_wp2;go_returns;exact ⟨_,T,H,m,n,rfl,HM8.out,HT.out,by omega,by omega,Wrote.of_below (zb HBB.out HB8.out)⟩
     | false =>
      go_wp2;go_roundw
      case rel => exact ⟨k + 1,by omega,by go_num,HB8⟩
      case measure => simp [intOf] <;> omega
    ·obtain rfl : k = cd.size:=(by omega);have hki : ¬ ((cd.size : Int) < (cd.size : Int)):=(by omega);have hmm : m < maxLen:=(by unfold maxLen; omega);have HS0 : Hid (wo.drew.heap[c]? = some (.cells cs 206 (0,0)) /\ wo.drew.heap[bx]? = some (.cells (mrC ⟨cd,tx,fl⟩) 197 (0,0))):=⟨HM7.out.box,HX7.out⟩;have hmt : MapF wo.drew Tryz.prog 9 zbv StrOk strV mt m T:=(HM7.out.below (Drew.to ⟨1,rfl⟩)).t;have HMH : Hid (MapF wo.drew Tryz.prog 9 zbv StrOk boolV mh n H):=hz0q (HM7.out.below (Drew.to ⟨1,rfl⟩)).h;have HCT:=hz0q (And.intro HM7.out.ct HM7.out.ch);clear hx7 d0;go_upto_region 13 with fail;refine wp_region_held_drew (S:=fun w' => w'.heap[c]? = some (.cells cs 206 (0,0)) /\ w'.heap[bx]? = some (.cells (mrC ⟨cd,tx,fl⟩) 197 (0,0))) (by kernel_rfl) (HS0.out) (fun hH0 => ?_);refine wpAnyH_take (i:=0) (v:=.pointer (some ⟨c,0,none⟩)) rfl (by kernel_rfl) (by kernel_rfl) (by kernel_rfl) (fun _ _ _ h => h) (Or.inl ⟨by kernel_rfl,?_⟩) hH0 ?_
     ·intro w hSw;obtain ⟨s1,s2⟩:=hSw;have s3:=za s1 3 HCT.out.1;have s4:=za s1 4 HCT.out.2;have s5:=za s2 0 rfl;have s6:=za s2 1 rfl;go_simp
      all_goals try first | with_reducible rfl | (intro hq; exfalso; omega) | omega
     try simp only [gA,gB,gC,Act.put,gD,gE,gF]
     refine wpAnyH_take (i:=1) (v:=.pointer (some ⟨c,0,none⟩)) rfl (by kernel_rfl) (by kernel_rfl) (by kernel_rfl) (fun _ _ _ h => h) (Or.inl ⟨by kernel_rfl,?_⟩) hH0 ?_
     ·intro w hSw;obtain ⟨s1,s2⟩:=hSw;have s3:=za s1 3 HCT.out.1;have s4:=za s1 4 HCT.out.2;have s5:=za s2 0 rfl;have s6:=za s2 1 rfl;go_simp
      all_goals try first | with_reducible rfl | (intro hq; exfalso; omega) | omega
     try simp only [gA,gB,gC,Act.put,gD,gE,gF]
     refine wpAnyH_take (i:=2) (v:=.pointer (some ⟨c,3,none⟩)) rfl (by kernel_rfl) (by kernel_rfl) (by kernel_rfl) (fun _ _ _ h => h) (Or.inl ⟨by kernel_rfl,?_⟩) hH0 ?_
     ·intro w hSw;obtain ⟨s1,s2⟩:=hSw;have s3:=za s1 3 HCT.out.1;have s4:=za s1 4 HCT.out.2;have s5:=za s2 0 rfl;have s6:=za s2 1 rfl;go_simp
      all_goals try first | with_reducible rfl | (intro hq; exfalso; omega) | omega
     try simp only [gA,gB,gC,Act.put,gD,gE,gF]
     refine wpAnyH_take (i:=3) (v:=.map (some mt)) rfl (by kernel_rfl) (by kernel_rfl) (by kernel_rfl) (fun _ _ _ h => h) (Or.inl ⟨by kernel_rfl,?_⟩) hH0 ?_
     ·intro w hSw;obtain ⟨s1,s2⟩:=hSw;have s3:=za s1 3 HCT.out.1;have s4:=za s1 4 HCT.out.2;have s5:=za s2 0 rfl;have s6:=za s2 1 rfl;go_simp
      all_goals try first | with_reducible rfl | (intro hq; exfalso; omega) | omega
     try simp only [gA,gB,gC,Act.put,gD,gE,gF]
     refine wpAnyH_take (i:=4) (v:=.pointer (some ⟨bx,0,none⟩)) rfl (by kernel_rfl) (by kernel_rfl) (by kernel_rfl) (fun _ _ _ h => h) (Or.inl ⟨by kernel_rfl,?_⟩) hH0 ?_
     ·intro w hSw;obtain ⟨s1,s2⟩:=hSw;have s3:=za s1 3 HCT.out.1;have s4:=za s1 4 HCT.out.2;have s5:=za s2 0 rfl;have s6:=za s2 1 rfl;go_simp
      all_goals try first | with_reducible rfl | (intro hq; exfalso; omega) | omega
     try simp only [gA,gB,gC,Act.put,gD,gE,gF]
     refine wpAnyH_take (i:=5) (v:=.string cd) rfl (by kernel_rfl) (by kernel_rfl) (by kernel_rfl) (fun _ _ _ h => h) (Or.inl ⟨by kernel_rfl,?_⟩) hH0 ?_
     ·intro w hSw;obtain ⟨s1,s2⟩:=hSw;have s3:=za s1 3 HCT.out.1;have s4:=za s1 4 HCT.out.2;have s5:=za s2 0 rfl;have s6:=za s2 1 rfl;go_simp
      all_goals try first | with_reducible rfl | (intro hq; exfalso; omega) | omega
     try simp only [gA,gB,gC,Act.put,gD,gE,gF]
     refine wpAnyH_take (i:=6) (v:=.pointer (some ⟨bx,1,none⟩)) rfl (by kernel_rfl) (by kernel_rfl) (by kernel_rfl) (fun _ _ _ h => h) (Or.inl ⟨by kernel_rfl,?_⟩) hH0 ?_
     ·intro w hSw;obtain ⟨s1,s2⟩:=hSw;have s3:=za s1 3 HCT.out.1;have s4:=za s1 4 HCT.out.2;have s5:=za s2 0 rfl;have s6:=za s2 1 rfl;go_simp
      all_goals try first | with_reducible rfl | (intro hq; exfalso; omega) | omega
     try simp only [gA,gB,gC,Act.put,gD,gE,gF]
     refine wpAnyH_take (i:=7) (v:=.string tx) rfl (by kernel_rfl) (by kernel_rfl) (by kernel_rfl) (fun _ _ _ h => h) (Or.inl ⟨by kernel_rfl,?_⟩) hH0 ?_
     ·intro w hSw;obtain ⟨s1,s2⟩:=hSw;have s3:=za s1 3 HCT.out.1;have s4:=za s1 4 HCT.out.2;have s5:=za s2 0 rfl;have s6:=za s2 1 rfl;go_simp
      all_goals try first | with_reducible rfl | (intro hq; exfalso; omega) | omega
     try simp only [gA,gB,gC,Act.put,gD,gE,gF]
     refine wpAnyH_ready (rs:=[8]) (by kernel_rfl) (by simp) ?_;refine AllReadyH.cons rfl (fun K hK => ?_) AllReadyH.nil;refine za6 rfl _ _ _ rfl zah zi1 hmm hmt (k:=cd) hsk tx rfl rfl rfl ?_;intro w9 hm9 hg9 hs9;refine hK.out _ _ (⟨(hg9.block c (Array.getElem?_eq_some_iff.1 hH0.1).1 (fun e => hmt.ne_cells hH0.1 (Option.some.inj e).symm)).trans hH0.1,(hg9.block bx (Array.getElem?_eq_some_iff.1 hH0.2).1 (fun e => hmt.ne_cells hH0.2 (Option.some.inj e).symm)).trans hH0.2⟩) (fun hH1 => ?_);clear hK K hH0;try simp only [gA,gB,gC,Act.put,gD,gE,gF]
     refine wpAnyH_done (by kernel_rfl) ?_ _;have hmh9:=HMH.out.kept hg9 (fun e => hne (Option.some.inj e).symm);have HM9 : Hid (ChsM w9 c cs mt mh (m + 1) n (upd T cd (some tx)) H):=⟨hH1.1,HCT.out.1,HCT.out.2,hm9,hmh9⟩;have HX9:=hz0q hH1.2;have HW9 : Hid (Wrote (fun k => k = mt \/ k = mh) w w9):=hz0q ((Wrote.of_below (zb HBB.out HB7.out)).trans ((Wrote.of_below (Drew.to ⟨1,rfl⟩)).trans (Wrote.grown hg9 fun k e => .inl (Option.some.inj e).symm)));have d0:=za HX9.out 0 rfl;clear hH1 hm9 hg9 hs9 hmh9 hmt;go_wp2_with fail;clear d0
     go_loopw [60] (fun v60 wr => ∃ (k n' : Nat) (H' : HdC),k <= cd.size /\ v60 = .int .i64 k /\ n' <= n + k /\ Hid (ChsM wr c cs mt mh (m + 1) n' (upd T cd (some tx)) H') /\ Hid (wr.heap[bx]? = some (.cells (mrC ⟨cd,tx,fl⟩) 197 (0,0))) /\ Hid (Wrote (fun k => k = mt \/ k = mh) w wr)) (fun v60 _ => cd.size - (intOf v60).toNat)
     case atStart => exact ⟨0,n,H,Nat.zero_le _,rfl,Nat.le_refl _,HM9,HX9,HW9⟩
     case round =>
      obtain ⟨k,n',H',hk,rfl,hnk,HMR,HXR,HWR⟩:=hrel;obtain ⟨wo2,rfl⟩ : ∃ wo2,wo2 = wr:=⟨wr,rfl⟩;have d0:=za HXR.out 0 rfl
      by_cases hlt : k < cd.size
      ·have hki : (k : Int) < (cd.size : Int):=(by omega);have hkl : (k : Int) <= (cd.size : Int):=(by omega);obtain ⟨x,hxe⟩ : ∃ x,cd.extract 0 k = x:=⟨_,rfl⟩;have hxk : StrOk x:=(by rw [<- hxe]; show _ <= maxLen; simp; unfold maxLen; omega);have hnn : n' < maxLen:=(by unfold maxLen; omega);have HS2 : Hid (wo2.drew.heap[c]? = some (.cells cs 206 (0,0)) /\ wo2.drew.heap[bx]? = some (.cells (mrC ⟨cd,tx,fl⟩) 197 (0,0))):=⟨HMR.out.box,HXR.out⟩;have hmh : MapF wo2.drew Tryz.prog 9 zbv StrOk boolV mh n' H':=(HMR.out.below (Drew.to ⟨1,rfl⟩)).h;have HMT : Hid (MapF wo2.drew Tryz.prog 9 zbv StrOk strV mt (m + 1) (upd T cd (some tx))):=hz0q (HMR.out.below (Drew.to ⟨1,rfl⟩)).t;clear d0;go_upto_region 17 with fail;refine wp_region_held_drew (S:=fun w' => w'.heap[c]? = some (.cells cs 206 (0,0)) /\ w'.heap[bx]? = some (.cells (mrC ⟨cd,tx,fl⟩) 197 (0,0))) (by kernel_rfl) (HS2.out) (fun hH0 => ?_);refine wpAnyH_take (i:=0) (v:=.pointer (some ⟨c,0,none⟩)) rfl (by kernel_rfl) (by kernel_rfl) (by kernel_rfl) (fun _ _ _ h => h) (Or.inl ⟨by kernel_rfl,?_⟩) hH0 ?_
       ·intro w hSw;obtain ⟨s1,s2⟩:=hSw;have s3:=za s1 3 HCT.out.1;have s4:=za s1 4 HCT.out.2;have s5:=za s2 0 rfl;have s6:=za s2 1 rfl;go_simp
        all_goals try first | with_reducible rfl | (intro hq; exfalso; omega) | omega
       try simp only [gA,gB,gC,Act.put,gD,gE,gF]
       refine wpAnyH_take (i:=1) (v:=.pointer (some ⟨c,0,none⟩)) rfl (by kernel_rfl) (by kernel_rfl) (by kernel_rfl) (fun _ _ _ h => h) (Or.inl ⟨by kernel_rfl,?_⟩) hH0 ?_
       ·intro w hSw;obtain ⟨s1,s2⟩:=hSw;have s3:=za s1 3 HCT.out.1;have s4:=za s1 4 HCT.out.2;have s5:=za s2 0 rfl;have s6:=za s2 1 rfl;go_simp
        all_goals try first | with_reducible rfl | (intro hq; exfalso; omega) | omega
       try simp only [gA,gB,gC,Act.put,gD,gE,gF]
       refine wpAnyH_take (i:=2) (v:=.pointer (some ⟨c,4,none⟩)) rfl (by kernel_rfl) (by kernel_rfl) (by kernel_rfl) (fun _ _ _ h => h) (Or.inl ⟨by kernel_rfl,?_⟩) hH0 ?_
       ·intro w hSw;obtain ⟨s1,s2⟩:=hSw;have s3:=za s1 3 HCT.out.1;have s4:=za s1 4 HCT.out.2;have s5:=za s2 0 rfl;have s6:=za s2 1 rfl;go_simp
        all_goals try first | with_reducible rfl | (intro hq; exfalso; omega) | omega
       try simp only [gA,gB,gC,Act.put,gD,gE,gF]
       refine wpAnyH_take (i:=3) (v:=.map (some mh)) rfl (by kernel_rfl) (by kernel_rfl) (by kernel_rfl) (fun _ _ _ h => h) (Or.inl ⟨by kernel_rfl,?_⟩) hH0 ?_
       ·intro w hSw;obtain ⟨s1,s2⟩:=hSw;have s3:=za s1 3 HCT.out.1;have s4:=za s1 4 HCT.out.2;have s5:=za s2 0 rfl;have s6:=za s2 1 rfl;go_simp
        all_goals try first | with_reducible rfl | (intro hq; exfalso; omega) | omega
       try simp only [gA,gB,gC,Act.put,gD,gE,gF]
       refine wpAnyH_take (i:=4) (v:=.pointer (some ⟨bx,0,none⟩)) rfl (by kernel_rfl) (by kernel_rfl) (by kernel_rfl) (fun _ _ _ h => h) (Or.inl ⟨by kernel_rfl,?_⟩) hH0 ?_
       ·intro w hSw;obtain ⟨s1,s2⟩:=hSw;have s3:=za s1 3 HCT.out.1;have s4:=za s1 4 HCT.out.2;have s5:=za s2 0 rfl;have s6:=za s2 1 rfl;go_simp
        all_goals try first | with_reducible rfl | (intro hq; exfalso; omega) | omega
       try simp only [gA,gB,gC,Act.put,gD,gE,gF]
       refine wpAnyH_take (i:=5) (v:=.string cd) rfl (by kernel_rfl) (by kernel_rfl) (by kernel_rfl) (fun _ _ _ h => h) (Or.inl ⟨by kernel_rfl,?_⟩) hH0 ?_
       ·intro w hSw;obtain ⟨s1,s2⟩:=hSw;have s3:=za s1 3 HCT.out.1;have s4:=za s1 4 HCT.out.2;have s5:=za s2 0 rfl;have s6:=za s2 1 rfl;go_simp
        all_goals try first | with_reducible rfl | (intro hq; exfalso; omega) | omega
       try simp only [gA,gB,gC,Act.put,gD,gE,gF]
       refine wpAnyH_take (i:=6) (v:=.int .i64 (k : Int)) rfl (by kernel_rfl) (by kernel_rfl) (by kernel_rfl) (fun _ _ _ h => h) (Or.inl ⟨by kernel_rfl,?_⟩) hH0 ?_
       ·intro w hSw;obtain ⟨s1,s2⟩:=hSw;have s3:=za s1 3 HCT.out.1;have s4:=za s1 4 HCT.out.2;have s5:=za s2 0 rfl;have s6:=za s2 1 rfl;go_simp
        all_goals try first | with_reducible rfl | (intro hq; exfalso; omega) | omega
       try simp only [gA,gB,gC,Act.put,gD,gE,gF]
       refine wpAnyH_take (i:=7) (v:=.string x) rfl (by kernel_rfl) (by kernel_rfl) (by kernel_rfl) (fun _ _ _ h => h) (Or.inl ⟨by kernel_rfl,?_⟩) hH0 ?_
       ·intro w hSw;obtain ⟨s1,s2⟩:=hSw;have s3:=za s1 3 HCT.out.1;have s4:=za s1 4 HCT.out.2;have s5:=za s2 0 rfl;have s6:=za s2 1 rfl;go_simp
        all_goals try first | with_reducible rfl | (intro hq; exfalso; omega) | omega
       try simp only [gA,gB,gC,Act.put,gD,gE,gF]
       refine wpAnyH_ready (rs:=[8]) (by kernel_rfl) (by simp) ?_;refine AllReadyH.cons rfl (fun K hK => ?_) AllReadyH.nil;refine za6 rfl _ _ _ rfl zah zg6 hnn hmh (k:=x) hxk true rfl rfl rfl ?_;intro w12 hm12 hg12 hs12;refine hK.out _ _ (⟨(hg12.block c (Array.getElem?_eq_some_iff.1 hH0.1).1 (fun e => hmh.ne_cells hH0.1 (Option.some.inj e).symm)).trans hH0.1,(hg12.block bx (Array.getElem?_eq_some_iff.1 hH0.2).1 (fun e => hmh.ne_cells hH0.2 (Option.some.inj e).symm)).trans hH0.2⟩) (fun hH1 => ?_);clear hK K hH0;try simp only [gA,gB,gC,Act.put,gD,gE,gF]
       refine wpAnyH_done (by kernel_rfl) ?_ _;have hmt12:=HMT.out.kept hg12 (fun e => hne (Option.some.inj e));have HM12 : Hid (ChsM w12 c cs mt mh (m + 1) (n' + 1) (upd T cd (some tx)) (upd H' x (some true))):=⟨hH1.1,HCT.out.1,HCT.out.2,hmt12,hm12⟩;have HX12:=hz0q hH1.2;have HW12 : Hid (Wrote (fun k => k = mt \/ k = mh) w w12):=hz0q (HWR.out.trans ((Wrote.of_below (Drew.to ⟨1,rfl⟩)).trans (Wrote.grown hg12 fun k e => .inr (Option.some.inj e).symm)));clear hH1 hm12 hg12 hs12 hmt12 hmh hxk hxe;go_wp2;go_roundw
       case rel => exact ⟨k + 1,n' + 1,_,by omega,by go_num,by omega,HM12,HX12,HW12⟩
       case measure => simp [intOf] <;> omega
      ·obtain rfl : k = cd.size:=(by omega);have hki : ¬ ((cd.size : Int) < (cd.size : Int)):=(by omega);go_wp2;go_returns;exact ⟨_,_,H',m + 1,n',rfl,HMR.out,HT2.out,by omega,by omega,HWR.out⟩
end
end
section
open Go.RowKit Go.Lib Go.Maps
theorem zhq (s : ByteArray) : ∀ (b i : Nat) (zs : List Int),(∀ z ∈ zs,R32 z) -> ∃ zs' : List Int,Conv.runesFrom s b i (Rs zs).toArray = (Rs zs').toArray /\ zs'.length <= zs.length + b /\ ∀ z ∈ zs',R32 z
 | 0,i,zs,h => ⟨zs,rfl,Nat.le_refl _,h⟩
 | b + 1,i,zs,h => by
  unfold Conv.runesFrom;split
  ·have hr:=rune_le s i;have e : (Rs zs).toArray.push (.int .i32 (Int.ofNat (Utf8.decode s i).1)) = (Rs (zs ++ [((Utf8.decode s i).1 : Int)])).toArray:=(by simp [Rs]);dsimp only;rw [e]
   obtain ⟨zs',h1,h2,h3⟩:=zhq s b (i + (Utf8.decode s i).2) (zs ++ [((Utf8.decode s i).1 : Int)]) (fun z hz => by
    rcases List.mem_append.1 hz with hz | hz
    ·exact h z hz
    ·rw [List.mem_singleton] at hz;subst hz;unfold R32
     omega)
   exact ⟨zs',h1,by rw [List.length_append] at h2; simp at h2; omega,h3⟩
  ·exact ⟨zs,rfl,by omega,h⟩
theorem runes_all (s : ByteArray) : ∃ zs : List Int,Conv.runesFrom s s.size 0 #[] = (Rs zs).toArray /\ zs.length <= s.size /\ ∀ z ∈ zs,R32 z:=by
 obtain ⟨zs,h1,h2,h3⟩:=zhq s s.size 0 [] (fun z hz => by cases hz);exact ⟨zs,h1,by simpa using h2,h3⟩
theorem rd_grown (w : World) (e : TypeId) (zs : List Int) (t : Array Value) : Rd (w.alloc (.cells ((Rs zs).toArray ++ t) e)) (some ⟨w.heap.size,0,none⟩) zs.length (Rs zs):=by
 refine ⟨by simp [Rs],fun _ => ⟨_,_,rfl,fun j u hu => ?_⟩⟩;rw [World.cell?_alloc_at _ _ _ _ rfl];have hj : j < (Rs zs).length:=(List.getElem?_eq_some_iff.1 hu).1
 have : ((Rs zs).toArray ++ t)[0 + j]? = some u:=by
  rw [Nat.zero_add,Array.getElem?_append_left (by simpa using hj)];simpa using hu
 simpa using this
def RowP (c : Nat) (cs : Array Value) (mt mh m n : Nat) (w : World) (e : Ending) (w' : World) : Prop:=∃ (k : Int) (A' : Option Addr) (n' c' : Nat) (zs : List Int) (T' : TxC) (H' : HdC) (m' n'' : Nat),e = .returned (.tuple #[.slice A' n' c',.int .i64 k]) /\ (k = 0 -> n' <= 18) /\ zs.length = n' /\ (∀ z ∈ zs,R32 z) /\ w'.ownsRow w.heap.size 21 1 (.slice A' n' c') n' (Rs zs) /\ (A' = none -> n' = 0 /\ c' = 0) /\ n' <= c' /\ ChsM w' c cs mt mh m' n'' T' H' /\ GoodT T' /\ m' <= m + 1 /\ n'' <= n + 4 /\ Wrote (fun k => k = mt \/ k = mh) w w'
section
variable {w : World} {c : Nat} {cs : Array Value} {mt mh m n : Nat} {T : TxC} {H : HdC} {p : Option Addr} {B : BaseF}
theorem method_nfd (p : Option Addr) (w : World) : (method 467 112 (wlC p) "NFD").run Tryz.prog w = .ok (258,wlC p) w:=by kernel_rfl
theorem row_any (h : ChsM w c cs mt mh m n T H) (hne : mt ≠ mh) (hT : GoodT T) (hci : cs[1]? = some (wlV p)) (cd tx : ByteArray) (fl : Int) (ht : tx.size <= 200) (hm : m <= 100000) (hn : n <= 100000)
  (hTab : Hid (∀ W,Below w.heap.size w W -> TabsU W)) (hB : Hid (∀ W,Below w.heap.size w W -> zac W (.pointer p) B /\ Kinds W)) (hbd : zap B) (hoR : ∀ c r,R32 r -> ∀ y ∈ B.one c r,R32 y) :
  Calls Tryz.prog 91 #[.pointer (some ⟨c,0,none⟩),mrV ⟨cd,tx,fl⟩] w (RowP c cs mt mh m n w):=by
 obtain ⟨bx,hbx⟩ : ∃ bx,w.heap.size = bx:=⟨_,rfl⟩;obtain ⟨Wb,hWb⟩ : ∃ Wb,w.alloc (.cells (mrC ⟨cd,tx,fl⟩) 197) = Wb:=⟨_,rfl⟩;have hbb : Below w.heap.size w Wb:=(by rw [<- hWb]; exact (Below.refl _ _).alloc (Nat.le_refl _) _);have hxb : Wb.heap[bx]? = some (.cells (mrC ⟨cd,tx,fl⟩) 197 (0,0)):=(by rw [<- hWb,<- hbx]; exact zm _ _ _);have MC:=mcheck_any (w:=Wb) ⟨cd,tx,fl⟩ ht (hz0q fun W hW => hTab.out W (zb hbb hW));have HM:=hz0q (h.below hbb);have HT:=hz0q hT;have HBB:=hz0q hbb;have HXB:=hz0q hxb;have HCI:=hz0q hci;have HTX:=hz0q ht;have HOR:=hz0q (And.intro hbd hoR);have d0:=za hxb 0 rfl;have d1:=za hxb 1 rfl;have d2:=za hxb 2 rfl;clear h hT hbb hxb hci ht hbd hoR;go_enter Tryz.func91,Tryz.ntmps91;go_wp2_with fail;refine MC.mono ?_;rintro e w1 ⟨⟨k,rfl,hk⟩,hb1⟩;have HB1:=hz0q (zb HBB.out hb1);have HM1:=hz0q (HM.out.below hb1);have HX1:=hz0q (zd HXB.out hb1);clear MC hb1 d0 d1 d2 hWb hbx
 by_cases hk0 : k = 0
 ·subst hk0;have HK:=hz0q (hk rfl);clear hk;obtain ⟨zs,hz1,hz2,hz3⟩:=runes_all tx;have CV:=run_runes_of_string (P:=Tryz.prog) w1.drew 9 42 21 tx Tryz.underlying9 Tryz.underlying42 Tryz.underlying21 (by rw [hz1]; simp [Rs]; have:=HTX.out; omega);rw [hz1] at CV;obtain ⟨gc,hgc⟩ : ∃ gc,grownCap w1.drew (Rs zs).toArray.size 0 21 = gc:=⟨_,rfl⟩;rw [hgc] at CV;have hsz : (Rs zs).toArray.size = zs.length:=(by simp [Rs]);rw [hsz] at CV;obtain ⟨W2,hW2⟩ : ∃ W2,w1.drew.drew.alloc (.cells ((Rs zs).toArray ++ Array.replicate (gc - zs.length) (.int .i32 0)) 21) = W2:=⟨_,rfl⟩;rw [hW2] at CV;have hb2 : Below w1.heap.size w1 W2:=(by rw [<- hW2]; exact zb (zb (Drew.to ⟨1,rfl⟩) (Drew.to ⟨1,rfl⟩)) ((Below.refl _ _).alloc (Nat.le_refl _) _));have hrd2 : Rd W2 (some ⟨w1.drew.heap.size,0,none⟩) zs.length (Rs zs):=(by rw [<- hW2]; exact rd_grown _ _ _ _);have hBW:=hB.out W2 (zb HB1.out hb2);have NF:=wnfd_any hBW.1 hBW.2 HOR.out.1 HOR.out.2 (some ⟨w1.drew.heap.size,0,none⟩) zs.length gc zs hrd2 rfl hz3 (by have:=HTX.out; omega);obtain ⟨ys,hys⟩ : ∃ ys,ys = B.full false zs:=⟨_,rfl⟩
  have hyR : ∀ y ∈ ys,R32 y:=by
   rw [hys];exact zj0 HOR.out.1 false hz3
  rw [<- hys] at NF;have HCV:=hz0q CV;have HNF:=hz0q NF;have HYR:=hz0q hyR;have HB2:=hz0q hb2;have NM:=method_nfd p;have HS0 : Hid ((w1.drew.heap[c]? = some (.cells cs 206 (0,0)) /\ w1.drew.heap[bx]? = some (.cells (mrC ⟨cd,tx,fl⟩) 197 (0,0))) /\ Below w1.heap.size w1 w1.drew):=⟨⟨HM1.out.box,HX1.out⟩,(show Drew w1 w1.drew from ⟨1,rfl⟩).to⟩
  have HS1 : Hid ((W2.heap[c]? = some (.cells cs 206 (0,0)) /\ W2.heap[bx]? = some (.cells (mrC ⟨cd,tx,fl⟩) 197 (0,0))) /\ Below w1.heap.size w1 W2):=⟨⟨(HM1.out.below hb2).box,zd HX1.out hb2⟩,hb2⟩;have HCT:=hz0q (And.intro HM1.out.ct HM1.out.ch);clear hz1 hz2 hz3 CV hgc hsz hW2 hb2 hrd2 hBW NF hys hyR;go_upto_region 4 with fail;refine wp_region_held_drew (S:=fun w' => (w'.heap[c]? = some (.cells cs 206 (0,0)) /\ w'.heap[bx]? = some (.cells (mrC ⟨cd,tx,fl⟩) 197 (0,0))) /\ Below w1.heap.size w1 w') (by kernel_rfl) (HS0.out) (fun hH0 => ?_);refine wpAnyH_take (i:=0) (v:=.pointer (some ⟨c,0,none⟩)) rfl (by kernel_rfl) (by kernel_rfl) (by kernel_rfl) (fun _ _ _ h => h) (Or.inl ⟨by kernel_rfl,?_⟩) hH0 ?_
  ·intro w hSw;obtain ⟨⟨s1,s2⟩,s0⟩:=hSw;have s3:=za s1 1 HCI.out;have s5:=za s2 1 rfl;go_simp
   all_goals try first | with_reducible rfl | omega
  try simp only [gA,gB,gC,Act.put,gD,gE,gF]
  refine wpAnyH_take (i:=1) (v:=.pointer (some ⟨c,0,none⟩)) rfl (by kernel_rfl) (by kernel_rfl) (by kernel_rfl) (fun _ _ _ h => h) (Or.inl ⟨by kernel_rfl,?_⟩) hH0 ?_
  ·intro w hSw;obtain ⟨⟨s1,s2⟩,s0⟩:=hSw;have s3:=za s1 1 HCI.out;have s5:=za s2 1 rfl;go_simp
   all_goals try first | with_reducible rfl | omega
  try simp only [gA,gB,gC,Act.put,gD,gE,gF]
  refine wpAnyH_take (i:=2) (v:=.pointer (some ⟨c,1,none⟩)) rfl (by kernel_rfl) (by kernel_rfl) (by kernel_rfl) (fun _ _ _ h => h) (Or.inl ⟨by kernel_rfl,?_⟩) hH0 ?_
  ·intro w hSw;obtain ⟨⟨s1,s2⟩,s0⟩:=hSw;have s3:=za s1 1 HCI.out;have s5:=za s2 1 rfl;go_simp
   all_goals try first | with_reducible rfl | omega
  try simp only [gA,gB,gC,Act.put,gD,gE,gF]
  refine wpAnyH_take (i:=3) (v:=wlV p) rfl (by kernel_rfl) (by kernel_rfl) (by kernel_rfl) (fun _ _ _ h => h) (Or.inl ⟨by kernel_rfl,?_⟩) hH0 ?_
  ·intro w hSw;obtain ⟨⟨s1,s2⟩,s0⟩:=hSw;have s3:=za s1 1 HCI.out;have s5:=za s2 1 rfl;go_simp
   all_goals try first | with_reducible rfl | omega
  try simp only [gA,gB,gC,Act.put,gD,gE,gF]
  refine wpAnyH_take (i:=4) (v:=.pointer (some ⟨bx,1,none⟩)) rfl (by kernel_rfl) (by kernel_rfl) (by kernel_rfl) (fun _ _ _ h => h) (Or.inl ⟨by kernel_rfl,?_⟩) hH0 ?_
  ·intro w hSw;obtain ⟨⟨s1,s2⟩,s0⟩:=hSw;have s3:=za s1 1 HCI.out;have s5:=za s2 1 rfl;go_simp
   all_goals try first | with_reducible rfl | omega
  try simp only [gA,gB,gC,Act.put,gD,gE,gF]
  refine wpAnyH_take (i:=5) (v:=.string tx) rfl (by kernel_rfl) (by kernel_rfl) (by kernel_rfl) (fun _ _ _ h => h) (Or.inl ⟨by kernel_rfl,?_⟩) hH0 ?_
  ·intro w hSw;obtain ⟨⟨s1,s2⟩,s0⟩:=hSw;have s3:=za s1 1 HCI.out;have s5:=za s2 1 rfl;go_simp
   all_goals try first | with_reducible rfl | omega
  try simp only [gA,gB,gC,Act.put,gD,gE,gF]
  refine wpAnyH_ready (rs:=[6]) (by kernel_rfl) (by simp) ?_;refine AllReadyH.cons rfl (fun K hK => ?_) AllReadyH.nil;have CV:=HCV.out;go_simp
  clear CV;refine hK.out _ _ (HS1.out) (fun hH1 => ?_);clear hK K hH0;try simp only [gA,gB,gC,Act.put,gD,gE,gF]
  refine wpAnyH_ready (rs:=[7]) (by kernel_rfl) (by simp) ?_;refine AllReadyH.cons rfl (fun K hK => ?_) AllReadyH.nil;go_simp
  refine (HNF.out).mono ?_;rintro e w51 ⟨A3,c3,rfl,hown3,hb3⟩;refine hK.out _ _ (⟨⟨zd hH1.1.1 hb3,zd hH1.1.2 hb3⟩,zb hH1.2 hb3⟩) (fun hH2 => ?_);clear hK K hH1;try simp only [gA,gB,gC,Act.put,gD,gE,gF]
  refine wpAnyH_take (i:=8) (v:=.slice A3 ys.length c3) rfl (by kernel_rfl) (by kernel_rfl) (by kernel_rfl) (fun _ _ _ h => h) (Or.inl ⟨by kernel_rfl,?_⟩) hH2 ?_
  ·intro w hSw;obtain ⟨⟨s1,s2⟩,s0⟩:=hSw;have s3:=za s1 1 HCI.out;have s5:=za s2 1 rfl;go_simp
   all_goals try first | with_reducible rfl | omega
  try simp only [gA,gB,gC,Act.put,gD,gE,gF]
  refine wpAnyH_done (by kernel_rfl) ?_ _
  have hcap3 : ys.length <= c3:=by
   rcases hown3.2 with ⟨hv,hz⟩ | ⟨g,cap,cur,hv,_,_,hnc,_⟩
   ·injection hv with _ h1 h2;omega
   ·injection hv with _ _ hv;omega
  have hnil : A3 = none -> ys.length = 0 /\ c3 = 0:=fun e => by
   rcases hown3.2 with ⟨hv,hz⟩ | ⟨g,cap,cur,hv,_⟩
   ·injection hv with _ h1 h2;exact ⟨h1,h2⟩
   ·injection hv with hv;rw [e] at hv
    cases hv
  have HB3:=hz0q (zb HB1.out hH2.2);have HM3:=hz0q (HM1.out.below hH2.2);have HX3:=hz0q hH2.1.2;have HR3:=hz0q (zax hown3 (show w.heap.size <= W2.heap.size from Nat.le_trans HB1.out.size HB2.out.size))
  have HNI:=hz0q hnil;obtain ⟨ny,hny⟩ : ∃ ny,ny = ys.length:=⟨_,rfl⟩;rw [<- hny] at HR3 HNI hcap3 ⊢;have HNY:=hz0q hny;have d2:=za HX3.out 2 rfl;have d0:=za HX3.out 0 rfl;have d1:=za HX3.out 1 rfl;clear hH2 hown3 hb3 hnil hny NM
  by_cases h18 : ny <= 18
  ·have q18 : ¬ ((18 : Int) < (ny : Int)):=by omega
   by_cases hf : fl = 1
   ·subst hf;go_wp2;go_returns;exact ⟨_,_,_,_,ys,T,H,m,n,rfl,fun _ => h18,HNY.out.symm,HYR.out,HR3.out,HNI.out,hcap3,HM3.out,HT.out,by omega,by omega,Wrote.of_below HB3.out⟩
   ·have qf : (fl == 1) = false:=(by simpa using hf);have DC:=decodes_any HM3.out hne HT.out cd tx fl HK.out.1.2 HK.out.2 HTX.out hm hn;go_wp2_with fail;refine DC.mono ?_;rintro e w4 ⟨k4,T4,H4,m4,n4,rfl,hM4,hT4,hm4,hn4,hw4⟩;have hlt4:=HM3.out.lt
    have hrd4 : w4.ownsRow w.heap.size 21 1 (.slice A3 ny c3) ny (Rs ys):=z8 HR3.out (fun k cur fr hk => hw4.blk hk (fun hS => by
     rcases hS with hS | hS
     ·exact HM3.out.t.ne_cells hk hS.symm
     ·exact HM3.out.h.ne_cells hk hS.symm))
    have HM4:=hz0q hM4;have HT4:=hz0q hT4;have HR4:=hz0q hrd4;have HW4:=hz0q ((Wrote.of_below HB3.out).trans hw4);clear DC hM4 hT4 hw4 hrd4 d2 d0 d1;go_wp2;go_returns;exact ⟨_,_,_,_,ys,T4,H4,m4,n4,rfl,fun _ => h18,HNY.out.symm,HYR.out,HR4.out,HNI.out,hcap3,HM4.out,HT4.out,hm4,hn4,HW4.out⟩
  ·have q18 : (18 : Int) < (ny : Int):=(by omega);go_wp2;go_returns;exact ⟨_,none,0,0,[],T,H,m,n,rfl,(fun e => by cases e),rfl,(fun z hz => by cases hz),World.ownsRow_nil _ _ _ _,(fun _ => ⟨rfl,rfl⟩),Nat.le_refl _,HM3.out,HT.out,by omega,by omega,Wrote.of_below HB3.out⟩
 ·have q0 : (k != 0) = true:=(by simp [hk0]);clear hk;go_wp2;go_returns;exact ⟨k,none,0,0,[],T,H,m,n,rfl,(fun e => absurd e hk0),rfl,(fun z hz => by cases hz),World.ownsRow_nil _ _ _ _,(fun _ => ⟨rfl,rfl⟩),Nat.le_refl _,HM1.out,HT.out,by omega,by omega,Wrote.of_below HB1.out⟩
end
end
end Go.Proofs.YtolcabjkbefjgaaGreatDoor
