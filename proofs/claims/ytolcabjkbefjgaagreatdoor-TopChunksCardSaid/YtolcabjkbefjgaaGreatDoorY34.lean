/- decomp.Order, and what Full's characters are. One character more, as the code joins: the code. The kind that a mark tells; whether bytes may become a mark. -/
import Derived.Test.YtolcabjkbefjgaaGreatDoorY32
set_option linter.unusedSimpArgs false
set_option linter.unusedVariables false
set_option maxRecDepth 20000
set_option maxHeartbeats 4000000
namespace Go.Proofs.YtolcabjkbefjgaaGreatDoor
section
open Go.RowKit
section
variable {w : World} {p : Option Addr} {B : BaseF}
theorem one_R (hbd : zap B) (c : Bool) (r : Int) : R32 r -> ∀ y ∈ B.one c r,R32 y:=by
 induction r using B.wf.induction with
 | _ r ih =>
 intro hr y hy
 by_cases hp : B.parts c r = []
 ·rw [B.one_none hp,List.mem_singleton] at hy;rw [hy];exact hr
 ·rw [B.one_some hp] at hy;obtain ⟨x,hx,hxy⟩:=List.mem_flatMap.1 hy;have hd:=zet hx;exact ih x hd (hbd.dec r x hd) y hxy
theorem zj0 (hbd : zap B) (c : Bool) {l : List Int} (hl : ∀ x ∈ l,R32 x) : ∀ y ∈ B.full c l,R32 y:=fun y hy => by
 unfold BaseF.full at hy;have h1:=((zha (B:=B) (B.all c l)).mem y).2 hy;obtain ⟨x,hx,hxy⟩:=List.mem_flatMap.1 h1;exact one_R hbd c x (hl x hx) y hxy
theorem zl0 (hbd : zap B) (c : Bool) (l : List Int) : (B.full c l).length <= 54 * l.length:=by
 unfold BaseF.full;rw [zkq];exact zkv (fun x => hbd.len c x) l
end
end
section
open Go.RowKit Go.Sort
section
variable {w0 : World} {q tp c : Nat} {p : Option Addr} {B : BaseF}
def PutP (B : BaseF) (w0 : World) (q tp : Nat) (p : Option Addr) (s : JS) (w' : World) : Prop :=
 Below q w0 w' /\ ∃ l A c hd last,TextM q w' tp (.pointer p) l A c hd last /\ PutAt B s l hd last
theorem put_any (HB : Hid (∀ W,Below q w0 W -> zac W (.pointer p) B)) (HK : Hid (∀ W,Below q w0 W -> Kinds W)) (hbd : zap B) (s : JS) (l : List Int) (A : Option Addr) (hd last r : Int) (w : World) (hb : Below q w0 w) (hq : q <= w.heap.size)
  (h : TextM q w tp (.pointer p) l A c hd last) (hp : PutAt B s l hd last) (hl : ∀ x ∈ l,R32 x) (hr : R32 r) (hn : l.length <= 20000000) :
  Calls Tryz.prog 89 #[.pointer (some ⟨tp,0,none⟩),.int .i32 r] w fun e w' => (∃ v,e = .returned v) /\ PutP B w0 q tp p (B.step s r) w':=by
 have C1:=zcw (HB.out w hb) r hr;have HT:=hz0q h;have HP:=hz0q hp;have HL:=hz0q hl;have HR:=hz0q hr;have HBD:=hz0q hbd;have HBW:=hz0q hb;have HQ:=hz0q hq;have b0:=za h.box 0 rfl;obtain ⟨cl,hcl⟩ : ∃ cl,cl = B.cls r:=⟨_,rfl⟩;have hcl0 : 0 <= cl:=(by rw [hcl]; exact B.cls0 r);rw [<- hcl] at C1;have HCL:=hz0q hcl;obtain ⟨L,hL⟩ : ∃ L,L = l.length:=⟨_,rfl⟩;have HLL:=hz0q hL;clear h hl hr hbd hb hq hcl hp;go_enter Tryz.func89,Tryz.ntmps89;go_wp2_with fail;refine C1.mono ?_;rintro e w1 ⟨rfl,hb1⟩;have HT1:=hz0q (HT.out.below hb1);have HBW1:=hz0q (HBW.out.trans (hb1.mono HQ.out));have HQ1 : Hid (q <= w1.heap.size):=Nat.le_trans HQ.out hb1.size;have b0:=za HT1.out.box 0 rfl;have b1:=za HT1.out.box 1 rfl;have b2:=za HT1.out.box 2 rfl;have b3:=za HT1.out.box 3 rfl;rw [<- HLL.out] at b1 hn;have HQT : Hid (∀ nq,TextM q (w1.drewN nq) tp (.pointer p) l A c hd last /\ Below q w0 (w1.drewN nq) /\ q <= (w1.drewN nq).heap.size):=fun nq => ⟨HT1.out.below (zbn _ _ _),HBW1.out.trans (zbn _ _ _),HQ1.out⟩;clear C1 hb1
 cases hh : s.hd with
 | none =>
  have hd1:=(HP.out.none hh).2;have hdn : (hd != -1) = false:=(by rw [hd1]; rfl);have HS : Hid (B.step s r = B.app s r):=zic HP.out r (.inl hh);clear hh hd1 hL;go_wp2;go_quiet (fail)
  obtain ⟨hT2,hB2,hq2⟩:=HQT.out nq;obtain ⟨W2,hW2⟩ : ∃ W2,W2 = w1.drewN nq:=⟨_,rfl⟩;rw [<- hW2] at hT2 hB2 hq2 ⊢;have HT2:=hz0q hT2;have HB2:=hz0q hB2;have HQ2:=hz0q hq2;clear hW2 hT2 hB2 hq2 b0 b1 b2 b3 HQT;have HX0 : Hid (Below W2.heap.size W2 (W2.alloc (.cells #[.int .i32 r] 21))):=(Below.refl _ _).alloc (Nat.le_refl _) _;have HT3:=hz0q (HT2.out.below HX0.out);have hown3:=HT3.out.own;have hbq3 : q <= (W2.alloc (.cells #[.int .i32 r] 21)).heap.size:=Nat.le_trans HQ2.out HX0.out.size;have b1:=za HT2.out.box 1 rfl;rw [<- HLL.out] at hown3 b1;go_wp2_with (at_builtin; refine zak zal _ rfl _ _ rfl q rfl hown3 rfl (Rd.new1 _ _ _) (za7 rfl) (by omega) (by omega) hbq3 ?_)
  intro A4 c4 w4 hown4 hg4 hat4;have HB4:=hz0q (zcl (HB2.out.trans (HX0.out.mono HQ2.out)) hbq3 (Nat.le_refl _) hown3 hg4);rw [HLL.out] at hown4 hg4;have bx4:=zq HT3.out.box hg4 (fun e => HT3.out.ne tp e rfl);have b1:=za bx4 1 rfl;have b2:=za bx4 2 rfl;have b3:=za bx4 3 rfl;have f1:=zc bx4 1;have f2:=zc bx4 2;have f3:=zc bx4 3;have HT5:=hz0q (HT3.out.grow hown4 hg4 hbq3);have HPA:=hz0q (zid HP.out r);rw [<- HCL.out,<- HLL.out] at HPA;rw [<- HLL.out] at HT5 b1;have HTB : Hid (q <= tp):=HT2.out.tb;clear hown3 hbq3 hown4 hg4 hat4 bx4
  by_cases h0 : cl = 0
  ·subst h0;have HPA2 : Hid (PutAt B (B.step s r) (l ++ [r]) (L : Int) 0):=(by have:=HPA.out; rw [if_pos rfl,if_pos rfl] at this; rw [HS.out]; exact this);have hw5 : IntKind.i64.wrap ((L : Int) + 1 - 1) = (L : Int):=(by rw [IntWalk.i64_in _ (by omega)]; omega);have bx5:=HT5.out.box;have c51:=za bx5 1 rfl;have g51:=zc bx5 2;have g53:=zc bx5 3;have HFI:=hz0q ((HT5.out.setHd (L : Int)).setLast 0);have bx6:=(HT5.out.setHd (L : Int)).box;have g63:=zc bx6 3;have HLN : Hid ((l ++ [r]).length = L + 1):=(by show _ = _; rw [List.length_append,HLL.out]; rfl);rw [HLN.out] at c51;have HFB : Hid (Below q w0 (((w4.setCell ⟨tp,1,none⟩ (.slice A4 (L + 1) c4)).setCell ⟨tp,2,none⟩ (.int .i64 (L : Int))).setCell ⟨tp,3,none⟩ (.int .i64 0))):=((Below.setCell (p:=⟨tp,1,none⟩) HB4.out HTB.out _).setCell (p:=⟨tp,2,none⟩) HTB.out _).setCell (p:=⟨tp,3,none⟩) HTB.out _;clear bx5 bx6;go_wp2;first | go_returns | go_end0
   exact ⟨⟨_,rfl⟩,HFB.out,_,_,_,_,_,HFI.out,HPA2.out⟩
  ·have hcb : (cl == 0) = false:=(by simpa using h0);have HPA2 : Hid (PutAt B (B.step s r) (l ++ [r]) hd (max last cl)):=(by have:=HPA.out; rw [if_neg h0,if_neg h0] at this; rw [HS.out]; exact this);have bx5:=HT5.out.box;have c53:=za bx5 3 rfl;have g53:=zc bx5 3;have HFI:=hz0q (HT5.out.setLast (max last cl));have HFB : Hid (Below q w0 ((w4.setCell ⟨tp,1,none⟩ (.slice A4 (L + 1) c4)).setCell ⟨tp,3,none⟩ (.int .i64 (max last cl)))):=(Below.setCell (p:=⟨tp,1,none⟩) HB4.out HTB.out _).setCell (p:=⟨tp,3,none⟩) HTB.out _;clear bx5 h0;go_wp2;first | go_returns | go_end0
   exact ⟨⟨_,rfl⟩,HFB.out,_,_,_,_,_,HFI.out,HPA2.out⟩
 | some c0 =>
  have hd1:=HP.out.some _ hh;obtain ⟨m,hm⟩ : ∃ m,m = s.pre.length:=⟨_,rfl⟩;rw [<- hm] at hd1;subst hd1
  have hmL : m < L:=by
   have h1:=JS.out_len hh;rw [<- HP.out.out,<- HLL.out,<- hm] at h1;omega
  have hat : l[m]? = some c0:=(by rw [HP.out.out,hm]; exact JS.out_at hh);have hdn : ((m : Int) != -1) = true:=(by rw [bne_iff_ne]; omega);have hw1 : IntKind.i64.wrap ((m : Int) + 1) = (m : Int) + 1:=IntWalk.i64_in _ (by omega);have HHH:=hz0q hh;have HMP:=hz0q hm;have HAT:=hz0q hat;obtain ⟨g,hgA,hgq⟩:=HT.out.addr (by rw [<- HLL.out]; omega);subst hgA;clear hh hm hat hL
  by_cases ht1 : (L : Int) = (m : Int) + 1
  ·have ht1b : ((L : Int) == (m : Int) + 1) = true:=(by simpa using ht1);have HTT : Hid ((l.length : Int) = (m : Int) + 1 \/ last < B.cls r):=.inl (by rw [<- HLL.out]; exact ht1);clear ht1;go_wp2;go_quiet (fail)
   obtain ⟨hT2,hB2,hq2⟩:=HQT.out nq;obtain ⟨W2,hW2⟩ : ∃ W2,W2 = w1.drewN nq:=⟨_,rfl⟩;rw [<- hW2] at hT2 hB2 hq2 ⊢;have HT2:=hz0q hT2;have HB2:=hz0q hB2;have HQ2:=hz0q hq2;clear hW2 hT2 hB2 hq2 b0 b1 b2 b3 HQT;have HTB : Hid (q <= tp):=HT2.out.tb;have hc0R : R32 c0:=HL.out c0 (List.mem_of_getElem? HAT.out);have PR : Hid (∀ W,Below W2.heap.size W2 W -> Calls Tryz.prog 76 #[.pointer p,.int .i32 c0,.int .i32 r] W fun e w' => e = .returned (zc2 (B.pair c0 r)) /\ Below W.heap.size W w'):=fun W h => zmt (HB.out W (HB2.out.trans (h.mono HQ2.out))) c0 r hc0R HR.out (HK.out W (HB2.out.trans (h.mono HQ2.out)))
   have HMK : Hid (∀ w',Below W2.heap.size W2 w' -> (((w'.cell? ⟨tp,0,none⟩ = some (.pointer p) /\ w'.cell? ⟨tp,1,none⟩ = some (.slice (some ⟨g,0,none⟩) L c)) /\ w'.cell? ⟨tp,2,none⟩ = some (.int .i64 m)) /\ w'.cell? ⟨g,m,none⟩ = some (.int .i32 c0)) /\ Below W2.heap.size W2 w'):=fun w' h => by
    have hT:=HT2.out.below h;have e1:=za hT.box 1 rfl;rw [<- HLL.out] at e1;exact ⟨⟨⟨⟨za hT.box 0 rfl,e1⟩,za hT.box 2 rfl⟩,(hT.at_ HAT.out).1⟩,h⟩
   have HNE : Hid (g ≠ tp):=HT2.out.ne g rfl;have hmLi : (m : Int) < (L : Int):=(by omega);clear hc0R
   cases hpr : B.pair c0 r with
   | none =>
    have HS : Hid (B.step s r = B.app s r):=zic HP.out r (.inr (.inr ⟨c0,HHH.out,hpr⟩));rw [hpr,show zc2 none = .tuple #[.int .i32 0,.bool false] from rfl] at PR;clear hpr;go_upto_region 2 with fail;refine wp_region_held_drew (S:=fun w' => (((w'.cell? ⟨tp,0,none⟩ = some (.pointer p) /\ w'.cell? ⟨tp,1,none⟩ = some (.slice (some ⟨g,0,none⟩) L c)) /\ w'.cell? ⟨tp,2,none⟩ = some (.int .i64 m)) /\ w'.cell? ⟨g,m,none⟩ = some (.int .i32 c0)) /\ Below W2.heap.size W2 w') (by kernel_rfl) (HMK.out _ (Drew.to ⟨1,rfl⟩)) (fun hH0 => ?_);refine tkH 0 (.pointer (some ⟨tp,0,none⟩)) rfl hH0 ?_;try simp only [gA,gB,gC,Act.put,gD,gE,gF]
    refine tkH 1 (.pointer (some ⟨tp,0,none⟩)) rfl hH0 ?_;try simp only [gA,gB,gC,Act.put,gD,gE,gF]
    refine tkH 2 (.pointer (some ⟨tp,0,none⟩)) rfl hH0 ?_;try simp only [gA,gB,gC,Act.put,gD,gE,gF]
    refine tkH 3 (.pointer p) rfl hH0 ?_;try simp only [gA,gB,gC,Act.put,gD,gE,gF]
    refine tkH 4 (.pointer (some ⟨tp,0,none⟩)) rfl hH0 ?_;try simp only [gA,gB,gC,Act.put,gD,gE,gF]
    refine tkH 5 (.pointer (some ⟨tp,0,none⟩)) rfl hH0 ?_;try simp only [gA,gB,gC,Act.put,gD,gE,gF]
    refine tkH 6 (.pointer (some ⟨tp,1,none⟩)) rfl hH0 ?_;try simp only [gA,gB,gC,Act.put,gD,gE,gF]
    refine tkH 7 (.slice (some ⟨g,0,none⟩) L c) rfl hH0 ?_;try simp only [gA,gB,gC,Act.put,gD,gE,gF]
    refine tkH 8 (.pointer (some ⟨tp,0,none⟩)) rfl hH0 ?_;try simp only [gA,gB,gC,Act.put,gD,gE,gF]
    refine tkH 9 (.pointer (some ⟨tp,0,none⟩)) rfl hH0 ?_;try simp only [gA,gB,gC,Act.put,gD,gE,gF]
    refine tkH 10 (.pointer (some ⟨tp,2,none⟩)) rfl hH0 ?_;try simp only [gA,gB,gC,Act.put,gD,gE,gF]
    refine tkH 11 (.int .i64 m) rfl hH0 ?_;try simp only [gA,gB,gC,Act.put,gD,gE,gF]
    refine tkH 12 (.pointer (some ⟨g,m,none⟩)) rfl hH0 ?_;try simp only [gA,gB,gC,Act.put,gD,gE,gF]
    refine tkH 13 (.int .i32 c0) rfl hH0 ?_;try simp only [gA,gB,gC,Act.put,gD,gE,gF]
    refine tkH 14 (.int .i32 r) rfl hH0 ?_;try simp only [gA,gB,gC,Act.put,gD,gE,gF]
    refine wpAnyH_ready (rs:=[15]) (by kernel_rfl) (by simp) ?_;refine AllReadyH.cons rfl (fun K hK => ?_) AllReadyH.nil;go_simp
    refine (PR.out _ hH0.2).mono ?_;rintro e w50 ⟨rfl,hb5⟩;refine hK.out _ _ (HMK.out _ (zb hH0.2 hb5)) (fun hH1 => ?_);clear hK K hH0;try simp only [gA,gB,gC,Act.put,gD,gE,gF]
    refine tkH 16 (.tuple #[.int .i32 0,.bool false]) rfl hH1 ?_;try simp only [gA,gB,gC,Act.put,gD,gE,gF]
    refine tkH 17 (.int .i32 0) rfl hH1 ?_;try simp only [gA,gB,gC,Act.put,gD,gE,gF]
    refine tkH 18 (.bool false) rfl hH1 ?_;try simp only [gA,gB,gC,Act.put,gD,gE,gF]
    refine tkH 19 (.int .i32 0) rfl hH1 ?_;try simp only [gA,gB,gC,Act.put,gD,gE,gF]
    refine tkH 20 (.bool false) rfl hH1 ?_;try simp only [gA,gB,gC,Act.put,gD,gE,gF]
    refine wpAnyH_done (by kernel_rfl) ?_ _;have HB6:=hz0q hH1.2;clear hH1;have HT6:=hz0q (HT2.out.below HB6.out);have HB7:=hz0q (HB2.out.trans (HB6.out.mono HQ2.out));have HQ6 : Hid (q <= w50.heap.size):=Nat.le_trans HQ2.out HB6.out.size;clear HT2 HB2 HQ2 HMK PR HB6;rename Hid (q <= w50.heap.size) => HQ2;rename Hid (TextM q w50 tp (.pointer p) l (some ⟨g,0,none⟩) c (m : Int) last) => HT2;rename Hid (Below q w0 w50) => HB2;have HX0 : Hid (Below w50.heap.size w50 (w50.alloc (.cells #[.int .i32 r] 21))):=(Below.refl _ _).alloc (Nat.le_refl _) _;have HT3:=hz0q (HT2.out.below HX0.out);have hown3:=HT3.out.own;have hbq3 : q <= (w50.alloc (.cells #[.int .i32 r] 21)).heap.size:=Nat.le_trans HQ2.out HX0.out.size;have b1:=za HT2.out.box 1 rfl;rw [<- HLL.out] at hown3 b1;go_wp2_with (at_builtin; refine zak zal _ rfl _ _ rfl q rfl hown3 rfl (Rd.new1 _ _ _) (za7 rfl) (by omega) (by omega) hbq3 ?_)
    intro A4 c4 w4 hown4 hg4 hat4;have HB4:=hz0q (zcl (HB2.out.trans (HX0.out.mono HQ2.out)) hbq3 (Nat.le_refl _) hown3 hg4);rw [HLL.out] at hown4 hg4;have bx4:=zq HT3.out.box hg4 (fun e => HT3.out.ne tp e rfl);have b1:=za bx4 1 rfl;have b2:=za bx4 2 rfl;have b3:=za bx4 3 rfl;have f1:=zc bx4 1;have f2:=zc bx4 2;have f3:=zc bx4 3;have HT5:=hz0q (HT3.out.grow hown4 hg4 hbq3);have HPA:=hz0q (zid HP.out r);rw [<- HCL.out,<- HLL.out] at HPA;rw [<- HLL.out] at HT5 b1;have HTB : Hid (q <= tp):=HT2.out.tb;clear hown3 hbq3 hown4 hg4 hat4 bx4
    by_cases h0 : cl = 0
    ·subst h0;have HPA2 : Hid (PutAt B (B.step s r) (l ++ [r]) (L : Int) 0):=(by have:=HPA.out; rw [if_pos rfl,if_pos rfl] at this; rw [HS.out]; exact this);have hw5 : IntKind.i64.wrap ((L : Int) + 1 - 1) = (L : Int):=(by rw [IntWalk.i64_in _ (by omega)]; omega);have bx5:=HT5.out.box;have c51:=za bx5 1 rfl;have g51:=zc bx5 2;have g53:=zc bx5 3;have HFI:=hz0q ((HT5.out.setHd (L : Int)).setLast 0);have bx6:=(HT5.out.setHd (L : Int)).box;have g63:=zc bx6 3;have HLN : Hid ((l ++ [r]).length = L + 1):=(by show _ = _; rw [List.length_append,HLL.out]; rfl);rw [HLN.out] at c51;have HFB : Hid (Below q w0 (((w4.setCell ⟨tp,1,none⟩ (.slice A4 (L + 1) c4)).setCell ⟨tp,2,none⟩ (.int .i64 (L : Int))).setCell ⟨tp,3,none⟩ (.int .i64 0))):=((Below.setCell (p:=⟨tp,1,none⟩) HB4.out HTB.out _).setCell (p:=⟨tp,2,none⟩) HTB.out _).setCell (p:=⟨tp,3,none⟩) HTB.out _;clear bx5 bx6;go_wp2;first | go_returns | go_end0
     exact ⟨⟨_,rfl⟩,HFB.out,_,_,_,_,_,HFI.out,HPA2.out⟩
    ·have hcb : (cl == 0) = false:=(by simpa using h0);have HPA2 : Hid (PutAt B (B.step s r) (l ++ [r]) (m : Int) (max last cl)):=(by have:=HPA.out; rw [if_neg h0,if_neg h0] at this; rw [HS.out]; exact this);have bx5:=HT5.out.box;have c53:=za bx5 3 rfl;have g53:=zc bx5 3;have HFI:=hz0q (HT5.out.setLast (max last cl));have HFB : Hid (Below q w0 ((w4.setCell ⟨tp,1,none⟩ (.slice A4 (L + 1) c4)).setCell ⟨tp,3,none⟩ (.int .i64 (max last cl)))):=(Below.setCell (p:=⟨tp,1,none⟩) HB4.out HTB.out _).setCell (p:=⟨tp,3,none⟩) HTB.out _;clear bx5 h0;go_wp2;first | go_returns | go_end0
     exact ⟨⟨_,rfl⟩,HFB.out,_,_,_,_,_,HFI.out,HPA2.out⟩
   | some c1 =>
    have HJ : Hid (PutAt B (B.step s r) (l.set m c1) (m : Int) last):=(by have:=zli HP.out r HHH.out HTT.out hpr; rw [<- HMP.out] at this; exact this);have hc1 : B.cls c1 = 0:=(B.made _ _ _ hpr).2.1;have hc1R : R32 c1:=HBD.out.pair c0 r c1 (HL.out c0 (List.mem_of_getElem? HAT.out)) HR.out hpr;have HC1:=hz0q hc1;have HC1R:=hz0q hc1R;rw [hpr,show zc2 (some c1) = .tuple #[.int .i32 c1,.bool true] from rfl] at PR;clear hpr hc1 hc1R;go_upto_region 2 with fail;refine wp_region_held_drew (S:=fun w' => (((w'.cell? ⟨tp,0,none⟩ = some (.pointer p) /\ w'.cell? ⟨tp,1,none⟩ = some (.slice (some ⟨g,0,none⟩) L c)) /\ w'.cell? ⟨tp,2,none⟩ = some (.int .i64 m)) /\ w'.cell? ⟨g,m,none⟩ = some (.int .i32 c0)) /\ Below W2.heap.size W2 w') (by kernel_rfl) (HMK.out _ (Drew.to ⟨1,rfl⟩)) (fun hH0 => ?_);refine tkH 0 (.pointer (some ⟨tp,0,none⟩)) rfl hH0 ?_;try simp only [gA,gB,gC,Act.put,gD,gE,gF]
    refine tkH 1 (.pointer (some ⟨tp,0,none⟩)) rfl hH0 ?_;try simp only [gA,gB,gC,Act.put,gD,gE,gF]
    refine tkH 2 (.pointer (some ⟨tp,0,none⟩)) rfl hH0 ?_;try simp only [gA,gB,gC,Act.put,gD,gE,gF]
    refine tkH 3 (.pointer p) rfl hH0 ?_;try simp only [gA,gB,gC,Act.put,gD,gE,gF]
    refine tkH 4 (.pointer (some ⟨tp,0,none⟩)) rfl hH0 ?_;try simp only [gA,gB,gC,Act.put,gD,gE,gF]
    refine tkH 5 (.pointer (some ⟨tp,0,none⟩)) rfl hH0 ?_;try simp only [gA,gB,gC,Act.put,gD,gE,gF]
    refine tkH 6 (.pointer (some ⟨tp,1,none⟩)) rfl hH0 ?_;try simp only [gA,gB,gC,Act.put,gD,gE,gF]
    refine tkH 7 (.slice (some ⟨g,0,none⟩) L c) rfl hH0 ?_;try simp only [gA,gB,gC,Act.put,gD,gE,gF]
    refine tkH 8 (.pointer (some ⟨tp,0,none⟩)) rfl hH0 ?_;try simp only [gA,gB,gC,Act.put,gD,gE,gF]
    refine tkH 9 (.pointer (some ⟨tp,0,none⟩)) rfl hH0 ?_;try simp only [gA,gB,gC,Act.put,gD,gE,gF]
    refine tkH 10 (.pointer (some ⟨tp,2,none⟩)) rfl hH0 ?_;try simp only [gA,gB,gC,Act.put,gD,gE,gF]
    refine tkH 11 (.int .i64 m) rfl hH0 ?_;try simp only [gA,gB,gC,Act.put,gD,gE,gF]
    refine tkH 12 (.pointer (some ⟨g,m,none⟩)) rfl hH0 ?_;try simp only [gA,gB,gC,Act.put,gD,gE,gF]
    refine tkH 13 (.int .i32 c0) rfl hH0 ?_;try simp only [gA,gB,gC,Act.put,gD,gE,gF]
    refine tkH 14 (.int .i32 r) rfl hH0 ?_;try simp only [gA,gB,gC,Act.put,gD,gE,gF]
    refine wpAnyH_ready (rs:=[15]) (by kernel_rfl) (by simp) ?_;refine AllReadyH.cons rfl (fun K hK => ?_) AllReadyH.nil;go_simp
    refine (PR.out _ hH0.2).mono ?_;rintro e w50 ⟨rfl,hb5⟩;refine hK.out _ _ (HMK.out _ (zb hH0.2 hb5)) (fun hH1 => ?_);clear hK K hH0;try simp only [gA,gB,gC,Act.put,gD,gE,gF]
    refine tkH 16 (.tuple #[.int .i32 c1,.bool true]) rfl hH1 ?_;try simp only [gA,gB,gC,Act.put,gD,gE,gF]
    refine tkH 17 (.int .i32 c1) rfl hH1 ?_;try simp only [gA,gB,gC,Act.put,gD,gE,gF]
    refine tkH 18 (.bool true) rfl hH1 ?_;try simp only [gA,gB,gC,Act.put,gD,gE,gF]
    refine tkH 19 (.int .i32 c1) rfl hH1 ?_;try simp only [gA,gB,gC,Act.put,gD,gE,gF]
    refine tkH 20 (.bool true) rfl hH1 ?_;try simp only [gA,gB,gC,Act.put,gD,gE,gF]
    refine wpAnyH_done (by kernel_rfl) ?_ _;have HB6:=hz0q hH1.2;clear hH1;obtain ⟨WD,hWD⟩ : ∃ WD,WD = w50.drew:=⟨_,rfl⟩;have hdd : Below w50.heap.size w50 WD:=(by rw [hWD]; exact Drew.to ⟨1,rfl⟩);have HT7:=hz0q ((HT2.out.below HB6.out).below hdd);have HB7:=hz0q ((HB2.out.trans (HB6.out.mono HQ2.out)).trans (hdd.mono (Nat.le_trans HQ2.out HB6.out.size)));have HQ7 : Hid (q <= WD.heap.size):=Nat.le_trans (Nat.le_trans HQ2.out HB6.out.size) hdd.size;have HS4 : Hid (WD.cell? ⟨tp,1,none⟩ = some (.slice (some ⟨g,0,none⟩) L c) /\ WD.cell? ⟨tp,2,none⟩ = some (.int .i64 m)):=⟨by have e1:=za HT7.out.box 1 rfl; rw [<- HLL.out] at e1; exact e1,za HT7.out.box 2 rfl⟩;have hcm:=(HT7.out.at_ HAT.out).1;have hfm:=(HT7.out.at_ HAT.out).2;clear hdd HT2 HB2 HQ2 HMK PR HB6;go_upto_region 4 with fail;refine wp_region_held_drew (S:=fun w' => (w'.cell? ⟨tp,1,none⟩ = some (.slice (some ⟨g,0,none⟩) L c) /\ w'.cell? ⟨tp,2,none⟩ = some (.int .i64 m))) (by kernel_rfl) (by rw [<- hWD]; exact HS4.out) (fun hH0 => ?_);revert hH0;rw [<- hWD];intro hH0;clear hWD;refine tkH 0 (.pointer (some ⟨tp,0,none⟩)) rfl hH0 ?_;try simp only [gA,gB,gC,Act.put,gD,gE,gF]
    refine tkH 1 (.pointer (some ⟨tp,0,none⟩)) rfl hH0 ?_;try simp only [gA,gB,gC,Act.put,gD,gE,gF]
    refine tkH 2 (.pointer (some ⟨tp,1,none⟩)) rfl hH0 ?_;try simp only [gA,gB,gC,Act.put,gD,gE,gF]
    refine tkH 3 (.slice (some ⟨g,0,none⟩) L c) rfl hH0 ?_;try simp only [gA,gB,gC,Act.put,gD,gE,gF]
    refine tkH 4 (.pointer (some ⟨tp,0,none⟩)) rfl hH0 ?_;try simp only [gA,gB,gC,Act.put,gD,gE,gF]
    refine tkH 5 (.pointer (some ⟨tp,0,none⟩)) rfl hH0 ?_;try simp only [gA,gB,gC,Act.put,gD,gE,gF]
    refine tkH 6 (.pointer (some ⟨tp,2,none⟩)) rfl hH0 ?_;try simp only [gA,gB,gC,Act.put,gD,gE,gF]
    refine tkH 7 (.int .i64 m) rfl hH0 ?_;try simp only [gA,gB,gC,Act.put,gD,gE,gF]
    refine tkH 8 (.int .i32 c1) rfl hH0 ?_;try simp only [gA,gB,gC,Act.put,gD,gE,gF]
    refine tkH 9 (.pointer (some ⟨g,m,none⟩)) rfl hH0 ?_;try simp only [gA,gB,gC,Act.put,gD,gE,gF]
    refine wpAnyH_ready (rs:=[10]) (by kernel_rfl) (by simp) ?_;refine AllReadyH.cons rfl (fun K hK => ?_) AllReadyH.nil;go_simp
    refine hK.out _ _ (⟨(World.cell?_setCell_other _ _ _ _ (by intro e; injection e with e; exact HNE.out e)).trans HS4.out.1,(World.cell?_setCell_other _ _ _ _ (by intro e; injection e with e; exact HNE.out e)).trans HS4.out.2⟩) (fun hH1 => ?_);clear hK K hH0;try simp only [gA,gB,gC,Act.put,gD,gE,gF]
    refine wpAnyH_done (by kernel_rfl) ?_ _;clear hH1;have HT8:=hz0q (HT7.out.put (k:=m) (by rw [<- HLL.out]; exact hmL) c1);have HB8 : Hid (Below q w0 (WD.setCell ⟨g,m,none⟩ (.int .i32 c1))):=Below.setCell (p:=⟨g,m,none⟩) HB7.out hgq _;have e0:=za HT8.out.box 0 rfl;have C2:=zcw (HB.out _ HB8.out) c1 HC1R.out;rw [HC1.out] at C2;have HQ8 : Hid (q <= (WD.setCell ⟨g,m,none⟩ (.int .i32 c1)).heap.size):=(by show _ <= _; simp [World.setCell]; exact HQ7.out);clear hcm hfm;go_wp2_with fail;refine C2.mono ?_;rintro e w9 ⟨rfl,hb9⟩;have HT9:=hz0q (HT8.out.below hb9);have HB9:=hz0q (HB8.out.trans (hb9.mono HQ8.out));clear C2 hb9 e0;go_wp2;first | go_returns | go_end0
    exact ⟨⟨_,rfl⟩,HB9.out,_,_,_,_,_,HT9.out,HJ.out⟩
  ·have ht1b : ((L : Int) == (m : Int) + 1) = false:=by simpa using ht1
   by_cases ht2 : last < cl
   ·have HTT : Hid ((l.length : Int) = (m : Int) + 1 \/ last < B.cls r):=.inr (by rw [<- HCL.out]; exact ht2);clear ht1;go_wp2;go_quiet (fail)
    obtain ⟨hT2,hB2,hq2⟩:=HQT.out nq;obtain ⟨W2,hW2⟩ : ∃ W2,W2 = w1.drewN nq:=⟨_,rfl⟩;rw [<- hW2] at hT2 hB2 hq2 ⊢;have HT2:=hz0q hT2;have HB2:=hz0q hB2;have HQ2:=hz0q hq2;clear hW2 hT2 hB2 hq2 b0 b1 b2 b3 HQT;have HTB : Hid (q <= tp):=HT2.out.tb;have hc0R : R32 c0:=HL.out c0 (List.mem_of_getElem? HAT.out);have PR : Hid (∀ W,Below W2.heap.size W2 W -> Calls Tryz.prog 76 #[.pointer p,.int .i32 c0,.int .i32 r] W fun e w' => e = .returned (zc2 (B.pair c0 r)) /\ Below W.heap.size W w'):=fun W h => zmt (HB.out W (HB2.out.trans (h.mono HQ2.out))) c0 r hc0R HR.out (HK.out W (HB2.out.trans (h.mono HQ2.out)))
    have HMK : Hid (∀ w',Below W2.heap.size W2 w' -> (((w'.cell? ⟨tp,0,none⟩ = some (.pointer p) /\ w'.cell? ⟨tp,1,none⟩ = some (.slice (some ⟨g,0,none⟩) L c)) /\ w'.cell? ⟨tp,2,none⟩ = some (.int .i64 m)) /\ w'.cell? ⟨g,m,none⟩ = some (.int .i32 c0)) /\ Below W2.heap.size W2 w'):=fun w' h => by
     have hT:=HT2.out.below h;have e1:=za hT.box 1 rfl;rw [<- HLL.out] at e1;exact ⟨⟨⟨⟨za hT.box 0 rfl,e1⟩,za hT.box 2 rfl⟩,(hT.at_ HAT.out).1⟩,h⟩
    have HNE : Hid (g ≠ tp):=HT2.out.ne g rfl;have hmLi : (m : Int) < (L : Int):=(by omega);clear hc0R
    cases hpr : B.pair c0 r with
    | none =>
     have HS : Hid (B.step s r = B.app s r):=zic HP.out r (.inr (.inr ⟨c0,HHH.out,hpr⟩));rw [hpr,show zc2 none = .tuple #[.int .i32 0,.bool false] from rfl] at PR;clear hpr;go_upto_region 2 with fail;refine wp_region_held_drew (S:=fun w' => (((w'.cell? ⟨tp,0,none⟩ = some (.pointer p) /\ w'.cell? ⟨tp,1,none⟩ = some (.slice (some ⟨g,0,none⟩) L c)) /\ w'.cell? ⟨tp,2,none⟩ = some (.int .i64 m)) /\ w'.cell? ⟨g,m,none⟩ = some (.int .i32 c0)) /\ Below W2.heap.size W2 w') (by kernel_rfl) (HMK.out _ (Drew.to ⟨1,rfl⟩)) (fun hH0 => ?_);refine tkH 0 (.pointer (some ⟨tp,0,none⟩)) rfl hH0 ?_;try simp only [gA,gB,gC,Act.put,gD,gE,gF]
     refine tkH 1 (.pointer (some ⟨tp,0,none⟩)) rfl hH0 ?_;try simp only [gA,gB,gC,Act.put,gD,gE,gF]
     refine tkH 2 (.pointer (some ⟨tp,0,none⟩)) rfl hH0 ?_;try simp only [gA,gB,gC,Act.put,gD,gE,gF]
     refine tkH 3 (.pointer p) rfl hH0 ?_;try simp only [gA,gB,gC,Act.put,gD,gE,gF]
     refine tkH 4 (.pointer (some ⟨tp,0,none⟩)) rfl hH0 ?_;try simp only [gA,gB,gC,Act.put,gD,gE,gF]
     refine tkH 5 (.pointer (some ⟨tp,0,none⟩)) rfl hH0 ?_;try simp only [gA,gB,gC,Act.put,gD,gE,gF]
     refine tkH 6 (.pointer (some ⟨tp,1,none⟩)) rfl hH0 ?_;try simp only [gA,gB,gC,Act.put,gD,gE,gF]
     refine tkH 7 (.slice (some ⟨g,0,none⟩) L c) rfl hH0 ?_;try simp only [gA,gB,gC,Act.put,gD,gE,gF]
     refine tkH 8 (.pointer (some ⟨tp,0,none⟩)) rfl hH0 ?_;try simp only [gA,gB,gC,Act.put,gD,gE,gF]
     refine tkH 9 (.pointer (some ⟨tp,0,none⟩)) rfl hH0 ?_;try simp only [gA,gB,gC,Act.put,gD,gE,gF]
     refine tkH 10 (.pointer (some ⟨tp,2,none⟩)) rfl hH0 ?_;try simp only [gA,gB,gC,Act.put,gD,gE,gF]
     refine tkH 11 (.int .i64 m) rfl hH0 ?_;try simp only [gA,gB,gC,Act.put,gD,gE,gF]
     refine tkH 12 (.pointer (some ⟨g,m,none⟩)) rfl hH0 ?_;try simp only [gA,gB,gC,Act.put,gD,gE,gF]
     refine tkH 13 (.int .i32 c0) rfl hH0 ?_;try simp only [gA,gB,gC,Act.put,gD,gE,gF]
     refine tkH 14 (.int .i32 r) rfl hH0 ?_;try simp only [gA,gB,gC,Act.put,gD,gE,gF]
     refine wpAnyH_ready (rs:=[15]) (by kernel_rfl) (by simp) ?_;refine AllReadyH.cons rfl (fun K hK => ?_) AllReadyH.nil;go_simp
     refine (PR.out _ hH0.2).mono ?_;rintro e w50 ⟨rfl,hb5⟩;refine hK.out _ _ (HMK.out _ (zb hH0.2 hb5)) (fun hH1 => ?_);clear hK K hH0;try simp only [gA,gB,gC,Act.put,gD,gE,gF]
     refine tkH 16 (.tuple #[.int .i32 0,.bool false]) rfl hH1 ?_;try simp only [gA,gB,gC,Act.put,gD,gE,gF]
     refine tkH 17 (.int .i32 0) rfl hH1 ?_;try simp only [gA,gB,gC,Act.put,gD,gE,gF]
     refine tkH 18 (.bool false) rfl hH1 ?_;try simp only [gA,gB,gC,Act.put,gD,gE,gF]
     refine tkH 19 (.int .i32 0) rfl hH1 ?_;try simp only [gA,gB,gC,Act.put,gD,gE,gF]
     refine tkH 20 (.bool false) rfl hH1 ?_;try simp only [gA,gB,gC,Act.put,gD,gE,gF]
     refine wpAnyH_done (by kernel_rfl) ?_ _;have HB6:=hz0q hH1.2;clear hH1;have HT6:=hz0q (HT2.out.below HB6.out);have HB7:=hz0q (HB2.out.trans (HB6.out.mono HQ2.out));have HQ6 : Hid (q <= w50.heap.size):=Nat.le_trans HQ2.out HB6.out.size;clear HT2 HB2 HQ2 HMK PR HB6;rename Hid (q <= w50.heap.size) => HQ2;rename Hid (TextM q w50 tp (.pointer p) l (some ⟨g,0,none⟩) c (m : Int) last) => HT2;rename Hid (Below q w0 w50) => HB2;have HX0 : Hid (Below w50.heap.size w50 (w50.alloc (.cells #[.int .i32 r] 21))):=(Below.refl _ _).alloc (Nat.le_refl _) _;have HT3:=hz0q (HT2.out.below HX0.out);have hown3:=HT3.out.own;have hbq3 : q <= (w50.alloc (.cells #[.int .i32 r] 21)).heap.size:=Nat.le_trans HQ2.out HX0.out.size;have b1:=za HT2.out.box 1 rfl;rw [<- HLL.out] at hown3 b1;go_wp2_with (at_builtin; refine zak zal _ rfl _ _ rfl q rfl hown3 rfl (Rd.new1 _ _ _) (za7 rfl) (by omega) (by omega) hbq3 ?_)
     intro A4 c4 w4 hown4 hg4 hat4;have HB4:=hz0q (zcl (HB2.out.trans (HX0.out.mono HQ2.out)) hbq3 (Nat.le_refl _) hown3 hg4);rw [HLL.out] at hown4 hg4;have bx4:=zq HT3.out.box hg4 (fun e => HT3.out.ne tp e rfl);have b1:=za bx4 1 rfl;have b2:=za bx4 2 rfl;have b3:=za bx4 3 rfl;have f1:=zc bx4 1;have f2:=zc bx4 2;have f3:=zc bx4 3;have HT5:=hz0q (HT3.out.grow hown4 hg4 hbq3);have HPA:=hz0q (zid HP.out r);rw [<- HCL.out,<- HLL.out] at HPA;rw [<- HLL.out] at HT5 b1;have HTB : Hid (q <= tp):=HT2.out.tb;clear hown3 hbq3 hown4 hg4 hat4 bx4
     by_cases h0 : cl = 0
     ·subst h0;have HPA2 : Hid (PutAt B (B.step s r) (l ++ [r]) (L : Int) 0):=(by have:=HPA.out; rw [if_pos rfl,if_pos rfl] at this; rw [HS.out]; exact this);have hw5 : IntKind.i64.wrap ((L : Int) + 1 - 1) = (L : Int):=(by rw [IntWalk.i64_in _ (by omega)]; omega);have bx5:=HT5.out.box;have c51:=za bx5 1 rfl;have g51:=zc bx5 2;have g53:=zc bx5 3;have HFI:=hz0q ((HT5.out.setHd (L : Int)).setLast 0);have bx6:=(HT5.out.setHd (L : Int)).box;have g63:=zc bx6 3;have HLN : Hid ((l ++ [r]).length = L + 1):=(by show _ = _; rw [List.length_append,HLL.out]; rfl);rw [HLN.out] at c51;have HFB : Hid (Below q w0 (((w4.setCell ⟨tp,1,none⟩ (.slice A4 (L + 1) c4)).setCell ⟨tp,2,none⟩ (.int .i64 (L : Int))).setCell ⟨tp,3,none⟩ (.int .i64 0))):=((Below.setCell (p:=⟨tp,1,none⟩) HB4.out HTB.out _).setCell (p:=⟨tp,2,none⟩) HTB.out _).setCell (p:=⟨tp,3,none⟩) HTB.out _;clear bx5 bx6;go_wp2;first | go_returns | go_end0
      exact ⟨⟨_,rfl⟩,HFB.out,_,_,_,_,_,HFI.out,HPA2.out⟩
     ·have hcb : (cl == 0) = false:=(by simpa using h0);have HPA2 : Hid (PutAt B (B.step s r) (l ++ [r]) (m : Int) (max last cl)):=(by have:=HPA.out; rw [if_neg h0,if_neg h0] at this; rw [HS.out]; exact this);have bx5:=HT5.out.box;have c53:=za bx5 3 rfl;have g53:=zc bx5 3;have HFI:=hz0q (HT5.out.setLast (max last cl));have HFB : Hid (Below q w0 ((w4.setCell ⟨tp,1,none⟩ (.slice A4 (L + 1) c4)).setCell ⟨tp,3,none⟩ (.int .i64 (max last cl)))):=(Below.setCell (p:=⟨tp,1,none⟩) HB4.out HTB.out _).setCell (p:=⟨tp,3,none⟩) HTB.out _;clear bx5 h0;go_wp2;first | go_returns | go_end0
      exact ⟨⟨_,rfl⟩,HFB.out,_,_,_,_,_,HFI.out,HPA2.out⟩
    | some c1 =>
     have HJ : Hid (PutAt B (B.step s r) (l.set m c1) (m : Int) last):=(by have:=zli HP.out r HHH.out HTT.out hpr; rw [<- HMP.out] at this; exact this);have hc1 : B.cls c1 = 0:=(B.made _ _ _ hpr).2.1;have hc1R : R32 c1:=HBD.out.pair c0 r c1 (HL.out c0 (List.mem_of_getElem? HAT.out)) HR.out hpr;have HC1:=hz0q hc1;have HC1R:=hz0q hc1R;rw [hpr,show zc2 (some c1) = .tuple #[.int .i32 c1,.bool true] from rfl] at PR;clear hpr hc1 hc1R;go_upto_region 2 with fail;refine wp_region_held_drew (S:=fun w' => (((w'.cell? ⟨tp,0,none⟩ = some (.pointer p) /\ w'.cell? ⟨tp,1,none⟩ = some (.slice (some ⟨g,0,none⟩) L c)) /\ w'.cell? ⟨tp,2,none⟩ = some (.int .i64 m)) /\ w'.cell? ⟨g,m,none⟩ = some (.int .i32 c0)) /\ Below W2.heap.size W2 w') (by kernel_rfl) (HMK.out _ (Drew.to ⟨1,rfl⟩)) (fun hH0 => ?_);refine tkH 0 (.pointer (some ⟨tp,0,none⟩)) rfl hH0 ?_;try simp only [gA,gB,gC,Act.put,gD,gE,gF]
     refine tkH 1 (.pointer (some ⟨tp,0,none⟩)) rfl hH0 ?_;try simp only [gA,gB,gC,Act.put,gD,gE,gF]
     refine tkH 2 (.pointer (some ⟨tp,0,none⟩)) rfl hH0 ?_;try simp only [gA,gB,gC,Act.put,gD,gE,gF]
     refine tkH 3 (.pointer p) rfl hH0 ?_;try simp only [gA,gB,gC,Act.put,gD,gE,gF]
     refine tkH 4 (.pointer (some ⟨tp,0,none⟩)) rfl hH0 ?_;try simp only [gA,gB,gC,Act.put,gD,gE,gF]
     refine tkH 5 (.pointer (some ⟨tp,0,none⟩)) rfl hH0 ?_;try simp only [gA,gB,gC,Act.put,gD,gE,gF]
     refine tkH 6 (.pointer (some ⟨tp,1,none⟩)) rfl hH0 ?_;try simp only [gA,gB,gC,Act.put,gD,gE,gF]
     refine tkH 7 (.slice (some ⟨g,0,none⟩) L c) rfl hH0 ?_;try simp only [gA,gB,gC,Act.put,gD,gE,gF]
     refine tkH 8 (.pointer (some ⟨tp,0,none⟩)) rfl hH0 ?_;try simp only [gA,gB,gC,Act.put,gD,gE,gF]
     refine tkH 9 (.pointer (some ⟨tp,0,none⟩)) rfl hH0 ?_;try simp only [gA,gB,gC,Act.put,gD,gE,gF]
     refine tkH 10 (.pointer (some ⟨tp,2,none⟩)) rfl hH0 ?_;try simp only [gA,gB,gC,Act.put,gD,gE,gF]
     refine tkH 11 (.int .i64 m) rfl hH0 ?_;try simp only [gA,gB,gC,Act.put,gD,gE,gF]
     refine tkH 12 (.pointer (some ⟨g,m,none⟩)) rfl hH0 ?_;try simp only [gA,gB,gC,Act.put,gD,gE,gF]
     refine tkH 13 (.int .i32 c0) rfl hH0 ?_;try simp only [gA,gB,gC,Act.put,gD,gE,gF]
     refine tkH 14 (.int .i32 r) rfl hH0 ?_;try simp only [gA,gB,gC,Act.put,gD,gE,gF]
     refine wpAnyH_ready (rs:=[15]) (by kernel_rfl) (by simp) ?_;refine AllReadyH.cons rfl (fun K hK => ?_) AllReadyH.nil;go_simp
     refine (PR.out _ hH0.2).mono ?_;rintro e w50 ⟨rfl,hb5⟩;refine hK.out _ _ (HMK.out _ (zb hH0.2 hb5)) (fun hH1 => ?_);clear hK K hH0;try simp only [gA,gB,gC,Act.put,gD,gE,gF]
     refine tkH 16 (.tuple #[.int .i32 c1,.bool true]) rfl hH1 ?_;try simp only [gA,gB,gC,Act.put,gD,gE,gF]
     refine tkH 17 (.int .i32 c1) rfl hH1 ?_;try simp only [gA,gB,gC,Act.put,gD,gE,gF]
     refine tkH 18 (.bool true) rfl hH1 ?_;try simp only [gA,gB,gC,Act.put,gD,gE,gF]
     refine tkH 19 (.int .i32 c1) rfl hH1 ?_;try simp only [gA,gB,gC,Act.put,gD,gE,gF]
     refine tkH 20 (.bool true) rfl hH1 ?_;try simp only [gA,gB,gC,Act.put,gD,gE,gF]
     refine wpAnyH_done (by kernel_rfl) ?_ _;have HB6:=hz0q hH1.2;clear hH1;obtain ⟨WD,hWD⟩ : ∃ WD,WD = w50.drew:=⟨_,rfl⟩;have hdd : Below w50.heap.size w50 WD:=(by rw [hWD]; exact Drew.to ⟨1,rfl⟩);have HT7:=hz0q ((HT2.out.below HB6.out).below hdd);have HB7:=hz0q ((HB2.out.trans (HB6.out.mono HQ2.out)).trans (hdd.mono (Nat.le_trans HQ2.out HB6.out.size)));have HQ7 : Hid (q <= WD.heap.size):=Nat.le_trans (Nat.le_trans HQ2.out HB6.out.size) hdd.size;have HS4 : Hid (WD.cell? ⟨tp,1,none⟩ = some (.slice (some ⟨g,0,none⟩) L c) /\ WD.cell? ⟨tp,2,none⟩ = some (.int .i64 m)):=⟨by have e1:=za HT7.out.box 1 rfl; rw [<- HLL.out] at e1; exact e1,za HT7.out.box 2 rfl⟩;have hcm:=(HT7.out.at_ HAT.out).1;have hfm:=(HT7.out.at_ HAT.out).2;clear hdd HT2 HB2 HQ2 HMK PR HB6;go_upto_region 4 with fail;refine wp_region_held_drew (S:=fun w' => (w'.cell? ⟨tp,1,none⟩ = some (.slice (some ⟨g,0,none⟩) L c) /\ w'.cell? ⟨tp,2,none⟩ = some (.int .i64 m))) (by kernel_rfl) (by rw [<- hWD]; exact HS4.out) (fun hH0 => ?_);revert hH0;rw [<- hWD];intro hH0;clear hWD;refine tkH 0 (.pointer (some ⟨tp,0,none⟩)) rfl hH0 ?_;try simp only [gA,gB,gC,Act.put,gD,gE,gF]
     refine tkH 1 (.pointer (some ⟨tp,0,none⟩)) rfl hH0 ?_;try simp only [gA,gB,gC,Act.put,gD,gE,gF]
     refine tkH 2 (.pointer (some ⟨tp,1,none⟩)) rfl hH0 ?_;try simp only [gA,gB,gC,Act.put,gD,gE,gF]
     refine tkH 3 (.slice (some ⟨g,0,none⟩) L c) rfl hH0 ?_;try simp only [gA,gB,gC,Act.put,gD,gE,gF]
     refine tkH 4 (.pointer (some ⟨tp,0,none⟩)) rfl hH0 ?_;try simp only [gA,gB,gC,Act.put,gD,gE,gF]
     refine tkH 5 (.pointer (some ⟨tp,0,none⟩)) rfl hH0 ?_;try simp only [gA,gB,gC,Act.put,gD,gE,gF]
     refine tkH 6 (.pointer (some ⟨tp,2,none⟩)) rfl hH0 ?_;try simp only [gA,gB,gC,Act.put,gD,gE,gF]
     refine tkH 7 (.int .i64 m) rfl hH0 ?_;try simp only [gA,gB,gC,Act.put,gD,gE,gF]
     refine tkH 8 (.int .i32 c1) rfl hH0 ?_;try simp only [gA,gB,gC,Act.put,gD,gE,gF]
     refine tkH 9 (.pointer (some ⟨g,m,none⟩)) rfl hH0 ?_;try simp only [gA,gB,gC,Act.put,gD,gE,gF]
     refine wpAnyH_ready (rs:=[10]) (by kernel_rfl) (by simp) ?_;refine AllReadyH.cons rfl (fun K hK => ?_) AllReadyH.nil;go_simp
     refine hK.out _ _ (⟨(World.cell?_setCell_other _ _ _ _ (by intro e; injection e with e; exact HNE.out e)).trans HS4.out.1,(World.cell?_setCell_other _ _ _ _ (by intro e; injection e with e; exact HNE.out e)).trans HS4.out.2⟩) (fun hH1 => ?_);clear hK K hH0;try simp only [gA,gB,gC,Act.put,gD,gE,gF]
     refine wpAnyH_done (by kernel_rfl) ?_ _;clear hH1;have HT8:=hz0q (HT7.out.put (k:=m) (by rw [<- HLL.out]; exact hmL) c1);have HB8 : Hid (Below q w0 (WD.setCell ⟨g,m,none⟩ (.int .i32 c1))):=Below.setCell (p:=⟨g,m,none⟩) HB7.out hgq _;have e0:=za HT8.out.box 0 rfl;have C2:=zcw (HB.out _ HB8.out) c1 HC1R.out;rw [HC1.out] at C2;have HQ8 : Hid (q <= (WD.setCell ⟨g,m,none⟩ (.int .i32 c1)).heap.size):=(by show _ <= _; simp [World.setCell]; exact HQ7.out);clear hcm hfm;go_wp2_with fail;refine C2.mono ?_;rintro e w9 ⟨rfl,hb9⟩;have HT9:=hz0q (HT8.out.below hb9);have HB9:=hz0q (HB8.out.trans (hb9.mono HQ8.out));clear C2 hb9 e0;go_wp2;first | go_returns | go_end0
     exact ⟨⟨_,rfl⟩,HB9.out,_,_,_,_,_,HT9.out,HJ.out⟩
   ·have HS : Hid (B.step s r = B.app s r):=zic HP.out r (.inr (.inl ⟨by rw [<- HLL.out]; exact ht1,by rw [<- HCL.out]; exact ht2⟩));have ht2b : decide (last < cl) = false:=decide_eq_false ht2;clear ht1;go_wp2;go_quiet (fail)
    obtain ⟨hT2,hB2,hq2⟩:=HQT.out nq;obtain ⟨W2,hW2⟩ : ∃ W2,W2 = w1.drewN nq:=⟨_,rfl⟩;rw [<- hW2] at hT2 hB2 hq2 ⊢;have HT2:=hz0q hT2;have HB2:=hz0q hB2;have HQ2:=hz0q hq2;clear hW2 hT2 hB2 hq2 b0 b1 b2 b3 HQT;have HX0 : Hid (Below W2.heap.size W2 (W2.alloc (.cells #[.int .i32 r] 21))):=(Below.refl _ _).alloc (Nat.le_refl _) _;have HT3:=hz0q (HT2.out.below HX0.out);have hown3:=HT3.out.own;have hbq3 : q <= (W2.alloc (.cells #[.int .i32 r] 21)).heap.size:=Nat.le_trans HQ2.out HX0.out.size;have b1:=za HT2.out.box 1 rfl;rw [<- HLL.out] at hown3 b1;go_wp2_with (at_builtin; refine zak zal _ rfl _ _ rfl q rfl hown3 rfl (Rd.new1 _ _ _) (za7 rfl) (by omega) (by omega) hbq3 ?_)
    intro A4 c4 w4 hown4 hg4 hat4;have HB4:=hz0q (zcl (HB2.out.trans (HX0.out.mono HQ2.out)) hbq3 (Nat.le_refl _) hown3 hg4);rw [HLL.out] at hown4 hg4;have bx4:=zq HT3.out.box hg4 (fun e => HT3.out.ne tp e rfl);have b1:=za bx4 1 rfl;have b2:=za bx4 2 rfl;have b3:=za bx4 3 rfl;have f1:=zc bx4 1;have f2:=zc bx4 2;have f3:=zc bx4 3;have HT5:=hz0q (HT3.out.grow hown4 hg4 hbq3);have HPA:=hz0q (zid HP.out r);rw [<- HCL.out,<- HLL.out] at HPA;rw [<- HLL.out] at HT5 b1;have HTB : Hid (q <= tp):=HT2.out.tb;clear hown3 hbq3 hown4 hg4 hat4 bx4
    by_cases h0 : cl = 0
    ·subst h0;have HPA2 : Hid (PutAt B (B.step s r) (l ++ [r]) (L : Int) 0):=(by have:=HPA.out; rw [if_pos rfl,if_pos rfl] at this; rw [HS.out]; exact this);have hw5 : IntKind.i64.wrap ((L : Int) + 1 - 1) = (L : Int):=(by rw [IntWalk.i64_in _ (by omega)]; omega);have bx5:=HT5.out.box;have c51:=za bx5 1 rfl;have g51:=zc bx5 2;have g53:=zc bx5 3;have HFI:=hz0q ((HT5.out.setHd (L : Int)).setLast 0);have bx6:=(HT5.out.setHd (L : Int)).box;have g63:=zc bx6 3;have HLN : Hid ((l ++ [r]).length = L + 1):=(by show _ = _; rw [List.length_append,HLL.out]; rfl);rw [HLN.out] at c51;have HFB : Hid (Below q w0 (((w4.setCell ⟨tp,1,none⟩ (.slice A4 (L + 1) c4)).setCell ⟨tp,2,none⟩ (.int .i64 (L : Int))).setCell ⟨tp,3,none⟩ (.int .i64 0))):=((Below.setCell (p:=⟨tp,1,none⟩) HB4.out HTB.out _).setCell (p:=⟨tp,2,none⟩) HTB.out _).setCell (p:=⟨tp,3,none⟩) HTB.out _;clear bx5 bx6;go_wp2;first | go_returns | go_end0
     exact ⟨⟨_,rfl⟩,HFB.out,_,_,_,_,_,HFI.out,HPA2.out⟩
    ·have hcb : (cl == 0) = false:=(by simpa using h0);have HPA2 : Hid (PutAt B (B.step s r) (l ++ [r]) (m : Int) (max last cl)):=(by have:=HPA.out; rw [if_neg h0,if_neg h0] at this; rw [HS.out]; exact this);have bx5:=HT5.out.box;have c53:=za bx5 3 rfl;have g53:=zc bx5 3;have HFI:=hz0q (HT5.out.setLast (max last cl));have HFB : Hid (Below q w0 ((w4.setCell ⟨tp,1,none⟩ (.slice A4 (L + 1) c4)).setCell ⟨tp,3,none⟩ (.int .i64 (max last cl)))):=(Below.setCell (p:=⟨tp,1,none⟩) HB4.out HTB.out _).setCell (p:=⟨tp,3,none⟩) HTB.out _;clear bx5 h0;go_wp2;first | go_returns | go_end0
     exact ⟨⟨_,rfl⟩,HFB.out,_,_,_,_,_,HFI.out,HPA2.out⟩
end
end
section
open Go.RowKit
theorem pre_iff (s p : List UInt8) : Lib.hasPrefix s p = decide (p <+: s):=by
 unfold Lib.hasPrefix
 cases h : p.isPrefixOf s
 ·symm; rw [decide_eq_false_iff_not]; intro hp; rw [List.isPrefixOf_iff_prefix.2 hp] at h; cases h
 ·symm; rw [decide_eq_true_iff]; exact List.isPrefixOf_iff_prefix.1 h
theorem pre_any (s p : ByteArray) (w : World) : Calls Tryz.prog 123 #[.string s,.string p] w fun e w' => e = .returned (.bool (decide (bs p <+: bs s))) /\ w = w':=by
 refine (Tryz.strings_HasPrefix s p w).mono ?_;rintro e w' ⟨rfl,rfl⟩;exact ⟨by rw [pre_iff]; rfl,rfl⟩
theorem zlt {w : World} {p : Addr} {u : Value} (h : w.cell? p = some u) : w.drew.cell? p = some u /\ Below w.heap.size w w.drew:=⟨h,(show Drew w w.drew from ⟨1,rfl⟩).to⟩
theorem cell_inB {w : World} {A : Addr} {v : Value} (h : w.cell? A = some v) : A.block < w.heap.size:=by
 refine Nat.lt_of_not_le fun hl => ?_;unfold World.cell? at h;rw [Array.getElem?_eq_none hl] at h
 cases h
theorem kp_call {w0 w w' : World} {p : Addr} {u : Value} (h : w.cell? p = some u /\ Below w0.heap.size w0 w) (hb : Below w.heap.size w w') : w'.cell? p = some u /\ Below w0.heap.size w0 w':=⟨(hb.cell (cell_inB h.1)).trans h.1,zb h.2 hb⟩
end
end Go.Proofs.YtolcabjkbefjgaaGreatDoor
