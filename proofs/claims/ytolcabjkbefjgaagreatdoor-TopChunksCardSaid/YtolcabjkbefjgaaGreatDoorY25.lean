/- New: the base taken, both loops, and what is made: the code. wide.put, Encode and Mark, at the mark alone. utf8.Encode of one character, U+00C0. -/
import Derived.Test.YtolcabjkbefjgaaGreatDoorY24
import Derived.StillTailTactics
set_option linter.unusedSimpArgs false
set_option linter.unusedVariables false
set_option maxRecDepth 20000
set_option maxHeartbeats 4000000
namespace Go.Proofs.YtolcabjkbefjgaaGreatDoor
section
open Go.RowKit Go.Lib Go.Maps Go.Sort Go.Shelf
attribute [local go_sem] Oper.semAt_some
theorem TInv.toM {W0 w w' : World} {bp n : Nat} {a : BAddr} {rows : List RowS} (h : TInv W0 w bp a n rows w') (hV : MkV w a 0 (fun _ => none) (fun _ => none) (fun _ => none)) (ap : a.Apart) (ht : a.tn = 4353 * n) (hb : Below W0.heap.size W0 w') : BaseM w' bp a n (clsL rows) (prtL rows) (fun _ => none) (fun _ => none) (fun _ => none):=by
 obtain ⟨h1,h2,⟨f,h3,h4⟩,h5⟩:=h;refine ⟨h1,by rw [ht]; exact h2,⟨f,h3,fun r hr => (h4 r hr).below hb⟩,?_,?_,?_⟩
 ·exact (hV.pr.at (h5.block _ hV.pr.lt (by rintro (e | e); exact ap.b2 e.symm; exact ap.p2 e.symm))).mono (Nat.zero_le _)
 ·exact (hV.md.at (h5.block _ hV.md.lt (by rintro (e | e); exact ap.b3 e.symm; exact ap.p3 e.symm))).mono (Nat.zero_le _)
 ·exact (hV.sc.at (h5.block _ hV.sc.lt (by rintro (e | e); exact ap.b4 e.symm; exact ap.p4 e.symm))).mono (Nat.zero_le _)
theorem zg7 (q tn : Nat) : BAddr.Apart ⟨q + 1,q,q + 2,q + 3,q + 4,q + 5,tn⟩:=⟨by simp,by simp,by simp,by simp,by simp,by simp,by simp,by simp,by simp,by simp⟩
theorem BaseM.wrote {w w' : World} {bp n : Nat} {a : BAddr} {cls : Int -> Int} {prt : Int -> Option (List UInt8 × List Int)} {pr : Int × Int -> Option Int} {md : Int -> Option (Int × Int)} {sc : Int -> Option Int} {S : Nat -> Prop} (h : BaseM w bp a n cls prt pr md sc) (hW : Wrote S w w')
  (hS : ∀ k,S k -> k ≠ bp /\ k ≠ a.tb /\ k ≠ a.mb /\ k ≠ a.m1 /\ k ≠ a.m2 /\ k ≠ a.m3 /\ k ≠ a.m4 /\ ∀ off z,w.cell? ⟨k,off,none⟩ ≠ some (.int .i32 z)) : BaseM w' bp a n cls prt pr md sc:=by
 obtain ⟨h1,⟨i1,g,i2,i3⟩,⟨f,h3,h4⟩,h5,h6,h7⟩:=h;have ne : ∀ b,(∀ k,S k -> k ≠ b) -> ¬ S b:=fun b hb hs => hb b hs rfl;refine ⟨hW.blk h1 (ne _ fun k hk => (hS k hk).1),⟨hW.blk i1 (ne _ fun k hk => (hS k hk).2.1),g,i2.at (hW.block _ i2.lt (ne _ fun k hk => (hS k hk).2.2.1)),i3⟩,⟨f,h3.at (hW.block _ h3.lt (ne _ fun k hk => (hS k hk).2.2.2.1)),fun r hr => ?_⟩,h5.at (hW.block _ h5.lt (ne _ fun k hk => (hS k hk).2.2.2.2.1)),h6.at (hW.block _ h6.lt (ne _ fun k hk => (hS k hk).2.2.2.2.2.1)),h7.at (hW.block _ h7.lt (ne _ fun k hk => (hS k hk).2.2.2.2.2.2.1))⟩;have hp:=h4 r hr;generalize f r = p at hp;generalize prt r = q at hp
 cases p <;> cases q <;> first | exact hp | (refine ⟨hp.1,hp.2.1,hp.2.2.1,hp.2.2.2.1.wrote hW fun h0 ad had hSk => ?_,hp.2.2.2.2⟩)
 obtain ⟨b,off,e,_,hc⟩:=hp.2.2.2.1.at_ h0;rw [had] at e;injection e with e;subst e;have hl:=hp.2.2.2.1.1;obtain ⟨u,hu⟩ : ∃ u,(Rs _)[0]? = some u:=⟨_,List.getElem?_eq_getElem (by rw [hl]; exact h0)⟩;have hc0:=hc 0 u hu;unfold Rs at hu;rw [List.getElem?_map] at hu;obtain ⟨z,_,rfl⟩:=Option.map_eq_some_iff.1 hu;exact (hS _ hSk).2.2.2.2.2.2.2 _ z hc0
theorem zj9 {w : World} {b : Nat} {t : TypeId} {v : Value} (h : Boxed w b t v) (hv : ∀ z,v ≠ .int .i32 z) : ∀ off z,w.cell? ⟨b,off,none⟩ ≠ some (.int .i32 z):=fun off z e => by
 unfold World.cell? at e;rw [show w.heap[b]? = _ from h] at e;simp only [] at e;match off with
 | 0 => simp at e; exact hv z e
 | off + 1 => simp at e
theorem zm6 {w : World} {b : Nat} {d : Option (List Deferred)} (h : w.heap[b]? = some (.deferred d)) : ∀ off z,w.cell? ⟨b,off,none⟩ ≠ some (.int .i32 z):=fun off z e => by
 unfold World.cell? at e;rw [h] at e;simp at e
section
variable {w : World}
theorem zjp (s o : ByteArray) (hE : Env w) (hs : s.size <= 1073741824) (ho1 : o.size <= 1073741824) (h0 : (rowsS (bs s)).2.2 = 0) (h01 : (setsS (bs o)).2.2 = 0) (hbad : (rowsS (bs s)).1.any zbq = true \/ ((rowsS (bs s)).1.any zbq = false /\ (rowsS (bs s)).1.any formB = true)) : Calls Tryz.prog 8 #[.string s,.string o] w (zkg w):=by
 refine (callsIn_wide (n:=5)).1 ?_;have hro : Fence.wide.round = none:=rfl;have h1 : 1 <= 5:=(by omega);refine callsIn_of_wp_marks Tryz.func8 rfl trivial ?_ hro;simp only [Tryz.ntmps8,List.size_toArray,List.length_cons,List.length_nil,Nat.reduceAdd,Nat.reduceSub,Array.replicate_succ,Array.replicate_zero,List.push_toArray,List.append_toArray,List.nil_append,List.cons_append];have RW:=fun W (hb : Below w.heap.size w W) => zfx s W (hE.below hb) hs;have ST:=fun W (hb : Below w.heap.size w W) => zia o W (hE.below hb) ho1;have hrl:=zjb (bs s);obtain ⟨⟨rows,ln,e0⟩,hR⟩ : ∃ R,R = rowsS (bs s):=⟨_,rfl⟩;rw [<- hR] at RW h0 hrl hbad;simp only [] at h0 hrl hbad;subst h0;obtain ⟨⟨out,ln2,er⟩,hS⟩ : ∃ R,R = setsS (bs o):=⟨_,rfl⟩;rw [<- hS] at ST h01;simp only [] at h01;subst h01;clear hR hS;obtain ⟨W0,hW0⟩ : ∃ W0,(w.alloc (.cells #[.pointer none] 32)).alloc (.cells #[.int .i64 0] 33) = W0:=⟨_,rfl⟩;have hB0 : Below w.heap.size w W0:=(by rw [<- hW0]; exact ((Below.refl _ w).alloc (Nat.le_refl _) _).alloc (by simp) _);have bx1 : Boxed W0 w.heap.size 32 (.pointer none):=by rw [<- hW0]; exact (Boxed.new w _ _).alloc _
 have bx2 : Boxed W0 (w.heap.size + 1) 33 (.int .i64 0):=by
  rw [<- hW0];have:=Boxed.new (w.alloc (.cells #[.pointer none] 32)) 33 (.int .i64 0);rwa [World.size_alloc] at this
 have RW0:=RW _ hB0;clear RW
 gi_wp2
 refine ⟨trivial,(callsIn_wide.2 RW0).mono ?_⟩;rintro e w1 ⟨os,A,c,ho,rfl,hat,hb1⟩;have hb:=zb hB0 hb1;have ST1:=ST _ hb;have by1:=zg bx1 hb1;have by2:=zg bx2 hb1;simp only [] at ho;clear ST bx1 bx2 hb1 hB0 hW0 RW0
 gi_wp2
 refine ⟨trivial,(callsIn_wide.2 ST1).mono ?_⟩;rintro e w2 ⟨A2,c2,rfl,hown2,hb2⟩;have b1:=zg by1 hb2;have b2:=zg by2 hb2;have hbb:=zb hb hb2;have hatR:=hat.rd.below hb2
 have hnil : ∀ x ∈ os,x.2.1 = none -> x.1.il.length = 0 /\ x.2.2 = 0:=fun x hx hx0 => by
  have:=hat.into x hx;unfold zh6 at this;rcases this.2 with ⟨hv,hz⟩ | ⟨g,cap,cur,hv,_⟩
  ·injection hv with e1 e2 e3;exact ⟨hz,e3⟩
  ·injection hv with e1 e2 e3;rw [hx0] at e1
   cases e1
 have TN:=zga w2;clear by1 by2 hb hb2 ST1 hat
 gi_wp2
 refine ⟨trivial,(callsIn_wide.2 TN).mono ?_⟩;rintro e w3 ⟨rfl,hT3,hb3,hz3⟩;have HOL : Hid (os.length = rows.length):=(by show _ = _; rw [<- ho,List.length_map]);have hoo : os.length <= 4096:=(by rw [HOL.out]; exact hrl);have HO:=hz0q ho;obtain ⟨q,hq⟩ : ∃ q,q = w2.heap.size:=⟨_,rfl⟩;rw [<- hq] at hT3 hz3;obtain ⟨W,hWd,hTI,hV,hbx11,hbW,hzW⟩:=zh1 (4353 * rows.length) hq hT3 hb3 hz3;have b3:=zg b1 hbW;have b4:=zg b2 hbW;have hbbW:=zb hbb hbW;have hcW:=hbx11.cell;have HS3:=hz0q (And.intro hq hz3);have HZW:=hz0q hzW;have HQW:=hz0q hWd;simp only [<- hq];have hmm:=@run_makeMap Tryz.prog;have BT:=btakes_bad (bp:=q + 6) hbW A os.length c os hatR rfl (by omega) (by rw [HO.out]; exact hbad);clear ho hbad hE hatR hown2 hnil hTI hV hT3 hb3 hq hzW TN hWd
 gi_wp2
 simp only [show q + 2 + 1 = q + 3 from rfl,show q + 3 + 1 = q + 4 from rfl,show q + 4 + 1 = q + 5 from rfl,show q + 5 + 1 = q + 6 from rfl,show q + 6 + 1 = q + 7 from rfl];rw [HQW.out];refine ⟨trivial,(callsIn_wide.2 BT).mono ?_⟩;rintro e w4 ⟨he,hb4⟩;have b5:=zg b3 hb4;have b6:=zg b4 hb4;have hbF:=zb hbbW hb4;have c1:=(b5).cell;have f1:=(b5).frozen;have d1:=(zo (b6) (.pointer none) (show w.heap.size + 1 ≠ w.heap.size by omega)).cell;have f2:=(zo (b6) (.pointer none) (show w.heap.size + 1 ≠ w.heap.size by omega)).frozen;clear b1 b2 b3 b4 BT hb4 hbW hbbW hbx11 hcW;rcases he with rfl | rfl
 ·clear hmm
  gi_wp2
  have k1:=(zo ((b5).set (.pointer none)) (.int .i64 (12)) (show w.heap.size ≠ w.heap.size + 1 by omega)).cell;have k2:=((zo (b6) (.pointer none) (show w.heap.size + 1 ≠ w.heap.size by omega)).set (.int .i64 (12))).cell;refine ⟨.tuple #[.pointer none,.int .i64 (12)],?_,⟨12,by decide,rfl⟩,((hbF).setCell (p:=⟨w.heap.size,0,none⟩) (Nat.le_refl _) _).setCell (p:=⟨w.heap.size + 1,0,none⟩) (by simp) _⟩;simp [results,Tryz.f8,go_sem,k1,k2]
 ·clear hmm
  gi_wp2
  have k1:=(zo ((b5).set (.pointer none)) (.int .i64 (10)) (show w.heap.size ≠ w.heap.size + 1 by omega)).cell;have k2:=((zo (b6) (.pointer none) (show w.heap.size + 1 ≠ w.heap.size by omega)).set (.int .i64 (10))).cell;refine ⟨.tuple #[.pointer none,.int .i64 (10)],?_,⟨10,by decide,rfl⟩,((hbF).setCell (p:=⟨w.heap.size,0,none⟩) (Nat.le_refl _) _).setCell (p:=⟨w.heap.size + 1,0,none⟩) (by simp) _⟩;simp [results,Tryz.f8,go_sem,k1,k2]
end
end
section
open Go.RowKit
theorem BldP.kept {T : TypeId} {base b : Nat} {cs : Array Value} {l : List UInt8} {w0 w w' : World} (h : BldP T base b cs l w w') (hk : KeptB b w0 w) (hb : Below base w0 w) :
  ∃ cs',BldM T base b cs' l w' /\ cs'.size = cs.size /\ KeptB b w0 w' /\ Below base w0 w':=by
 obtain ⟨cs',h1,h2,_,h4,h5⟩:=h;exact ⟨cs',h1,h2,hk.trans h4,hb.trans h5⟩
end
section
open Go.RowKit
theorem znw (w : World) (hU : RowsU w) : Calls Tryz.prog 53 #[.int .i32 192] w fun e w' => e = .returned (.int .i64 2) /\ Below w.heap.size w w':=by
 obtain ⟨c0,c1,c2,c3,c4,c5,c6,c7,c8,c9,c10,c11⟩:=hU;have hx0:=tab0;have hx1:=tab1;have S:=zb0 192 w;have hs : zaj 192 = true:=(by decide);rw [hs] at S;go_enter Tryz.func53,Tryz.ntmps53;go_wp2_with fail;refine S.mono ?_;rintro e w' ⟨rfl,rfl⟩;go_wp2_with fail;refine wp_loop_rounds 3 ?_;rw [rounds_succ];go_wp2_with fail;rw [rounds_succ];go_wp2_with fail;go_returns;exact ⟨rfl,((Below.refl _ w).alloc (Nat.le_refl _) _).alloc (by simp) _⟩
theorem put192 (base b : Nat) (cs : Array Value) (w : World) (hcs : cs.size = 2) (h : BldM 116 base b cs [] w) (hU : RowsU w) (hR : 0 < base) (hbw : base <= w.heap.size) :
  Calls Tryz.prog 54 #[.pointer (some ⟨b,0,none⟩),.int .i32 192] w fun e w' => e = .returned (.tuple #[]) /\ (∃ cs',BldM 116 base b cs' [195,128] w') /\ Below base w w':=by
 have LN:=znw w hU;have HM:=hz0q h;have HU:=hz0q hU;clear h hU;go_enter Tryz.func54,Tryz.ntmps54;go_wp2_with fail;refine LN.mono ?_;rintro e w1 ⟨rfl,hb1⟩;obtain ⟨c0,c1,c2,c3,c4,c5,c6,c7,c8,c9,c10,c11⟩:=HU.out.below hb1
 have HM1 : Hid (BldM 116 base b cs [] w1):=⟨(hb1.block b (Array.getElem?_eq_some_iff.1 HM.out.hx).1).trans HM.out.hx,HM.out.sz,HM.out.p,by
  obtain ⟨v,g1,g2,g3⟩:=HM.out.v
  exact ⟨v,g1,zas g2 hb1,g3⟩,HM.out.bb⟩
 have HB1:=hz0q (hb1.mono hbw);have HS1 : Hid (base <= w1.heap.size):=Nat.le_trans hbw hb1.size;clear LN hb1;have v1 : IntKind.i64.wrap 1 = 1:=(by decide);have v6 : IntKind.i64.wrap 6 = 6:=(by decide);have v3 : IntKind.i64.wrap 3 = 3:=(by decide);have vo : bits .or .i64 192 3 = 195:=(by decide);have vu : IntKind.u8.wrap 195 = 195:=(by decide);go_upto_region 1 with fail;go_still_tail 14,(by kernel_rfl)
 change wpList _ _ _ _ _ w1.drew;have HM2 : Hid (BldM 116 base b cs [] w1.drew):=⟨HM1.out.hx,HM1.out.sz,HM1.out.p,HM1.out.v,HM1.out.bb⟩;have HB2 : Hid (Below base w w1.drew):=Below.drew HB1.out;have HS2 : Hid (base <= w1.drew.heap.size):=HS1.out;generalize w1.drew = w2 at HM2 HB2 HS2;go_wp2_with fail;refine (ziz 116 base b cs [] 195 w2 HM2.out (by rw [hcs]; exact znv) (by decide) (by simp) HS2.out).mono ?_;rintro e w3 ⟨rfl,hp⟩;obtain ⟨cs3,h3,hs3,hk3,hb3⟩:=hp.kept (KeptB.refl _ _) (Below.refl _ _);rw [hcs] at hs3;have HM3:=hz0q h3;have HB3:=hz0q (HB2.out.trans hb3);have HS3 : Hid (base <= w3.heap.size):=Nat.le_trans HS2.out hb3.size;clear hp h3 hk3 hb3;go_wp2_with fail;refine wp_loop_rounds 2 ?_;rw [rounds_succ];go_wp2_with fail;refine (ziz 116 base b cs3 [195] 128 w3 HM3.out (by rw [hs3]; exact znv) (by decide) (by simp) HS3.out).mono ?_;rintro e w4 ⟨rfl,hp⟩;obtain ⟨cs4,h4,hs4,hk4,hb4⟩:=hp.kept (KeptB.refl _ _) (Below.refl _ _);have HM4:=hz0q h4;have HB4:=hz0q (HB3.out.trans hb4);clear hp h4 hk4 hb4;go_wp2_with fail;rw [rounds_succ];go_wp2_with fail;go_end0;exact ⟨rfl,⟨cs4,HM4.out⟩,HB4.out⟩
theorem enc192 (A : Option Addr) (c : Nat) (w : World) (hr : Rd w A 1 [.int .i32 192]) (hU : RowsU w) : Calls Tryz.prog 24 #[.slice A 1 c] w fun e w' => e = .returned (.tuple #[.string ⟨#[195,128]⟩,.int .i64 0]) /\ Below w.heap.size w w':=by
 obtain ⟨b9,o9,rfl,hb9,hc9⟩:=hr.at_ (by omega);have cA:=hc9 0 _ rfl;have hRl:=hU.lt;obtain ⟨W1,hW1⟩ : ∃ W1,w.alloc (.cells #[.pointer none,.slice none 0 0] 116) = W1:=⟨_,rfl⟩;obtain ⟨bx,hbx⟩ : ∃ bx,w.heap.size = bx:=⟨_,rfl⟩;have hx1 : W1.heap[bx]? = some (.cells #[.pointer none,.slice none 0 0] 116 (0,0)):=(by rw [<- hW1,<- hbx]; exact zm _ _ _);have hb1 : Below w.heap.size w W1:=(by rw [<- hW1]; exact (Below.refl _ _).alloc (Nat.le_refl _) _);have HM : Hid (BldM 116 w.heap.size bx #[.pointer none,.slice none 0 0] [] W1):=hz0q ⟨hx1,by decide,.inl rfl,⟨_,rfl,World.ownsRow_nil _ _ _ _,fun _ => rfl⟩,by rw [<- hbx]; exact Nat.le_refl _⟩;have cA1 : W1.cell? ⟨b9,o9,none⟩ = some (.int .i32 192):=(hb1.cell hb9).trans cA;have LN:=znw W1 (hU.below hb1);have HU1:=hz0q (hU.below hb1);have HB1:=hz0q hb1;have HRL:=hz0q hRl;clear hr hc9 cA hx1 hb1 hU hRl;go_enter Tryz.func24,Tryz.ntmps24;go_wp2_with fail;refine wp_loop_rounds 2 ?_;rw [rounds_succ];go_wp2_with fail;refine LN.mono ?_;rintro e w2 ⟨rfl,hb2⟩;have HB2:=hz0q (HB1.out.trans (hb2.mono HB1.out.size));have hM2 : BldM 116 w.heap.size bx #[.pointer none,.slice none 0 0] [] w2:=⟨(hb2.block bx (Array.getElem?_eq_some_iff.1 HM.out.hx).1).trans HM.out.hx,HM.out.sz,HM.out.p,⟨_,rfl,World.ownsRow_nil _ _ _ _,fun _ => rfl⟩,HM.out.bb⟩;have PT:=put192 w.heap.size bx _ w2 rfl hM2 (HU1.out.below hb2) HRL.out HB2.out.size;clear LN hb2 hM2;go_wp2_with fail;refine PT.mono ?_;rintro e w3 ⟨rfl,⟨cs3,hM3⟩,hb3⟩
 have HM3:=hz0q hM3;have HB3:=hz0q (HB2.out.trans hb3);clear PT hM3 hb3;go_wp2_with fail;rw [rounds_succ];go_wp2_with fail;refine (bstr_any _ _ _ _ _ _ HM3.out).mono ?_;rintro e w5 ⟨rfl,hb5⟩;have HB5:=hz0q (HB3.out.trans hb5);go_wp2_with fail;go_returns;exact ⟨rfl,HB5.out⟩
end
end Go.Proofs.YtolcabjkbefjgaaGreatDoor
