/- Few: are lines not too many? The code. made: a base and a charset, or none. -/
import Derived.Test.YtolcabjkbefjgaaGreatDoorY39
set_option linter.unusedSimpArgs false
set_option linter.unusedVariables false
set_option maxRecDepth 20000
set_option maxHeartbeats 4000000
namespace Go.Proofs.YtolcabjkbefjgaaGreatDoor
section
open Go.RowKit
theorem few_yes (s o : ByteArray) (w : World) (hs : s.size <= 3000) (ho : o.size <= 500) : Calls Tryz.prog 5 #[.agg #[.string s,.string o]] w fun e w' => e = .returned (.bool true) /\ Below w.heap.size w w':=by
 have h1 : (s.size : Int) <= 3000:=(by omega);have h2 : (o.size : Int) <= 500:=(by omega);have hb : Below w.heap.size w (w.alloc (.cells #[.string s,.string o] 23)):=(Below.refl _ _).alloc (Nat.le_refl _) _;go_enter Tryz.func5,Tryz.ntmps5;go_wp2;go_returns;exact ⟨rfl,hb⟩
theorem few_no (s o : ByteArray) (w : World) (h : ¬ (s.size <= 3000 /\ o.size <= 500)) : Calls Tryz.prog 5 #[.agg #[.string s,.string o]] w fun e w' => e = .returned (.bool false) /\ Below w.heap.size w w':=by
 have hb : Below w.heap.size w (w.alloc (.cells #[.string s,.string o] 23)):=(Below.refl _ _).alloc (Nat.le_refl _) _
 by_cases h1 : s.size <= 3000
 ·have h1' : (s.size : Int) <= 3000:=(by omega);have h2 : ¬ ((o.size : Int) <= 500):=fun e => h ⟨h1,by omega⟩;have h3 : decide ((o.size : Int) <= 500) = false:=decide_eq_false h2;clear h;go_enter Tryz.func5,Tryz.ntmps5;go_wp2;go_returns;exact ⟨zam (by first | simp | (simp; omega)),hb⟩
 ·have h2 : ¬ ((s.size : Int) <= 3000):=fun e => h1 (by omega);clear h;go_enter Tryz.func5,Tryz.ntmps5;go_wp2;go_returns;exact ⟨rfl,hb⟩
end
section
open Go.RowKit Go.Lib Go.Maps
theorem zgc {w w' : World} (h : TabsU w) (hb : Below w.heap.size w w') : TabsU w':=⟨fun c hc => ze (h.1 c hc) hb,fun i hi => ⟨ze (h.2 i hi).1 hb,ze (h.2 i hi).2 hb⟩⟩
def ChkX (w : World) : Prop:=Env w /\ Kinds w /\ RowsU w /\ TabsU w
theorem ChkX.below {w w' : World} (h : ChkX w) (hb : Below w.heap.size w w') : ChkX w':=⟨h.1.below hb,h.2.1.below' hb,h.2.2.1.below hb,zgc h.2.2.2 hb⟩
def MadeP (w : World) (e : Ending) (w' : World) : Prop:=Below w.heap.size w w' /\ ((∃ x,e = .returned (.tuple #[.pointer x,.pointer none])) \/
 ∃ (bp c : Nat) (cs : Array Value) (mt mh m n : Nat) (T : TxC) (H : HdC) (B : BaseF),e = .returned (.tuple #[.pointer (some ⟨bp,0,none⟩),.pointer (some ⟨c,0,none⟩)]) /\ zap B /\ zac w' (.pointer (some ⟨bp,0,none⟩)) B /\ ChsM w' c cs mt mh m n T H /\ GoodT T)
theorem made_any (s o : ByteArray) (A : Option Addr) (n cp : Nat) (rs : List MR) (w : World) (hX : ChkX w) (hR : ArgMR w A n rs) :
  Calls Tryz.prog 18 #[.agg #[.string s,.string o],.slice A n cp] w (MadeP w):=by
 obtain ⟨bx,hbx⟩ : ∃ bx,w.heap.size = bx:=⟨_,rfl⟩;obtain ⟨Wa,hWa⟩ : ∃ Wa,w.alloc (.cells #[.string s,.string o] 23) = Wa:=⟨_,rfl⟩;have hBa : Below w.heap.size w Wa:=(by rw [<- hWa]; exact (Below.refl _ w).alloc (Nat.le_refl _) _);have bxa : Wa.heap[bx]? = some (.cells #[.string s,.string o] 23 (0,0)):=(by rw [<- hWa,<- hbx]; exact zm w _ _);have HX:=hz0q (hX.below hBa);have HR:=hz0q (hR.below hBa);have HBA:=hz0q hBa;have HBX:=hz0q bxa;have d0:=za bxa 0 rfl;have d1:=za bxa 1 rfl;clear hX hR hBa bxa
 by_cases hf : s.size <= 3000 /\ o.size <= 500
 rotate_left
 ·have FW:=few_no s o Wa hf;clear hf;go_enter Tryz.func18,Tryz.ntmps18;go_wp2_with fail;refine FW.mono ?_;rintro e w1 ⟨rfl,hb1⟩;have HW1:=hz0q (zb HBA.out hb1);clear FW hb1 d0 d1;go_wp2;go_returns;exact ⟨HW1.out,.inl ⟨_,rfl⟩⟩
 have FW:=few_yes s o Wa hf.1 hf.2;have NW:=fun W (h : ChkX W) => zmv (w:=W) s o h.1 h.2.1 (by omega) (by omega);have hg:=zmp (bs s);have HNW:=hz0q NW;have HG:=hz0q hg;clear hf NW hg;go_enter Tryz.func18,Tryz.ntmps18;go_wp2_with fail;refine FW.mono ?_;rintro e w1 ⟨rfl,hb1⟩;have F17:=few17_any A n cp rs (w:=w1) (HR.out.below hb1);have HB1:=hz0q hb1;obtain ⟨fb,hfb⟩ : ∃ fb,fb = zft rs:=⟨_,rfl⟩;rw [<- hfb] at F17;have HFB:=hz0q hfb;clear FW hb1 hfb d0 d1;have d0:=za (zd HBX.out HB1.out) 0 rfl;have d1:=za (zd HBX.out HB1.out) 1 rfl;go_wp2_with fail;refine F17.mono ?_;rintro e w1' ⟨rfl,rfl⟩;clear F17
 cases fb with
 | false =>
  go_wp2;go_returns;exact ⟨zb HBA.out HB1.out,.inl ⟨_,rfl⟩⟩
 | true =>
  have HFW:=hz0q (zg9 HFB.out.symm);have hn40 : n <= 40:=(by have:=HFW.out.1; rw [HR.out.len] at this; exact this);have N1:=HNW.out w1 (HX.out.below HB1.out);clear HFB HNW;go_wp2_with fail;refine N1.mono ?_;rintro e w2 (⟨_,⟨er,her,rfl⟩,hb2⟩ | ⟨⟨_,_,hok⟩,hG⟩)
  ·have hne : (er == 0) = false:=(by simpa using her);have hne2 : (er != 0) = true:=(by simpa using her);have HW2:=hz0q (zb (zb HBA.out HB1.out) hb2);clear N1 d0 d1 her hb2;go_wp2;go_returns;exact ⟨HW2.out,.inl ⟨_,rfl⟩⟩
  obtain ⟨bp,rfl,hB,hb2⟩:=zm1 HG.out hok hG;obtain ⟨B,hBeq⟩ : ∃ B,B = baseF HG.out hok:=⟨_,rfl⟩;have hbd : zap B:=(by rw [hBeq]; exact zm9 HG.out hok);rw [<- hBeq] at hB;have HBS:=hz0q hB;have HBD:=hz0q hbd;have HX2:=hz0q (HX.out.below (zb HB1.out hb2));have HW2:=hz0q (zb (zb HBA.out HB1.out) hb2);have CN:=chnew_any (w:=w2) (p:=some ⟨bp,0,none⟩) (B:=B) (hz0q fun W hW => ⟨HBS.out.below hW,HX2.out.2.1.below' hW⟩) (hz0q fun W hW => zgc HX2.out.2.2.2 hW) hbd (one_R hbd) A n cp rs (HR.out.below (zb HB1.out hb2)) hn40 HFW.out.2;clear N1 d0 d1 hG hB hbd hb2 hBeq HG;go_wp2_with fail;refine CN.mono ?_;rintro e w3 ⟨⟨x,l,k,rfl,hk⟩,hb3⟩;have HW3:=hz0q (zb HW2.out hb3);have HBE:=hz0q (HBS.out.below hb3);clear CN hb3
  by_cases hk0 : k = 0
  ·subst hk0;obtain ⟨c,cs,mt,mh,m,nn,T,H,rfl,hM,hT⟩:=hk rfl;have HM:=hz0q hM;have HT:=hz0q hT;clear hk hM hT;go_wp2;go_returns;exact ⟨HW3.out,.inr ⟨bp,c,cs,mt,mh,m,nn,T,H,B,rfl,HBD.out,HBE.out,HM.out,HT.out⟩⟩
  ·have q0 : (k != 0) = true:=(by simp [hk0]);clear hk;go_wp2;go_returns;exact ⟨HW3.out,.inl ⟨_,rfl⟩⟩
end
end Go.Proofs.YtolcabjkbefjgaaGreatDoor
