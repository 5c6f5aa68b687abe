/- How many characters one is, parted as far as it can be: the code. -/
import Derived.Test.YtolcabjkbefjgaaGreatDoorY20
set_option linter.unusedSimpArgs false
set_option linter.unusedVariables false
set_option maxRecDepth 20000
set_option maxHeartbeats 4000000
namespace Go.Proofs.YtolcabjkbefjgaaGreatDoor
section
open Go.RowKit Go.Lib Go.Maps
structure KSt (w : World) (kb : Nat) (L : Int -> Nat) (kn : Int -> Option Int) : Prop where
 mkn : MapF w Tryz.prog 21 zn R32 intV kb 1114112 kn
 keys : ∀ x,R32 x -> (kn x).isSome = true -> x ∈ allR
 val : ∀ x,gd kn x = 0 \/ gd kn x = ((min (L x) 19 : Nat) : Int)
def ManyP (kb : Nat) (L : Int -> Nat) (r : Int) (w : World) (e : Ending) (w' : World) : Prop :=
 e = .returned (.int .i64 ((min (L r) 19 : Nat) : Int)) /\ Wrote (· = kb) w w' /\ ∃ kn',KSt w' kb L kn'
theorem map_len {w : World} {b n : Nat} {f : Int -> Option Int} (h : MapF w Tryz.prog 21 zn R32 intV b n f) (hm : ∀ x,R32 x -> (f x).isSome = true -> x ∈ allR) : MapF w Tryz.prog 21 zn R32 intV b 1114112 f:=by
 have:=h.tight zh hm;rwa [zmc] at this
def sumM (L : Int -> Nat) (il : List Int) : Nat:=(il.map fun y => min (L y) 19).sum
theorem sumM_le (L : Int -> Nat) (il : List Int) : sumM L il <= 19 * il.length:=by
 unfold sumM;induction il with
 | nil => simp
 | cons a l ih => simp; omega
theorem sumM_snoc (L : Int -> Nat) (il : List Int) (x : Int) : sumM L (il ++ [x]) = sumM L il + min (L x) 19:=by
 unfold sumM; simp
theorem sumM_cap (L : Int -> Nat) (il : List Int) : min (sumM L il) 19 = min ((il.map L).sum) 19:=by
 unfold sumM;induction il with
 | nil => rfl
 | cons a l ih => simp; omega
theorem zlh {f : Int -> Option Int} {r : Int} (hr : r ∈ allR) (h : ∀ x,R32 x -> (f x).isSome = true -> x ∈ allR) (v : Int) : ∀ x,R32 x -> (upd f r (some v) x).isSome = true -> x ∈ allR:=fun x hx hs => by
 unfold upd at hs;split at hs
 ·rename_i e; rw [e]; exact hr
 ·exact h x hx hs
section
variable {W0 : World} {bp n : Nat} {a : BAddr} {cls : Int -> Int} {prt : Int -> Option (List UInt8 × List Int)} {pr : Int × Int -> Option Int} {md : Int -> Option (Int × Int)} {sc : Int -> Option Int}
theorem many_any (h : BaseM W0 bp a n cls prt pr md sc) (hk : Kinds W0) (hD : ∀ x ∈ allR,∀ y ∈ (decH prt x).2,y ∈ allR) (hDl : ∀ x,(decH prt x).2.length <= 18) {kb : Nat} (hkb : W0.heap.size <= kb)
  (L : Int -> Nat) (hL : ∀ x,L x = if (decH prt x).2 = [] then 1 else ((decH prt x).2.map L).sum) (hL1 : ∀ x,1 <= L x) (r : Int) (hE : Ends (fun x => (decH prt x).2) r) :
  ∀ (w : World) (kn : Int -> Option Int),r ∈ allR -> Below W0.heap.size W0 w -> KSt w kb L kn ->
  Calls Tryz.prog 31 #[.pointer (some ⟨bp,0,none⟩),.int .i32 r,.map (some kb)] w (ManyP kb L r w):=by
 induction hE with
 | intro r hacc ih =>
  intro w kn hr hb hS;have hrR : R32 r:=zea hr;have hmx : 1114112 < maxLen:=(by unfold maxLen; omega);have hkn:=hS.mkn;have hLr1:=hL1 r;have HL1R:=hz0q hLr1;rcases hS.val r with h0 | h0;rotate_left
  ·obtain ⟨v,hv⟩ : ∃ v : Int,v = ((min (L r) 19 : Nat) : Int):=⟨_,rfl⟩;have hv1 : v > 0:=(by omega);have HG : Hid ((kn r).getD 0 = v):=(by rw [hv]; exact h0);have HP : Hid (ManyP kb L r w (.returned (.int .i64 v)) w):=⟨by rw [hv],Wrote.refl _ _,kn,hS⟩;clear ih h0 hS hD hDl h hL hL1 hv hLr1 hacc;go_enter Tryz.func31,Tryz.ntmps31;go_wp2_with (first | (at_lookup; refine zj rfl _ _ rfl zh zch (zaw _) hkn (k:=r) hrR rfl rfl ?_; rw [HG.out]) | go_in)
   go_returns;exact HP.out
  ·have HG : Hid ((kn r).getD 0 = 0):=h0;obtain ⟨il,hil⟩ : ∃ il,il = (decH prt r).2:=⟨_,rfl⟩;obtain ⟨kd,hkd⟩ : ∃ kd,kd = (decH prt r).1:=⟨_,rfl⟩;have hill : il.length <= 18:=(by rw [hil]; exact hDl r);have hilr : ∀ y ∈ il,y ∈ allR:=fun y hy => hD r hr y (by rw [<- hil]; exact hy)
   have DC : ∀ W,Below W0.heap.size W0 W -> Calls Tryz.prog 73 #[.pointer (some ⟨bp,0,none⟩),.int .i32 r] W (DecP kd il W):=fun W hW => by
    rw [hil,hkd];exact zfd (h.below hW) r hrR (hk.below' hW)
   have HLR : Hid (L r = if il = [] then 1 else (il.map L).sum):=(by show _ = _; rw [hil]; exact hL r);have HIH:=hz0q (show ∀ y ∈ il,∀ (w : World) (kn : Int -> Option Int),y ∈ allR -> Below W0.heap.size W0 w -> KSt w kb L kn -> Calls Tryz.prog 31 #[.pointer (some ⟨bp,0,none⟩),.int .i32 y,.map (some kb)] w (ManyP kb L y w) from fun y hy => ih y (by show y ∈ (decH prt r).2; rw [<- hil]; exact hy))
   have HBB:=hz0q hb;have HST:=hz0q hS;clear ih h0 hS hD hDl h hL hil hkd hb hacc hL1 hLr1;go_enter Tryz.func31,Tryz.ntmps31;go_wp2_with (first | (at_lookup; refine zj rfl _ _ rfl zh zch (zaw _) hkn (k:=r) hrR rfl rfl ?_; rw [HG.out]) | (go_at_call 73; refine (DC _ HBB.out).mono ?_; rintro e w2 ⟨A,c,rfl,hown,hb2⟩) | go_in)
   have hkl:=hkn.lt;have hs2:=hb2.size;have hm2 : KSt w2 kb L kn:=⟨hkn.below hb2 hkl,HST.out.keys,HST.out.val⟩;have hb02:=zb HBB.out hb2;obtain ⟨A2,c2,hv2,_,_,hrd⟩:=Rd.of_own hown;injection hv2 with hA2 hn2 hc2;rw [<- hA2] at hrd;clear hn2 hc2
   have HAB : Hid (∀ a,A = some a -> ¬ (fun k => k = kb) a.block):=fun a ha => by
    rcases hown.2 with ⟨hv,_⟩ | ⟨g,cap,cur,hv,hbase,_⟩
    ·injection hv with e; rw [ha] at e; cases e
    ·injection hv with e _ _;rw [ha] at e;injection e with e;subst e;intro e;simp only [] at e;omega
   have HW2 : Hid (Wrote (· = kb) w w2):=.of_below hb2;clear hown hb2 hA2 hkn
   go_loopw [10,27] (fun s i wr => ∃ k q : Nat,k <= il.length /\ i = .int .i64 k /\ s = .int .i64 q /\ Hid (q = sumM L (il.take k)) /\ (∃ kn',KSt wr kb L kn') /\ Wrote (· = kb) w2 wr) (fun _ i _ => il.length - (intOf i).toNat)
   case atStart => exact ⟨0,0,Nat.zero_le _,rfl,rfl,by show _ = _; rfl,⟨kn,hm2⟩,Wrote.refl _ _⟩
   case round =>
    obtain ⟨k,q,hkl2,rfl,rfl,HQ,⟨kn',hS'⟩,hW⟩:=hrel
    have hq : q <= 19 * 18:=by
     have:=sumM_le L (il.take k);rw [<- HQ.out,List.length_take] at this;omega
    have hbr : Below W0.heap.size W0 wr:=hb02.trans (hW.below (by rintro j rfl; exact hkb) hb02.size)
    by_cases hlt : k < il.length
    ·obtain ⟨x,hx⟩ : ∃ x,il[k]? = some x:=⟨_,List.getElem?_eq_getElem hlt⟩;have hxm : x ∈ il:=List.mem_of_getElem? hx;have HC:=HIH.out x hxm wr kn' (hilr x hxm) hbr hS';obtain ⟨b,off,rfl,hbl,hcx⟩:=(hrd.wrote hW (fun _ a ha => HAB.out a ha)).at_ (by omega);have c0 : wr.cell? ⟨b,off + k,none⟩ = some (.int .i32 x):=hcx k _ (by simp [Rs,hx]);have hi : (k : Int) < (il.length : Int):=(by omega);obtain ⟨v,hv⟩ : ∃ v : Nat,v = min (L x) 19:=⟨_,rfl⟩;have hv19 : v <= 19:=by omega
     have HQ2 : Hid (q + v = sumM L (il.take (k + 1))):=by
      show _ = _;rw [List.take_add_one,hx];show _ = sumM L (il.take k ++ [x]);rw [sumM_snoc,HQ.out,hv]
     have hwr : wrap64 ((q : Int) + (v : Int)) = ((q + v : Nat) : Int):=(by unfold wrap64; omega);unfold ManyP at HC;rw [<- hv] at HC;clear hx hcx hS' hbl hxm HQ hv;go_wp2_with fail;refine HC.mono ?_;rintro e w3 ⟨rfl,hW3,hS3⟩;have hW4:=hW.trans hW3;clear HC hW3 hm2 hrd;go_wp2;go_roundw
     case rel => exact ⟨k + 1,q + v,by omega,by go_num,by first | rfl | (rw [hwr]) | (congr 1),HQ2,hS3,hW4⟩
     case measure => simp [intOf]; omega
    ·obtain rfl : k = il.length:=(by omega);have HQ3 : Hid (q = sumM L il):=(by show _ = _; rw [HQ.out,List.take_length]);have hi : (il.length : Int) <= (il.length : Int):=Int.le_refl _;have hkn':=hS'.mkn;have hk1:=hS'.keys;have hk2:=hS'.val;obtain ⟨V,hV⟩ : ∃ V : Nat,V = min (L r) 19:=⟨_,rfl⟩
     have hVq : (V : Int) = min (max (q : Int) 1) 19:=by
      have hcap:=sumM_cap L il;rw [<- HQ3.out] at hcap;have h1:=HLR.out
      by_cases e : il = []
      ·rw [if_pos e] at h1;have : q = 0:=(by rw [HQ3.out,e]; rfl);subst this;rw [hV,h1];rfl
      ·rw [if_neg e] at h1;have:=HL1R.out;rw [h1] at this;rw [hV,h1];omega
     have HVR : Hid (((min (L r) 19 : Nat) : Int) = (V : Int)):=(by show _ = _; rw [hV]);have HVQ:=hz0q hVq;have HK:=hz0q (And.intro hk1 hk2);clear hS' hm2 hrd hbr HQ HQ3 hV hVq hk1 hk2;go_wp2_with (first | (refine zbk rfl _ _ _ rfl zh zch hmx hkn' (k:=r) hrR (min (max (q : Int) 1) 19) rfl rfl rfl ?_; intro w4 hm4 hg4 hs4; rw [<- HVQ.out] at hm4) | go_in)
     go_returns;refine ⟨?_,(HW2.out.trans hW).trans (Wrote.grown hg4 fun k e => by cases e; rfl),_,map_len hm4 (zlh hr HK.out.1 _),zlh hr HK.out.1 _,fun x => ?_⟩
     ·rw [HVR.out,HVQ.out]; first | done | rfl | simp
     ·rw [zd8]
      by_cases e : x = r
      ·rw [if_pos e,e]; exact .inr HVR.out.symm
      ·rw [if_neg e]; exact HK.out.2 x
end
end
end Go.Proofs.YtolcabjkbefjgaaGreatDoor
