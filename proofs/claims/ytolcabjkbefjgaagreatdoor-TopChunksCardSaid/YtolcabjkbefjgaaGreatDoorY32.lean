/- decomp.One: the walk. decomp.One: the code. decomp.Full: the code. A base behind an interface: its methods. -/
import Derived.Test.YtolcabjkbefjgaaGreatDoorY31
set_option linter.unusedSimpArgs false
set_option linter.unusedVariables false
set_option maxRecDepth 20000
set_option maxHeartbeats 4000000
namespace Go.Proofs.YtolcabjkbefjgaaGreatDoor
section
open Go.RowKit
theorem zg8 {f : Int -> List Int} {l : List Int} {k : Nat} {y : Int} (h : l[k]? = some y) : (l.take (k + 1)).flatMap f = (l.take k).flatMap f ++ f y:=by
 rw [List.take_add_one,h];simp
theorem zm4 {f : Int -> List Int} {l : List Int} (k : Nat) : ((l.take k).flatMap f).length <= (l.flatMap f).length:=by
 have : l.flatMap f = (l.take k).flatMap f ++ (l.drop k).flatMap f:=(by rw [<- List.flatMap_append,List.take_append_drop]);rw [this,List.length_append];omega
section
variable {w0 : World} {q : Nat} {bv : Value} {B : BaseF} {c : Bool}
theorem onec_any (HB : Hid (∀ W,Below q w0 W -> zac W bv B /\ Kinds W)) (hbd : zap B) (r : Int) : R32 r -> ∀ (acc : List Int) (rv : Value) (W : World),OneSt w0 q bv c acc rv W -> acc.length + (B.one c r).length <= 20000000 ->
  Calls Tryz.prog 132 #[.int .i32 r,.pointer (some ⟨q,0,none⟩),.pointer (some ⟨q + 1,0,none⟩),.pointer (some ⟨q + 2,0,none⟩),.pointer (some ⟨q + 3,0,none⟩)] W (OneP w0 q bv c acc (B.one c r) rv W):=by
 induction r using B.wf.induction with
 | _ r ih =>
 intro hr acc rv W st hlen;have hqW : q + 3 < W.heap.size:=st.b8.lt;have hb:=HB.out W st.hb;have D1:=decomp_is hb.1 r hr hb.2;obtain ⟨kd,il,hd⟩ : ∃ kd il,B.dec r = (kd,il):=⟨_,_,rfl⟩;rw [hd] at D1;have c3:=st.b3.cell;have hil : ∀ y ∈ il,R32 y:=(by have:=hbd.dec r; rw [hd] at this; exact this);have hl18 : il.length <= 18:=by have:=hbd.declen r; rw [hd] at this; exact this
 have HIH : Hid (∀ y ∈ il,∀ (acc : List Int) (rv : Value) (W : World),OneSt w0 q bv c acc rv W -> acc.length + (B.one c y).length <= 20000000 ->
  Calls Tryz.prog 132 #[.int .i32 y,.pointer (some ⟨q,0,none⟩),.pointer (some ⟨q + 1,0,none⟩),.pointer (some ⟨q + 2,0,none⟩),.pointer (some ⟨q + 3,0,none⟩)] W (OneP w0 q bv c acc (B.one c y) rv W)):=fun y hy => ih y (by rw [hd]; exact hy) (hil y hy)
 have HPA : Hid (B.parts c r = if kd ≠ [] /\ c = false then [] else il):=(by show _ = _; unfold BaseF.parts; rw [hd]);have hacc : acc.length <= 20000000:=(by omega);have HLEN:=hz0q hlen;have hbq : q <= W.heap.size:=(by omega);clear ih hd hil hb hlen hbd;go_enter Tryz.func132,Tryz.ntmps132;go_wp2_with fail;refine D1.mono ?_;rintro e w1 ⟨A,cp,rfl,hown,hb1⟩;have st1:=st.below hbq hb1;have c4:=st1.b4.cell;obtain ⟨A1,cp1,hv1,_,_,hrd⟩:=Rd.of_own hown;injection hv1 with e1 _ e3;subst e1 e3;clear D1 c3
 by_cases h0 : il = []
 ·subst h0;have HP : Hid (B.parts c r = []):=(by show _ = _; rw [HPA.out]; split <;> rfl);clear hown hrd;have hone : B.one c r = [r]:=B.one_none HP.out;have HONE:=hz0q hone;clear hone;have hbA : Below w1.heap.size w1 (w1.alloc (.cells #[.int .i32 r] 21)):=(Below.refl _ _).alloc (Nat.le_refl _) _;have stA:=st1.below (by have:=hb1.size; omega) hbA;have c7:=st1.b7.cell;have hownA:=stA.own;have hbs:=hb1.size;have HST:=hz0q st;have HST1:=hz0q st1;have HSTA:=hz0q stA;have HBA:=hz0q (zb hb1 hbA);clear st st1 stA hb1 hbA;go_wp2_with (at_builtin; refine zak zal _ rfl _ _ rfl (q + 4) rfl hownA rfl (Rd.new1 _ _ _) (za7 rfl) (by omega) (by omega) (by simp; omega) ?_)
  intro A9 c9 w9 hown9 hg9 hat9;have st9:=HSTA.out.push (xs:=[r]) hg9 (by simpa [Rs] using hown9);have hne7 : some (q + 2) ≠ rv.ownBlock:=fun e => by have:=(HSTA.out.own.lt _ e.symm).1; omega
  have k7:=(HSTA.out.b7.kept hg9 hne7).cell;have f7:=(HSTA.out.b7.kept hg9 hne7).frozen
  have hwr : Wrote (fun k => k = q + 2 \/ rv.ownBlock = some k) W (w9.setCell ⟨q + 2,0,none⟩ (.slice A9 (acc.length + 1) c9)) :=
   ((Wrote.of_below HBA.out).trans (Wrote.grown hg9 fun k e => .inr e)).trans (Wrote.setCell (S:=fun k => k = q + 2 \/ rv.ownBlock = some k) (.inl (.inl rfl)) _)
  have hob : ∀ k,(Value.slice A9 (acc.length + 1) c9).ownBlock = some k -> rv.ownBlock = some k \/ W.heap.size <= k:=fun k hk => by
   rcases hat9 with h | h
   ·rw [h] at hk; exact .inl hk
   ·rw [h] at hk;injection hk with hk;try rw [World.size_alloc] at hk
    exact .inr (by omega)
  have HF:=hz0q (And.intro st9 (And.intro hwr hob));clear st9 hwr hob hown9 hg9 hat9 hne7 hownA c7;go_wp2;go_end0;rw [HONE.out];have hF:=HF.out;exact ⟨_,⟨_,rfl⟩,by simpa using hF.1,hF.2.1,hF.2.2⟩
 ·have hpos : 0 < il.length:=List.length_pos_iff.2 h0;obtain ⟨m,hm⟩ : ∃ m,m = il.length:=⟨_,rfl⟩;have hmz : ((m : Int) == 0) = false:=(by simp; omega);have HM:=hz0q hm;have HH0:=hz0q h0;clear h0
  by_cases hkc : kd ≠ [] /\ c = false
  ·have HP : Hid (B.parts c r = []):=(by show _ = _; rw [HPA.out,if_pos hkc]);obtain ⟨hk0,rfl⟩:=hkc
   have hte : (mk8 kd).toList.isEmpty = false:=by
    rw [z7,za0]
    cases kd with
    | nil => exact absurd rfl hk0
    | cons a t => rfl
   rw [<- hm];clear hown hrd hk0 hm hpos;have hone : B.one false r = [r]:=B.one_none HP.out;have HONE:=hz0q hone;clear hone;have hbA : Below w1.heap.size w1 (w1.alloc (.cells #[.int .i32 r] 21)):=(Below.refl _ _).alloc (Nat.le_refl _) _;have stA:=st1.below (by have:=hb1.size; omega) hbA;have c7:=st1.b7.cell;have hownA:=stA.own;have hbs:=hb1.size;have HST:=hz0q st;have HST1:=hz0q st1;have HSTA:=hz0q stA;have HBA:=hz0q (zb hb1 hbA);clear st st1 stA hb1 hbA;go_wp2_with (at_builtin; refine zak zal _ rfl _ _ rfl (q + 4) rfl hownA rfl (Rd.new1 _ _ _) (za7 rfl) (by omega) (by omega) (by simp; omega) ?_)
   intro A9 c9 w9 hown9 hg9 hat9;have st9:=HSTA.out.push (xs:=[r]) hg9 (by simpa [Rs] using hown9);have hne7 : some (q + 2) ≠ rv.ownBlock:=fun e => by have:=(HSTA.out.own.lt _ e.symm).1; omega
   have k7:=(HSTA.out.b7.kept hg9 hne7).cell;have f7:=(HSTA.out.b7.kept hg9 hne7).frozen
   have hwr : Wrote (fun k => k = q + 2 \/ rv.ownBlock = some k) W (w9.setCell ⟨q + 2,0,none⟩ (.slice A9 (acc.length + 1) c9)) :=
    ((Wrote.of_below HBA.out).trans (Wrote.grown hg9 fun k e => .inr e)).trans (Wrote.setCell (S:=fun k => k = q + 2 \/ rv.ownBlock = some k) (.inl (.inl rfl)) _)
   have hob : ∀ k,(Value.slice A9 (acc.length + 1) c9).ownBlock = some k -> rv.ownBlock = some k \/ W.heap.size <= k:=fun k hk => by
    rcases hat9 with h | h
    ·rw [h] at hk; exact .inl hk
    ·rw [h] at hk;injection hk with hk;try rw [World.size_alloc] at hk
     exact .inr (by omega)
   have HF:=hz0q (And.intro st9 (And.intro hwr hob));clear st9 hwr hob hown9 hg9 hat9 hne7 hownA c7;go_wp2;go_end0;rw [HONE.out];have hF:=HF.out;exact ⟨_,⟨_,rfl⟩,by simpa using hF.1,hF.2.1,hF.2.2⟩
  ·have HP : Hid (B.one c r = il.flatMap (B.one c)):=by
    show _ = _;have hp : B.parts c r = il:=(by rw [HPA.out,if_neg hkc]);rw [B.one_some (by rw [hp]; exact HH0.out),hp]
   obtain ⟨b,off,rfl,hbl,hcx⟩:=hrd.at_ hpos;have hbge : W.heap.size <= b:=(hown.lt b rfl).1;have hbl2 : b < w1.heap.size:=hbl;have HCX:=hz0q hcx;have hS1 : b ≠ q + 2:=(by omega);have hS2 : rv.ownBlock ≠ some b:=fun e => by have:=(st.own.lt b e).2; omega
   have hb1s:=hb1.size;have HB1:=hz0q hb1;have HST1:=hz0q st1;have HACC:=hz0q hacc;rw [<- hm];have hm18 : m <= 18:=by omega
   have hs1 : Hid (OneSt w0 q bv c (acc ++ (il.take 0).flatMap (B.one c)) rv w1):=by
    show OneSt _ _ _ _ _ _ _;rw [List.take_zero,List.flatMap_nil,List.append_nil];exact st1
   by_cases hk0 : kd = []
   ·subst hk0;have hte : (mk8 ([] : List UInt8)).toList.isEmpty = true:=(by rw [z7,za0]; rfl);clear hown hrd hkc hcx hm st st1 hb1 hl18 hpos;go_wp2
    go_loopw [33] (fun i wr => ∃ k : Nat,k <= m /\ i = .int .i64 k /\ ∃ rvk,Hid (OneSt w0 q bv c (acc ++ (il.take k).flatMap (B.one c)) rvk wr) /\ Hid (Wrote (fun j => j = q + 2 \/ rv.ownBlock = some j) w1 wr) /\ Hid (∀ j,rvk.ownBlock = some j -> rv.ownBlock = some j \/ w1.heap.size <= j)) (fun i _ => m - (intOf i).toNat)
    case atStart => exact ⟨0,Nat.zero_le _,rfl,rv,hs1,Wrote.refl _ _,fun j h => .inl h⟩
    case round =>
     obtain ⟨k,hk,rfl,rvk,HSK,HWK,HOK⟩:=hrel
     by_cases hlt : k < m
     ·obtain ⟨y,hy⟩ : ∃ y,il[k]? = some y:=⟨_,List.getElem?_eq_getElem (by rw [<- HM.out]; exact hlt)⟩;have hFT:=zg8 (f:=B.one c) hy;have hFL:=zm4 (f:=B.one c) (l:=il) (k + 1)
      have hlk : (acc ++ (il.take k).flatMap (B.one c)).length + (B.one c y).length <= 20000000:=by
       have h1:=HLEN.out;rw [HP.out] at h1;rw [hFT,List.length_append] at hFL;rw [List.length_append];omega
      have REC:=HIH.out y (List.mem_of_getElem? hy) _ rvk wr HSK.out hlk;have c0 : wr.cell? ⟨b,off + k,none⟩ = some (.int .i32 y):=(World.cell?_of_block (HWK.out.block b hbl2 (by rintro (e | e); exact hS1 e; exact hS2 e))).trans (HCX.out k _ (by simp [Rs,hy]));have c8:=HSK.out.b8.cell;have hki : (k : Int) < (m : Int):=(by omega);have HFT:=hz0q hFT;clear hy hFT hFL hlk;go_wp2_with fail;refine REC.mono ?_;rintro e w2 ⟨rv',⟨v,rfl⟩,st2,hw2,ho2⟩
      have hst : Hid (OneSt w0 q bv c (acc ++ (il.take (k + 1)).flatMap (B.one c)) rv' w2):=by
       show OneSt _ _ _ _ _ _ _;rw [HFT.out,<- List.append_assoc];exact st2
      have hww : Hid (Wrote (fun j => j = q + 2 \/ rv.ownBlock = some j) w1 w2) :=
       ((HWK.out.mono (R:=fun j => (j = q + 2 \/ rv.ownBlock = some j) \/ w1.heap.size <= j) fun j _ h => .inl h).trans (hw2.mono fun j _ h => by
        rcases h with h | h
        ·exact .inl (.inl h)
        ·rcases HOK.out j h with h | h
         ·exact .inl (.inr h)
         ·exact .inr h)).mono fun j hj h => by
        rcases h with h | h
        ·exact h
        ·omega
      have hoo : Hid (∀ j,rv'.ownBlock = some j -> rv.ownBlock = some j \/ w1.heap.size <= j):=fun j hj => by
       rcases ho2 j hj with h | h
       ·exact HOK.out j h
       ·have:=HWK.out.size;exact .inr (by omega)
      clear st2 hw2 ho2 REC c0 c8;go_wp2;go_roundw
      case rel => exact ⟨k + 1,by omega,by go_num,rv',hst,hww,hoo⟩
      case measure => simp [intOf]; omega
     ·obtain rfl : k = m:=(by omega);have hki : (k : Int) <= (k : Int):=Int.le_refl _;go_wp2;go_end0;have h1:=HSK.out;rw [HM.out,List.take_length] at h1;refine ⟨rvk,⟨_,rfl⟩,by rw [HP.out]; exact h1,(Wrote.of_below HB1.out).trans HWK.out,fun j hj => ?_⟩;rcases HOK.out j hj with h | h
      ·exact .inl h
      ·exact .inr (by omega)
   ·obtain rfl : c = true:=by
     cases c with
     | true => rfl
     | false => exact absurd ⟨hk0,rfl⟩ hkc
    have hte : (mk8 kd).toList.isEmpty = false:=by
     rw [z7,za0]
     cases kd with
     | nil => exact absurd rfl hk0
     | cons a t => rfl
    clear hown hrd hkc hk0 hcx hm st st1 hb1 hl18 hpos;go_wp2
    go_loopw [33] (fun i wr => ∃ k : Nat,k <= m /\ i = .int .i64 k /\ ∃ rvk,Hid (OneSt w0 q bv true (acc ++ (il.take k).flatMap (B.one true)) rvk wr) /\ Hid (Wrote (fun j => j = q + 2 \/ rv.ownBlock = some j) w1 wr) /\ Hid (∀ j,rvk.ownBlock = some j -> rv.ownBlock = some j \/ w1.heap.size <= j)) (fun i _ => m - (intOf i).toNat)
    case atStart => exact ⟨0,Nat.zero_le _,rfl,rv,hs1,Wrote.refl _ _,fun j h => .inl h⟩
    case round =>
     obtain ⟨k,hk,rfl,rvk,HSK,HWK,HOK⟩:=hrel
     by_cases hlt : k < m
     ·obtain ⟨y,hy⟩ : ∃ y,il[k]? = some y:=⟨_,List.getElem?_eq_getElem (by rw [<- HM.out]; exact hlt)⟩;have hFT:=zg8 (f:=B.one true) hy;have hFL:=zm4 (f:=B.one true) (l:=il) (k + 1)
      have hlk : (acc ++ (il.take k).flatMap (B.one true)).length + (B.one true y).length <= 20000000:=by
       have h1:=HLEN.out;rw [HP.out] at h1;rw [hFT,List.length_append] at hFL;rw [List.length_append];omega
      have REC:=HIH.out y (List.mem_of_getElem? hy) _ rvk wr HSK.out hlk;have c0 : wr.cell? ⟨b,off + k,none⟩ = some (.int .i32 y):=(World.cell?_of_block (HWK.out.block b hbl2 (by rintro (e | e); exact hS1 e; exact hS2 e))).trans (HCX.out k _ (by simp [Rs,hy]));have c8:=HSK.out.b8.cell;have hki : (k : Int) < (m : Int):=(by omega);have HFT:=hz0q hFT;clear hy hFT hFL hlk;go_wp2_with fail;refine REC.mono ?_;rintro e w2 ⟨rv',⟨v,rfl⟩,st2,hw2,ho2⟩
      have hst : Hid (OneSt w0 q bv true (acc ++ (il.take (k + 1)).flatMap (B.one true)) rv' w2):=by
       show OneSt _ _ _ _ _ _ _;rw [HFT.out,<- List.append_assoc];exact st2
      have hww : Hid (Wrote (fun j => j = q + 2 \/ rv.ownBlock = some j) w1 w2) :=
       ((HWK.out.mono (R:=fun j => (j = q + 2 \/ rv.ownBlock = some j) \/ w1.heap.size <= j) fun j _ h => .inl h).trans (hw2.mono fun j _ h => by
        rcases h with h | h
        ·exact .inl (.inl h)
        ·rcases HOK.out j h with h | h
         ·exact .inl (.inr h)
         ·exact .inr h)).mono fun j hj h => by
        rcases h with h | h
        ·exact h
        ·omega
      have hoo : Hid (∀ j,rv'.ownBlock = some j -> rv.ownBlock = some j \/ w1.heap.size <= j):=fun j hj => by
       rcases ho2 j hj with h | h
       ·exact HOK.out j h
       ·have:=HWK.out.size;exact .inr (by omega)
      clear st2 hw2 ho2 REC c0 c8;go_wp2;go_roundw
      case rel => exact ⟨k + 1,by omega,by go_num,rv',hst,hww,hoo⟩
      case measure => simp [intOf]; omega
     ·obtain rfl : k = m:=(by omega);have hki : (k : Int) <= (k : Int):=Int.le_refl _;go_wp2;go_end0;have h1:=HSK.out;rw [HM.out,List.take_length] at h1;refine ⟨rvk,⟨_,rfl⟩,by rw [HP.out]; exact h1,(Wrote.of_below HB1.out).trans HWK.out,fun j hj => ?_⟩;rcases HOK.out j hj with h | h
      ·exact .inl h
      ·exact .inr (by omega)
end
end
section
open Go.RowKit
section
variable {w : World} {p : Option Addr} {B : BaseF}
theorem one_any (hB : zac w (.pointer p) B) (hk : Kinds w) (hbd : zap B) (c : Bool) (r : Int) (hr : R32 r) : Calls Tryz.prog 87 #[.pointer p,.bool c,.int .i32 r] w (zbx w (B.one c r)):=by
 have hmf : ∀ (fn : Fn) (first cap : Array Value) (w : World),(Instr.makeFunc fn first cap).run Tryz.prog w = .ok (.func fn first cap) w:=fun _ _ _ _ => rfl;have hsf : ∀ (a : Addr) (fn : Fn) (first cap : Array Value) (w : World),(store a (.func fn first cap)).run Tryz.prog w = stored Tryz.prog w a (.func fn first cap) .plain:=fun a fn first cap w => run_store Tryz.prog w a _ .plain rfl;obtain ⟨W4,hW4⟩ : ∃ W4,(((w.alloc (.cells #[.pointer p] 32)).alloc (.cells #[.bool c] 4)).alloc (.cells #[.slice none 0 0] 42)).alloc (.cells #[oneFn w.heap.size] 195) = W4:=⟨_,rfl⟩
 have hb4 : Below w.heap.size w W4:=by
  rw [<- hW4];exact ((((Below.refl _ w).alloc (Nat.le_refl _) _).alloc (by simp) _).alloc (by simp; omega) _).alloc (by simp; omega) _
 have st : OneSt w w.heap.size (.pointer p) c [] (.slice none 0 0) W4:=by
  rw [<- hW4];refine ⟨by rw [hW4]; exact hb4,?_,?_,?_,?_,World.ownsRow_nil _ _ _ _⟩
  ·exact (((Boxed.new w _ _).alloc _).alloc _).alloc _
  ·have:=Boxed.new (w.alloc (.cells #[.pointer p] 32)) 4 (.bool c);rw [World.size_alloc] at this;exact (this.alloc _).alloc _
  ·have:=Boxed.new ((w.alloc (.cells #[.pointer p] 32)).alloc (.cells #[.bool c] 4)) 42 (.slice none 0 0);rw [World.size_alloc,World.size_alloc] at this;exact this.alloc _
  ·have:=Boxed.new (((w.alloc (.cells #[.pointer p] 32)).alloc (.cells #[.bool c] 4)).alloc (.cells #[.slice none 0 0] 42)) 195 (oneFn w.heap.size);rw [World.size_alloc,World.size_alloc,World.size_alloc] at this;exact this
 have OC:=onec_any (w0:=w) (q:=w.heap.size) (bv:=.pointer p) (B:=B) (c:=c) (fun W hb => ⟨hB.below hb,hk.below' hb⟩) hbd r hr [] (.slice none 0 0) W4 st (by have:=hbd.len c r; simp; omega);have hq4 : w.heap.size + 3 < W4.heap.size:=st.b8.lt;have c8 : W4.cell? ⟨w.heap.size + 1 + 1 + 1,0,none⟩ = some (oneFn w.heap.size):=st.b8.cell;clear hb4 st hB;go_enter Tryz.func87,Tryz.ntmps87;go_wp2_with fail;refine OC.mono ?_;rintro e w1 ⟨rv,⟨v,rfl⟩,st1,_,_⟩;have c7:=st1.b7.cell;have c7' : w1.cell? ⟨w.heap.size + 1 + 1,0,none⟩ = some rv:=c7;have hown:=st1.own;have hb1:=st1.hb;rw [List.nil_append] at hown;obtain ⟨A,cp,hv,_,_,_⟩:=Rd.of_own hown;subst hv;have HF : Hid (zbx w (B.one c r) (.returned (.slice A (B.one c r).length cp)) w1):=⟨A,cp,rfl,zax hown (by omega),hb1⟩;clear OC st1 hown hb1;go_wp2;go_returns;exact HF.out
end
end
section
open Go.RowKit
theorem zkv {f : Int -> List Int} (h : ∀ x,(f x).length <= 54) : ∀ l : List Int,(l.flatMap f).length <= 54 * l.length
 | [] => by simp
 | a :: t => by
  have:=zkv h t;have:=h a;simp only [List.flatMap_cons,List.length_append,List.length_cons];omega
section
variable {w : World} {p : Option Addr} {B : BaseF}
theorem order_none (c : Nat) (w : World) : Calls Tryz.prog 88 #[.pointer p,.slice none 0 c] w fun e w' => (∃ v,e = .returned v) /\ w = w':=by
 go_enter Tryz.func88,Tryz.ntmps88;go_wp2
 go_loopw [10] (fun i wr => i = .int .i64 0 /\ w = wr) (fun i _ => 0)
 case atStart => exact ⟨rfl,rfl⟩
 case round =>
  obtain ⟨rfl,rfl⟩:=hrel;go_wp2;go_end0;exact ⟨⟨_,rfl⟩,rfl⟩
theorem order_own {base : Nat} (hB : zac w (.pointer p) B) {W : World} (hb : Below w.heap.size w W) {A : Option Addr} {xs : List Int} {cp : Nat} (hbase : base = w.heap.size) (h : W.ownsRow base 21 1 (.slice A xs.length cp) xs.length (Rs xs)) (hx : ∀ x ∈ xs,R32 x) (hn : xs.length <= 20000000) :
  Calls Tryz.prog 88 #[.pointer p,.slice A xs.length cp] W fun e w' => (∃ v,e = .returned v) /\ w'.ownsRow base 21 1 (.slice A (B.ord xs).length cp) (B.ord xs).length (Rs (B.ord xs)) /\ Below w.heap.size w w':=by
 subst hbase;rcases h.2 with ⟨hv,h0⟩ | ⟨g,cap,cur,hv,hg,hh,_⟩
 ·obtain rfl:=List.length_eq_zero_iff.1 h0;injection hv with e1 _ e3;subst e1
  exact (order_none cp W).mono fun e w' ⟨h1,h2⟩ => by
   subst h2;exact ⟨h1,h,hb⟩
 ·injection hv with e1 _ e3;subst e1 e3;refine (order_any (w0:=w) (q:=w.heap.size) (B:=B) (fun W hW => hB.below hW) g 0 cp xs.length xs rfl hx W hb hb.size hg (za5 hh) (zjm h) hn).mono fun e w' ⟨h1,h2,h3⟩ => ⟨h1,?_,hb.trans (h3.1.below (by rintro k rfl; exact hg) hb.size)⟩;exact zjl h h3 (zkq xs) h2
theorem ziq (hB : zac w (.pointer p) B) (hk : Kinds w) (hbd : zap B) (hoR : ∀ c r,R32 r -> ∀ y ∈ B.one c r,R32 y) (c : Bool) (A : Option Addr) (n cp : Nat) (xs : List Int) (hrd : Rd w A n (Rs xs)) (hn : xs.length = n) (hx : ∀ x ∈ xs,R32 x) (hn2 : n <= 240000) :
  Calls Tryz.prog 41 #[.pointer p,.bool c,.slice A n cp] w (zbx w (B.full c xs)):=by
 have HN:=hz0q hn;have HX:=hz0q hx;have HB:=hz0q hB;have HK:=hz0q hk;have HRD:=hz0q hrd;have HBD:=hz0q hbd;have HOR:=hz0q hoR;clear hn hx hB hk hrd hbd hoR;go_enter Tryz.func41,Tryz.ntmps41;go_wp2
 go_loopw [7,12] (fun s7 i wr => ∃ (k : Nat) (out : List Int) (A9 : Option Addr) (c9 : Nat),k <= n /\ i = .int .i64 k /\ s7 = .slice A9 out.length c9 /\ Hid (out = (xs.take k).flatMap (B.one c)) /\ Hid (wr.ownsRow w.heap.size 21 1 (.slice A9 out.length c9) out.length (Rs out)) /\ Hid (Below w.heap.size w wr)) (fun _ i _ => n - (intOf i).toNat)
 case atStart => exact ⟨0,[],none,0,Nat.zero_le _,rfl,rfl,rfl,World.ownsRow_nil _ _ _ _,Below.refl _ _⟩
 case round =>
  obtain ⟨k,out,A9,c9,hk,rfl,rfl,HOUT,HOWN,HBW⟩:=hrel
  have hol : out.length <= 12960000:=by
   have h1:=zkv (f:=B.one c) (fun x => HBD.out.len c x) (xs.take k);rw [List.length_take] at h1;rw [HOUT.out];omega
  by_cases hlt : k < n
  ·obtain ⟨y,hy⟩ : ∃ y,xs[k]? = some y:=⟨_,List.getElem?_eq_getElem (by rw [HN.out]; exact hlt)⟩;have REC:=one_any (HB.out.below HBW.out) (HK.out.below' HBW.out) HBD.out c y (HX.out y (List.mem_of_getElem? hy));have hly : (B.one c y).length <= 54:=HBD.out.len c y;obtain ⟨b,off,rfl,_,hcx⟩:=(HRD.out.below HBW.out).at_ (by omega);have c0:=hcx k (.int .i32 y) (by simp [Rs,hy]);have hki : (k : Int) < (n : Int):=(by omega);have HFT:=hz0q (zg8 (f:=B.one c) hy);obtain ⟨ys,hys⟩ : ∃ ys,ys = B.one c y:=⟨_,rfl⟩;rw [<- hys] at REC hly;have HYS:=hz0q hys;clear hy hcx hys;go_wp2_with fail;refine REC.mono ?_;rintro e w2 ⟨A2,c2,rfl,hown2,hb2⟩;obtain ⟨A3,c3,hv3,_,_,hrd2⟩:=Rd.of_own hown2;injection hv3 with e1 _ e3;subst e1 e3;have hownD:=zas HOWN.out hb2;have hbW:=zb HBW.out hb2;have hbs:=hbW.size;have hone:=zn9 ys;clear hown2 REC c0 hb2;go_wp2_with (at_builtin; refine zak zal _ rfl _ _ rfl w.heap.size rfl hownD rfl hrd2 hone (by omega) (by omega) hbs ?_)
   intro A4 c4 w4 hown4 hg4 hat4;have hb4:=ze4 hbW hbs hownD hg4;have HO : Hid (out ++ ys = (xs.take (k + 1)).flatMap (B.one c)):=(by show _ = _; rw [HFT.out,HOUT.out,HYS.out]);have hln : out.length + ys.length = (out ++ ys).length:=by simp
   have HN2 : Hid (w4.ownsRow w.heap.size 21 1 (.slice A4 (out ++ ys).length c4) (out ++ ys).length (Rs (out ++ ys))):=by
    show w4.ownsRow _ _ _ _ _ _;rw [<- hln];simpa [Rs] using hown4
   have HB4:=hz0q hb4;rw [hln];obtain ⟨o2,ho2⟩ : ∃ o2,o2 = out ++ ys:=⟨_,rfl⟩;rw [<- ho2] at HO HN2 ⊢;clear hown4 hg4 hat4 hownD hbW hrd2 hb4 hln hone ho2;go_wp2;go_roundw
   case rel => exact ⟨k + 1,o2,A4,c4,by omega,by go_num,rfl,HO,HN2,HB4⟩
   case measure => simp [intOf]; omega
  ·obtain rfl : k = n:=(by omega);have hki : (k : Int) <= (k : Int):=Int.le_refl _
   have HAL : Hid (out = B.all c xs):=by
    have h1:=HOUT.out;rw [List.take_of_length_le (by rw [HN.out]; exact Nat.le_refl _)] at h1;exact h1
   have OR:=order_own HB.out HBW.out rfl HOWN.out (fun x hx => by
    rw [HAL.out] at hx;obtain ⟨r,hr,hxr⟩:=List.mem_flatMap.1 hx
    exact HOR.out c r (HX.out r hr) x hxr) (by omega)
   have HFU : Hid (∀ e w',zbx w (B.ord out) e w' -> zbx w (B.full c xs) e w'):=fun e w' h => by
    unfold BaseF.full;rw [<- HAL.out];exact h
   have HOL:=hz0q (zkq (B:=B) out);go_wp2_with fail;refine OR.mono ?_;rintro e w5 ⟨⟨v,rfl⟩,hown5,hb5⟩;rw [HOL.out] at hown5;have HF : Hid (zbx w (B.full c xs) (.returned (.slice A9 out.length c9)) w5):=HFU.out _ _ ⟨A9,c9,by rw [HOL.out],by rw [HOL.out]; exact hown5,hb5⟩;clear OR hown5 hb5;go_wp2;go_returns;exact HF.out
end
end
section
open Go.RowKit Go.Lib
abbrev wlC (p : Option Addr) : Value:=.agg #[.pointer p]
abbrev wlV (p : Option Addr) : Value:=.iface 112 (wlC p)
section
variable {w : World} {p : Option Addr} {B : BaseF}
theorem zdk (hB : zac w (.pointer p) B) (r : Int) (hr : R32 r) : Calls Tryz.prog 257 #[wlC p,.int .i32 r] w fun e w' => e = .returned (.int .i64 (B.cls r)) /\ Below w.heap.size w w':=by
 have hb0 : Below w.heap.size w (w.alloc (.cells #[.pointer p] 112)):=(Below.refl _ _).alloc (Nat.le_refl _) _;have C:=zcw (hB.below hb0) r hr;have HB:=hz0q hb0;clear hb0 hB;go_enter Tryz.func257,Tryz.ntmps257;go_wp2_with fail;refine C.mono ?_;rintro e w1 ⟨rfl,hb⟩;have HF:=hz0q (zb HB.out hb);clear C hb;go_wp2;go_returns;exact ⟨rfl,HF.out⟩
theorem wnfd_any (hB : zac w (.pointer p) B) (hk : Kinds w) (hbd : zap B) (hoR : ∀ c r,R32 r -> ∀ y ∈ B.one c r,R32 y) (A : Option Addr) (n cp : Nat) (xs : List Int) (hrd : Rd w A n (Rs xs)) (hn : xs.length = n) (hx : ∀ x ∈ xs,R32 x) (hn2 : n <= 240000) :
  Calls Tryz.prog 258 #[wlC p,.slice A n cp] w (zbx w (B.full false xs)):=by
 have hb0 : Below w.heap.size w (w.alloc (.cells #[.pointer p] 112)):=(Below.refl _ _).alloc (Nat.le_refl _) _;have C:=ziq (hB.below hb0) (hk.below' hb0) hbd hoR false A n cp xs (hrd.below hb0) hn hx hn2;have HB:=hz0q hb0;obtain ⟨ys,hys⟩ : ∃ ys,ys = B.full false xs:=⟨_,rfl⟩;rw [<- hys] at C ⊢;clear hb0 hB hk hrd hys;go_enter Tryz.func258,Tryz.ntmps258;go_wp2_with fail;refine C.mono ?_;rintro e w1 ⟨A1,c1,rfl,hown,hb⟩;have HO:=hz0q (zax hown HB.out.size);have HF:=hz0q (zb HB.out hb);clear C hown hb;obtain ⟨m,hm⟩ : ∃ m,m = ys.length:=⟨_,rfl⟩;rw [<- hm] at HO;rw [<- hm];have HM:=hz0q hm;clear hm;go_wp2;go_returns;refine ⟨A1,c1,?_,?_,HF.out⟩
 ·rw [<- HM.out]; rfl
 ·rw [<- HM.out]; exact HO.out
end
end
end Go.Proofs.YtolcabjkbefjgaaGreatDoor
