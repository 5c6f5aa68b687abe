/- Rows taken by a base: the code. What rows that are taken say of characters. Plain. A base, as the forms' laws want it. Plain. Which characters are made of two, and that what is noted of them is in order. Plain. What New makes of rows and exclusions: when it answers, and which base. Plain. -/
import Derived.Test.YtolcabjkbefjgaaGreatDoorY22
set_option linter.unusedSimpArgs false
set_option linter.unusedVariables false
set_option maxRecDepth 20000
set_option maxHeartbeats 4000000
namespace Go.Proofs.YtolcabjkbefjgaaGreatDoor
section
open Go.RowKit Go.Lib Go.Maps
def clsN (T : Int -> Int) (x : RowS) : Int -> Int:=fun r => if x.fr <= r /\ r <= x.up then x.cl else T r
def clsL (l : List RowS) : Int -> Int:=l.foldl clsN fun _ => 0
def prtN (f : Int -> Option (List UInt8 × List Int)) (x : RowS) : Int -> Option (List UInt8 × List Int):=if x.il = [] then f else upd f x.fr (some (x.kd,x.il))
def prtL (l : List RowS) : Int -> Option (List UInt8 × List Int):=l.foldl prtN fun _ => none
theorem clsL_snoc (l : List RowS) (x : RowS) : clsL (l ++ [x]) = clsN (clsL l) x:=by simp [clsL]
theorem zjh (l : List RowS) (x : RowS) : prtL (l ++ [x]) = prtN (prtL l) x:=by simp [prtL]
structure RowT (x : RowS) : Prop where
 lo : 0 <= x.fr
 le : x.fr <= x.up
 hi : x.up <= 1114111
 il : x.il.length <= 18
structure TInv (W0 w : World) (bp : Nat) (a : BAddr) (k : Nat) (l : List RowS) (wr : World) : Prop where
 box : wr.heap[bp]? = some (.cells #[.pointer (some ⟨a.tb,0,none⟩),.map (some a.m1),.map (some a.m2),.map (some a.m3),.map (some a.m4)] 81 (0,0))
 tab : TabAt wr a.tb a.mb (4353 * k) (clsL l)
 prt : ∃ f,MapF wr Tryz.prog 21 zn R32 partV a.m1 k f /\ ∀ r,R32 r -> zec W0 (f r) (prtL l r)
 wrote : Wrote (fun g => g = a.mb \/ g = a.m1) w wr
theorem zc9 {α β : Type} {w : World} {P : Program} {K : TypeId} {lit : α -> Lit} {ok : α -> Prop} {mkV : β -> Value} {b n : Nat} {f : α -> Option β} (h : MapF w P K lit ok mkV b n f) {g : Nat} {cs : Array Value} {t : TypeId} {fr : Nat × Nat} (hg : w.heap[g]? = some (.cells cs t fr)) : g ≠ b:=fun e => h.ne_cells hg e.symm
theorem TabAt.kept {w w' : World} {tb mb n : Nat} {T : Int -> Int} {row : Option Nat} (h : TabAt w tb mb n T) (hg : w.grownBy w' row) (h1 : some tb ≠ row) (h2 : some mb ≠ row) : TabAt w' tb mb n T:=by
 obtain ⟨i1,f,i2,i3⟩:=h;exact ⟨(hg.block _ (za5 i1) h1).trans i1,f,i2.kept hg h2,i3⟩
theorem btakes_any {W0 w : World} {bp : Nat} {a : BAddr} (h : TInv W0 w bp a 0 [] w) (hb0 : Below W0.heap.size W0 w) (hmb : W0.heap.size <= a.mb) (hm1 : W0.heap.size <= a.m1) (hne : a.mb ≠ a.m1) (A : Option Addr) (n c : Nat) (os : List RA) (hr : zeb W0 A os) (hol : os.length = n) (hn : n <= 100000) (hnil : ∀ x ∈ os,x.2.1 = none -> x.1.il.length = 0 /\ x.2.2 = 0) (hrt : ∀ x ∈ os,RowT x.1)
  (h1 : (os.map (·.1)).any zbq = false) (h2 : (os.map (·.1)).any formB = false) :
  Calls Tryz.prog 28 #[.pointer (some ⟨bp,0,none⟩),.slice A n c] w fun e w' => e = .returned (.int .i64 0) /\ TInv W0 w bp a n (os.map (·.1)) w':=by
 have C1:=fun W hb => zcs 66 (enters_of Tryz.func66 (by kernel_rfl) rfl) zbq A n c os W (hr.below (w':=W) hb) hol (by omega) (fun x _ W _ => zhm x W);have C2:=fun W hb => zcs 68 (enters_of Tryz.func68 (by kernel_rfl) rfl) formB A n c os W (hr.below (w':=W) hb) hol (by omega) (fun x _ W _ => zhl x W);rw [h1] at C1;rw [h2] at C2;have HOL:=hz0q hol;have HNIL:=hz0q hnil;have HRT:=hz0q hrt;have C1':=C1 w hb0;have hW : ∀ wr,Wrote (fun g => g = a.mb \/ g = a.m1) w wr -> Below W0.heap.size W0 wr:=fun wr h => hb0.trans (h.below (by rintro k (rfl | rfl) <;> assumption) hb0.size)
 have HW:=hz0q hW;clear hol hnil hrt h1 h2 C1 hW;go_enter Tryz.func28,Tryz.ntmps28;go_wp2_with fail;refine C1'.mono ?_;rintro e w1 ⟨rfl,hb1⟩;have C2':=C2 w1 (zb hb0 hb1);clear C1' C2;go_wp2_with fail;refine C2'.mono ?_;rintro e w2 ⟨rfl,hb2⟩;have hb02:=zb hb1 hb2
 have hI0 : TInv W0 w bp a 0 [] w2:=by
  obtain ⟨i1,i2,⟨f,i3,i4⟩,i5⟩:=h;exact ⟨zd i1 hb02,i2.below hb02,⟨f,i3.below hb02 i3.lt,i4⟩,.of_below hb02⟩
 clear C2' hb1 hb2 hb02 h;go_wp2
 go_loopw [15] (fun i wr => ∃ k : Nat,k <= n /\ i = .int .i64 k /\ TInv W0 w bp a k ((os.map (·.1)).take k) wr) (fun i _ => n - (intOf i).toNat)
 case atStart => exact ⟨0,Nat.zero_le _,rfl,hI0⟩
 case round =>
  obtain ⟨k,hk,rfl,hI⟩:=hrel
  by_cases hlt : k < n
  ·obtain ⟨⟨x,Ax,cx⟩,hx⟩ : ∃ x,os[k]? = some x:=⟨_,List.getElem?_eq_getElem (by rw [HOL.out]; exact hlt)⟩;have hbw:=HW.out _ hI.wrote;obtain ⟨b,off,rfl,hbl,hc⟩:=(hr.below hbw).at_ (by rw [HOL.out]; omega);obtain ⟨c0,c1,c2,c3,c4,c5,c6⟩:=zjc hx hc;have hLk : (os.map (·.1))[k]? = some x:=(by rw [List.getElem?_map,hx]; rfl);have hTk : (os.map (·.1)).take (k + 1) = (os.map (·.1)).take k ++ [x]:=(by rw [List.take_add_one,hLk]; rfl);have HTK:=hz0q hTk;have hrx:=HRT.out _ (List.mem_of_getElem? hx);have hnx:=HNIL.out _ (List.mem_of_getElem? hx);have hix:=hr.into _ (List.mem_of_getElem? hx);simp only [] at hrx hnx hix;have hi : (k : Int) < (n : Int):=(by omega);have hi0 : (0 : Int) <= (k : Int):=(by omega);have HR:=hz0q hr;clear hc hx hLk hTk hr;go_upto_region 9 with fail;have hbn : Below wr.heap.size wr (wr.alloc (.cells #[.int .i32 x.fr,.int .i32 x.up,.string (mk8 x.nm),.string (mk8 x.ct),.int .i64 x.cl,.string (mk8 x.kd),.slice Ax x.il.length cx] 143)):=(Below.refl _ _).alloc (Nat.le_refl _) _;have hbx:=zm wr #[.int .i32 x.fr,.int .i32 x.up,.string (mk8 x.nm),.string (mk8 x.ct),.int .i64 x.cl,.string (mk8 x.kd),.slice Ax x.il.length cx] 143;obtain ⟨i1,i2,⟨f,i3,i4⟩,i5⟩:=hI;have j1:=zd i1 hbn;have j2:=i2.below hbn;have j3:=i3.below hbn i3.lt;have j5:=i5.then_below hbn;clear i1 i2 i3 i5 c0 c1 c2 c3 c4 c5 c6;generalize hgq : wr.heap.size = q at *;generalize (wr.alloc (.cells #[.int .i32 x.fr,.int .i32 x.up,.string (mk8 x.nm),.string (mk8 x.ct),.int .i64 x.cl,.string (mk8 x.kd),.slice Ax x.il.length cx] 143)) = W at *
   have hce : ∀ w',Below W.heap.size W w' -> w'.heap[bp]? = some (.cells #[.pointer (some ⟨a.tb,0,none⟩),.map (some a.m1),.map (some a.m2),.map (some a.m3),.map (some a.m4)] 81 (0,0)) /\ w'.heap[q]? = some (.cells #[.int .i32 x.fr,.int .i32 x.up,.string (mk8 x.nm),.string (mk8 x.ct),.int .i64 x.cl,.string (mk8 x.kd),.slice Ax x.il.length cx] 143 (0,0)):=fun w' h => ⟨zd j1 h,zd hbx h⟩;have HCE:=hz0q hce;have hjd : Below W.heap.size W W.drew:=Drew.to ⟨1,rfl⟩;have ST:=trieSet_any (j2.below hjd) x.fr x.up x.cl hrx.lo hrx.le hrx.hi (by omega);have hmbT : ∃ f,MapF W Tryz.prog 21 zn R32 ze2 a.mb (4353 * k) f:=(by obtain ⟨_,f,h,_⟩:=j2; exact ⟨f,h⟩);have hne1 : bp ≠ a.mb:=(by obtain ⟨f,h⟩:=hmbT; exact zc9 h j1);have hne2 : q ≠ a.mb:=(by obtain ⟨f,h⟩:=hmbT; exact zc9 h hbx);have hne3 : bp ≠ a.m1:=zc9 j3 j1;have hne4 : q ≠ a.m1:=zc9 j3 hbx;have HCW : Hid (∀ w',Wrote (fun g => g = a.mb) W.drew w' -> w'.heap[bp]? = some (.cells #[.pointer (some ⟨a.tb,0,none⟩),.map (some a.m1),.map (some a.m2),.map (some a.m3),.map (some a.m4)] 81 (0,0)) /\ w'.heap[q]? = some (.cells #[.int .i32 x.fr,.int .i32 x.up,.string (mk8 x.nm),.string (mk8 x.ct),.int .i64 x.cl,.string (mk8 x.kd),.slice Ax x.il.length cx] 143 (0,0))):=fun w' h => ⟨h.blk (zd j1 hjd) hne1,h.blk (zd hbx hjd) hne2⟩;clear hce hbn hgq;refine wp_region_held_drew (S:=fun w' => w'.heap[bp]? = some (.cells #[.pointer (some ⟨a.tb,0,none⟩),.map (some a.m1),.map (some a.m2),.map (some a.m3),.map (some a.m4)] 81 (0,0)) /\ w'.heap[q]? = some (.cells #[.int .i32 x.fr,.int .i32 x.up,.string (mk8 x.nm),.string (mk8 x.ct),.int .i64 x.cl,.string (mk8 x.kd),.slice Ax x.il.length cx] 143 (0,0))) (by kernel_rfl) (HCE.out _ (Drew.to ⟨1,rfl⟩)) (fun hH0 => ?_)
   refine wpAnyH_take (i:=0) (v:=.pointer (some ⟨bp,0,none⟩)) rfl (by kernel_rfl) (by kernel_rfl) (by kernel_rfl) (fun _ _ _ h => h) (Or.inl ⟨by kernel_rfl,?_⟩) hH0 ?_
   ·intro w hSw;obtain ⟨hS1,hS2⟩:=hSw;have s0:=za hS1 0 rfl;have s1:=za hS1 1 rfl;have t0:=za hS2 0 rfl;have t1:=za hS2 1 rfl;have t4:=za hS2 4 rfl;have t5:=za hS2 5 rfl;have t6:=za hS2 6 rfl;go_simp
    all_goals try with_reducible rfl
   try simp only [gA,gB,gC,Act.put,gD,gE,gF]
   refine wpAnyH_take (i:=1) (v:=.pointer (some ⟨bp,0,none⟩)) rfl (by kernel_rfl) (by kernel_rfl) (by kernel_rfl) (fun _ _ _ h => h) (Or.inl ⟨by kernel_rfl,?_⟩) hH0 ?_
   ·intro w hSw;obtain ⟨hS1,hS2⟩:=hSw;have s0:=za hS1 0 rfl;have s1:=za hS1 1 rfl;have t0:=za hS2 0 rfl;have t1:=za hS2 1 rfl;have t4:=za hS2 4 rfl;have t5:=za hS2 5 rfl;have t6:=za hS2 6 rfl;go_simp
    all_goals try with_reducible rfl
   try simp only [gA,gB,gC,Act.put,gD,gE,gF]
   refine wpAnyH_take (i:=2) (v:=.pointer (some ⟨bp,0,none⟩)) rfl (by kernel_rfl) (by kernel_rfl) (by kernel_rfl) (fun _ _ _ h => h) (Or.inl ⟨by kernel_rfl,?_⟩) hH0 ?_
   ·intro w hSw;obtain ⟨hS1,hS2⟩:=hSw;have s0:=za hS1 0 rfl;have s1:=za hS1 1 rfl;have t0:=za hS2 0 rfl;have t1:=za hS2 1 rfl;have t4:=za hS2 4 rfl;have t5:=za hS2 5 rfl;have t6:=za hS2 6 rfl;go_simp
    all_goals try with_reducible rfl
   try simp only [gA,gB,gC,Act.put,gD,gE,gF]
   refine wpAnyH_take (i:=3) (v:=.pointer (some ⟨a.tb,0,none⟩)) rfl (by kernel_rfl) (by kernel_rfl) (by kernel_rfl) (fun _ _ _ h => h) (Or.inl ⟨by kernel_rfl,?_⟩) hH0 ?_
   ·intro w hSw;obtain ⟨hS1,hS2⟩:=hSw;have s0:=za hS1 0 rfl;have s1:=za hS1 1 rfl;have t0:=za hS2 0 rfl;have t1:=za hS2 1 rfl;have t4:=za hS2 4 rfl;have t5:=za hS2 5 rfl;have t6:=za hS2 6 rfl;go_simp
    all_goals try with_reducible rfl
   try simp only [gA,gB,gC,Act.put,gD,gE,gF]
   refine wpAnyH_take (i:=4) (v:=.pointer (some ⟨q,0,none⟩)) rfl (by kernel_rfl) (by kernel_rfl) (by kernel_rfl) (fun _ _ _ h => h) (Or.inl ⟨by kernel_rfl,?_⟩) hH0 ?_
   ·intro w hSw;obtain ⟨hS1,hS2⟩:=hSw;have s0:=za hS1 0 rfl;have s1:=za hS1 1 rfl;have t0:=za hS2 0 rfl;have t1:=za hS2 1 rfl;have t4:=za hS2 4 rfl;have t5:=za hS2 5 rfl;have t6:=za hS2 6 rfl;go_simp
    all_goals try with_reducible rfl
   try simp only [gA,gB,gC,Act.put,gD,gE,gF]
   refine wpAnyH_take (i:=5) (v:=.int .i32 x.fr) rfl (by kernel_rfl) (by kernel_rfl) (by kernel_rfl) (fun _ _ _ h => h) (Or.inl ⟨by kernel_rfl,?_⟩) hH0 ?_
   ·intro w hSw;obtain ⟨hS1,hS2⟩:=hSw;have s0:=za hS1 0 rfl;have s1:=za hS1 1 rfl;have t0:=za hS2 0 rfl;have t1:=za hS2 1 rfl;have t4:=za hS2 4 rfl;have t5:=za hS2 5 rfl;have t6:=za hS2 6 rfl;go_simp
    all_goals try with_reducible rfl
   try simp only [gA,gB,gC,Act.put,gD,gE,gF]
   refine wpAnyH_take (i:=6) (v:=.pointer (some ⟨q,1,none⟩)) rfl (by kernel_rfl) (by kernel_rfl) (by kernel_rfl) (fun _ _ _ h => h) (Or.inl ⟨by kernel_rfl,?_⟩) hH0 ?_
   ·intro w hSw;obtain ⟨hS1,hS2⟩:=hSw;have s0:=za hS1 0 rfl;have s1:=za hS1 1 rfl;have t0:=za hS2 0 rfl;have t1:=za hS2 1 rfl;have t4:=za hS2 4 rfl;have t5:=za hS2 5 rfl;have t6:=za hS2 6 rfl;go_simp
    all_goals try with_reducible rfl
   try simp only [gA,gB,gC,Act.put,gD,gE,gF]
   refine wpAnyH_take (i:=7) (v:=.int .i32 x.up) rfl (by kernel_rfl) (by kernel_rfl) (by kernel_rfl) (fun _ _ _ h => h) (Or.inl ⟨by kernel_rfl,?_⟩) hH0 ?_
   ·intro w hSw;obtain ⟨hS1,hS2⟩:=hSw;have s0:=za hS1 0 rfl;have s1:=za hS1 1 rfl;have t0:=za hS2 0 rfl;have t1:=za hS2 1 rfl;have t4:=za hS2 4 rfl;have t5:=za hS2 5 rfl;have t6:=za hS2 6 rfl;go_simp
    all_goals try with_reducible rfl
   try simp only [gA,gB,gC,Act.put,gD,gE,gF]
   refine wpAnyH_take (i:=8) (v:=.pointer (some ⟨q,4,none⟩)) rfl (by kernel_rfl) (by kernel_rfl) (by kernel_rfl) (fun _ _ _ h => h) (Or.inl ⟨by kernel_rfl,?_⟩) hH0 ?_
   ·intro w hSw;obtain ⟨hS1,hS2⟩:=hSw;have s0:=za hS1 0 rfl;have s1:=za hS1 1 rfl;have t0:=za hS2 0 rfl;have t1:=za hS2 1 rfl;have t4:=za hS2 4 rfl;have t5:=za hS2 5 rfl;have t6:=za hS2 6 rfl;go_simp
    all_goals try with_reducible rfl
   try simp only [gA,gB,gC,Act.put,gD,gE,gF]
   refine wpAnyH_take (i:=9) (v:=.int .i64 x.cl) rfl (by kernel_rfl) (by kernel_rfl) (by kernel_rfl) (fun _ _ _ h => h) (Or.inl ⟨by kernel_rfl,?_⟩) hH0 ?_
   ·intro w hSw;obtain ⟨hS1,hS2⟩:=hSw;have s0:=za hS1 0 rfl;have s1:=za hS1 1 rfl;have t0:=za hS2 0 rfl;have t1:=za hS2 1 rfl;have t4:=za hS2 4 rfl;have t5:=za hS2 5 rfl;have t6:=za hS2 6 rfl;go_simp
    all_goals try with_reducible rfl
   try simp only [gA,gB,gC,Act.put,gD,gE,gF]
   refine wpAnyH_ready (rs:=[10]) (by kernel_rfl) (by simp) ?_;refine AllReadyH.cons rfl (fun K hK => ?_) AllReadyH.nil;go_simp
   refine (ST).mono ?_;rintro e w50 ⟨rfl,hT5,hw5⟩;refine hK.out _ _ (HCW.out _ hw5) (fun hH1 => ?_);clear hK K hH0;try simp only [gA,gB,gC,Act.put,gD,gE,gF]
   refine wpAnyH_done (by kernel_rfl) ?_ _;have j13 : MapF w50 Tryz.prog 21 zn R32 partV a.m1 k f:=(j3.below hjd j3.lt).at (hw5.block _ (by have:=j3.lt; exact this) (fun e => hne e.symm));have j15 : Wrote (fun g => g = a.mb \/ g = a.m1) w w50:=(j5.then_below hjd).trans (hw5.mono fun k _ h => .inl h);obtain ⟨g1,g2⟩:=HCW.out _ hw5;have d6:=za g2 6 rfl;have hT6 : TabAt w50 a.tb a.mb (4353 * (k + 1)) (clsL ((os.map (·.1)).take (k + 1))):=(by rw [HTK.out,clsL_snoc]; exact hT5);clear hT5 hw5 j2 j3 j5 hjd hmbT hbx j1 hH1
   by_cases hz : x.il = []
   ·have hz0 : x.il.length = 0:=(by rw [hz]; rfl);have hI2 : TInv W0 w bp a (k + 1) ((os.map (·.1)).take (k + 1)) w50:=⟨g1,hT6,⟨f,j13.mono (by omega),fun r hr => by rw [HTK.out,zjh]; unfold prtN; rw [if_pos hz]; exact i4 r hr⟩,j15⟩;rw [hz0] at d6;clear hz hz0 hT6 j13 j15 g1 g2 i4 hrx hnx hix;go_wp2;go_roundw
    case rel => exact ⟨k + 1,by omega,by go_num,hI2⟩
    case measure => simp [intOf]; omega
   ·have hzn : 0 < x.il.length:=List.length_pos_iff.2 hz;have hzp : (0 : Int) < (x.il.length : Int):=(by omega);have HZ:=hz0q hz;have hfr : R32 x.fr:=(by have:=hrx.lo; have:=hrx.le; have:=hrx.hi; unfold R32; omega);have hmx : k < maxLen:=(by unfold maxLen; omega);have hmd : MapF w50.drew Tryz.prog 21 zn R32 partV a.m1 k f:=j13.at rfl;have HCE2 : Hid (∀ w',Below w50.heap.size w50 w' -> w'.heap[bp]? = some (.cells #[.pointer (some ⟨a.tb,0,none⟩),.map (some a.m1),.map (some a.m2),.map (some a.m3),.map (some a.m4)] 81 (0,0)) /\ w'.heap[q]? = some (.cells #[.int .i32 x.fr,.int .i32 x.up,.string (mk8 x.nm),.string (mk8 x.ct),.int .i64 x.cl,.string (mk8 x.kd),.slice Ax x.il.length cx] 143 (0,0))):=fun w' h => ⟨zd g1 h,zd g2 h⟩;have HCG : Hid (∀ w',w50.drew.grownBy w' (some a.m1) -> w'.heap[bp]? = some (.cells #[.pointer (some ⟨a.tb,0,none⟩),.map (some a.m1),.map (some a.m2),.map (some a.m3),.map (some a.m4)] 81 (0,0)) /\ w'.heap[q]? = some (.cells #[.int .i32 x.fr,.int .i32 x.up,.string (mk8 x.nm),.string (mk8 x.ct),.int .i64 x.cl,.string (mk8 x.kd),.slice Ax x.il.length cx] 143 (0,0))):=fun w' h => ⟨(h.block _ (za5 g1) (fun e => hne3 (by injection e with e))).trans g1,(h.block _ (za5 g2) (fun e => hne4 (by injection e with e))).trans g2⟩;have HNM : Hid (some a.tb ≠ some a.m1 /\ some a.mb ≠ some a.m1):=⟨fun e => zc9 j13 hT6.1 (by injection e with e),fun e => hne (by injection e with e)⟩;clear hz j13 g1 g2;go_upto_region 11 with fail
    refine wp_region_held_drew (S:=fun w' => w'.heap[bp]? = some (.cells #[.pointer (some ⟨a.tb,0,none⟩),.map (some a.m1),.map (some a.m2),.map (some a.m3),.map (some a.m4)] 81 (0,0)) /\ w'.heap[q]? = some (.cells #[.int .i32 x.fr,.int .i32 x.up,.string (mk8 x.nm),.string (mk8 x.ct),.int .i64 x.cl,.string (mk8 x.kd),.slice Ax x.il.length cx] 143 (0,0))) (by kernel_rfl) (HCE2.out _ (Drew.to ⟨1,rfl⟩)) (fun hH0 => ?_);refine wpAnyH_take (i:=0) (v:=.pointer (some ⟨bp,0,none⟩)) rfl (by kernel_rfl) (by kernel_rfl) (by kernel_rfl) (fun _ _ _ h => h) (Or.inl ⟨by kernel_rfl,?_⟩) hH0 ?_
    ·intro w hSw;obtain ⟨hS1,hS2⟩:=hSw;have s0:=za hS1 0 rfl;have s1:=za hS1 1 rfl;have t0:=za hS2 0 rfl;have t1:=za hS2 1 rfl;have t4:=za hS2 4 rfl;have t5:=za hS2 5 rfl;have t6:=za hS2 6 rfl;go_simp
     all_goals try with_reducible rfl
    try simp only [gA,gB,gC,Act.put,gD,gE,gF]
    refine wpAnyH_take (i:=1) (v:=.pointer (some ⟨bp,0,none⟩)) rfl (by kernel_rfl) (by kernel_rfl) (by kernel_rfl) (fun _ _ _ h => h) (Or.inl ⟨by kernel_rfl,?_⟩) hH0 ?_
    ·intro w hSw;obtain ⟨hS1,hS2⟩:=hSw;have s0:=za hS1 0 rfl;have s1:=za hS1 1 rfl;have t0:=za hS2 0 rfl;have t1:=za hS2 1 rfl;have t4:=za hS2 4 rfl;have t5:=za hS2 5 rfl;have t6:=za hS2 6 rfl;go_simp
     all_goals try with_reducible rfl
    try simp only [gA,gB,gC,Act.put,gD,gE,gF]
    refine wpAnyH_take (i:=2) (v:=.pointer (some ⟨bp,1,none⟩)) rfl (by kernel_rfl) (by kernel_rfl) (by kernel_rfl) (fun _ _ _ h => h) (Or.inl ⟨by kernel_rfl,?_⟩) hH0 ?_
    ·intro w hSw;obtain ⟨hS1,hS2⟩:=hSw;have s0:=za hS1 0 rfl;have s1:=za hS1 1 rfl;have t0:=za hS2 0 rfl;have t1:=za hS2 1 rfl;have t4:=za hS2 4 rfl;have t5:=za hS2 5 rfl;have t6:=za hS2 6 rfl;go_simp
     all_goals try with_reducible rfl
    try simp only [gA,gB,gC,Act.put,gD,gE,gF]
    refine wpAnyH_take (i:=3) (v:=.map (some a.m1)) rfl (by kernel_rfl) (by kernel_rfl) (by kernel_rfl) (fun _ _ _ h => h) (Or.inl ⟨by kernel_rfl,?_⟩) hH0 ?_
    ·intro w hSw;obtain ⟨hS1,hS2⟩:=hSw;have s0:=za hS1 0 rfl;have s1:=za hS1 1 rfl;have t0:=za hS2 0 rfl;have t1:=za hS2 1 rfl;have t4:=za hS2 4 rfl;have t5:=za hS2 5 rfl;have t6:=za hS2 6 rfl;go_simp
     all_goals try with_reducible rfl
    try simp only [gA,gB,gC,Act.put,gD,gE,gF]
    refine wpAnyH_take (i:=4) (v:=.pointer (some ⟨q,0,none⟩)) rfl (by kernel_rfl) (by kernel_rfl) (by kernel_rfl) (fun _ _ _ h => h) (Or.inl ⟨by kernel_rfl,?_⟩) hH0 ?_
    ·intro w hSw;obtain ⟨hS1,hS2⟩:=hSw;have s0:=za hS1 0 rfl;have s1:=za hS1 1 rfl;have t0:=za hS2 0 rfl;have t1:=za hS2 1 rfl;have t4:=za hS2 4 rfl;have t5:=za hS2 5 rfl;have t6:=za hS2 6 rfl;go_simp
     all_goals try with_reducible rfl
    try simp only [gA,gB,gC,Act.put,gD,gE,gF]
    refine wpAnyH_take (i:=5) (v:=.int .i32 x.fr) rfl (by kernel_rfl) (by kernel_rfl) (by kernel_rfl) (fun _ _ _ h => h) (Or.inl ⟨by kernel_rfl,?_⟩) hH0 ?_
    ·intro w hSw;obtain ⟨hS1,hS2⟩:=hSw;have s0:=za hS1 0 rfl;have s1:=za hS1 1 rfl;have t0:=za hS2 0 rfl;have t1:=za hS2 1 rfl;have t4:=za hS2 4 rfl;have t5:=za hS2 5 rfl;have t6:=za hS2 6 rfl;go_simp
     all_goals try with_reducible rfl
    try simp only [gA,gB,gC,Act.put,gD,gE,gF]
    refine wpAnyH_take (i:=6) (v:=.pointer (some ⟨q,5,none⟩)) rfl (by kernel_rfl) (by kernel_rfl) (by kernel_rfl) (fun _ _ _ h => h) (Or.inl ⟨by kernel_rfl,?_⟩) hH0 ?_
    ·intro w hSw;obtain ⟨hS1,hS2⟩:=hSw;have s0:=za hS1 0 rfl;have s1:=za hS1 1 rfl;have t0:=za hS2 0 rfl;have t1:=za hS2 1 rfl;have t4:=za hS2 4 rfl;have t5:=za hS2 5 rfl;have t6:=za hS2 6 rfl;go_simp
     all_goals try with_reducible rfl
    try simp only [gA,gB,gC,Act.put,gD,gE,gF]
    refine wpAnyH_take (i:=7) (v:=.string (mk8 x.kd)) rfl (by kernel_rfl) (by kernel_rfl) (by kernel_rfl) (fun _ _ _ h => h) (Or.inl ⟨by kernel_rfl,?_⟩) hH0 ?_
    ·intro w hSw;obtain ⟨hS1,hS2⟩:=hSw;have s0:=za hS1 0 rfl;have s1:=za hS1 1 rfl;have t0:=za hS2 0 rfl;have t1:=za hS2 1 rfl;have t4:=za hS2 4 rfl;have t5:=za hS2 5 rfl;have t6:=za hS2 6 rfl;go_simp
     all_goals try with_reducible rfl
    try simp only [gA,gB,gC,Act.put,gD,gE,gF]
    refine wpAnyH_take (i:=8) (v:=.pointer (some ⟨q,6,none⟩)) rfl (by kernel_rfl) (by kernel_rfl) (by kernel_rfl) (fun _ _ _ h => h) (Or.inl ⟨by kernel_rfl,?_⟩) hH0 ?_
    ·intro w hSw;obtain ⟨hS1,hS2⟩:=hSw;have s0:=za hS1 0 rfl;have s1:=za hS1 1 rfl;have t0:=za hS2 0 rfl;have t1:=za hS2 1 rfl;have t4:=za hS2 4 rfl;have t5:=za hS2 5 rfl;have t6:=za hS2 6 rfl;go_simp
     all_goals try with_reducible rfl
    try simp only [gA,gB,gC,Act.put,gD,gE,gF]
    refine wpAnyH_take (i:=9) (v:=.slice Ax x.il.length cx) rfl (by kernel_rfl) (by kernel_rfl) (by kernel_rfl) (fun _ _ _ h => h) (Or.inl ⟨by kernel_rfl,?_⟩) hH0 ?_
    ·intro w hSw;obtain ⟨hS1,hS2⟩:=hSw;have s0:=za hS1 0 rfl;have s1:=za hS1 1 rfl;have t0:=za hS2 0 rfl;have t1:=za hS2 1 rfl;have t4:=za hS2 4 rfl;have t5:=za hS2 5 rfl;have t6:=za hS2 6 rfl;go_simp
     all_goals try with_reducible rfl
    try simp only [gA,gB,gC,Act.put,gD,gE,gF]
    refine wpAnyH_take (i:=10) (v:=partV (x.kd,Ax,x.il.length,cx)) rfl (by kernel_rfl) (by kernel_rfl) (by kernel_rfl) (fun _ _ _ h => h) (Or.inl ⟨by kernel_rfl,?_⟩) hH0 ?_
    ·intro w hSw;obtain ⟨hS1,hS2⟩:=hSw;have s0:=za hS1 0 rfl;have s1:=za hS1 1 rfl;have t0:=za hS2 0 rfl;have t1:=za hS2 1 rfl;have t4:=za hS2 4 rfl;have t5:=za hS2 5 rfl;have t6:=za hS2 6 rfl;go_simp
     all_goals try with_reducible rfl
    try simp only [gA,gB,gC,Act.put,gD,gE,gF]
    refine wpAnyH_ready (rs:=[11]) (by kernel_rfl) (by simp) ?_;refine AllReadyH.cons rfl (fun K hK => ?_) AllReadyH.nil;refine za6 rfl _ _ _ rfl zh zll hmx hmd (k:=x.fr) hfr (x.kd,Ax,x.il.length,cx) rfl rfl rfl ?_;intro w7 hm7 hg7 hs7;refine hK.out _ _ (HCG.out _ hg7) (fun hH1 => ?_);clear hK K hH0;try simp only [gA,gB,gC,Act.put,gD,gE,gF]
    refine wpAnyH_done (by kernel_rfl) ?_ _;obtain ⟨g1',g2'⟩:=HCG.out _ hg7;have hgw:=zei hg7
    have hI2 : TInv W0 w bp a (k + 1) ((os.map (·.1)).take (k + 1)) w7:=by
     refine ⟨g1',hT6.kept hgw HNM.out.1 HNM.out.2,⟨_,hm7,fun r hr => ?_⟩,j15.trans (Wrote.grown hgw fun k hk => .inr (by injection hk with hk; exact hk.symm))⟩;rw [HTK.out,zjh];unfold prtN;rw [if_neg HZ.out];unfold upd
     by_cases e : r = x.fr
     ·rw [if_pos e,if_pos e];exact ⟨rfl,rfl,hrx.il,hix,hnx⟩
     ·rw [if_neg e,if_neg e];exact i4 r hr
    clear hm7 hg7 hgw g1' g2' hT6 hmd j15 i4 hH1;go_wp2;go_roundw
    case rel => exact ⟨k + 1,by omega,by go_num,hI2⟩
    case measure => simp [intOf]; omega
  ·have hi : (n : Int) <= (k : Int):=(by omega);have hk0 : k = n:=(by omega);subst hk0;rw [List.take_of_length_le (by rw [List.length_map,HOL.out]; exact Nat.le_refl _)] at hI;have HI:=hz0q hI;clear hI hr;go_wp2;go_returns;exact ⟨rfl,HI.out⟩
theorem btakes_bad {W0 w : World} {bp : Nat} (hb0 : Below W0.heap.size W0 w) (A : Option Addr) (n c : Nat) (os : List RA) (hr : zeb W0 A os) (hol : os.length = n) (hn : n <= 100000)
  (hbad : (os.map (·.1)).any zbq = true \/ ((os.map (·.1)).any zbq = false /\ (os.map (·.1)).any formB = true)) :
  Calls Tryz.prog 28 #[.pointer (some ⟨bp,0,none⟩),.slice A n c] w fun e w' => (e = .returned (.int .i64 12) \/ e = .returned (.int .i64 10)) /\ Below w.heap.size w w':=by
 have C1:=zcs 66 (enters_of Tryz.func66 (by kernel_rfl) rfl) zbq A n c os w (hr.below hb0) hol (by omega) (fun x _ W _ => zhm x W);have C2:=fun W hb => zcs 68 (enters_of Tryz.func68 (by kernel_rfl) rfl) formB A n c os W (hr.below (w':=W) hb) hol (by omega) (fun x _ W _ => zhl x W);rcases hbad with h1 | ⟨h1,h2⟩
 ·rw [h1] at C1;clear C2 h1;go_enter Tryz.func28,Tryz.ntmps28;go_wp2_with fail;refine C1.mono ?_;rintro e w1 ⟨rfl,hb1⟩;go_wp2;go_returns;exact ⟨.inl rfl,hb1⟩
 ·rw [h1] at C1;rw [h2] at C2;clear h1 h2;go_enter Tryz.func28,Tryz.ntmps28;go_wp2_with fail;refine C1.mono ?_;rintro e w1 ⟨rfl,hb1⟩;have C2':=C2 w1 (zb hb0 hb1);clear C1 C2;go_wp2_with fail;refine C2'.mono ?_;rintro e w2 ⟨rfl,hb2⟩;go_wp2;go_returns;exact ⟨.inr rfl,zb hb1 hb2⟩
end
section
theorem zew {α β : Type} (P : α -> Prop) (f : α -> β -> α) : ∀ (l : List β) (a : α),P a -> (∀ a x,x ∈ l -> P a -> P (f a x)) -> P (l.foldl f a)
 | [],a,h,_ => h
 | x :: l,a,h,hs => zew P f l (f a x) (hs a x List.mem_cons_self h) fun a y hy => hs a y (List.mem_cons_of_mem _ hy)
theorem zh4 {l : List RowS} (h : ∀ x ∈ l,0 <= x.cl) (r : Int) : 0 <= clsL l r:=by
 unfold clsL;refine zew (fun f => 0 <= f r) clsN l (fun _ => 0) (Int.le_refl 0) fun f x hx hf => ?_;unfold clsN;split
 ·exact h x hx
 ·exact hf
theorem cls_hang {l : List RowS} (h : ∀ x ∈ l,0 <= x.cl) (ht : ∀ x ∈ l,zbq x = false) {r : Int} (hr : 44032 <= r /\ r < 55204) : clsL l r = 0:=by
 unfold clsL;refine zew (fun f => f r = 0) clsN l (fun _ => 0) rfl fun f x hx hf => ?_;unfold clsN;split
 ·rename_i hc;have h1:=h x hx;have h2:=ht x hx;unfold zbq at h2;have h3:=of_decide_eq_false h2;have : ¬ 0 < x.cl:=fun e => h3 ⟨.inl e,by omega,by omega⟩;omega
 ·exact hf
theorem zie {l : List RowS} {r : Int} {q : List UInt8 × List Int} (h : prtL l r = some q) : ∃ x ∈ l,x.fr = r /\ x.il ≠ [] /\ q = (x.kd,x.il):=by
 unfold prtL at h;refine zew (fun f => ∀ q,f r = some q -> ∃ x ∈ l,x.fr = r /\ x.il ≠ [] /\ q = (x.kd,x.il)) prtN l (fun _ => none) (fun q hq => by cases hq) (fun f x hx hf q hq => ?_) q h;unfold prtN at hq
 by_cases e : x.il = []
 ·rw [if_pos e] at hq; exact hf q hq
 ·rw [if_neg e] at hq;unfold upd at hq
  by_cases e2 : r = x.fr
  ·rw [if_pos e2] at hq;injection hq with hq;exact ⟨x,hx,e2.symm,e,hq.symm⟩
  ·rw [if_neg e2] at hq; exact hf q hq
theorem prt_hang {l : List RowS} (ht : ∀ x ∈ l,zbq x = false) (hle : ∀ x ∈ l,x.fr <= x.up) {r : Int} (hr : 44032 <= r /\ r < 55204) : prtL l r = none:=by
 cases hp : prtL l r with
 | none => rfl
 | some q =>
  obtain ⟨x,hx,h1,h2,_⟩:=zie hp;have h3:=ht x hx;unfold zbq at h3;have h4:=of_decide_eq_false h3;have:=hle x hx;exact absurd ⟨.inr (List.length_pos_iff.2 h2),by omega,by omega⟩ h4
end
section
structure zmh (cls : Int -> Int) (prt : Int -> Option (List UInt8 × List Int)) (pr : Int × Int -> Option Int) (sc : Int -> Option Int) : Prop where
 cls0 : ∀ r,0 <= cls r
 ch : ∀ r,44032 <= r /\ r < 55204 -> cls r = 0
 ph : ∀ r,44032 <= r /\ r < 55204 -> prt r = none
 made : ∀ x y r,pr (x,y) = some r -> prt r = some ([],[x,y]) /\ cls r = 0 /\ 0 < gd sc y
 ends : ∀ r,Ends (fun x => (decH prt x).2) r
theorem joinH_hang {x y : Int} (h : (joinH x y).2 = true) : 44032 <= (joinH x y).1 /\ (joinH x y).1 < 55204:=by
 unfold joinH at h ⊢;split
 ·simp only []; omega
 ·rename_i h1;rw [if_neg h1] at h;split at h
  ·rename_i h2; rw [if_pos h2]; simp only []; omega
  ·cases h
theorem joinH_sec {x y : Int} (h : (joinH x y).2 = true) : ((joinH 4352 y).2 || (joinH 44032 y).2) = true:=by
 unfold joinH at h;split at h
 ·rename_i h1;have : (joinH 4352 y).2 = true:=(by unfold joinH; rw [if_pos (by omega)]);rw [this]; rfl
 ·split at h
  ·rename_i h2;have : (joinH 44032 y).2 = true:=(by unfold joinH; rw [if_neg (by omega),if_pos (by omega)]);rw [this]; simp
  ·cases h
def zmh.toF {cls : Int -> Int} {prt : Int -> Option (List UInt8 × List Int)} {pr : Int × Int -> Option Int} {sc : Int -> Option Int} (h : zmh cls prt pr sc) : BaseF where
 cls:=cls
 dec:=decH prt
 pair:=pairH pr
 sec:=secH sc
 cls0:=h.cls0
 made:=fun x y r hp => by
  unfold pairH at hp
  cases hq : pr (x,y) with
  | some q =>
   rw [hq] at hp;injection hp with hp;subst hp;obtain ⟨h1,h2,h3⟩:=h.made x y q hq;have hn : ¬ (44032 <= q /\ q < 55204):=fun e => by rw [h.ph q e] at h1; cases h1
   refine ⟨by unfold decH; rw [if_neg hn,h1]; rfl,h2,?_⟩;unfold secH;unfold gd at h3;simp [h3]
  | none =>
   rw [hq] at hp;simp only [] at hp;split at hp
   ·rename_i hj;injection hp with hp;subst hp;obtain ⟨h1,h2⟩:=join_back hj;have hh:=joinH_hang hj;refine ⟨by unfold decH; rw [if_pos hh,h1],h.ch _ hh,?_⟩;unfold secH;rw [joinH_sec hj];simp
   ·cases hp
 wf:=wf_of h.ends
end
section
def madeQ (cls : Int -> Int) (prt : Int -> Option (List UInt8 × List Int)) (out : List Int) (r : Int) : Bool :=
 match prt r with
 | some ([],[x,_]) => !decide (r ∈ out) && !decide (0 < cls r) && !decide (0 < cls x)
 | _ => false
def zay (prt : Int -> Option (List UInt8 × List Int)) (r : Int) : Int × Int :=
 match prt r with
 | some (_,[x,y]) => (x,y)
 | _ => (0,0)
def zdb (p : Int × Int) : Bool:=(joinH p.1 p.2).2
theorem zci {cls : Int -> Int} {prt : Int -> Option (List UInt8 × List Int)} {out : List Int} {r : Int} (h : madeQ cls prt out r = true) :
  prt r = some ([],[(zay prt r).1,(zay prt r).2]) /\ r ∉ out /\ ¬ 0 < cls r /\ ¬ 0 < cls (zay prt r).1:=by
 unfold madeQ at h;unfold zay;split at h
 ·rename_i x y hp;rw [hp];simp only [Bool.and_eq_true,Bool.not_eq_true',decide_eq_false_iff_not] at h;exact ⟨rfl,h.1.1,h.1.2,h.2⟩
 ·cases h
end
section
open Go.RowKit
structure RowsG (rows : List RowS) : Prop where
 v : ∀ x ∈ rows,RowV x
 rise : Rise rows
theorem zmp (s : List UInt8) : RowsG (rowsS s).1:=⟨rows_v s,rows_rise s⟩
theorem zb2 {z : Int} (h : zaj z = true) : z ∈ allR:=by
 rw [zdy];unfold zaj at h;simp at h;omega
theorem scalar_R {z : Int} (h : zaj z = true) : R32 z:=zea (zb2 h)
section
variable {rows : List RowS} {out : List Int}
theorem RowsG.rowT (h : RowsG rows) : ∀ x ∈ rows,RowT x:=fun x hx => by
 have v:=h.v x hx;have h1:=zdy.1 (zb2 v.fr);have h2:=zdy.1 (zb2 v.up);exact ⟨h1.1,v.le,by omega,v.len⟩
theorem RowsG.into (h : RowsG rows) : ∀ r q,prtL rows r = some q -> r ∈ allR /\ (∀ y ∈ q.2,y ∈ allR) /\ q.2.length <= 18 /\ q.2 ≠ []:=fun r q hq => by
 obtain ⟨x,hx,e,hne,rfl⟩:=zie hq;have v:=h.v x hx;exact ⟨by rw [<- e]; exact zb2 v.fr,fun y hy => zb2 (v.il y hy),v.len,hne⟩
structure NewOk (rows : List RowS) (out : List Int) : Prop where
 there : rows.any zbq = false
 form : rows.any formB = false
 ends : ∀ r,(prtL rows r).isSome = true -> Ends (fun x => (decH (prtL rows) x).2) r
 few : ∀ wf : WellFounded fun y x => y ∈ (decH (prtL rows) x).2,∀ r,(prtL rows r).isSome = true -> lenD (fun x => (decH (prtL rows) x).2) wf r <= 18
 join : ∀ x,madeQ (clsL rows) (prtL rows) out x = true -> zdb (zay (prtL rows) x) = false
 one : ∀ x y,madeQ (clsL rows) (prtL rows) out x = true -> madeQ (clsL rows) (prtL rows) out y = true -> zay (prtL rows) x = zay (prtL rows) y -> x = y
def prL (rows : List RowS) (out : List Int) (p : Int × Int) : Option Int:=(rows.find? fun x => madeQ (clsL rows) (prtL rows) out x.fr && decide (zay (prtL rows) x.fr = p)).map (·.fr)
def scL (rows : List RowS) (out : List Int) (y : Int) : Option Int:=if (rows.any fun x => madeQ (clsL rows) (prtL rows) out x.fr && decide ((zay (prtL rows) x.fr).2 = y)) = true then some 1 else none
theorem zik {x : Int} (h : madeQ (clsL rows) (prtL rows) out x = true) : ∃ r ∈ rows,r.fr = x:=by
 obtain ⟨h1,_⟩:=zci h;obtain ⟨r,hr,e,_⟩:=zie h1;exact ⟨r,hr,e⟩
theorem zfy (h : NewOk rows out) {p : Int × Int} {x : Int} : prL rows out p = some x ↔ madeQ (clsL rows) (prtL rows) out x = true /\ zay (prtL rows) x = p:=by
 unfold prL;constructor
 ·intro e;obtain ⟨r,hr,rfl⟩:=Option.map_eq_some_iff.1 e;have:=List.find?_some hr;simp only [Bool.and_eq_true,decide_eq_true_eq] at this;exact this
 ·rintro ⟨h1,h2⟩;obtain ⟨r,hr,rfl⟩:=zik h1
  cases hf : rows.find? fun x => madeQ (clsL rows) (prtL rows) out x.fr && decide (zay (prtL rows) x.fr = p) with
  | none =>
   have:=List.find?_eq_none.1 hf r hr;simp [h1,h2] at this
  | some q =>
   have:=List.find?_some hf;simp only [Bool.and_eq_true,decide_eq_true_eq] at this;rw [Option.map_some,h.one q.fr r.fr this.1 h1 (this.2.trans h2.symm)]
theorem zmn {y : Int} : 0 < gd (scL rows out) y ↔ ∃ x,madeQ (clsL rows) (prtL rows) out x = true /\ (zay (prtL rows) x).2 = y:=by
 unfold gd scL;split
 ·rename_i h;obtain ⟨r,hr,h1⟩:=List.any_eq_true.1 h;simp only [Bool.and_eq_true,decide_eq_true_eq] at h1;exact ⟨fun _ => ⟨r.fr,h1⟩,fun _ => by simp⟩
 ·rename_i h;constructor
  ·intro h; simp at h
  ·rintro ⟨x,h1,h2⟩;obtain ⟨r,hr,rfl⟩:=zik h1;exact absurd (List.any_eq_true.2 ⟨r,hr,by simp [h1,h2]⟩) h
theorem zlp (h : NewOk rows out) (r : Int) : Ends (fun x => (decH (prtL rows) x).2) r:=zf2 h.ends r
theorem zkf {α : Type} {l : List α} {p : α -> Bool} (h : l.any p = false) : ∀ x ∈ l,p x = false:=by
 intro x hx;rw [List.any_eq_false] at h;simpa using h x hx
theorem new_ok (g : RowsG rows) (h : NewOk rows out) : zmh (clsL rows) (prtL rows) (prL rows out) (scL rows out) where
 cls0:=zh4 fun x hx => (g.v x hx).cl.1
 ch:=fun r hr => cls_hang (fun x hx => (g.v x hx).cl.1) (zkf h.there) hr
 ph:=fun r hr => prt_hang (zkf h.there) (fun x hx => (g.v x hx).le) hr
 ends:=zlp h
 made:=fun x y r hp => by
  obtain ⟨a2,a3⟩:=(zfy h).1 hp;obtain ⟨b1,_,b3,_⟩:=zci a2;rw [a3] at b1;refine ⟨b1,?_,zmn.2 ⟨r,a2,by rw [a3]⟩⟩;have:=zh4 (l:=rows) (fun x hx => (g.v x hx).cl.1) r;omega
def baseF (g : RowsG rows) (h : NewOk rows out) : BaseF:=(new_ok g h).toF
theorem mk_pair (h : NewOk rows out) {ss : List Int} {pr : Int × Int -> Option Int} {md : Int -> Option (Int × Int)} {sc : Int -> Option Int}
  (hM : MkI (madeQ (clsL rows) (prtL rows) out) (zay (prtL rows)) zdb ss false pr md sc) (hall : ∀ x,madeQ (clsL rows) (prtL rows) out x = true -> x ∈ ss) : (∀ p,pr p = prL rows out p) /\ ∀ y,secH sc y = secH (scL rows out) y:=by
 refine ⟨fun p => ?_,fun y => ?_⟩
 ·cases hp : pr p with
  | some x =>
   obtain ⟨_,a2,a3⟩:=hM.pr1 p x hp;exact ((zfy h).2 ⟨a2,a3⟩).symm
  | none =>
   cases hq : prL rows out p with
   | none => rfl
   | some x =>
    obtain ⟨a2,a3⟩:=(zfy h).1 hq;have:=hM.pr2 x (hall x a2) a2;rw [a3,hp] at this
    cases this
 ·unfold secH;congr 1;apply decide_eq_decide.2;have h1:=hM.sc2 y;have h2:=zmn (rows:=rows) (out:=out) (y:=y);unfold gd at h1 h2;rw [h1,h2];constructor
  ·rintro ⟨x,_,h3⟩; exact ⟨x,h3⟩
  ·rintro ⟨x,h3,h4⟩; exact ⟨x,hall x h3,h3,h4⟩
end
theorem nil_ok : zmh (fun _ => 0) (fun _ => none) (fun _ => none) (fun _ => none) where
 cls0:=fun _ => Int.le_refl _
 ch:=fun _ _ => rfl
 ph:=fun _ _ => rfl
 ends:=zf2 fun r h => by cases h
 made:=fun x y r h => by cases h
def nilB : BaseF:=nil_ok.toF
structure zap (B : BaseF) : Prop where
 dec : ∀ r,∀ y ∈ (B.dec r).2,R32 y
 declen : ∀ r,(B.dec r).2.length <= 18
 pair : ∀ x y c,R32 x -> R32 y -> B.pair x y = some c -> R32 c
 len : ∀ c r,(B.one c r).length <= 54
theorem one_le (B : BaseF) (c : Bool) (r : Int) : (B.one c r).length <= (B.one true r).length:=by
 have key : ∀ r,(B.one false r).length <= (B.one true r).length:=fun r => by
  induction r using B.wf.induction with
  | _ r ih =>
   by_cases hp : B.parts false r = []
   ·rw [B.one_none hp];have:=B.one_ne true r;have : 0 < (B.one true r).length:=List.length_pos_iff.2 this;simp only [List.length_singleton];omega
   ·have e : B.parts true r = B.parts false r:=by
     unfold BaseF.parts at hp ⊢
     by_cases h1 : (B.dec r).1 ≠ []
     ·rw [if_pos ⟨h1,rfl⟩] at hp; exact absurd rfl hp
     ·rw [if_neg (by simp at h1 ⊢),if_neg (by simp at h1 ⊢; exact h1)]
    rw [B.one_some hp,B.one_some (by rw [e]; exact hp),e]
    have : ∀ l : List Int,(∀ y ∈ l,y ∈ (B.dec r).2) -> (l.flatMap (B.one false)).length <= (l.flatMap (B.one true)).length:=fun l => by
     induction l with
     | nil => intro _; simp
     | cons x t ih2 =>
      intro h;have h1:=ih x (h x (by simp));have h2:=ih2 fun y hy => h y (by simp [hy]);simp only [List.flatMap_cons,List.length_append];omega
    exact this _ fun y hy => zet hy
 cases c with
 | true => exact Nat.le_refl _
 | false => exact key r
theorem join_R {x y : Int} (h : R32 x) : R32 (joinH x y).1:=by
 have:=joinH_i32 x y (by obtain ⟨h1,h2⟩:=h; omega);unfold R32;omega
theorem splitH_R {r : Int} (h : 44032 <= r /\ r < 55204) : R32 (zx r).1 /\ R32 (zx r).2.1:=by
 unfold zx R32;rw [if_pos h];split <;> simp only [] <;> omega
theorem len_plain (B : BaseF) (h18 : ∀ r,¬ (44032 <= r /\ r < 55204) -> (B.one true r).length <= 18) (hs : ∀ r,44032 <= r /\ r < 55204 -> B.dec r = ([],[(zx r).1,(zx r).2.1])) (r : Int) : (B.one true r).length <= 54:=by
 have two : ∀ r,44032 <= r /\ r < 55204 -> B.one true r = B.one true (zx r).1 ++ B.one true (zx r).2.1:=fun r hr => by
  have hp : B.parts true r = [(zx r).1,(zx r).2.1]:=(by unfold BaseF.parts; rw [hs r hr]; simp);rw [B.one_some (by rw [hp]; simp),hp];simp
 have lv : ∀ r,44032 <= r /\ r < 55204 -> (r - 44032) % 28 = 0 -> (B.one true r).length <= 36:=fun r hr h0 => by
  obtain ⟨e1,e2⟩:=zgi hr h0;rw [two r hr,List.length_append,e1,e2];have a1:=h18 (4352 + (r - 44032) / 588) (by omega);have a2:=h18 (4449 + (r - 44032) / 28 % 21) (by omega);omega
 by_cases hr : 44032 <= r /\ r < 55204
 ·by_cases h0 : (r - 44032) % 28 = 0
  ·have:=lv r hr h0; omega
  ·obtain ⟨e1,e2⟩:=zef hr h0;rw [two r hr,List.length_append,e1,e2];have a1:=lv (r - (r - 44032) % 28) (by omega) (by omega);have a2:=h18 (4519 + (r - 44032) % 28) (by omega);omega
 ·have:=h18 r hr; omega
theorem zn2 {prt : Int -> Option (List UInt8 × List Int)} (h : ∀ r q,prt r = some q -> (∀ y ∈ q.2,R32 y) /\ q.2.length <= 18) (r : Int) : (∀ y ∈ (decH prt r).2,R32 y) /\ (decH prt r).2.length <= 18:=by
 unfold decH;split
 ·rename_i hr;obtain ⟨h1,h2⟩:=splitH_R hr;refine ⟨fun y hy => ?_,by simp⟩;simp at hy;rcases hy with rfl | rfl <;> assumption
 ·cases hp : prt r with
  | none => simp
  | some q => exact h r q hp
theorem pair_bd {pr : Int × Int -> Option Int} (h : ∀ p c,pr p = some c -> R32 c) {x y c : Int} (hx : R32 x) (hc : pairH pr x y = some c) : R32 c:=by
 unfold pairH at hc
 cases hp : pr (x,y) with
 | some q => rw [hp] at hc; injection hc with hc; subst hc; exact h _ _ hp
 | none =>
  rw [hp] at hc;simp only [] at hc;split at hc
  ·injection hc with hc; subst hc; exact join_R hx
  ·cases hc
theorem zm9 {rows : List RowS} {out : List Int} (g : RowsG rows) (h : NewOk rows out) : zap (baseF g h) where
 dec:=fun r => (zn2 (prt:=prtL rows) (fun r q hq => by obtain ⟨_,h1,h2,_⟩:=g.into r q hq; exact ⟨fun y hy => zea (h1 y hy),h2⟩) r).1
 declen:=fun r => (zn2 (prt:=prtL rows) (fun r q hq => by obtain ⟨_,h1,h2,_⟩:=g.into r q hq; exact ⟨fun y hy => zea (h1 y hy),h2⟩) r).2
 pair:=fun x y c hx _ hc => pair_bd (pr:=prL rows out) (fun p c hp => by
  obtain ⟨r,hr,e⟩:=zik ((zfy h).1 hp).1;rw [<- e]
  exact scalar_R (g.v r hr).fr) hx hc
 len:=fun c r => by
  refine Nat.le_trans (one_le _ c r) (len_plain _ (fun r hr => ?_) (fun r hr => ?_) r)
  ·rw [<- lenD_one]
   by_cases hk : (prtL rows r).isSome = true
   ·exact h.few (baseF g h).wf r hk
   ·have hd : (decH (prtL rows) r).2 = []:=by
     rw [zf4 hr]
     cases hq : prtL rows r with
     | none => rfl
     | some q => rw [hq] at hk; exact absurd rfl hk
    have e : ((baseF g h).dec r).2 = []:=hd;rw [zfb,if_pos e];omega
  ·show decH (prtL rows) r = _;unfold decH;rw [if_pos hr]
def zac (w : World) (v : Value) (B : BaseF) : Prop :=
 (v = .pointer none /\ B = nilB) \/ ∃ bp a n cls prt pr md sc,v = .pointer (some ⟨bp,0,none⟩) /\ BaseM w bp a n cls prt pr md sc /\ (∀ r,B.cls r = cls r) /\ (∀ r,B.dec r = decH prt r) /\ (∀ x y,B.pair x y = pairH pr x y) /\ ∀ r,B.sec r = secH sc r
section
variable {w w' : World} {v : Value} {B : BaseF}
theorem zac.below (h : zac w v B) (hb : Below w.heap.size w w') : zac w' v B:=by
 rcases h with h | ⟨bp,a,n,cls,prt,pr,md,sc,h1,h2,h3⟩
 ·exact .inl h
 ·exact .inr ⟨bp,a,n,cls,prt,pr,md,sc,h1,h2.below hb,h3⟩
theorem zcw (h : zac w v B) (r : Int) (hr : R32 r) : Calls Tryz.prog 75 #[v,.int .i32 r] w fun e w' => e = .returned (.int .i64 (B.cls r)) /\ Below w.heap.size w w':=by
 rcases h with ⟨rfl,rfl⟩ | ⟨bp,a,n,cls,prt,pr,md,sc,rfl,h2,h3,_⟩
 ·exact class_nil r w
 ·rw [h3]; exact zhd h2 r hr
theorem decomp_is (h : zac w v B) (r : Int) (hr : R32 r) (hk : Kinds w) : Calls Tryz.prog 73 #[v,.int .i32 r] w (DecP (B.dec r).1 (B.dec r).2 w):=by
 rcases h with ⟨rfl,rfl⟩ | ⟨bp,a,n,cls,prt,pr,md,sc,rfl,h2,_,h3,_⟩
 ·exact decomp_none r w hk
 ·rw [h3]; exact zfd h2 r hr hk
theorem zmt (h : zac w v B) (x y : Int) (hx : R32 x) (hy : R32 y) (hk : Kinds w) : Calls Tryz.prog 76 #[v,.int .i32 x,.int .i32 y] w fun e w' => e = .returned (zc2 (B.pair x y)) /\ Below w.heap.size w w':=by
 rcases h with ⟨rfl,rfl⟩ | ⟨bp,a,n,cls,prt,pr,md,sc,rfl,h2,_,_,h3,_⟩
 ·exact pair_none x y w hx hy hk
 ·rw [h3]; exact zlm h2 x y hx hy hk
theorem sec_is (h : zac w v B) (r : Int) (hr : R32 r) (hk : Kinds w) : Calls Tryz.prog 131 #[v,.int .i32 r] w fun e w' => e = .returned (.bool (B.sec r)) /\ Below w.heap.size w w':=by
 rcases h with ⟨rfl,rfl⟩ | ⟨bp,a,n,cls,prt,pr,md,sc,rfl,h2,_,_,_,h3⟩
 ·exact sec_none r w hr hk
 ·rw [h3]; exact sec_any h2 r hr hk
end
end
end Go.Proofs.YtolcabjkbefjgaaGreatDoor
