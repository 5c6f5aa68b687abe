/- A table of characters: Set. A base in memory, and what is asked of it: the code. Rows taken: what is wrong with them: the code. -/
import Derived.Test.YtolcabjkbefjgaaGreatDoorY13
import Derived.Test.YtolcabjkbefjgaaGreatDoorY16
set_option linter.unusedSimpArgs false
set_option linter.unusedVariables false
set_option maxRecDepth 20000
set_option maxHeartbeats 4000000
namespace Go.Proofs.YtolcabjkbefjgaaGreatDoor
section
open Go.RowKit Go.Lib Go.Maps
theorem int_info : ∃ i,Tryz.prog.info? 3 = some i:=Option.isSome_iff_exists.1 (by kernel_rfl)
theorem int_u : Tryz.prog.underlying 3 = some (.int .i64):=by kernel_rfl
theorem int_c : Tryz.prog.cellsOf 3 = 1:=by kernel_rfl
def allB (g h : Nat -> Int) : Bool:=(List.range 256).all fun i => g i == h i
theorem zj4 (g h : Nat -> Int) (w : World) : (binOp .eql 240 (.agg (zk g).toArray) (.agg (zk h).toArray)).run Tryz.prog w = .ok (.bool (allB g h)) w:=by
 obtain ⟨i,hi⟩:=int_info;exact run_eql_block zb9 int_u hi int_c g h w
theorem znc {g h : Nat -> Int} : allB g h = true ↔ ∀ i,i < 256 -> g i = h i:=by
 unfold allB;rw [List.all_eq_true];constructor
 ·intro H i hi;simpa using H i (List.mem_range.2 hi)
 ·intro H i hi;simpa using H i (List.mem_range.1 hi)
def setT (T : Int -> Int) (lo hi v a : Int) : Int -> Int:=fun r => if lo <= r /\ r <= hi /\ r / 256 < a then v else T r
def blkT (g : Nat -> Int) (lo hi v : Int) (a : Int) : Nat -> Int:=fun j => if lo <= a * 256 + j /\ a * 256 + j <= hi then v else g j
theorem blk_div {a r : Int} (h : r / 256 = a) : a * 256 + ((r % 256).toNat : Int) = r:=by omega
def TabF (T : Int -> Int) (f : Int -> Option (Nat -> Int)) : Prop:=∀ r,R32 r -> T r = if r < 0 then 0 else match f (r / 256) with | some g => g (r % 256).toNat | none => 0
theorem zkl {T : Int -> Int} {f : Int -> Option (Nat -> Int)} {lo hi v a : Int} (h0 : 0 <= lo) (h : TabF (setT T lo hi v a) f) (ha : lo / 256 <= a) :
  TabF (setT T lo hi v (a + 1)) (upd f a (some (blkT ((f a).getD fun _ => 0) lo hi v a))):=by
 intro r hr;have h1:=h r hr;unfold setT at h1 ⊢
 by_cases hn : r < 0
 ·rw [if_pos hn] at h1 ⊢;rw [if_neg (by omega)] at h1 ⊢;exact h1
 ·rw [if_neg hn] at h1 ⊢;unfold upd
  by_cases e : r / 256 = a
  ·rw [if_pos e];simp only [blkT];rw [blk_div e];rw [if_neg (by omega)] at h1
   by_cases hin : lo <= r /\ r <= hi
   ·rw [if_pos hin,if_pos (by omega)]
   ·rw [if_neg hin,if_neg (by omega),h1,e]
    cases f a <;> rfl
  ·rw [if_neg e];rw [<- h1]
   by_cases hin : lo <= r /\ r <= hi /\ r / 256 < a
   ·rw [if_pos hin,if_pos (by omega)]
   ·rw [if_neg hin,if_neg (by omega)]
theorem zmk {T : Int -> Int} {f : Int -> Option (Nat -> Int)} {lo hi v a : Int} (h0 : 0 <= lo) (h : TabF (setT T lo hi v a) f) (ha : lo / 256 <= a) (hz : ∀ i,i < 256 -> blkT ((f a).getD fun _ => 0) lo hi v a i = 0) :
  TabF (setT T lo hi v (a + 1)) (upd f a none):=by
 intro r hr;rw [zkl h0 h ha r hr];split
 ·rfl
 ·unfold upd
  by_cases e : r / 256 = a
  ·rw [if_pos e,if_pos e];exact hz _ (by omega)
  ·rw [if_neg e,if_neg e]
theorem zei {w w5 : World} {row : Option Nat} (h : w.drew.grownBy w5 row) : w.grownBy w5 row:=⟨h.os,h.tape,h.output,h.size,h.block⟩
structure SInv (w : World) (tb mb p9 n : Nat) (T : Int -> Int) (lo hi v a : Int) (wr : World) : Prop where
 tab : ∃ n' f,n' <= n + (a - lo / 256).toNat /\ MapF wr Tryz.prog 21 zn R32 ze2 mb n' f /\ TabF (setT T lo hi v a) f
 box : wr.heap[tb]? = some (.cells #[.int .i64 0,.map (some mb)] 160 (0,0))
 zero : wr.heap[p9]? = some (.cells (zk fun _ => 0).toArray 240 (0,0))
 wrote : Wrote (fun g => g = mb) w wr
theorem trieSet_any {w : World} {tb mb n : Nat} {T : Int -> Int} (h : TabAt w tb mb n T) (lo hi v : Int) (h0 : 0 <= lo) (h1 : lo <= hi) (h2 : hi <= 1114111) (hn : n <= 1000000000) :
  Calls Tryz.prog 69 #[.pointer (some ⟨tb,0,none⟩),.int .i32 lo,.int .i32 hi,.int .i64 v] w fun e w' => e = .returned (.int .i64 0) /\ TabAt w' tb mb (n + 4353) (fun r => if lo <= r /\ r <= hi then v else T r) /\ Wrote (fun g => g = mb) w w':=by
 obtain ⟨hb,f,hm,hT⟩:=h;have c0 : w.cell? ⟨tb,0,none⟩ = some (.int .i64 0):=(by simp [World.cell?,hb]);have PL:=plain_any c0;have hq1 : wrap32 (hi.tdiv 256) = hi / 256:=(by rw [Int.tdiv_eq_ediv_of_nonneg (by omega)]; unfold wrap32; omega);have hq2 : wrap32 (lo.tdiv 256) = lo / 256:=(by rw [Int.tdiv_eq_ediv_of_nonneg (by omega)]; unfold wrap32; omega);have hsz:=zad;have hmt : mb ≠ tb:=hm.ne_cells hb;go_enter Tryz.func69,Tryz.ntmps69;go_wp2_with fail;refine PL.mono ?_;rintro e w1 ⟨rfl,hb1⟩;have hst:=zee w1;have hz9:=heap_alloc_last w1 (.cells (zk fun _ => 0).toArray 240);have hbz : Below w1.heap.size w1 (w1.alloc (.cells (zk fun _ => 0).toArray 240)):=(Below.refl _ _).alloc (Nat.le_refl _) _
 have hS0 : SInv w tb mb w1.heap.size n T lo hi v (lo / 256) (w1.alloc (.cells (zk fun _ => 0).toArray 240)) :=
  ⟨⟨n,f,by omega,(hm.below hb1 hm.lt).below hbz (Nat.lt_of_lt_of_le hm.lt hb1.size),fun r hr => by
    have:=hT r hr;unfold setT;rw [if_neg (by omega)]
    exact this⟩,(hbz.block tb (Nat.lt_of_lt_of_le (Array.getElem?_eq_some_iff.1 hb).1 hb1.size)).trans ((hb1.block tb (Array.getElem?_eq_some_iff.1 hb).1).trans hb),hz9,.of_below (zb hb1 hbz)⟩
 have hp9:=hb1.size;clear PL hz9 hbz hm hT hb c0 hb1;go_wp2;clear hst
 go_loopw [10] (fun i wr => ∃ a : Int,lo / 256 <= a /\ a <= hi / 256 + 1 /\ i = .int .i32 a /\ SInv w tb mb w1.heap.size n T lo hi v a wr) (fun i _ => (hi / 256 + 1 - intOf i).toNat)
 case atStart => exact ⟨lo / 256,by omega,by omega,rfl,hS0⟩
 case round =>
  obtain ⟨wo,rfl⟩ : ∃ wo,wo = wr:=⟨wr,rfl⟩;obtain ⟨a,ha1,ha2,rfl,hS⟩:=hrel
  by_cases hlt : a <= hi / 256
  ·obtain ⟨⟨n',f,hn',hm,hT⟩,hb,hz,hw⟩:=hS;have d1 : wo.cell? ⟨tb,0 + 1,none⟩ = some (.map (some mb)):=(by simp [World.cell?,hb]);have hk : R32 a:=(by unfold R32; omega);have hst:=zee wo;have hw1 : wrap32 (a * 256) = a * 256:=(by unfold wrap32; omega);have hsz2 : ∀ g,(Tryz.prog.info? 240).map (·.size) = some (zk g).toArray.size:=fun g => by rw [zfg]; simp [zad]
   have hbl : Below wo.heap.size wo wo:=Below.refl _ _;obtain ⟨g,hg⟩ : ∃ g,g = (f a).getD fun _ => 0:=⟨_,rfl⟩;have h11:=heap_alloc_last wo (.cells (zk g).toArray 240);have hbn : Below wo.heap.size wo (wo.alloc (.cells (zk g).toArray 240)):=(Below.refl _ _).alloc (Nat.le_refl _) _;have hp9l : w1.heap.size < wo.heap.size:=(Array.getElem?_eq_some_iff.1 hz).1;have HTAB:=hz0q hT;have HG:=hz0q hg
   have hcase : (f a = none /\ g = fun _ => 0) \/ ∃ g',f a = some g':=by
    cases hf : f a with
    | none => exact .inl ⟨rfl,by rw [hg,hf]; rfl⟩
    | some g' => exact .inr ⟨g',rfl⟩
   clear hT hg;have h110:=heap_alloc_last wo (.cells (zk fun _ => 0).toArray 240);have hbn0 : Below wo.heap.size wo (wo.alloc (.cells (zk fun _ => 0).toArray 240)):=(Below.refl _ _).alloc (Nat.le_refl _) _;have hw2 : wrap32 (a * 256 + 256) = a * 256 + 256:=(by unfold wrap32; omega);have hw3 : wrap32 (a * 256 + 256 - 1) = a * 256 + 256 - 1:=(by unfold wrap32; omega);have hw4 : wrap32 (a * 256 + 255) = a * 256 + 255:=(by unfold wrap32; omega);obtain ⟨j0,hj0⟩ : ∃ j0 : Nat,max lo (a * 256) = a * 256 + j0:=⟨(max lo (a * 256) - a * 256).toNat,by omega⟩;have hj0l : j0 <= 256:=(by omega);have hj1 : a * 256 + (j0 : Int) <= min hi (a * 256 + 255) + 1:=(by omega);rcases hcase.symm with ⟨g',hfs⟩ | ⟨hfn,hg0⟩
   ·obtain rfl : g = g':=(by rw [HG.out,hfs]; rfl);go_wp2_with (first | (at_lookup; refine zj rfl _ _ rfl zh zc0 (zcd _) hm (k:=a) hk rfl rfl ?_; rw [<- HG.out,hfs]) | go_in)
    go_loopw [13] (fun i wi => ∃ (k : Int) (j : Nat),j0 <= j /\ Hid (k = a * 256 + j) /\ k <= min hi (a * 256 + 255) + 1 /\ i = .int .i32 k /\ wi.heap[wo.heap.size]? = some (.cells (zk (fun q => if j0 <= q /\ q < j then v else g q)).toArray 240 (0,0)) /\ Below wo.heap.size wo wi) (fun i _ => (min hi (a * 256 + 255) + 1 - intOf i).toNat)
    case atStart =>
     refine ⟨_,j0,Nat.le_refl _,hz0q rfl,hj1,rfl,?_,hbn⟩;rw [za2 (g:=fun q => if j0 <= q /\ q < j0 then v else g q) (h:=g) (fun q _ => if_neg (by omega))];exact h11
    case round =>
     obtain ⟨k,j,hj2,HK,hj3,rfl,h12,hbi⟩:=hrel
     by_cases hjl : k <= min hi (a * 256 + 255)
     ·have hkj:=HK.out;have hj256 : j < 256:=(by omega);have i1 : (j : Int) < 256:=(by omega);have i2 : (0 : Int) <= (j : Int):=(by omega);have hm5 : k.tmod 256 = (j : Int):=(by rw [Int.tmod_eq_emod_of_nonneg (by omega)]; omega);have hm7 : (k.tmod 256).toNat = j:=(by rw [hm5]; omega);have i3 : 0 <= k.tmod 256:=(by rw [hm5]; exact i2);have i4 : k.tmod 256 < 256:=(by rw [hm5]; exact i1);have hm2 : wrap32 (k + 1) = k + 1:=(by unfold wrap32; omega);obtain ⟨z0,e0⟩ : ∃ z0,wr.cell? ⟨wo.heap.size,(k.tmod 256).toNat,none⟩ = some (.int .i64 z0):=⟨_,by rw [hm7]; exact zfh h12 hj256⟩;have e1 : wr.frozen? ⟨wo.heap.size,(k.tmod 256).toNat,none⟩ = false:=zdh h12 _;have h13:=zhf h12 hj256 v;have hb2 : Below wo.heap.size wo (wr.setCell ⟨wo.heap.size,(k.tmod 256).toNat,none⟩ (.int .i64 v)):=hbi.setCell (p:=⟨wo.heap.size,(k.tmod 256).toNat,none⟩) (Nat.le_refl _) _
      rw [za2 (h:=fun q => if j0 <= q /\ q < j + 1 then v else g q) (fun q _ => by
       by_cases e : q = j
       ·rw [if_pos e,if_pos (by omega)]
       ·rw [if_neg e]
        by_cases e2 : j0 <= q /\ q < j
        ·rw [if_pos e2,if_pos (by omega)]
        ·rw [if_neg e2,if_neg (by omega)])] at h13
      have h14 : (wr.setCell ⟨wo.heap.size,(k.tmod 256).toNat,none⟩ (.int .i64 v)).heap[wo.heap.size]? = some (.cells (zk fun q => if j0 <= q /\ q < j + 1 then v else g q).toArray 240 (0,0)):=(by rw [hm7]; exact h13);have HK2 : Hid (k + 1 = a * 256 + ((j + 1 : Nat) : Int)):=(by show _ = _; omega);have hk4 : k + 1 <= min hi (a * 256 + 255) + 1:=(by omega);have hj4 : j0 <= j + 1:=(by omega);clear h12 hbi h11 h110 hbn hbn0 hm hz hb hw d1 hst hkj hm5 hm7 h13 i1 i2 hj1 hj0 hj0l;go_wp2;go_roundw
      case rel => exact ⟨k + 1,j + 1,hj4,HK2,hk4,by rw [hm2],h14,hb2⟩
      case measure => rw [hm2]; simp [intOf]; omega
     ·have hkj:=HK.out;have hke : k = min hi (a * 256 + 255) + 1:=(by omega);have hkle : min hi (a * 256 + 255) < k:=by omega
      have h15 : wr.heap[wo.heap.size]? = some (.cells (zk (blkT g lo hi v a)).toArray 240 (0,0)):=by
       rw [h12];congr 3;refine za2 fun q hq => ?_;unfold blkT
       by_cases e : j0 <= q /\ q < j
       ·rw [if_pos e,if_pos (by omega)]
       ·rw [if_neg e,if_neg (by omega)]
      have hzr : wr.heap[w1.heap.size]? = some (.cells (zk fun _ => 0).toArray 240 (0,0)):=(hbi.block _ hp9l).trans hz;have htl : tb < wo.heap.size:=(Array.getElem?_eq_some_iff.1 hb).1;have hbr:=(hbi.block tb htl).trans hb;have d2 : wr.cell? ⟨tb,0 + 1,none⟩ = some (.map (some mb)):=(by simp [World.cell?,hbr]);have hmr:=hm.below hbi hm.lt;have hmp : mb ≠ w1.heap.size:=hm.ne_cells hz;have heql:=fun w => zj4 (blkT g lo hi v a) (fun _ => 0) w;have hw5 : wrap32 (a + 1) = a + 1:=(by unfold wrap32; omega);have ha3 : lo / 256 <= a + 1:=(by omega);have ha4 : a + 1 <= hi / 256 + 1:=(by omega);have hmle : n' + 1 <= n + (a + 1 - lo / 256).toNat:=by omega
      have HST : Hid (∀ w5,wr.grownBy w5 (some mb) -> w5.heap[tb]? = some (.cells #[.int .i64 0,.map (some mb)] 160 (0,0)) /\ w5.heap[w1.heap.size]? = some (.cells (zk fun _ => 0).toArray 240 (0,0)) /\ Wrote (fun g => g = mb) w w5):=fun w5 hg5 =>
       ⟨(hg5.block tb (Nat.lt_of_lt_of_le htl hbi.size) (fun e => hmt (by injection e with e; exact e.symm))).trans hbr,(hg5.block _ (Nat.lt_of_lt_of_le hp9l hbi.size) (fun e => hmp (by injection e with e; exact e.symm))).trans hzr,(hw.then_below hbi).trans (Wrote.grown hg5 fun k hk => by injection hk with hk; exact hk.symm)⟩
      have HB:=hz0q hbi;have HNE : Hid (mb ≠ wo.heap.size):=fun e => by have:=hm.lt; omega
      cases hall : allB (blkT g lo hi v a) (fun _ => 0) with
      | true =>
       rw [hall] at heql;have HZ:=hz0q (znc.1 hall);clear h12 hbi h11 h110 hbn hbn0 hm hz hb hw d1 hst hkj hj1 hj0 hj0l hall hke hbr hmp;go_wp2_with (first | (refine zag rfl rfl zb9 (hsz2 _) h15 rfl ?_) | (refine zag rfl rfl zb9 (hsz2 _) hzr rfl ?_) | (at_delete; refine zf8 rfl _ _ rfl zh zc0 hmr (k:=a) hk rfl rfl ?_; intro w5 hm5 hg5 hs5) | go_in)
       obtain ⟨k1,k2,k3⟩:=HST.out _ hg5;have hS5 : SInv w tb mb w1.heap.size n T lo hi v (a + 1) w5:=⟨⟨n',_,by omega,hm5,zmk h0 HTAB.out ha1 (by rw [<- HG.out]; exact HZ.out)⟩,k1,k2,k3⟩;clear hm5 hg5 hmr h15 hzr k1 k2 k3 d2;go_roundw
       case rel => exact ⟨a + 1,ha3,ha4,by first | rfl | rw [hw5],hS5⟩
       case measure => (try rw [hw5]); simp [intOf]; omega
      | false =>
       rw [hall] at heql;clear h12 hbi h11 h110 hbn hbn0 hm hz hb hw d1 hst hkj hj1 hj0 hj0l hall hke hbr hmp;go_wp2_with (first | (refine zag rfl rfl zb9 (hsz2 _) h15 rfl ?_) | (refine zag rfl rfl zb9 (hsz2 _) hzr rfl ?_) | go_in)
       have h15d : wr.drew.heap[wo.heap.size]? = some (.cells (zk (blkT g lo hi v a)).toArray 240 (0,0)):=h15;have hmd : MapF wr.drew Tryz.prog 21 zn R32 ze2 mb n' f:=hmr.at rfl;have hmx : n' < maxLen:=(by unfold maxLen; omega);clear h15 hmr hzr;refine wp_region_held_drew (S:=fun w' => w'.heap[wo.heap.size]? = some (.cells (zk (blkT g lo hi v a)).toArray 240 (0,0)) /\ w'.cell? ⟨tb,0 + 1,none⟩ = some (.map (some mb))) (by kernel_rfl) ⟨h15d,d2⟩ (fun hH => ?_);refine wpAnyH_take (i:=0) (v:=.pointer (some ⟨tb,0,none⟩)) rfl (by kernel_rfl) (by kernel_rfl) (by kernel_rfl) (fun _ _ _ h => h) (Or.inl ⟨by kernel_rfl,?_⟩) hH ?_
       ·rintro w ⟨hw1,hw2⟩;go_simp
        all_goals try with_reducible rfl
       try simp only [gA,gB,gC,Act.put,gD,gE,gF]
       refine wpAnyH_take (i:=1) (v:=.pointer (some ⟨tb,0,none⟩)) rfl (by kernel_rfl) (by kernel_rfl) (by kernel_rfl) (fun _ _ _ h => h) (Or.inl ⟨by kernel_rfl,?_⟩) hH ?_
       ·rintro w ⟨hw1,hw2⟩;go_simp
        all_goals try with_reducible rfl
       try simp only [gA,gB,gC,Act.put,gD,gE,gF]
       refine wpAnyH_take (i:=2) (v:=.pointer (some ⟨tb,0 + 1,none⟩)) rfl (by kernel_rfl) (by kernel_rfl) (by kernel_rfl) (fun _ _ _ h => h) (Or.inl ⟨by kernel_rfl,?_⟩) hH ?_
       ·rintro w ⟨hw1,hw2⟩;go_simp
        all_goals try with_reducible rfl
       try simp only [gA,gB,gC,Act.put,gD,gE,gF]
       refine wpAnyH_take (i:=3) (v:=.map (some mb)) rfl (by kernel_rfl) (by kernel_rfl) (by kernel_rfl) (fun _ _ _ h => h) (Or.inl ⟨by kernel_rfl,?_⟩) hH ?_
       ·rintro w ⟨hw1,hw2⟩;go_simp
        all_goals try with_reducible rfl
       try simp only [gA,gB,gC,Act.put,gD,gE,gF]
       refine wpAnyH_take (i:=4) (v:=.int .i32 a) rfl (by kernel_rfl) (by kernel_rfl) (by kernel_rfl) (fun _ _ _ h => h) (Or.inl ⟨by kernel_rfl,?_⟩) hH ?_
       ·rintro w ⟨hw1,hw2⟩;go_simp
        all_goals try with_reducible rfl
       try simp only [gA,gB,gC,Act.put,gD,gE,gF]
       refine wpAnyH_take (i:=5) (v:=.agg (zk (blkT g lo hi v a)).toArray) rfl (by kernel_rfl) (by kernel_rfl) (by kernel_rfl) (fun _ _ _ h => h) (Or.inl ⟨by kernel_rfl,?_⟩) hH ?_
       ·rintro w ⟨hw1,hw2⟩;exact zh2 rfl zb9 (hsz2 _) hw1 rfl
       try simp only [gA,gB,gC,Act.put,gD,gE,gF]
       refine wpAnyH_ready (rs:=[6]) (by kernel_rfl) (by simp) ?_;refine AllReadyH.cons rfl (fun K hK => ?_) AllReadyH.nil;refine za6 rfl _ _ _ rfl zh zc0 hmx hmd (k:=a) hk (blkT g lo hi v a) rfl rfl rfl ?_;intro w5 hm5 hg5 hs5;have hgw:=zei hg5;refine hK.out _ _ ⟨(hgw.block _ (Array.getElem?_eq_some_iff.1 h15d).1 (fun e => HNE.out (by injection e with e; exact e.symm))).trans h15d,(World.cell?_of_block (hgw.block tb (World.block_lt_of_cell? _ _ d2) (fun e => hmt (by injection e with e; exact e.symm)))).trans d2⟩ (fun _ => ?_);clear hK K;try simp only [gA,gB,gC,Act.put,gD,gE,gF]
       refine wpAnyH_done (by kernel_rfl) ?_ _;obtain ⟨k1,k2,k3⟩:=HST.out w5 hgw;have hS5 : SInv w tb mb w1.heap.size n T lo hi v (a + 1) w5:=⟨⟨n' + 1,_,by omega,hm5,by rw [HG.out]; exact zkl h0 HTAB.out ha1⟩,k1,k2,k3⟩;clear hm5 hg5 hmd h15d k1 k2 k3 d2 hgw hH;go_wp2;go_roundw
       case rel => exact ⟨a + 1,ha3,ha4,by first | rfl | rw [hw5],hS5⟩
       case measure => (try rw [hw5]); simp [intOf]; omega
   ·have hgz : zk (fun _ => 0) = zk g:=(by rw [hg0]);have HGZ : Hid (wo.alloc (.cells (zk fun _ => 0).toArray 240) = wo.alloc (.cells (zk g).toArray 240)):=(by show _ = _; rw [hgz]);clear hgz hg0;go_wp2_with (first | (at_lookup; refine zj rfl _ _ rfl zh zc0 (zcd _) hm (k:=a) hk rfl rfl ?_; rw [hfn]) | (refine zag rfl rfl zb9 (hsz2 _) ((hbn.block w1.heap.size hp9l).trans hz) rfl ?_) | (refine zco rfl rfl (hsz2 _) (by simp [zad]) (zfj _) h11 rfl rfl ?_; rw [World.setRow_alloc_new,HGZ.out]) | (refine zco rfl rfl (hsz2 _) (by simp [zad]) (zfj _) h110 rfl rfl ?_; rw [World.setRow_alloc_new,HGZ.out]) | go_in)
    go_loopw [13] (fun i wi => ∃ (k : Int) (j : Nat),j0 <= j /\ Hid (k = a * 256 + j) /\ k <= min hi (a * 256 + 255) + 1 /\ i = .int .i32 k /\ wi.heap[wo.heap.size]? = some (.cells (zk (fun q => if j0 <= q /\ q < j then v else g q)).toArray 240 (0,0)) /\ Below wo.heap.size wo wi) (fun i _ => (min hi (a * 256 + 255) + 1 - intOf i).toNat)
    case atStart =>
     refine ⟨_,j0,Nat.le_refl _,hz0q rfl,hj1,rfl,?_,hbn⟩;rw [za2 (g:=fun q => if j0 <= q /\ q < j0 then v else g q) (h:=g) (fun q _ => if_neg (by omega))];exact h11
    case round =>
     obtain ⟨k,j,hj2,HK,hj3,rfl,h12,hbi⟩:=hrel
     by_cases hjl : k <= min hi (a * 256 + 255)
     ·have hkj:=HK.out;have hj256 : j < 256:=(by omega);have i1 : (j : Int) < 256:=(by omega);have i2 : (0 : Int) <= (j : Int):=(by omega);have hm5 : k.tmod 256 = (j : Int):=(by rw [Int.tmod_eq_emod_of_nonneg (by omega)]; omega);have hm7 : (k.tmod 256).toNat = j:=(by rw [hm5]; omega);have i3 : 0 <= k.tmod 256:=(by rw [hm5]; exact i2);have i4 : k.tmod 256 < 256:=(by rw [hm5]; exact i1);have hm2 : wrap32 (k + 1) = k + 1:=(by unfold wrap32; omega);obtain ⟨z0,e0⟩ : ∃ z0,wr.cell? ⟨wo.heap.size,(k.tmod 256).toNat,none⟩ = some (.int .i64 z0):=⟨_,by rw [hm7]; exact zfh h12 hj256⟩;have e1 : wr.frozen? ⟨wo.heap.size,(k.tmod 256).toNat,none⟩ = false:=zdh h12 _;have h13:=zhf h12 hj256 v;have hb2 : Below wo.heap.size wo (wr.setCell ⟨wo.heap.size,(k.tmod 256).toNat,none⟩ (.int .i64 v)):=hbi.setCell (p:=⟨wo.heap.size,(k.tmod 256).toNat,none⟩) (Nat.le_refl _) _
      rw [za2 (h:=fun q => if j0 <= q /\ q < j + 1 then v else g q) (fun q _ => by
       by_cases e : q = j
       ·rw [if_pos e,if_pos (by omega)]
       ·rw [if_neg e]
        by_cases e2 : j0 <= q /\ q < j
        ·rw [if_pos e2,if_pos (by omega)]
        ·rw [if_neg e2,if_neg (by omega)])] at h13
      have h14 : (wr.setCell ⟨wo.heap.size,(k.tmod 256).toNat,none⟩ (.int .i64 v)).heap[wo.heap.size]? = some (.cells (zk fun q => if j0 <= q /\ q < j + 1 then v else g q).toArray 240 (0,0)):=(by rw [hm7]; exact h13);have HK2 : Hid (k + 1 = a * 256 + ((j + 1 : Nat) : Int)):=(by show _ = _; omega);have hk4 : k + 1 <= min hi (a * 256 + 255) + 1:=(by omega);have hj4 : j0 <= j + 1:=(by omega);clear h12 hbi h11 h110 hbn hbn0 hm hz hb hw d1 hst hkj hm5 hm7 h13 i1 i2 hj1 hj0 hj0l;go_wp2;go_roundw
      case rel => exact ⟨k + 1,j + 1,hj4,HK2,hk4,by rw [hm2],h14,hb2⟩
      case measure => rw [hm2]; simp [intOf]; omega
     ·have hkj:=HK.out;have hke : k = min hi (a * 256 + 255) + 1:=(by omega);have hkle : min hi (a * 256 + 255) < k:=by omega
      have h15 : wr.heap[wo.heap.size]? = some (.cells (zk (blkT g lo hi v a)).toArray 240 (0,0)):=by
       rw [h12];congr 3;refine za2 fun q hq => ?_;unfold blkT
       by_cases e : j0 <= q /\ q < j
       ·rw [if_pos e,if_pos (by omega)]
       ·rw [if_neg e,if_neg (by omega)]
      have hzr : wr.heap[w1.heap.size]? = some (.cells (zk fun _ => 0).toArray 240 (0,0)):=(hbi.block _ hp9l).trans hz;have htl : tb < wo.heap.size:=(Array.getElem?_eq_some_iff.1 hb).1;have hbr:=(hbi.block tb htl).trans hb;have d2 : wr.cell? ⟨tb,0 + 1,none⟩ = some (.map (some mb)):=(by simp [World.cell?,hbr]);have hmr:=hm.below hbi hm.lt;have hmp : mb ≠ w1.heap.size:=hm.ne_cells hz;have heql:=fun w => zj4 (blkT g lo hi v a) (fun _ => 0) w;have hw5 : wrap32 (a + 1) = a + 1:=(by unfold wrap32; omega);have ha3 : lo / 256 <= a + 1:=(by omega);have ha4 : a + 1 <= hi / 256 + 1:=(by omega);have hmle : n' + 1 <= n + (a + 1 - lo / 256).toNat:=by omega
      have HST : Hid (∀ w5,wr.grownBy w5 (some mb) -> w5.heap[tb]? = some (.cells #[.int .i64 0,.map (some mb)] 160 (0,0)) /\ w5.heap[w1.heap.size]? = some (.cells (zk fun _ => 0).toArray 240 (0,0)) /\ Wrote (fun g => g = mb) w w5):=fun w5 hg5 =>
       ⟨(hg5.block tb (Nat.lt_of_lt_of_le htl hbi.size) (fun e => hmt (by injection e with e; exact e.symm))).trans hbr,(hg5.block _ (Nat.lt_of_lt_of_le hp9l hbi.size) (fun e => hmp (by injection e with e; exact e.symm))).trans hzr,(hw.then_below hbi).trans (Wrote.grown hg5 fun k hk => by injection hk with hk; exact hk.symm)⟩
      have HB:=hz0q hbi;have HNE : Hid (mb ≠ wo.heap.size):=fun e => by have:=hm.lt; omega
      cases hall : allB (blkT g lo hi v a) (fun _ => 0) with
      | true =>
       rw [hall] at heql;have HZ:=hz0q (znc.1 hall);clear h12 hbi h11 h110 hbn hbn0 hm hz hb hw d1 hst hkj hj1 hj0 hj0l hall hke hbr hmp;go_wp2_with (first | (refine zag rfl rfl zb9 (hsz2 _) h15 rfl ?_) | (refine zag rfl rfl zb9 (hsz2 _) hzr rfl ?_) | (at_delete; refine zf8 rfl _ _ rfl zh zc0 hmr (k:=a) hk rfl rfl ?_; intro w5 hm5 hg5 hs5) | go_in)
       obtain ⟨k1,k2,k3⟩:=HST.out _ hg5;have hS5 : SInv w tb mb w1.heap.size n T lo hi v (a + 1) w5:=⟨⟨n',_,by omega,hm5,zmk h0 HTAB.out ha1 (by rw [<- HG.out]; exact HZ.out)⟩,k1,k2,k3⟩;clear hm5 hg5 hmr h15 hzr k1 k2 k3 d2;go_roundw
       case rel => exact ⟨a + 1,ha3,ha4,by first | rfl | rw [hw5],hS5⟩
       case measure => (try rw [hw5]); simp [intOf]; omega
      | false =>
       rw [hall] at heql;clear h12 hbi h11 h110 hbn hbn0 hm hz hb hw d1 hst hkj hj1 hj0 hj0l hall hke hbr hmp;go_wp2_with (first | (refine zag rfl rfl zb9 (hsz2 _) h15 rfl ?_) | (refine zag rfl rfl zb9 (hsz2 _) hzr rfl ?_) | go_in)
       have h15d : wr.drew.heap[wo.heap.size]? = some (.cells (zk (blkT g lo hi v a)).toArray 240 (0,0)):=h15;have hmd : MapF wr.drew Tryz.prog 21 zn R32 ze2 mb n' f:=hmr.at rfl;have hmx : n' < maxLen:=(by unfold maxLen; omega);clear h15 hmr hzr;refine wp_region_held_drew (S:=fun w' => w'.heap[wo.heap.size]? = some (.cells (zk (blkT g lo hi v a)).toArray 240 (0,0)) /\ w'.cell? ⟨tb,0 + 1,none⟩ = some (.map (some mb))) (by kernel_rfl) ⟨h15d,d2⟩ (fun hH => ?_);refine wpAnyH_take (i:=0) (v:=.pointer (some ⟨tb,0,none⟩)) rfl (by kernel_rfl) (by kernel_rfl) (by kernel_rfl) (fun _ _ _ h => h) (Or.inl ⟨by kernel_rfl,?_⟩) hH ?_
       ·rintro w ⟨hw1,hw2⟩;go_simp
        all_goals try with_reducible rfl
       try simp only [gA,gB,gC,Act.put,gD,gE,gF]
       refine wpAnyH_take (i:=1) (v:=.pointer (some ⟨tb,0,none⟩)) rfl (by kernel_rfl) (by kernel_rfl) (by kernel_rfl) (fun _ _ _ h => h) (Or.inl ⟨by kernel_rfl,?_⟩) hH ?_
       ·rintro w ⟨hw1,hw2⟩;go_simp
        all_goals try with_reducible rfl
       try simp only [gA,gB,gC,Act.put,gD,gE,gF]
       refine wpAnyH_take (i:=2) (v:=.pointer (some ⟨tb,0 + 1,none⟩)) rfl (by kernel_rfl) (by kernel_rfl) (by kernel_rfl) (fun _ _ _ h => h) (Or.inl ⟨by kernel_rfl,?_⟩) hH ?_
       ·rintro w ⟨hw1,hw2⟩;go_simp
        all_goals try with_reducible rfl
       try simp only [gA,gB,gC,Act.put,gD,gE,gF]
       refine wpAnyH_take (i:=3) (v:=.map (some mb)) rfl (by kernel_rfl) (by kernel_rfl) (by kernel_rfl) (fun _ _ _ h => h) (Or.inl ⟨by kernel_rfl,?_⟩) hH ?_
       ·rintro w ⟨hw1,hw2⟩;go_simp
        all_goals try with_reducible rfl
       try simp only [gA,gB,gC,Act.put,gD,gE,gF]
       refine wpAnyH_take (i:=4) (v:=.int .i32 a) rfl (by kernel_rfl) (by kernel_rfl) (by kernel_rfl) (fun _ _ _ h => h) (Or.inl ⟨by kernel_rfl,?_⟩) hH ?_
       ·rintro w ⟨hw1,hw2⟩;go_simp
        all_goals try with_reducible rfl
       try simp only [gA,gB,gC,Act.put,gD,gE,gF]
       refine wpAnyH_take (i:=5) (v:=.agg (zk (blkT g lo hi v a)).toArray) rfl (by kernel_rfl) (by kernel_rfl) (by kernel_rfl) (fun _ _ _ h => h) (Or.inl ⟨by kernel_rfl,?_⟩) hH ?_
       ·rintro w ⟨hw1,hw2⟩;exact zh2 rfl zb9 (hsz2 _) hw1 rfl
       try simp only [gA,gB,gC,Act.put,gD,gE,gF]
       refine wpAnyH_ready (rs:=[6]) (by kernel_rfl) (by simp) ?_;refine AllReadyH.cons rfl (fun K hK => ?_) AllReadyH.nil;refine za6 rfl _ _ _ rfl zh zc0 hmx hmd (k:=a) hk (blkT g lo hi v a) rfl rfl rfl ?_;intro w5 hm5 hg5 hs5;have hgw:=zei hg5;refine hK.out _ _ ⟨(hgw.block _ (Array.getElem?_eq_some_iff.1 h15d).1 (fun e => HNE.out (by injection e with e; exact e.symm))).trans h15d,(World.cell?_of_block (hgw.block tb (World.block_lt_of_cell? _ _ d2) (fun e => hmt (by injection e with e; exact e.symm)))).trans d2⟩ (fun _ => ?_);clear hK K;try simp only [gA,gB,gC,Act.put,gD,gE,gF]
       refine wpAnyH_done (by kernel_rfl) ?_ _;obtain ⟨k1,k2,k3⟩:=HST.out w5 hgw;have hS5 : SInv w tb mb w1.heap.size n T lo hi v (a + 1) w5:=⟨⟨n' + 1,_,by omega,hm5,by rw [HG.out]; exact zkl h0 HTAB.out ha1⟩,k1,k2,k3⟩;clear hm5 hg5 hmd h15d k1 k2 k3 d2 hgw hH;go_wp2;go_roundw
       case rel => exact ⟨a + 1,ha3,ha4,by first | rfl | rw [hw5],hS5⟩
       case measure => (try rw [hw5]); simp [intOf]; omega
  ·have hlt' : hi / 256 < a:=(by omega);obtain ⟨⟨n',f,hn',hm,hT⟩,hb,hz,hw⟩:=hS
   have HT : Hid (TabAt wo tb mb (n + 4353) (fun r => if lo <= r /\ r <= hi then v else T r)):=by
    refine ⟨hb,f,hm.mono (by omega),fun r hr => ?_⟩;have:=hT r hr;unfold setT at this;refine Eq.trans ?_ this;show (if lo <= r /\ r <= hi then v else T r) = _
    by_cases hin : lo <= r /\ r <= hi
    ·rw [if_pos hin,if_pos (by omega)]
    ·rw [if_neg hin,if_neg (by omega)]
   clear hm hT hb hz;go_wp2;go_returns;exact ⟨rfl,HT.out,hw⟩
end
section
open Go.RowKit Go.Lib Go.Maps
theorem zn9 (zs : List Int) : ∀ u ∈ Rs zs,u.oneCell' = true:=zi7 .i32 zs
def zne (n : Nat) (zs : List Int) (w : World) (e : Ending) (w' : World) : Prop:=∃ A' c',e = .returned (.slice A' n c') /\ w'.ownsRow w.heap.size 21 1 (.slice A' n c') n (Rs zs) /\ Below w.heap.size w w'
theorem zdv (A : Option Addr) (n c : Nat) (zs : List Int) (w : World) (hr : Rd w A n (Rs zs)) (hnil : A = none -> n = 0 /\ c = 0) (hn : n <= 20000000) :
  Calls Tryz.prog 85 #[.slice A n c] w (zne n zs w):=by
 have hll : zs.length = n:=by have:=hr.1; simpa [Rs] using this
 cases A with
 | none =>
  obtain ⟨rfl,rfl⟩:=hnil rfl;have : zs = []:=List.eq_nil_of_length_eq_zero hll;subst this;have hcmp:=fun w => Lib.run_eql_slice_nil (P:=Tryz.prog) w 42 21 none 0 0 0 0 Tryz.underlying42;simp only [Option.isNone] at hcmp;go_enter Tryz.func85,Tryz.ntmps85;go_wp2;go_returns;exact ⟨none,0,rfl,World.ownsRow_nil _ _ _ _,Below.refl _ _⟩
 | some a =>
  have hbn : Below w.heap.size w (w.alloc (.cells #[] 21)):=(Below.refl _ _).alloc (Nat.le_refl _) _;have hown0 : (w.alloc (.cells #[] 21)).ownsRow w.heap.size 21 1 (.slice (some ⟨w.heap.size,0,none⟩) 0 0) 0 []:=⟨rfl,.inr ⟨w.heap.size,0,#[],rfl,Nat.le_refl _,zm _ _ _,Nat.le_refl _,Nat.zero_le _,rfl,rfl⟩⟩;have hrb:=hr.below hbn;have hone:=zn9 zs;clear hnil hr;have hcmp:=fun w => Lib.run_eql_slice_nil (P:=Tryz.prog) w 42 21 (some a) n c 0 0 Tryz.underlying42;simp only [Option.isNone] at hcmp;go_enter Tryz.func85,Tryz.ntmps85;go_wp2_with (at_builtin; refine zak zal _ rfl _ _ rfl w.heap.size rfl hown0 rfl hrb hone (by simp; omega) (by omega) (by simp) ?_)
  intro A2 c2 w4 hown4 hg4 hat4;have hb4:=ze4 hbn (by simp) hown0 hg4;have hown5 : w4.ownsRow w.heap.size 21 1 (.slice A2 n c2) n (Rs zs):=(by simpa using hown4);clear hown4 hg4 hat4 hown0 hrb hone;go_wp2;go_returns;exact ⟨A2,c2,by simp <;> rfl,hown5,hb4⟩
abbrev PV:=List UInt8 × Option Addr × Nat × Nat
abbrev partV (p : PV) : Value:=.agg #[.string (mk8 p.1),.slice p.2.1 p.2.2.1 p.2.2.2]
abbrev intV (x : Int) : Value:=.int .i64 x
theorem zll : Tryz.prog.underlying 76 = some (.map 21 165):=by kernel_rfl
theorem zms : Tryz.prog.underlying 77 = some (.map 173 21):=by kernel_rfl
theorem madeT : Tryz.prog.underlying 78 = some (.map 21 173):=by kernel_rfl
theorem secsT : Tryz.prog.underlying 79 = some (.map 21 3):=by kernel_rfl
theorem zero_part (w : World) : (zeroValue 165).run Tryz.prog w = .ok (partV ([],none,0,0)) w:=by kernel_rfl
theorem zf5 (w : World) : (zeroValue 21).run Tryz.prog w = .ok (runeV 0) w:=by kernel_rfl
theorem zero_two (w : World) : (zeroValue 173).run Tryz.prog w = .ok (pairV (0,0)) w:=by kernel_rfl
theorem zaw (w : World) : (zeroValue 3).run Tryz.prog w = .ok (intV 0) w:=by kernel_rfl
theorem ze9 : KeyB Tryz.prog 173 pairV zc7 R32P:=by
 obtain ⟨m,hm⟩ : ∃ m,Tryz.prog.types.size = m + 1:=⟨Tryz.prog.types.size - 1,by kernel_rfl⟩;exact pairB (e:=21) ⟨by kernel_rfl,by kernel_rfl,by kernel_rfl,by kernel_rfl⟩ (by kernel_rfl) hm
def zec (w : World) : Option PV -> Option (List UInt8 × List Int) -> Prop
 | none,none => True
 | some p,some q => p.1 = q.1 /\ p.2.2.1 = q.2.length /\ q.2.length <= 18 /\ Rd w p.2.1 q.2.length (Rs q.2) /\ (p.2.1 = none -> q.2.length = 0 /\ p.2.2.2 = 0)
 | _,_ => False
theorem zec.below {w w' : World} {p : Option PV} {q : Option (List UInt8 × List Int)} (h : zec w p q) (hb : Below w.heap.size w w') : zec w' p q:=by
 cases p <;> cases q <;> first | exact h | exact ⟨h.1,h.2.1,h.2.2.1,h.2.2.2.1.below hb,h.2.2.2.2⟩
structure BAddr where
 tb : Nat
 mb : Nat
 m1 : Nat
 m2 : Nat
 m3 : Nat
 m4 : Nat
 tn : Nat
structure BaseM (w : World) (bp : Nat) (a : BAddr) (n : Nat) (cls : Int -> Int) (prt : Int -> Option (List UInt8 × List Int)) (pr : Int × Int -> Option Int) (md : Int -> Option (Int × Int)) (sc : Int -> Option Int) : Prop where
 box : w.heap[bp]? = some (.cells #[.pointer (some ⟨a.tb,0,none⟩),.map (some a.m1),.map (some a.m2),.map (some a.m3),.map (some a.m4)] 81 (0,0))
 tab : TabAt w a.tb a.mb a.tn cls
 prt : ∃ f,MapF w Tryz.prog 21 zn R32 partV a.m1 n f /\ ∀ r,R32 r -> zec w (f r) (prt r)
 pr : MapF w Tryz.prog 173 zc7 R32P runeV a.m2 n pr
 md : MapF w Tryz.prog 21 zn R32 pairV a.m3 n md
 sc : MapF w Tryz.prog 21 zn R32 intV a.m4 n sc
section
variable {w w' : World} {bp n : Nat} {a : BAddr} {cls : Int -> Int} {prt : Int -> Option (List UInt8 × List Int)} {pr : Int × Int -> Option Int} {md : Int -> Option (Int × Int)} {sc : Int -> Option Int}
theorem TabAt.below {tb mb : Nat} {T : Int -> Int} (h : TabAt w tb mb n T) (hb : Below w.heap.size w w') : TabAt w' tb mb n T:=by
 obtain ⟨h1,f,h2,h3⟩:=h;exact ⟨zd h1 hb,f,h2.below hb h2.lt,h3⟩
theorem BaseM.below (h : BaseM w bp a n cls prt pr md sc) (hb : Below w.heap.size w w') : BaseM w' bp a n cls prt pr md sc:=by
 obtain ⟨h1,h2,⟨f,h3,h4⟩,h5,h6,h7⟩:=h;exact ⟨zd h1 hb,h2.below hb,⟨f,h3.below hb h3.lt,fun r hr => (h4 r hr).below hb⟩,h5.below hb h5.lt,h6.below hb h6.lt,h7.below hb h7.lt⟩
theorem zhd (h : BaseM w bp a n cls prt pr md sc) (r : Int) (hr : R32 r) : Calls Tryz.prog 75 #[.pointer (some ⟨bp,0,none⟩),.int .i32 r] w fun e w' => e = .returned (.int .i64 (cls r)) /\ Below w.heap.size w w':=by
 have c0:=za h.box 0 rfl;have GT:=trieGet_any h.tab r hr;go_enter Tryz.func75,Tryz.ntmps75;go_wp2_with fail;refine GT.mono ?_;rintro e w1 ⟨rfl,hb⟩;go_wp2;go_returns;exact ⟨rfl,hb⟩
def DecP (kd : List UInt8) (il : List Int) (w : World) (e : Ending) (w' : World) : Prop:=∃ A c,e = .returned (.tuple #[.string (mk8 kd),.slice A il.length c]) /\ w'.ownsRow w.heap.size 21 1 (.slice A il.length c) il.length (Rs il) /\ Below w.heap.size w w'
theorem class_nil (r : Int) (w : World) : Calls Tryz.prog 75 #[.pointer none,.int .i32 r] w fun e w' => e = .returned (.int .i64 0) /\ Below w.heap.size w w':=by
 go_enter Tryz.func75,Tryz.ntmps75;go_wp2;go_returns;exact ⟨rfl,Below.refl _ _⟩
end
def decH (prt : Int -> Option (List UInt8 × List Int)) (r : Int) : List UInt8 × List Int:=if 44032 <= r /\ r < 55204 then ([],[(zx r).1,(zx r).2.1]) else (prt r).getD ([],[])
theorem zhb (v : Value) (r : Int) (w : World) (hk : Kinds w) (hh : 44032 <= r /\ r < 55204) :
  Calls Tryz.prog 73 #[v,.int .i32 r] w (DecP [] [(zx r).1,(zx r).2.1] w):=by
 have SP:=zgj r w hk;have h3 : (zx r).2.2 = true:=(by unfold zx; rw [if_pos hh]; split <;> rfl);rw [h3] at SP;obtain ⟨x,hx⟩ : ∃ x,x = (zx r).1:=⟨_,rfl⟩;obtain ⟨y,hy⟩ : ∃ y,y = (zx r).2.1:=⟨_,rfl⟩;rw [<- hx,<- hy] at SP;rw [<- hx,<- hy];clear h3 hx hy;go_enter Tryz.func73,Tryz.ntmps73;go_wp2_with fail;refine SP.mono ?_;rintro e w1 ⟨rfl,hb⟩
 have hown : (w1.alloc (.cells #[.int .i32 x,.int .i32 y] 21)).ownsRow w.heap.size 21 1 (.slice (some ⟨w1.heap.size,0,none⟩) 2 2) 2 (Rs [x,y]) :=
  ⟨rfl,.inr ⟨w1.heap.size,2,#[.int .i32 x,.int .i32 y],rfl,hb.size,zm _ _ _,Nat.le_refl _,by unfold maxLen; omega,rfl,rfl⟩⟩
 have hb2 : Below w.heap.size w (w1.alloc (.cells #[.int .i32 x,.int .i32 y] 21)):=hb.alloc hb.size _;clear SP hb;go_wp2;go_returns;exact ⟨_,_,rfl,hown,hb2⟩
theorem zhn {r : Int} (hh : ¬ (44032 <= r /\ r < 55204)) : (zx r) = (0,0,false):=by unfold zx; rw [if_neg hh]
theorem decomp_nil (r : Int) (w : World) (hk : Kinds w) (hh : ¬ (44032 <= r /\ r < 55204)) :
  Calls Tryz.prog 73 #[.pointer none,.int .i32 r] w (DecP [] [] w):=by
 have SP:=zgj r w hk;rw [zhn hh] at SP;go_enter Tryz.func73,Tryz.ntmps73;go_wp2_with fail;refine SP.mono ?_;rintro e w1 ⟨rfl,hb⟩;go_wp2;go_returns;exact ⟨none,0,rfl,World.ownsRow_nil _ _ _ _,hb⟩
theorem decomp_no {w : World} {bp n : Nat} {a : BAddr} {cls : Int -> Int} {prt : Int -> Option (List UInt8 × List Int)} {pr : Int × Int -> Option Int} {md : Int -> Option (Int × Int)} {sc : Int -> Option Int} (h : BaseM w bp a n cls prt pr md sc) (r : Int) (hr : R32 r) (hk : Kinds w) (hh : ¬ (44032 <= r /\ r < 55204)) :
  Calls Tryz.prog 73 #[.pointer (some ⟨bp,0,none⟩),.int .i32 r] w (DecP ((prt r).getD ([],[])).1 ((prt r).getD ([],[])).2 w):=by
 have SP:=zgj r w hk;rw [zhn hh] at SP;go_enter Tryz.func73,Tryz.ntmps73;go_wp2_with fail;refine SP.mono ?_;rintro e w1 ⟨rfl,hb⟩;have h1:=h.below hb;have c1:=za h1.box 1 rfl;obtain ⟨f,hm,hP⟩:=h1.prt;have hPr:=hP r hr
 obtain ⟨kd,il,A,c,hg,hq,hrd,hnil,hlen⟩ : ∃ (kd : List UInt8) (il : List Int) (A : Option Addr) (c : Nat),(f r).getD ([],none,0,0) = (kd,A,il.length,c) /\ (prt r).getD ([],[]) = (kd,il) /\ Rd w1 A il.length (Rs il) /\ (A = none -> il.length = 0 /\ c = 0) /\ il.length <= 18:=by
  cases hf : f r with
  | none =>
   cases hp : prt r with
   | none => exact ⟨[],[],none,0,rfl,rfl,Rd.nil _ _,fun _ => ⟨rfl,rfl⟩,by simp⟩
   | some q => rw [hf,hp] at hPr; exact hPr.elim
  | some p =>
   cases hp : prt r with
   | none => rw [hf,hp] at hPr; exact hPr.elim
   | some q =>
    rw [hf,hp] at hPr;obtain ⟨e1,e2,e3,e4,e5⟩:=hPr;obtain ⟨pk,pA,pn,pc⟩:=p;simp only [] at e1 e2 e4 e5;subst e1 e2;exact ⟨q.1,q.2,pA,pc,rfl,rfl,e4,e5,e3⟩
 have HQ:=hz0q hq;have HG:=hz0q hg;clear hq hg hPr hP SP h;go_wp2_with (first | (at_lookup; refine zj rfl _ _ rfl zh zll (zero_part _) hm (k:=r) hr rfl rfl ?_; rw [HG.out]) | go_in)
 have hbn : Below w1.heap.size w1 (w1.alloc (.cells #[.string (mk8 kd),.slice A il.length c] 165)):=(Below.refl _ _).alloc (Nat.le_refl _) _;have hbx:=zm w1 #[.string (mk8 kd),.slice A il.length c] 165;have hrdW:=hrd.below hbn;have hbW:=zb hb hbn;clear hm c1 h1 hrd hb;generalize hgq : w1.heap.size = q at *;generalize (w1.alloc (.cells #[.string (mk8 kd),.slice A il.length c] 165)) = W at *;have hmk : ∀ w' : World,Below W.heap.size W w' -> (w'.cell? ⟨q,0,none⟩ = some (.string (mk8 kd)) /\ w'.cell? ⟨q,1,none⟩ = some (.slice A il.length c)) /\ Below W.heap.size W w':=fun w' h => ⟨⟨za (zd hbx h) 0 rfl,za (zd hbx h) 1 rfl⟩,h⟩;have HMK:=hz0q hmk
 have CL : Hid (∀ w' : World,Below W.heap.size W w' -> Calls Tryz.prog 85 #[.slice A il.length c] w' (fun e w'' => ∃ A' c',e = .returned (.slice A' il.length c') /\ w''.ownsRow W.heap.size 21 1 (.slice A' il.length c') il.length (Rs il) /\ Below w'.heap.size w' w'')):=fun w' h =>
  (zdv A il.length c il w' (hrdW.below h) hnil (by omega)).mono fun e w'' ⟨A',c',h1,h2,h3⟩ => ⟨A',c',h1,zax h2 h.size,h3⟩
 clear hmk hbx hrdW hbn hnil hgq;refine wp_region_held_drew (S:=fun w' => (w'.cell? ⟨q,0,none⟩ = some (.string (mk8 kd)) /\ w'.cell? ⟨q,1,none⟩ = some (.slice A il.length c)) /\ Below W.heap.size W w') (by kernel_rfl) (HMK.out _ (Drew.to ⟨1,rfl⟩)) (fun hH0 => ?_);refine tkH 0 (.pointer (some ⟨q,0,none⟩)) rfl hH0 ?_;try simp only [gA,gB,gC,Act.put,gD,gE,gF]
 refine tkH 1 (.string (mk8 kd)) rfl hH0 ?_;try simp only [gA,gB,gC,Act.put,gD,gE,gF]
 refine tkH 2 (.pointer (some ⟨q,1,none⟩)) rfl hH0 ?_;try simp only [gA,gB,gC,Act.put,gD,gE,gF]
 refine tkH 3 (.slice A il.length c) rfl hH0 ?_;try simp only [gA,gB,gC,Act.put,gD,gE,gF]
 refine wpAnyH_ready (rs:=[4]) (by kernel_rfl) (by simp) ?_;refine AllReadyH.cons rfl (fun K hK => ?_) AllReadyH.nil;go_simp
 refine (CL.out _ hH0.2).mono ?_;rintro e w50 ⟨A',c',rfl,hown5,hb5⟩;refine hK.out _ _ (HMK.out _ (zb hH0.2 hb5)) (fun hH1 => ?_);clear hK K hH0;try simp only [gA,gB,gC,Act.put,gD,gE,gF]
 refine tkH 5 (.string (mk8 kd)) rfl hH1 ?_;try simp only [gA,gB,gC,Act.put,gD,gE,gF]
 refine tkH 6 (.slice A' il.length c') rfl hH1 ?_;try simp only [gA,gB,gC,Act.put,gD,gE,gF]
 refine wpAnyH_done (by kernel_rfl) ?_ _;have hbF:=zb hbW hH1.2;clear hH1;go_wp2;go_returns;rw [HQ.out];exact ⟨A',c',rfl,zax hown5 hbW.size,hbF⟩
theorem zfd {w : World} {bp n : Nat} {a : BAddr} {cls : Int -> Int} {prt : Int -> Option (List UInt8 × List Int)} {pr : Int × Int -> Option Int} {md : Int -> Option (Int × Int)} {sc : Int -> Option Int} (h : BaseM w bp a n cls prt pr md sc) (r : Int) (hr : R32 r) (hk : Kinds w) :
  Calls Tryz.prog 73 #[.pointer (some ⟨bp,0,none⟩),.int .i32 r] w (DecP (decH prt r).1 (decH prt r).2 w):=by
 unfold decH
 by_cases hh : 44032 <= r /\ r < 55204
 ·rw [if_pos hh]; exact zhb _ r w hk hh
 ·rw [if_neg hh]; exact decomp_no h r hr hk hh
theorem decomp_none (r : Int) (w : World) (hk : Kinds w) : Calls Tryz.prog 73 #[.pointer none,.int .i32 r] w (DecP (decH (fun _ => none) r).1 (decH (fun _ => none) r).2 w):=by
 unfold decH
 by_cases hh : 44032 <= r /\ r < 55204
 ·rw [if_pos hh]; exact zhb _ r w hk hh
 ·rw [if_neg hh]; exact decomp_nil r w hk hh
def pairH (pr : Int × Int -> Option Int) (x y : Int) : Option Int:=match pr (x,y) with | some r => some r | none => if (joinH x y).2 = true then some (joinH x y).1 else none
def zc2 (o : Option Int) : Value:=.tuple #[.int .i32 (o.getD 0),.bool o.isSome]
theorem joinH_no {x y : Int} (h : (joinH x y).2 = false) : (joinH x y).1 = 0:=by
 unfold joinH at *;split at h
 ·cases h
 ·split at h
  ·cases h
  ·rename_i h1 h2;rw [if_neg h1,if_neg h2]
theorem zjk (v : Value) {pr : Int × Int -> Option Int} {x y : Int} (h : pr (x,y) = none) : zc2 (pairH pr x y) = .tuple #[.int .i32 (joinH x y).1,.bool (joinH x y).2]:=by
 unfold pairH;rw [h]
 cases hj : (joinH x y).2 with
 | true => rfl
 | false => rw [joinH_no hj]; rfl
theorem zlm {w : World} {bp n : Nat} {a : BAddr} {cls : Int -> Int} {prt : Int -> Option (List UInt8 × List Int)} {pr : Int × Int -> Option Int} {md : Int -> Option (Int × Int)} {sc : Int -> Option Int} (h : BaseM w bp a n cls prt pr md sc) (x y : Int) (hx : R32 x) (hy : R32 y) (hk : Kinds w) :
  Calls Tryz.prog 76 #[.pointer (some ⟨bp,0,none⟩),.int .i32 x,.int .i32 y] w fun e w' => e = .returned (zc2 (pairH pr x y)) /\ Below w.heap.size w w':=by
 have c2:=za h.box 2 rfl;have hm:=h.pr;obtain ⟨hx1,hx2⟩:=hx;obtain ⟨hy1,hy2⟩:=hy;have hxy : R32P (x,y):=⟨⟨hx1,hx2⟩,hy1,hy2⟩
 cases hp : pr (x,y) with
 | some r =>
  have hpo : zc2 (pairH pr x y) = .tuple #[.int .i32 r,.bool true]:=(by unfold pairH; rw [hp]; rfl);rw [hpo];go_enter Tryz.func76,Tryz.ntmps76;go_wp2_with (first | (at_lookup; refine zj rfl _ _ rfl ze9 zms (zf5 _) hm (k:=(x,y)) hxy rfl rfl ?_; rw [hp]) | go_in)
  go_returns;exact ⟨rfl,Below.refl _ _⟩
 | none =>
  rw [zjk (.bool true) hp];have JN:=zd1 x y w hk hx1 (by omega) hy1 (by omega);go_enter Tryz.func76,Tryz.ntmps76;go_wp2_with (first | (at_lookup; refine zj rfl _ _ rfl ze9 zms (zf5 _) hm (k:=(x,y)) hxy rfl rfl ?_; rw [hp]) | (go_at_call 121; refine JN.mono ?_; rintro e w1 ⟨rfl,hb⟩) | go_in)
  go_returns;exact ⟨rfl,hb⟩
theorem pair_none (x y : Int) (w : World) (hx : R32 x) (hy : R32 y) (hk : Kinds w) :
  Calls Tryz.prog 76 #[.pointer none,.int .i32 x,.int .i32 y] w fun e w' => e = .returned (zc2 (pairH (fun _ => none) x y)) /\ Below w.heap.size w w':=by
 obtain ⟨hx1,hx2⟩:=hx;obtain ⟨hy1,hy2⟩:=hy;rw [zjk (.bool true) rfl];have JN:=zd1 x y w hk hx1 (by omega) hy1 (by omega);go_enter Tryz.func76,Tryz.ntmps76;go_wp2_with fail;refine JN.mono ?_;rintro e w1 ⟨rfl,hb⟩;go_wp2;go_returns;exact ⟨rfl,hb⟩
def secH (sc : Int -> Option Int) (r : Int) : Bool:=decide (0 < (sc r).getD 0) || ((joinH 4352 r).2 || (joinH 44032 r).2)
theorem sec_any {w : World} {bp n : Nat} {a : BAddr} {cls : Int -> Int} {prt : Int -> Option (List UInt8 × List Int)} {pr : Int × Int -> Option Int} {md : Int -> Option (Int × Int)} {sc : Int -> Option Int} (h : BaseM w bp a n cls prt pr md sc) (r : Int) (hr : R32 r) (hk : Kinds w) :
  Calls Tryz.prog 131 #[.pointer (some ⟨bp,0,none⟩),.int .i32 r] w fun e w' => e = .returned (.bool (secH sc r)) /\ Below w.heap.size w w':=by
 have c4:=za h.box 4 rfl;have hm:=h.sc;unfold secH;obtain ⟨z,hz⟩ : ∃ z,z = (sc r).getD 0:=⟨_,rfl⟩;rw [<- hz];have HZ:=hz0q hz;clear hz
 by_cases h0 : 0 < z
 ·rw [decide_eq_true h0,Bool.true_or];go_enter Tryz.func131,Tryz.ntmps131;go_wp2_with (first | (at_lookup; refine zfm (by kernel_rfl) _ _ rfl zh secsT (zaw _) hm (k:=r) hr rfl rfl ?_; rw [<- HZ.out]) | go_in)
  go_returns;exact ⟨rfl,Below.refl _ _⟩
 ·have h1 : z <= 0:=(by omega);rw [decide_eq_false h0,Bool.false_or];have J1:=zd1 4352 r w hk (by omega) (by omega) hr.1 (by have:=hr.2; omega);have J2:=fun w1 h => zd1 44032 r w1 (hk.below' h) (by omega) (by omega) hr.1 (by have:=hr.2; omega);obtain ⟨b1,hb1⟩ : ∃ b,b = (joinH 4352 r).2:=⟨_,rfl⟩;obtain ⟨b2,hb2⟩ : ∃ b,b = (joinH 44032 r).2:=⟨_,rfl⟩;rw [<- hb1] at J1;rw [<- hb2] at J2;rw [<- hb1,<- hb2];clear hb1 hb2 h
  cases b1
  all_goals
   go_enter Tryz.func131,Tryz.ntmps131;go_wp2_with (first | (at_lookup; refine zfm (by kernel_rfl) _ _ rfl zh secsT (zaw _) hm (k:=r) hr rfl rfl ?_; rw [<- HZ.out]) | (go_at_call 121; refine J1.mono ?_; rintro e w1 ⟨rfl,hb⟩; have J3:=J2 w1 hb; clear J1 J2) | (go_at_call 121; refine J3.mono ?_; rintro e w2 ⟨rfl,hb3⟩) | go_in)
   go_returns;exact ⟨rfl,zb hb hb3⟩
theorem sec_none (r : Int) (w : World) (hr : R32 r) (hk : Kinds w) :
  Calls Tryz.prog 131 #[.pointer none,.int .i32 r] w fun e w' => e = .returned (.bool (secH (fun _ => none) r)) /\ Below w.heap.size w w':=by
 have he : secH (fun _ => none) r = ((joinH 4352 r).2 || (joinH 44032 r).2):=rfl
 rw [he];have J1:=zd1 4352 r w hk (by omega) (by omega) hr.1 (by have:=hr.2; omega);have J2:=fun w1 h => zd1 44032 r w1 (hk.below' h) (by omega) (by omega) hr.1 (by have:=hr.2; omega);obtain ⟨b1,hb1⟩ : ∃ b,b = (joinH 4352 r).2:=⟨_,rfl⟩;obtain ⟨b2,hb2⟩ : ∃ b,b = (joinH 44032 r).2:=⟨_,rfl⟩;rw [<- hb1] at J1;rw [<- hb2] at J2;rw [<- hb1,<- hb2];clear hb1 hb2 he;go_enter Tryz.func131,Tryz.ntmps131;go_wp2_with fail;refine J1.mono ?_;rintro e w1 ⟨rfl,hb⟩;have J3:=J2 w1 hb;clear J1 J2;go_wp2_with fail;refine J3.mono ?_;rintro e w2 ⟨rfl,hb3⟩;clear J3
 cases b1 <;> (go_wp2; go_returns; exact ⟨rfl,zb hb hb3⟩)
end
section
open Go.RowKit Go.Lib Go.Maps
abbrev rowAV (x : RA) : Value:=.agg #[.int .i32 x.1.fr,.int .i32 x.1.up,.string (mk8 x.1.nm),.string (mk8 x.1.ct),.int .i64 x.1.cl,.string (mk8 x.1.kd),.slice x.2.1 x.1.il.length x.2.2]
theorem rowidx_any (g : FuncId) (en : ∀ args w,(callFunc g args).run Tryz.prog w = .ok (.enter g args) w) (p : RowS -> Bool) (A : Option Addr) (n c : Nat) (os : List RA) (w : World) (hr : zeb w A os) (hol : os.length = n) (hn : n <= 1099511627776)
  (hp : ∀ x ∈ os,∀ W,Below w.heap.size w W -> Calls Tryz.prog g #[rowAV x] W fun e W' => e = .returned (.bool (p x.1)) /\ Below W.heap.size W W') :
  Calls Tryz.prog 112 #[.slice A n c,.func (.func g) #[] #[]] w fun e w' => (∃ k : Int,e = .returned (.int .i64 k) /\ decide (0 <= k) = (os.map (·.1)).any p) /\ Below w.heap.size w w':=by
 have HOL:=hz0q hol;have HP:=hz0q hp;clear hp hol;go_enter Tryz.func112,Tryz.ntmps112;go_wp2
 go_loopw [8] (fun i wr => ∃ k : Nat,k <= n /\ i = .int .i64 k /\ Hid (((os.map (·.1)).take k).any p = false) /\ Below w.heap.size w wr) (fun i _ => n - (intOf i).toNat)
 case atStart => exact ⟨0,Nat.zero_le _,rfl,by show _ = _; rfl,Below.refl _ _⟩
 case round =>
  obtain ⟨k,hk,rfl,HA,hb⟩:=hrel
  by_cases hlt : k < n
  ·obtain ⟨⟨x,Ax,cx⟩,hx⟩ : ∃ x,os[k]? = some x:=⟨_,List.getElem?_eq_getElem (by rw [HOL.out]; exact hlt)⟩;obtain ⟨b,off,rfl,hbl,hc⟩:=(hr.below hb).at_ (by rw [HOL.out]; omega);obtain ⟨c0,c1,c2,c3,c4,c5,c6⟩:=zjc hx hc;have HC:=HP.out _ (List.mem_of_getElem? hx) wr hb;dsimp only [rowAV] at HC;have hLk : (os.map (·.1))[k]? = some x:=by rw [List.getElem?_map,hx]; rfl
   have HT : Hid (((os.map (·.1)).take (k + 1)).any p = p x):=by
    show _ = _;rw [List.take_add_one,hLk,List.any_append,HA.out];simp
   have HMEM:=hz0q (List.mem_of_getElem? hLk);have hi : (k : Int) < (n : Int):=(by omega);clear hc hr hx hLk
   cases hpx : p x
   ·rw [hpx] at HC HT;clear hpx HA;go_wp2_with fail;refine HC.mono ?_;rintro e w1 ⟨rfl,hb1⟩;have hb2:=zb hb hb1;go_wp2;go_roundw
    case rel => exact ⟨k + 1,by omega,by go_num,HT,hb2⟩
    case measure => simp [intOf]; omega
   ·have HZ : Hid ((os.map (·.1)).any p = true):=List.any_eq_true.2 ⟨x,HMEM.out,hpx⟩;rw [hpx] at HC;clear hpx HT HA;go_wp2_with fail;refine HC.mono ?_;rintro e w1 ⟨rfl,hb1⟩;have hb2:=zb hb hb1;go_wp2;go_returns;rw [HZ.out];exact ⟨⟨(k : Int),rfl,by simp⟩,hb2⟩
  ·have hi : (n : Int) <= (k : Int):=by omega
   have HZ : Hid ((os.map (·.1)).any p = false):=by
    show _ = _;rw [<- HA.out,List.take_of_length_le (by rw [List.length_map,HOL.out]; omega)]
   clear HA;go_wp2;go_returns;rw [HZ.out];exact ⟨⟨-1,rfl,by decide⟩,hb⟩
theorem zcs (g : FuncId) (en : ∀ args w,(callFunc g args).run Tryz.prog w = .ok (.enter g args) w) (p : RowS -> Bool) (A : Option Addr) (n c : Nat) (os : List RA) (w : World) (hr : zeb w A os) (hol : os.length = n) (hn : n <= 1099511627776)
  (hp : ∀ x ∈ os,∀ W,Below w.heap.size w W -> Calls Tryz.prog g #[rowAV x] W fun e W' => e = .returned (.bool (p x.1)) /\ Below W.heap.size W W') :
  Calls Tryz.prog 67 #[.slice A n c,.func (.func g) #[] #[]] w fun e w' => e = .returned (.bool ((os.map (·.1)).any p)) /\ Below w.heap.size w w':=by
 have HI:=rowidx_any g en p A n c os w hr hol hn hp;clear hp hr;go_enter Tryz.func67,Tryz.ntmps67;go_wp2_with fail;refine HI.mono ?_;rintro e w1 ⟨⟨k,rfl,hk⟩,hb⟩;have HK:=hz0q hk;clear hk HI;go_wp2;go_returns;refine ⟨?_,hb⟩;rw [<- HK.out];rfl
def zbq (x : RowS) : Bool:=decide ((0 < x.cl \/ 0 < x.il.length) /\ x.fr <= 55203 /\ 44032 <= x.up)
def formB (x : RowS) : Bool:=decide (x.kd = [] /\ 2 < x.il.length)
theorem zhm (x : RA) (w : World) : Calls Tryz.prog 66 #[rowAV x] w fun e w' => e = .returned (.bool (zbq x.1)) /\ Below w.heap.size w w':=by
 obtain ⟨⟨fr,up,nm,ct,cl,kd,il⟩,A,c⟩:=x;have hb : ∀ o,Below w.heap.size w (w.alloc o):=fun o => (Below.refl _ _).alloc (Nat.le_refl _) _;unfold zbq;simp only [rowAV];obtain ⟨m,hm⟩ : ∃ m,m = il.length:=⟨_,rfl⟩;rw [<- hm];clear hm
 by_cases h1 : 0 < cl
 ·by_cases h2 : fr <= 55203
  ·by_cases h3 : 44032 <= up
   ·rw [decide_eq_true ⟨.inl h1,h2,h3⟩];go_enter Tryz.func66,Tryz.ntmps66;go_wp2;go_returns;exact ⟨rfl,hb _⟩
   ·rw [decide_eq_false (fun h => h3 h.2.2)];have h4 : up < 44032:=(by omega);go_enter Tryz.func66,Tryz.ntmps66;go_wp2;go_returns;exact ⟨rfl,hb _⟩
  ·rw [decide_eq_false (fun h => h2 h.2.1)];have h4 : 55203 < fr:=(by omega);go_enter Tryz.func66,Tryz.ntmps66;go_wp2;go_returns;exact ⟨rfl,hb _⟩
 ·have h1' : cl <= 0:=by omega
  by_cases h0 : 0 < m
  ·have h0' : (0 : Int) < (m : Int):=by omega
   by_cases h2 : fr <= 55203
   ·by_cases h3 : 44032 <= up
    ·rw [decide_eq_true ⟨.inr h0,h2,h3⟩];go_enter Tryz.func66,Tryz.ntmps66;go_wp2;go_returns;exact ⟨rfl,hb _⟩
    ·rw [decide_eq_false (fun h => h3 h.2.2)];have h4 : up < 44032:=(by omega);go_enter Tryz.func66,Tryz.ntmps66;go_wp2;go_returns;exact ⟨rfl,hb _⟩
   ·rw [decide_eq_false (fun h => h2 h.2.1)];have h4 : 55203 < fr:=(by omega);go_enter Tryz.func66,Tryz.ntmps66;go_wp2;go_returns;exact ⟨rfl,hb _⟩
  ·obtain rfl : m = 0:=(by omega);rw [decide_eq_false (fun h => by omega)];go_enter Tryz.func66,Tryz.ntmps66;go_wp2;go_returns;exact ⟨rfl,hb _⟩
theorem zhl (x : RA) (w : World) : Calls Tryz.prog 68 #[rowAV x] w fun e w' => e = .returned (.bool (formB x.1)) /\ Below w.heap.size w w':=by
 obtain ⟨⟨fr,up,nm,ct,cl,kd,il⟩,A,c⟩:=x;have hb : ∀ o,Below w.heap.size w (w.alloc o):=fun o => (Below.refl _ _).alloc (Nat.le_refl _) _;unfold formB;simp only [rowAV];obtain ⟨m,hm⟩ : ∃ m,m = il.length:=⟨_,rfl⟩;rw [<- hm];clear hm
 by_cases h1 : kd = []
 ·have hte : (mk8 kd).toList.isEmpty = true:=by rw [h1,z7,za0]; rfl
  by_cases h2 : 2 < m
  ·have h2' : (2 : Int) < (m : Int):=(by omega);rw [decide_eq_true ⟨h1,h2⟩];clear h1;go_enter Tryz.func68,Tryz.ntmps68;go_wp2;go_returns;exact ⟨rfl,hb _⟩
  ·have h2' : (m : Int) <= 2:=(by omega);rw [decide_eq_false (fun h => h2 h.2)];clear h1;go_enter Tryz.func68,Tryz.ntmps68;go_wp2;go_returns;exact ⟨zam (decide_eq_false (by omega)),hb _⟩
 ·have hte : (mk8 kd).toList.isEmpty = false:=by
   rw [z7,za0]
   cases kd with
   | nil => exact absurd rfl h1
   | cons c t => rfl
  rw [decide_eq_false (fun h => h1 h.1)];clear h1;go_enter Tryz.func68,Tryz.ntmps68;go_wp2;go_returns;exact ⟨rfl,hb _⟩
end
end Go.Proofs.YtolcabjkbefjgaaGreatDoor
