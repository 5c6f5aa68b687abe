/- A table of characters: Set. A base in memory, and what is asked of it: the code. slices.AppendSeq, Collect and Sorted at characters: printed by mkkeyb.py out of the worked proofs at other keys. -/
import Derived.Test.YtfdelmodmadoaaaGreatDoorG11
import Derived.Test.YtfdelmodmadoaaaGreatDoorG19
import Derived.Test.YtfdelmodmadoaaaGreatDoorG22
import Derived.Test.YtfdelmodmadoaaaGreatDoorG23
import Derived.Shelf.SlIter.Collect
import Derived.Shelf.SlIterI.Keys
import Derived.RangeFuncKeeps
import Derived.RangeFuncBound
set_option linter.unusedSimpArgs false
set_option linter.unusedVariables false
set_option maxRecDepth 20000
set_option maxHeartbeats 4000000
namespace Go.Proofs.YtfdelmodmadoaaaGreatDoor
section
open Go.RowKit Go.Lib Go.Maps
theorem int_info : ∃ i, Tryz.prog.info? 3 = some i := Option.isSome_iff_exists.1 (by kernel_rfl)
theorem int_u : Tryz.prog.underlying 3 = some (.int .i64) := by kernel_rfl
theorem int_c : Tryz.prog.cellsOf 3 = 1 := by kernel_rfl
def allB (g h : Nat -> Int) : Bool := (List.range 256).all fun i => g i == h i
theorem zhj (g h : Nat -> Int) (w : World) : (binOp .eql 142 (.agg (zh g).toArray) (.agg (zh h).toArray)).run Tryz.prog w = .ok (.bool (allB g h)) w := by
 obtain ⟨i, hi⟩ := int_info;exact run_eql_block zbk int_u hi int_c g h w
theorem zjo {g h : Nat -> Int} : allB g h = true ↔ ∀ i, i < 256 -> g i = h i := by
 unfold allB;rw [List.all_eq_true];constructor
 ·intro H i hi;simpa using H i (List.mem_range.2 hi)
 ·intro H i hi;simpa using H i (List.mem_range.1 hi)
def setT (T : Int -> Int) (lo hi v a : Int) : Int -> Int := fun r => if lo <= r /\ r <= hi /\ r / 256 < a then v else T r
def blkT (g : Nat -> Int) (lo hi v : Int) (a : Int) : Nat -> Int := fun j => if lo <= a * 256 + j /\ a * 256 + j <= hi then v else g j
theorem blk_div {a r : Int} (h : r / 256 = a) : a * 256 + ((r % 256).toNat : Int) = r := by omega
def TabF (T : Int -> Int) (f : Int -> Option (Nat -> Int)) : Prop := ∀ r, R32 r -> T r = if r < 0 then 0 else match f (r / 256) with | some g => g (r % 256).toNat | none => 0
theorem zhx {T : Int -> Int} {f : Int -> Option (Nat -> Int)} {lo hi v a : Int} (h0 : 0 <= lo) (h : TabF (setT T lo hi v a) f) (ha : lo / 256 <= a) :
  TabF (setT T lo hi v (a + 1)) (upd f a (some (blkT ((f a).getD fun _ => 0) lo hi v a))) := by
 intro r hr;have h1 := h r hr;unfold setT at h1 ⊢
 by_cases hn : r < 0
 ·rw [if_pos hn] at h1 ⊢;rw [if_neg (by omega)] at h1 ⊢;exact h1
 ·rw [if_neg hn] at h1 ⊢;unfold upd
  by_cases e : r / 256 = a
  ·rw [if_pos e];simp only [blkT];rw [blk_div e];rw [if_neg (by omega)] at h1
   by_cases hin : lo <= r /\ r <= hi
   ·rw [if_pos hin, if_pos (by omega)]
   ·rw [if_neg hin, if_neg (by omega), h1, e]
    cases f a <;> rfl
  ·rw [if_neg e];rw [<- h1]
   by_cases hin : lo <= r /\ r <= hi /\ r / 256 < a
   ·rw [if_pos hin, if_pos (by omega)]
   ·rw [if_neg hin, if_neg (by omega)]
theorem zi3 {T : Int -> Int} {f : Int -> Option (Nat -> Int)} {lo hi v a : Int} (h0 : 0 <= lo) (h : TabF (setT T lo hi v a) f) (ha : lo / 256 <= a) (hz : ∀ i, i < 256 -> blkT ((f a).getD fun _ => 0) lo hi v a i = 0) :
  TabF (setT T lo hi v (a + 1)) (upd f a none) := by
 intro r hr;rw [zhx h0 h ha r hr];split
 ·rfl
 ·unfold upd
  by_cases e : r / 256 = a
  ·rw [if_pos e, if_pos e];exact hz _ (by omega)
  ·rw [if_neg e, if_neg e]
theorem zc7 {w w5 : World} {row : Option Nat} (h : w.drew.grownBy w5 row) : w.grownBy w5 row := ⟨h.os, h.tape, h.output, h.size, h.block⟩
structure SInv (w : World) (tb mb p9 n : Nat) (T : Int -> Int) (lo hi v a : Int) (wr : World) : Prop where
 tab : ∃ n' f, n' <= n + (a - lo / 256).toNat /\ MapF wr Tryz.prog 21 zj R32 zdp mb n' f /\ TabF (setT T lo hi v a) f
 box : wr.heap[tb]? = some (.cells #[.int .i64 0, .map (some mb)] 130 (0, 0))
 zero : wr.heap[p9]? = some (.cells (zh fun _ => 0).toArray 142 (0, 0))
 wrote : Wrote (fun g => g = mb) w wr
theorem trieSet_any {w : World} {tb mb n : Nat} {T : Int -> Int} (h : TabAt w tb mb n T) (lo hi v : Int) (h0 : 0 <= lo) (h1 : lo <= hi) (h2 : hi <= 1114111) (hn : n <= 1000000000) :
  Calls Tryz.prog 69 #[.pointer (some ⟨tb, 0, none⟩), .int .i32 lo, .int .i32 hi, .int .i64 v] w fun e w' => e = .returned (.int .i64 0) /\ TabAt w' tb mb (n + 4353) (fun r => if lo <= r /\ r <= hi then v else T r) /\ Wrote (fun g => g = mb) w w' := by
 obtain ⟨hb, f, hm, hT⟩ := h;have c0 : w.cell? ⟨tb, 0, none⟩ = some (.int .i64 0) := (by simp [World.cell?, hb]);have PL := plain_any c0;have hq1 : wrap32 (hi.tdiv 256) = hi / 256 := (by rw [Int.tdiv_eq_ediv_of_nonneg (by omega)]; unfold wrap32; omega);have hq2 : wrap32 (lo.tdiv 256) = lo / 256 := (by rw [Int.tdiv_eq_ediv_of_nonneg (by omega)]; unfold wrap32; omega);have hsz := zaa;have hmt : mb ≠ tb := hm.ne_cells hb;go_enter Tryz.func69, Tryz.ntmps69;go_wp2_with fail;refine PL.mono ?_;rintro e w1 ⟨rfl, hb1⟩;have hst := zc2 w1;have hz9 := heap_alloc_last w1 (.cells (zh fun _ => 0).toArray 142);have hbz : Below w1.heap.size w1 (w1.alloc (.cells (zh fun _ => 0).toArray 142)) := (Below.refl _ _).alloc (Nat.le_refl _) _
 have hS0 : SInv w tb mb w1.heap.size n T lo hi v (lo / 256) (w1.alloc (.cells (zh fun _ => 0).toArray 142)) :=
  ⟨⟨n, f, by omega, (hm.below hb1 hm.lt).below hbz (Nat.lt_of_lt_of_le hm.lt hb1.size), fun r hr => by
    have := hT r hr;unfold setT;rw [if_neg (by omega)]
    exact this⟩, (hbz.block tb (Nat.lt_of_lt_of_le (Array.getElem?_eq_some_iff.1 hb).1 hb1.size)).trans ((hb1.block tb (Array.getElem?_eq_some_iff.1 hb).1).trans hb), hz9, .of_below (zb hb1 hbz)⟩
 have hp9 := hb1.size;clear PL hz9 hbz hm hT hb c0 hb1;go_wp2;clear hst
 go_loopw [10] (fun i wr => ∃ a : Int, lo / 256 <= a /\ a <= hi / 256 + 1 /\ i = .int .i32 a /\ SInv w tb mb w1.heap.size n T lo hi v a wr) (fun i _ => (hi / 256 + 1 - intOf i).toNat)
 case atStart => exact ⟨lo / 256, by omega, by omega, rfl, hS0⟩
 case round =>
  obtain ⟨wo, rfl⟩ : ∃ wo, wo = wr := ⟨wr, rfl⟩;obtain ⟨a, ha1, ha2, rfl, hS⟩ := hrel
  by_cases hlt : a <= hi / 256
  ·obtain ⟨⟨n', f, hn', hm, hT⟩, hb, hz, hw⟩ := hS;have d1 : wo.cell? ⟨tb, 0 + 1, none⟩ = some (.map (some mb)) := (by simp [World.cell?, hb]);have hk : R32 a := (by unfold R32; omega);have hst := zc2 wo;have hw1 : wrap32 (a * 256) = a * 256 := (by unfold wrap32; omega);have hsz2 : ∀ g, (Tryz.prog.info? 142).map (·.size) = some (zh g).toArray.size := fun g => by rw [zd0]; simp [zaa]
   have hbl : Below wo.heap.size wo wo := Below.refl _ _;obtain ⟨g, hg⟩ : ∃ g, g = (f a).getD fun _ => 0 := ⟨_, rfl⟩;have h11 := heap_alloc_last wo (.cells (zh g).toArray 142);have hbn : Below wo.heap.size wo (wo.alloc (.cells (zh g).toArray 142)) := (Below.refl _ _).alloc (Nat.le_refl _) _;have hp9l : w1.heap.size < wo.heap.size := (Array.getElem?_eq_some_iff.1 hz).1;have HTAB := hz0q hT;have HG := hz0q hg
   have hcase : (f a = none /\ g = fun _ => 0) \/ ∃ g', f a = some g' := by
    cases hf : f a with
    | none => exact .inl ⟨rfl, by rw [hg, hf]; rfl⟩
    | some g' => exact .inr ⟨g', rfl⟩
   clear hT hg;have h110 := heap_alloc_last wo (.cells (zh fun _ => 0).toArray 142);have hbn0 : Below wo.heap.size wo (wo.alloc (.cells (zh fun _ => 0).toArray 142)) := (Below.refl _ _).alloc (Nat.le_refl _) _;have hw2 : wrap32 (a * 256 + 256) = a * 256 + 256 := (by unfold wrap32; omega);have hw3 : wrap32 (a * 256 + 256 - 1) = a * 256 + 256 - 1 := (by unfold wrap32; omega);have hw4 : wrap32 (a * 256 + 255) = a * 256 + 255 := (by unfold wrap32; omega);obtain ⟨j0, hj0⟩ : ∃ j0 : Nat, max lo (a * 256) = a * 256 + j0 := ⟨(max lo (a * 256) - a * 256).toNat, by omega⟩;have hj0l : j0 <= 256 := (by omega);have hj1 : a * 256 + (j0 : Int) <= min hi (a * 256 + 255) + 1 := (by omega);rcases hcase.symm with ⟨g', hfs⟩ | ⟨hfn, hg0⟩
   ·obtain rfl : g = g' := (by rw [HG.out, hfs]; rfl);go_wp2_with (first | (at_lookup; refine zk rfl _ _ rfl zg zb3 (zbm _) hm (k := a) hk rfl rfl ?_; rw [<- HG.out, hfs]) | go_in)
    go_loopw [13] (fun i wi => ∃ (k : Int) (j : Nat), j0 <= j /\ Hid (k = a * 256 + j) /\ k <= min hi (a * 256 + 255) + 1 /\ i = .int .i32 k /\ wi.heap[wo.heap.size]? = some (.cells (zh (fun q => if j0 <= q /\ q < j then v else g q)).toArray 142 (0, 0)) /\ Below wo.heap.size wo wi) (fun i _ => (min hi (a * 256 + 255) + 1 - intOf i).toNat)
    case atStart =>
     refine ⟨_, j0, Nat.le_refl _, hz0q rfl, hj1, rfl, ?_, hbn⟩;rw [zap (g := fun q => if j0 <= q /\ q < j0 then v else g q) (h := g) (fun q _ => if_neg (by omega))];exact h11
    case round =>
     obtain ⟨k, j, hj2, HK, hj3, rfl, h12, hbi⟩ := hrel
     by_cases hjl : k <= min hi (a * 256 + 255)
     ·have hkj := HK.out;have hj256 : j < 256 := (by omega);have i1 : (j : Int) < 256 := (by omega);have i2 : (0 : Int) <= (j : Int) := (by omega);have hm5 : k.tmod 256 = (j : Int) := (by rw [Int.tmod_eq_emod_of_nonneg (by omega)]; omega);have hm7 : (k.tmod 256).toNat = j := (by rw [hm5]; omega);have i3 : 0 <= k.tmod 256 := (by rw [hm5]; exact i2);have i4 : k.tmod 256 < 256 := (by rw [hm5]; exact i1);have hm2 : wrap32 (k + 1) = k + 1 := (by unfold wrap32; omega);obtain ⟨z0, e0⟩ : ∃ z0, wr.cell? ⟨wo.heap.size, (k.tmod 256).toNat, none⟩ = some (.int .i64 z0) := ⟨_, by rw [hm7]; exact zd1 h12 hj256⟩;have e1 : wr.frozen? ⟨wo.heap.size, (k.tmod 256).toNat, none⟩ = false := zch h12 _;have h13 := ze8 h12 hj256 v;have hb2 : Below wo.heap.size wo (wr.setCell ⟨wo.heap.size, (k.tmod 256).toNat, none⟩ (.int .i64 v)) := hbi.setCell (p := ⟨wo.heap.size, (k.tmod 256).toNat, none⟩) (Nat.le_refl _) _
      rw [zap (h := fun q => if j0 <= q /\ q < j + 1 then v else g q) (fun q _ => by
       by_cases e : q = j
       ·rw [if_pos e, if_pos (by omega)]
       ·rw [if_neg e]
        by_cases e2 : j0 <= q /\ q < j
        ·rw [if_pos e2, if_pos (by omega)]
        ·rw [if_neg e2, if_neg (by omega)])] at h13
      have h14 : (wr.setCell ⟨wo.heap.size, (k.tmod 256).toNat, none⟩ (.int .i64 v)).heap[wo.heap.size]? = some (.cells (zh fun q => if j0 <= q /\ q < j + 1 then v else g q).toArray 142 (0, 0)) := (by rw [hm7]; exact h13);have HK2 : Hid (k + 1 = a * 256 + ((j + 1 : Nat) : Int)) := (by show _ = _; omega);have hk4 : k + 1 <= min hi (a * 256 + 255) + 1 := (by omega);have hj4 : j0 <= j + 1 := (by omega);clear h12 hbi h11 h110 hbn hbn0 hm hz hb hw d1 hst hkj hm5 hm7 h13 i1 i2 hj1 hj0 hj0l;go_wp2;go_roundw
      case rel => exact ⟨k + 1, j + 1, hj4, HK2, hk4, by rw [hm2], h14, hb2⟩
      case measure => rw [hm2]; simp [intOf]; omega
     ·have hkj := HK.out;have hke : k = min hi (a * 256 + 255) + 1 := (by omega);have hkle : min hi (a * 256 + 255) < k := by omega
      have h15 : wr.heap[wo.heap.size]? = some (.cells (zh (blkT g lo hi v a)).toArray 142 (0, 0)) := by
       rw [h12];congr 3;refine zap fun q hq => ?_;unfold blkT
       by_cases e : j0 <= q /\ q < j
       ·rw [if_pos e, if_pos (by omega)]
       ·rw [if_neg e, if_neg (by omega)]
      have hzr : wr.heap[w1.heap.size]? = some (.cells (zh fun _ => 0).toArray 142 (0, 0)) := (hbi.block _ hp9l).trans hz;have htl : tb < wo.heap.size := (Array.getElem?_eq_some_iff.1 hb).1;have hbr := (hbi.block tb htl).trans hb;have d2 : wr.cell? ⟨tb, 0 + 1, none⟩ = some (.map (some mb)) := (by simp [World.cell?, hbr]);have hmr := hm.below hbi hm.lt;have hmp : mb ≠ w1.heap.size := hm.ne_cells hz;have heql := fun w => zhj (blkT g lo hi v a) (fun _ => 0) w;have hw5 : wrap32 (a + 1) = a + 1 := (by unfold wrap32; omega);have ha3 : lo / 256 <= a + 1 := (by omega);have ha4 : a + 1 <= hi / 256 + 1 := (by omega);have hmle : n' + 1 <= n + (a + 1 - lo / 256).toNat := by omega
      have HST : Hid (∀ w5, wr.grownBy w5 (some mb) -> w5.heap[tb]? = some (.cells #[.int .i64 0, .map (some mb)] 130 (0, 0)) /\ w5.heap[w1.heap.size]? = some (.cells (zh fun _ => 0).toArray 142 (0, 0)) /\ Wrote (fun g => g = mb) w w5) := fun w5 hg5 =>
       ⟨(hg5.block tb (Nat.lt_of_lt_of_le htl hbi.size) (fun e => hmt (by injection e with e; exact e.symm))).trans hbr, (hg5.block _ (Nat.lt_of_lt_of_le hp9l hbi.size) (fun e => hmp (by injection e with e; exact e.symm))).trans hzr, (hw.then_below hbi).trans (Wrote.grown hg5 fun k hk => by injection hk with hk; exact hk.symm)⟩
      have HB := hz0q hbi;have HNE : Hid (mb ≠ wo.heap.size) := fun e => by have := hm.lt; omega
      cases hall : allB (blkT g lo hi v a) (fun _ => 0) with
      | true =>
       rw [hall] at heql;have HZ := hz0q (zjo.1 hall);clear h12 hbi h11 h110 hbn hbn0 hm hz hb hw d1 hst hkj hj1 hj0 hj0l hall hke hbr hmp;go_wp2_with (first | (refine zab rfl rfl zbk (hsz2 _) h15 rfl ?_) | (refine zab rfl rfl zbk (hsz2 _) hzr rfl ?_) | (at_delete; refine zef rfl _ _ rfl zg zb3 hmr (k := a) hk rfl rfl ?_; intro w5 hm5 hg5 hs5) | go_in)
       obtain ⟨k1, k2, k3⟩ := HST.out _ hg5;have hS5 : SInv w tb mb w1.heap.size n T lo hi v (a + 1) w5 := ⟨⟨n', _, by omega, hm5, zi3 h0 HTAB.out ha1 (by rw [<- HG.out]; exact HZ.out)⟩, k1, k2, k3⟩;clear hm5 hg5 hmr h15 hzr k1 k2 k3 d2;go_roundw
       case rel => exact ⟨a + 1, ha3, ha4, by first | rfl | rw [hw5], hS5⟩
       case measure => (try rw [hw5]); simp [intOf]; omega
      | false =>
       rw [hall] at heql;clear h12 hbi h11 h110 hbn hbn0 hm hz hb hw d1 hst hkj hj1 hj0 hj0l hall hke hbr hmp;go_wp2_with (first | (refine zab rfl rfl zbk (hsz2 _) h15 rfl ?_) | (refine zab rfl rfl zbk (hsz2 _) hzr rfl ?_) | go_in)
       have h15d : wr.drew.heap[wo.heap.size]? = some (.cells (zh (blkT g lo hi v a)).toArray 142 (0, 0)) := h15;have hmd : MapF wr.drew Tryz.prog 21 zj R32 zdp mb n' f := hmr.at rfl;have hmx : n' < maxLen := (by unfold maxLen; omega);clear h15 hmr hzr;refine wp_region_held_drew (S := fun w' => w'.heap[wo.heap.size]? = some (.cells (zh (blkT g lo hi v a)).toArray 142 (0, 0)) /\ w'.cell? ⟨tb, 0 + 1, none⟩ = some (.map (some mb))) (by kernel_rfl) ⟨h15d, d2⟩ (fun hH => ?_);refine wpAnyH_take (i := 0) (v := .pointer (some ⟨tb, 0, none⟩)) rfl (by kernel_rfl) (by kernel_rfl) (by kernel_rfl) (fun _ _ _ h => h) (Or.inl ⟨by kernel_rfl, ?_⟩) hH ?_
       ·rintro w ⟨hw1, hw2⟩;go_simp
        all_goals try with_reducible rfl
       try simp only [gA, gB, gC, Act.put, gD, gE, gF]
       refine wpAnyH_take (i := 1) (v := .pointer (some ⟨tb, 0, none⟩)) rfl (by kernel_rfl) (by kernel_rfl) (by kernel_rfl) (fun _ _ _ h => h) (Or.inl ⟨by kernel_rfl, ?_⟩) hH ?_
       ·rintro w ⟨hw1, hw2⟩;go_simp
        all_goals try with_reducible rfl
       try simp only [gA, gB, gC, Act.put, gD, gE, gF]
       refine wpAnyH_take (i := 2) (v := .pointer (some ⟨tb, 0 + 1, none⟩)) rfl (by kernel_rfl) (by kernel_rfl) (by kernel_rfl) (fun _ _ _ h => h) (Or.inl ⟨by kernel_rfl, ?_⟩) hH ?_
       ·rintro w ⟨hw1, hw2⟩;go_simp
        all_goals try with_reducible rfl
       try simp only [gA, gB, gC, Act.put, gD, gE, gF]
       refine wpAnyH_take (i := 3) (v := .map (some mb)) rfl (by kernel_rfl) (by kernel_rfl) (by kernel_rfl) (fun _ _ _ h => h) (Or.inl ⟨by kernel_rfl, ?_⟩) hH ?_
       ·rintro w ⟨hw1, hw2⟩;go_simp
        all_goals try with_reducible rfl
       try simp only [gA, gB, gC, Act.put, gD, gE, gF]
       refine wpAnyH_take (i := 4) (v := .int .i32 a) rfl (by kernel_rfl) (by kernel_rfl) (by kernel_rfl) (fun _ _ _ h => h) (Or.inl ⟨by kernel_rfl, ?_⟩) hH ?_
       ·rintro w ⟨hw1, hw2⟩;go_simp
        all_goals try with_reducible rfl
       try simp only [gA, gB, gC, Act.put, gD, gE, gF]
       refine wpAnyH_take (i := 5) (v := .agg (zh (blkT g lo hi v a)).toArray) rfl (by kernel_rfl) (by kernel_rfl) (by kernel_rfl) (fun _ _ _ h => h) (Or.inl ⟨by kernel_rfl, ?_⟩) hH ?_
       ·rintro w ⟨hw1, hw2⟩;exact zfu rfl zbk (hsz2 _) hw1 rfl
       try simp only [gA, gB, gC, Act.put, gD, gE, gF]
       refine wpAnyH_ready (rs := [6]) (by kernel_rfl) (by simp) ?_;refine AllReadyH.cons rfl (fun K hK => ?_) AllReadyH.nil;refine zda rfl _ _ _ rfl zg zb3 hmx hmd (k := a) hk (blkT g lo hi v a) rfl rfl rfl ?_;intro w5 hm5 hg5 hs5;have hgw := zc7 hg5;refine hK.out _ _ ⟨(hgw.block _ (Array.getElem?_eq_some_iff.1 h15d).1 (fun e => HNE.out (by injection e with e; exact e.symm))).trans h15d, (World.cell?_of_block (hgw.block tb (World.block_lt_of_cell? _ _ d2) (fun e => hmt (by injection e with e; exact e.symm)))).trans d2⟩ (fun _ => ?_);clear hK K;try simp only [gA, gB, gC, Act.put, gD, gE, gF]
       refine wpAnyH_done (by kernel_rfl) ?_ _;obtain ⟨k1, k2, k3⟩ := HST.out w5 hgw;have hS5 : SInv w tb mb w1.heap.size n T lo hi v (a + 1) w5 := ⟨⟨n' + 1, _, by omega, hm5, by rw [HG.out]; exact zhx h0 HTAB.out ha1⟩, k1, k2, k3⟩;clear hm5 hg5 hmd h15d k1 k2 k3 d2 hgw hH;go_wp2;go_roundw
       case rel => exact ⟨a + 1, ha3, ha4, by first | rfl | rw [hw5], hS5⟩
       case measure => (try rw [hw5]); simp [intOf]; omega
   ·have hgz : zh (fun _ => 0) = zh g := (by rw [hg0]);have HGZ : Hid (wo.alloc (.cells (zh fun _ => 0).toArray 142) = wo.alloc (.cells (zh g).toArray 142)) := (by show _ = _; rw [hgz]);clear hgz hg0;go_wp2_with (first | (at_lookup; refine zk rfl _ _ rfl zg zb3 (zbm _) hm (k := a) hk rfl rfl ?_; rw [hfn]) | (refine zab rfl rfl zbk (hsz2 _) ((hbn.block w1.heap.size hp9l).trans hz) rfl ?_) | (refine zbu rfl rfl (hsz2 _) (by simp [zaa]) (zd3 _) h11 rfl rfl ?_; rw [World.setRow_alloc_new, HGZ.out]) | (refine zbu rfl rfl (hsz2 _) (by simp [zaa]) (zd3 _) h110 rfl rfl ?_; rw [World.setRow_alloc_new, HGZ.out]) | go_in)
    go_loopw [13] (fun i wi => ∃ (k : Int) (j : Nat), j0 <= j /\ Hid (k = a * 256 + j) /\ k <= min hi (a * 256 + 255) + 1 /\ i = .int .i32 k /\ wi.heap[wo.heap.size]? = some (.cells (zh (fun q => if j0 <= q /\ q < j then v else g q)).toArray 142 (0, 0)) /\ Below wo.heap.size wo wi) (fun i _ => (min hi (a * 256 + 255) + 1 - intOf i).toNat)
    case atStart =>
     refine ⟨_, j0, Nat.le_refl _, hz0q rfl, hj1, rfl, ?_, hbn⟩;rw [zap (g := fun q => if j0 <= q /\ q < j0 then v else g q) (h := g) (fun q _ => if_neg (by omega))];exact h11
    case round =>
     obtain ⟨k, j, hj2, HK, hj3, rfl, h12, hbi⟩ := hrel
     by_cases hjl : k <= min hi (a * 256 + 255)
     ·have hkj := HK.out;have hj256 : j < 256 := (by omega);have i1 : (j : Int) < 256 := (by omega);have i2 : (0 : Int) <= (j : Int) := (by omega);have hm5 : k.tmod 256 = (j : Int) := (by rw [Int.tmod_eq_emod_of_nonneg (by omega)]; omega);have hm7 : (k.tmod 256).toNat = j := (by rw [hm5]; omega);have i3 : 0 <= k.tmod 256 := (by rw [hm5]; exact i2);have i4 : k.tmod 256 < 256 := (by rw [hm5]; exact i1);have hm2 : wrap32 (k + 1) = k + 1 := (by unfold wrap32; omega);obtain ⟨z0, e0⟩ : ∃ z0, wr.cell? ⟨wo.heap.size, (k.tmod 256).toNat, none⟩ = some (.int .i64 z0) := ⟨_, by rw [hm7]; exact zd1 h12 hj256⟩;have e1 : wr.frozen? ⟨wo.heap.size, (k.tmod 256).toNat, none⟩ = false := zch h12 _;have h13 := ze8 h12 hj256 v;have hb2 : Below wo.heap.size wo (wr.setCell ⟨wo.heap.size, (k.tmod 256).toNat, none⟩ (.int .i64 v)) := hbi.setCell (p := ⟨wo.heap.size, (k.tmod 256).toNat, none⟩) (Nat.le_refl _) _
      rw [zap (h := fun q => if j0 <= q /\ q < j + 1 then v else g q) (fun q _ => by
       by_cases e : q = j
       ·rw [if_pos e, if_pos (by omega)]
       ·rw [if_neg e]
        by_cases e2 : j0 <= q /\ q < j
        ·rw [if_pos e2, if_pos (by omega)]
        ·rw [if_neg e2, if_neg (by omega)])] at h13
      have h14 : (wr.setCell ⟨wo.heap.size, (k.tmod 256).toNat, none⟩ (.int .i64 v)).heap[wo.heap.size]? = some (.cells (zh fun q => if j0 <= q /\ q < j + 1 then v else g q).toArray 142 (0, 0)) := (by rw [hm7]; exact h13);have HK2 : Hid (k + 1 = a * 256 + ((j + 1 : Nat) : Int)) := (by show _ = _; omega);have hk4 : k + 1 <= min hi (a * 256 + 255) + 1 := (by omega);have hj4 : j0 <= j + 1 := (by omega);clear h12 hbi h11 h110 hbn hbn0 hm hz hb hw d1 hst hkj hm5 hm7 h13 i1 i2 hj1 hj0 hj0l;go_wp2;go_roundw
      case rel => exact ⟨k + 1, j + 1, hj4, HK2, hk4, by rw [hm2], h14, hb2⟩
      case measure => rw [hm2]; simp [intOf]; omega
     ·have hkj := HK.out;have hke : k = min hi (a * 256 + 255) + 1 := (by omega);have hkle : min hi (a * 256 + 255) < k := by omega
      have h15 : wr.heap[wo.heap.size]? = some (.cells (zh (blkT g lo hi v a)).toArray 142 (0, 0)) := by
       rw [h12];congr 3;refine zap fun q hq => ?_;unfold blkT
       by_cases e : j0 <= q /\ q < j
       ·rw [if_pos e, if_pos (by omega)]
       ·rw [if_neg e, if_neg (by omega)]
      have hzr : wr.heap[w1.heap.size]? = some (.cells (zh fun _ => 0).toArray 142 (0, 0)) := (hbi.block _ hp9l).trans hz;have htl : tb < wo.heap.size := (Array.getElem?_eq_some_iff.1 hb).1;have hbr := (hbi.block tb htl).trans hb;have d2 : wr.cell? ⟨tb, 0 + 1, none⟩ = some (.map (some mb)) := (by simp [World.cell?, hbr]);have hmr := hm.below hbi hm.lt;have hmp : mb ≠ w1.heap.size := hm.ne_cells hz;have heql := fun w => zhj (blkT g lo hi v a) (fun _ => 0) w;have hw5 : wrap32 (a + 1) = a + 1 := (by unfold wrap32; omega);have ha3 : lo / 256 <= a + 1 := (by omega);have ha4 : a + 1 <= hi / 256 + 1 := (by omega);have hmle : n' + 1 <= n + (a + 1 - lo / 256).toNat := by omega
      have HST : Hid (∀ w5, wr.grownBy w5 (some mb) -> w5.heap[tb]? = some (.cells #[.int .i64 0, .map (some mb)] 130 (0, 0)) /\ w5.heap[w1.heap.size]? = some (.cells (zh fun _ => 0).toArray 142 (0, 0)) /\ Wrote (fun g => g = mb) w w5) := fun w5 hg5 =>
       ⟨(hg5.block tb (Nat.lt_of_lt_of_le htl hbi.size) (fun e => hmt (by injection e with e; exact e.symm))).trans hbr, (hg5.block _ (Nat.lt_of_lt_of_le hp9l hbi.size) (fun e => hmp (by injection e with e; exact e.symm))).trans hzr, (hw.then_below hbi).trans (Wrote.grown hg5 fun k hk => by injection hk with hk; exact hk.symm)⟩
      have HB := hz0q hbi;have HNE : Hid (mb ≠ wo.heap.size) := fun e => by have := hm.lt; omega
      cases hall : allB (blkT g lo hi v a) (fun _ => 0) with
      | true =>
       rw [hall] at heql;have HZ := hz0q (zjo.1 hall);clear h12 hbi h11 h110 hbn hbn0 hm hz hb hw d1 hst hkj hj1 hj0 hj0l hall hke hbr hmp;go_wp2_with (first | (refine zab rfl rfl zbk (hsz2 _) h15 rfl ?_) | (refine zab rfl rfl zbk (hsz2 _) hzr rfl ?_) | (at_delete; refine zef rfl _ _ rfl zg zb3 hmr (k := a) hk rfl rfl ?_; intro w5 hm5 hg5 hs5) | go_in)
       obtain ⟨k1, k2, k3⟩ := HST.out _ hg5;have hS5 : SInv w tb mb w1.heap.size n T lo hi v (a + 1) w5 := ⟨⟨n', _, by omega, hm5, zi3 h0 HTAB.out ha1 (by rw [<- HG.out]; exact HZ.out)⟩, k1, k2, k3⟩;clear hm5 hg5 hmr h15 hzr k1 k2 k3 d2;go_roundw
       case rel => exact ⟨a + 1, ha3, ha4, by first | rfl | rw [hw5], hS5⟩
       case measure => (try rw [hw5]); simp [intOf]; omega
      | false =>
       rw [hall] at heql;clear h12 hbi h11 h110 hbn hbn0 hm hz hb hw d1 hst hkj hj1 hj0 hj0l hall hke hbr hmp;go_wp2_with (first | (refine zab rfl rfl zbk (hsz2 _) h15 rfl ?_) | (refine zab rfl rfl zbk (hsz2 _) hzr rfl ?_) | go_in)
       have h15d : wr.drew.heap[wo.heap.size]? = some (.cells (zh (blkT g lo hi v a)).toArray 142 (0, 0)) := h15;have hmd : MapF wr.drew Tryz.prog 21 zj R32 zdp mb n' f := hmr.at rfl;have hmx : n' < maxLen := (by unfold maxLen; omega);clear h15 hmr hzr;refine wp_region_held_drew (S := fun w' => w'.heap[wo.heap.size]? = some (.cells (zh (blkT g lo hi v a)).toArray 142 (0, 0)) /\ w'.cell? ⟨tb, 0 + 1, none⟩ = some (.map (some mb))) (by kernel_rfl) ⟨h15d, d2⟩ (fun hH => ?_);refine wpAnyH_take (i := 0) (v := .pointer (some ⟨tb, 0, none⟩)) rfl (by kernel_rfl) (by kernel_rfl) (by kernel_rfl) (fun _ _ _ h => h) (Or.inl ⟨by kernel_rfl, ?_⟩) hH ?_
       ·rintro w ⟨hw1, hw2⟩;go_simp
        all_goals try with_reducible rfl
       try simp only [gA, gB, gC, Act.put, gD, gE, gF]
       refine wpAnyH_take (i := 1) (v := .pointer (some ⟨tb, 0, none⟩)) rfl (by kernel_rfl) (by kernel_rfl) (by kernel_rfl) (fun _ _ _ h => h) (Or.inl ⟨by kernel_rfl, ?_⟩) hH ?_
       ·rintro w ⟨hw1, hw2⟩;go_simp
        all_goals try with_reducible rfl
       try simp only [gA, gB, gC, Act.put, gD, gE, gF]
       refine wpAnyH_take (i := 2) (v := .pointer (some ⟨tb, 0 + 1, none⟩)) rfl (by kernel_rfl) (by kernel_rfl) (by kernel_rfl) (fun _ _ _ h => h) (Or.inl ⟨by kernel_rfl, ?_⟩) hH ?_
       ·rintro w ⟨hw1, hw2⟩;go_simp
        all_goals try with_reducible rfl
       try simp only [gA, gB, gC, Act.put, gD, gE, gF]
       refine wpAnyH_take (i := 3) (v := .map (some mb)) rfl (by kernel_rfl) (by kernel_rfl) (by kernel_rfl) (fun _ _ _ h => h) (Or.inl ⟨by kernel_rfl, ?_⟩) hH ?_
       ·rintro w ⟨hw1, hw2⟩;go_simp
        all_goals try with_reducible rfl
       try simp only [gA, gB, gC, Act.put, gD, gE, gF]
       refine wpAnyH_take (i := 4) (v := .int .i32 a) rfl (by kernel_rfl) (by kernel_rfl) (by kernel_rfl) (fun _ _ _ h => h) (Or.inl ⟨by kernel_rfl, ?_⟩) hH ?_
       ·rintro w ⟨hw1, hw2⟩;go_simp
        all_goals try with_reducible rfl
       try simp only [gA, gB, gC, Act.put, gD, gE, gF]
       refine wpAnyH_take (i := 5) (v := .agg (zh (blkT g lo hi v a)).toArray) rfl (by kernel_rfl) (by kernel_rfl) (by kernel_rfl) (fun _ _ _ h => h) (Or.inl ⟨by kernel_rfl, ?_⟩) hH ?_
       ·rintro w ⟨hw1, hw2⟩;exact zfu rfl zbk (hsz2 _) hw1 rfl
       try simp only [gA, gB, gC, Act.put, gD, gE, gF]
       refine wpAnyH_ready (rs := [6]) (by kernel_rfl) (by simp) ?_;refine AllReadyH.cons rfl (fun K hK => ?_) AllReadyH.nil;refine zda rfl _ _ _ rfl zg zb3 hmx hmd (k := a) hk (blkT g lo hi v a) rfl rfl rfl ?_;intro w5 hm5 hg5 hs5;have hgw := zc7 hg5;refine hK.out _ _ ⟨(hgw.block _ (Array.getElem?_eq_some_iff.1 h15d).1 (fun e => HNE.out (by injection e with e; exact e.symm))).trans h15d, (World.cell?_of_block (hgw.block tb (World.block_lt_of_cell? _ _ d2) (fun e => hmt (by injection e with e; exact e.symm)))).trans d2⟩ (fun _ => ?_);clear hK K;try simp only [gA, gB, gC, Act.put, gD, gE, gF]
       refine wpAnyH_done (by kernel_rfl) ?_ _;obtain ⟨k1, k2, k3⟩ := HST.out w5 hgw;have hS5 : SInv w tb mb w1.heap.size n T lo hi v (a + 1) w5 := ⟨⟨n' + 1, _, by omega, hm5, by rw [HG.out]; exact zhx h0 HTAB.out ha1⟩, k1, k2, k3⟩;clear hm5 hg5 hmd h15d k1 k2 k3 d2 hgw hH;go_wp2;go_roundw
       case rel => exact ⟨a + 1, ha3, ha4, by first | rfl | rw [hw5], hS5⟩
       case measure => (try rw [hw5]); simp [intOf]; omega
  ·have hlt' : hi / 256 < a := (by omega);obtain ⟨⟨n', f, hn', hm, hT⟩, hb, hz, hw⟩ := hS
   have HT : Hid (TabAt wo tb mb (n + 4353) (fun r => if lo <= r /\ r <= hi then v else T r)) := by
    refine ⟨hb, f, hm.mono (by omega), fun r hr => ?_⟩;have := hT r hr;unfold setT at this;refine Eq.trans ?_ this;show (if lo <= r /\ r <= hi then v else T r) = _
    by_cases hin : lo <= r /\ r <= hi
    ·rw [if_pos hin, if_pos (by omega)]
    ·rw [if_neg hin, if_neg (by omega)]
   clear hm hT hb hz;go_wp2;go_returns;exact ⟨rfl, HT.out, hw⟩
end
section
open Go.RowKit Go.Lib Go.Maps
theorem Rs_one (zs : List Int) : ∀ u ∈ Rs zs, u.oneCell' = true := zgs .i32 zs
def RCloneP (n : Nat) (zs : List Int) (w : World) (e : Ending) (w' : World) : Prop := ∃ A' c', e = .returned (.slice A' n c') /\ w'.ownsRow w.heap.size 21 1 (.slice A' n c') n (Rs zs) /\ Below w.heap.size w w'
theorem rclone_any (A : Option Addr) (n c : Nat) (zs : List Int) (w : World) (hr : Rd w A n (Rs zs)) (hnil : A = none -> n = 0 /\ c = 0) (hn : n <= 1000000) :
  Calls Tryz.prog 40 #[.slice A n c] w (RCloneP n zs w) := by
 have hll : zs.length = n := by have := hr.1; simpa [Rs] using this
 cases A with
 | none =>
  obtain ⟨rfl, rfl⟩ := hnil rfl;have : zs = [] := List.eq_nil_of_length_eq_zero hll;subst this;have hcmp := fun w => Lib.run_eql_slice_nil (P := Tryz.prog) w 33 21 none 0 0 0 0 Tryz.underlying33;simp only [Option.isNone] at hcmp;go_enter Tryz.func40, Tryz.ntmps40;go_wp2;go_returns;exact ⟨none, 0, rfl, World.ownsRow_nil _ _ _ _, Below.refl _ _⟩
 | some a =>
  have hbn : Below w.heap.size w (w.alloc (.cells #[] 21)) := (Below.refl _ _).alloc (Nat.le_refl _) _;have hown0 : (w.alloc (.cells #[] 21)).ownsRow w.heap.size 21 1 (.slice (some ⟨w.heap.size, 0, none⟩) 0 0) 0 [] := ⟨rfl, .inr ⟨w.heap.size, 0, #[], rfl, Nat.le_refl _, zp _ _ _, Nat.le_refl _, Nat.zero_le _, rfl, rfl⟩⟩;have hrb := hr.below hbn;have hone := Rs_one zs;clear hnil hr;have hcmp := fun w => Lib.run_eql_slice_nil (P := Tryz.prog) w 33 21 (some a) n c 0 0 Tryz.underlying33;simp only [Option.isNone] at hcmp;go_enter Tryz.func40, Tryz.ntmps40;go_wp2_with (at_builtin; refine zcl za8 _ rfl _ _ rfl w.heap.size rfl hown0 rfl hrb hone (by simp; omega) (by omega) (by simp) ?_)
  intro A2 c2 w4 hown4 hg4 hat4;have hb4 := zcj hbn (by simp) hown0 hg4;have hown5 : w4.ownsRow w.heap.size 21 1 (.slice A2 n c2) n (Rs zs) := (by simpa using hown4);clear hown4 hg4 hat4 hown0 hrb hone;go_wp2;go_returns;exact ⟨A2, c2, by simp <;> rfl, hown5, hb4⟩
abbrev PV := List UInt8 × Option Addr × Nat × Nat
abbrev partV (p : PV) : Value := .agg #[.string (mk8 p.1), .slice p.2.1 p.2.2.1 p.2.2.2]
abbrev intV (x : Int) : Value := .int .i64 x
theorem zib : Tryz.prog.underlying 72 = some (.map 21 86) := by kernel_rfl
theorem zja : Tryz.prog.underlying 73 = some (.map 92 21) := by kernel_rfl
theorem madeT : Tryz.prog.underlying 74 = some (.map 21 92) := by kernel_rfl
theorem secsT : Tryz.prog.underlying 75 = some (.map 21 3) := by kernel_rfl
theorem zero_part (w : World) : (zeroValue 86).run Tryz.prog w = .ok (partV ([], none, 0, 0)) w := by kernel_rfl
theorem zee (w : World) : (zeroValue 21).run Tryz.prog w = .ok (runeV 0) w := by kernel_rfl
theorem zh4 (w : World) : (zeroValue 92).run Tryz.prog w = .ok (pairV (0, 0)) w := by kernel_rfl
theorem za4 (w : World) : (zeroValue 3).run Tryz.prog w = .ok (intV 0) w := by kernel_rfl
theorem zdt : KeyB Tryz.prog 92 pairV zcb R32P := by
 obtain ⟨m, hm⟩ : ∃ m, Tryz.prog.types.size = m + 1 := ⟨Tryz.prog.types.size - 1, by kernel_rfl⟩;exact pairB (e := 21) ⟨by kernel_rfl, by kernel_rfl, by kernel_rfl, by kernel_rfl⟩ (by kernel_rfl) hm
def zc0 (w : World) : Option PV -> Option (List UInt8 × List Int) -> Prop
 | none, none => True
 | some p, some q => p.1 = q.1 /\ p.2.2.1 = q.2.length /\ q.2.length <= 18 /\ Rd w p.2.1 q.2.length (Rs q.2) /\ (p.2.1 = none -> q.2.length = 0 /\ p.2.2.2 = 0)
 | _, _ => False
theorem zc0.below {w w' : World} {p : Option PV} {q : Option (List UInt8 × List Int)} (h : zc0 w p q) (hb : Below w.heap.size w w') : zc0 w' p q := by
 cases p <;> cases q <;> first | exact h | exact ⟨h.1, h.2.1, h.2.2.1, h.2.2.2.1.below hb, h.2.2.2.2⟩
structure BAddr where
 tb : Nat
 mb : Nat
 m1 : Nat
 m2 : Nat
 m3 : Nat
 m4 : Nat
 tn : Nat
structure BaseM (w : World) (bp : Nat) (a : BAddr) (n : Nat) (cls : Int -> Int) (prt : Int -> Option (List UInt8 × List Int)) (pr : Int × Int -> Option Int) (md : Int -> Option (Int × Int)) (sc : Int -> Option Int) : Prop where
 box : w.heap[bp]? = some (.cells #[.pointer (some ⟨a.tb, 0, none⟩), .map (some a.m1), .map (some a.m2), .map (some a.m3), .map (some a.m4)] 77 (0, 0))
 tab : TabAt w a.tb a.mb a.tn cls
 prt : ∃ f, MapF w Tryz.prog 21 zj R32 partV a.m1 n f /\ ∀ r, R32 r -> zc0 w (f r) (prt r)
 pr : MapF w Tryz.prog 92 zcb R32P runeV a.m2 n pr
 md : MapF w Tryz.prog 21 zj R32 pairV a.m3 n md
 sc : MapF w Tryz.prog 21 zj R32 intV a.m4 n sc
section
variable {w w' : World} {bp n : Nat} {a : BAddr} {cls : Int -> Int} {prt : Int -> Option (List UInt8 × List Int)} {pr : Int × Int -> Option Int} {md : Int -> Option (Int × Int)} {sc : Int -> Option Int}
theorem TabAt.below {tb mb : Nat} {T : Int -> Int} (h : TabAt w tb mb n T) (hb : Below w.heap.size w w') : TabAt w' tb mb n T := by
 obtain ⟨h1, f, h2, h3⟩ := h;exact ⟨zd h1 hb, f, h2.below hb h2.lt, h3⟩
theorem BaseM.below (h : BaseM w bp a n cls prt pr md sc) (hb : Below w.heap.size w w') : BaseM w' bp a n cls prt pr md sc := by
 obtain ⟨h1, h2, ⟨f, h3, h4⟩, h5, h6, h7⟩ := h;exact ⟨zd h1 hb, h2.below hb, ⟨f, h3.below hb h3.lt, fun r hr => (h4 r hr).below hb⟩, h5.below hb h5.lt, h6.below hb h6.lt, h7.below hb h7.lt⟩
theorem ze7 (h : BaseM w bp a n cls prt pr md sc) (r : Int) (hr : R32 r) : Calls Tryz.prog 16 #[.pointer (some ⟨bp, 0, none⟩), .int .i32 r] w fun e w' => e = .returned (.int .i64 (cls r)) /\ Below w.heap.size w w' := by
 have c0 := za h.box 0 rfl;have GT := trieGet_any h.tab r hr;go_enter Tryz.func16, Tryz.ntmps16;go_wp2_with fail;refine GT.mono ?_;rintro e w1 ⟨rfl, hb⟩;go_wp2;go_returns;exact ⟨rfl, hb⟩
def DecP (kd : List UInt8) (il : List Int) (w : World) (e : Ending) (w' : World) : Prop := ∃ A c, e = .returned (.tuple #[.string (mk8 kd), .slice A il.length c]) /\ w'.ownsRow w.heap.size 21 1 (.slice A il.length c) il.length (Rs il) /\ Below w.heap.size w w'
theorem class_nil (r : Int) (w : World) : Calls Tryz.prog 16 #[.pointer none, .int .i32 r] w fun e w' => e = .returned (.int .i64 0) /\ Below w.heap.size w w' := by
 go_enter Tryz.func16, Tryz.ntmps16;go_wp2;go_returns;exact ⟨rfl, Below.refl _ _⟩
end
def decH (prt : Int -> Option (List UInt8 × List Int)) (r : Int) : List UInt8 × List Int := if 44032 <= r /\ r < 55204 then ([], [(zq r).1, (zq r).2.1]) else (prt r).getD ([], [])
theorem ze5 (v : Value) (r : Int) (w : World) (hk : Kinds w) (hh : 44032 <= r /\ r < 55204) :
  Calls Tryz.prog 11 #[v, .int .i32 r] w (DecP [] [(zq r).1, (zq r).2.1] w) := by
 have SP := zel r w hk;have h3 : (zq r).2.2 = true := (by unfold zq; rw [if_pos hh]; split <;> rfl);rw [h3] at SP;obtain ⟨x, hx⟩ : ∃ x, x = (zq r).1 := ⟨_, rfl⟩;obtain ⟨y, hy⟩ : ∃ y, y = (zq r).2.1 := ⟨_, rfl⟩;rw [<- hx, <- hy] at SP;rw [<- hx, <- hy];clear h3 hx hy;go_enter Tryz.func11, Tryz.ntmps11;go_wp2_with fail;refine SP.mono ?_;rintro e w1 ⟨rfl, hb⟩
 have hown : (w1.alloc (.cells #[.int .i32 x, .int .i32 y] 21)).ownsRow w.heap.size 21 1 (.slice (some ⟨w1.heap.size, 0, none⟩) 2 2) 2 (Rs [x, y]) :=
  ⟨rfl, .inr ⟨w1.heap.size, 2, #[.int .i32 x, .int .i32 y], rfl, hb.size, zp _ _ _, Nat.le_refl _, by unfold maxLen; omega, rfl, rfl⟩⟩
 have hb2 : Below w.heap.size w (w1.alloc (.cells #[.int .i32 x, .int .i32 y] 21)) := hb.alloc hb.size _;clear SP hb;go_wp2;go_returns;exact ⟨_, _, rfl, hown, hb2⟩
theorem zfh {r : Int} (hh : ¬ (44032 <= r /\ r < 55204)) : (zq r) = (0, 0, false) := by unfold zq; rw [if_neg hh]
theorem decomp_nil (r : Int) (w : World) (hk : Kinds w) (hh : ¬ (44032 <= r /\ r < 55204)) :
  Calls Tryz.prog 11 #[.pointer none, .int .i32 r] w (DecP [] [] w) := by
 have SP := zel r w hk;rw [zfh hh] at SP;go_enter Tryz.func11, Tryz.ntmps11;go_wp2_with fail;refine SP.mono ?_;rintro e w1 ⟨rfl, hb⟩;go_wp2;go_returns;exact ⟨none, 0, rfl, World.ownsRow_nil _ _ _ _, hb⟩
theorem decomp_no {w : World} {bp n : Nat} {a : BAddr} {cls : Int -> Int} {prt : Int -> Option (List UInt8 × List Int)} {pr : Int × Int -> Option Int} {md : Int -> Option (Int × Int)} {sc : Int -> Option Int} (h : BaseM w bp a n cls prt pr md sc) (r : Int) (hr : R32 r) (hk : Kinds w) (hh : ¬ (44032 <= r /\ r < 55204)) :
  Calls Tryz.prog 11 #[.pointer (some ⟨bp, 0, none⟩), .int .i32 r] w (DecP ((prt r).getD ([], [])).1 ((prt r).getD ([], [])).2 w) := by
 have SP := zel r w hk;rw [zfh hh] at SP;go_enter Tryz.func11, Tryz.ntmps11;go_wp2_with fail;refine SP.mono ?_;rintro e w1 ⟨rfl, hb⟩;have h1 := h.below hb;have c1 := za h1.box 1 rfl;obtain ⟨f, hm, hP⟩ := h1.prt;have hPr := hP r hr
 obtain ⟨kd, il, A, c, hg, hq, hrd, hnil, hlen⟩ : ∃ (kd : List UInt8) (il : List Int) (A : Option Addr) (c : Nat), (f r).getD ([], none, 0, 0) = (kd, A, il.length, c) /\ (prt r).getD ([], []) = (kd, il) /\ Rd w1 A il.length (Rs il) /\ (A = none -> il.length = 0 /\ c = 0) /\ il.length <= 18 := by
  cases hf : f r with
  | none =>
   cases hp : prt r with
   | none => exact ⟨[], [], none, 0, rfl, rfl, Rd.nil _ _, fun _ => ⟨rfl, rfl⟩, by simp⟩
   | some q => rw [hf, hp] at hPr; exact hPr.elim
  | some p =>
   cases hp : prt r with
   | none => rw [hf, hp] at hPr; exact hPr.elim
   | some q =>
    rw [hf, hp] at hPr;obtain ⟨e1, e2, e3, e4, e5⟩ := hPr;obtain ⟨pk, pA, pn, pc⟩ := p;simp only [] at e1 e2 e4 e5;subst e1 e2;exact ⟨q.1, q.2, pA, pc, rfl, rfl, e4, e5, e3⟩
 have HQ := hz0q hq;have HG := hz0q hg;clear hq hg hPr hP SP h;go_wp2_with (first | (at_lookup; refine zk rfl _ _ rfl zg zib (zero_part _) hm (k := r) hr rfl rfl ?_; rw [HG.out]) | go_in)
 have hbn : Below w1.heap.size w1 (w1.alloc (.cells #[.string (mk8 kd), .slice A il.length c] 86)) := (Below.refl _ _).alloc (Nat.le_refl _) _;have hbx := zp w1 #[.string (mk8 kd), .slice A il.length c] 86;have hrdW := hrd.below hbn;have hbW := zb hb hbn;clear hm c1 h1 hrd hb;generalize hgq : w1.heap.size = q at *;generalize (w1.alloc (.cells #[.string (mk8 kd), .slice A il.length c] 86)) = W at *;have hmk : ∀ w' : World, Below W.heap.size W w' -> (w'.cell? ⟨q, 0, none⟩ = some (.string (mk8 kd)) /\ w'.cell? ⟨q, 1, none⟩ = some (.slice A il.length c)) /\ Below W.heap.size W w' := fun w' h => ⟨⟨za (zd hbx h) 0 rfl, za (zd hbx h) 1 rfl⟩, h⟩;have HMK := hz0q hmk
 have CL : Hid (∀ w' : World, Below W.heap.size W w' -> Calls Tryz.prog 40 #[.slice A il.length c] w' (fun e w'' => ∃ A' c', e = .returned (.slice A' il.length c') /\ w''.ownsRow W.heap.size 21 1 (.slice A' il.length c') il.length (Rs il) /\ Below w'.heap.size w' w'')) := fun w' h =>
  (rclone_any A il.length c il w' (hrdW.below h) hnil (by omega)).mono fun e w'' ⟨A', c', h1, h2, h3⟩ => ⟨A', c', h1, zb0 h2 h.size, h3⟩
 clear hmk hbx hrdW hbn hnil hgq;refine wp_region_held_drew (S := fun w' => (w'.cell? ⟨q, 0, none⟩ = some (.string (mk8 kd)) /\ w'.cell? ⟨q, 1, none⟩ = some (.slice A il.length c)) /\ Below W.heap.size W w') (by kernel_rfl) (HMK.out _ (Drew.to ⟨1, rfl⟩)) (fun hH0 => ?_);refine tkH 0 (.pointer (some ⟨q, 0, none⟩)) rfl hH0 ?_;try simp only [gA, gB, gC, Act.put, gD, gE, gF]
 refine tkH 1 (.string (mk8 kd)) rfl hH0 ?_;try simp only [gA, gB, gC, Act.put, gD, gE, gF]
 refine tkH 2 (.pointer (some ⟨q, 1, none⟩)) rfl hH0 ?_;try simp only [gA, gB, gC, Act.put, gD, gE, gF]
 refine tkH 3 (.slice A il.length c) rfl hH0 ?_;try simp only [gA, gB, gC, Act.put, gD, gE, gF]
 refine wpAnyH_ready (rs := [4]) (by kernel_rfl) (by simp) ?_;refine AllReadyH.cons rfl (fun K hK => ?_) AllReadyH.nil;go_simp
 refine (CL.out _ hH0.2).mono ?_;rintro e w50 ⟨A', c', rfl, hown5, hb5⟩;refine hK.out _ _ (HMK.out _ (zb hH0.2 hb5)) (fun hH1 => ?_);clear hK K hH0;try simp only [gA, gB, gC, Act.put, gD, gE, gF]
 refine tkH 5 (.string (mk8 kd)) rfl hH1 ?_;try simp only [gA, gB, gC, Act.put, gD, gE, gF]
 refine tkH 6 (.slice A' il.length c') rfl hH1 ?_;try simp only [gA, gB, gC, Act.put, gD, gE, gF]
 refine wpAnyH_done (by kernel_rfl) ?_ _;have hbF := zb hbW hH1.2;clear hH1;go_wp2;go_returns;rw [HQ.out];exact ⟨A', c', rfl, zb0 hown5 hbW.size, hbF⟩
theorem zdy {w : World} {bp n : Nat} {a : BAddr} {cls : Int -> Int} {prt : Int -> Option (List UInt8 × List Int)} {pr : Int × Int -> Option Int} {md : Int -> Option (Int × Int)} {sc : Int -> Option Int} (h : BaseM w bp a n cls prt pr md sc) (r : Int) (hr : R32 r) (hk : Kinds w) :
  Calls Tryz.prog 11 #[.pointer (some ⟨bp, 0, none⟩), .int .i32 r] w (DecP (decH prt r).1 (decH prt r).2 w) := by
 unfold decH
 by_cases hh : 44032 <= r /\ r < 55204
 ·rw [if_pos hh]; exact ze5 _ r w hk hh
 ·rw [if_neg hh]; exact decomp_no h r hr hk hh
theorem decomp_none (r : Int) (w : World) (hk : Kinds w) : Calls Tryz.prog 11 #[.pointer none, .int .i32 r] w (DecP (decH (fun _ => none) r).1 (decH (fun _ => none) r).2 w) := by
 unfold decH
 by_cases hh : 44032 <= r /\ r < 55204
 ·rw [if_pos hh]; exact ze5 _ r w hk hh
 ·rw [if_neg hh]; exact decomp_nil r w hk hh
def pairH (pr : Int × Int -> Option Int) (x y : Int) : Option Int := match pr (x, y) with | some r => some r | none => if (joinH x y).2 = true then some (joinH x y).1 else none
def zd9 (o : Option Int) : Value := .tuple #[.int .i32 (o.getD 0), .bool o.isSome]
theorem joinH_no {x y : Int} (h : (joinH x y).2 = false) : (joinH x y).1 = 0 := by
 unfold joinH at *;split at h
 ·cases h
 ·split at h
  ·cases h
  ·rename_i h1 h2;rw [if_neg h1, if_neg h2]
theorem zg4 (v : Value) {pr : Int × Int -> Option Int} {x y : Int} (h : pr (x, y) = none) : zd9 (pairH pr x y) = .tuple #[.int .i32 (joinH x y).1, .bool (joinH x y).2] := by
 unfold pairH;rw [h]
 cases hj : (joinH x y).2 with
 | true => rfl
 | false => rw [joinH_no hj]; rfl
theorem zic {w : World} {bp n : Nat} {a : BAddr} {cls : Int -> Int} {prt : Int -> Option (List UInt8 × List Int)} {pr : Int × Int -> Option Int} {md : Int -> Option (Int × Int)} {sc : Int -> Option Int} (h : BaseM w bp a n cls prt pr md sc) (x y : Int) (hx : R32 x) (hy : R32 y) (hk : Kinds w) :
  Calls Tryz.prog 28 #[.pointer (some ⟨bp, 0, none⟩), .int .i32 x, .int .i32 y] w fun e w' => e = .returned (zd9 (pairH pr x y)) /\ Below w.heap.size w w' := by
 have c2 := za h.box 2 rfl;have hm := h.pr;obtain ⟨hx1, hx2⟩ := hx;obtain ⟨hy1, hy2⟩ := hy;have hxy : R32P (x, y) := ⟨⟨hx1, hx2⟩, hy1, hy2⟩
 cases hp : pr (x, y) with
 | some r =>
  have hpo : zd9 (pairH pr x y) = .tuple #[.int .i32 r, .bool true] := (by unfold pairH; rw [hp]; rfl);rw [hpo];go_enter Tryz.func28, Tryz.ntmps28;go_wp2_with (first | (at_lookup; refine zk rfl _ _ rfl zdt zja (zee _) hm (k := (x, y)) hxy rfl rfl ?_; rw [hp]) | go_in)
  go_returns;exact ⟨rfl, Below.refl _ _⟩
 | none =>
  rw [zg4 (.bool true) hp];have JN := zik x y w hk hx1 (by omega) hy1 (by omega);go_enter Tryz.func28, Tryz.ntmps28;go_wp2_with (first | (at_lookup; refine zk rfl _ _ rfl zdt zja (zee _) hm (k := (x, y)) hxy rfl rfl ?_; rw [hp]) | (go_at_call 55; refine JN.mono ?_; rintro e w1 ⟨rfl, hb⟩) | go_in)
  go_returns;exact ⟨rfl, hb⟩
theorem pair_none (x y : Int) (w : World) (hx : R32 x) (hy : R32 y) (hk : Kinds w) :
  Calls Tryz.prog 28 #[.pointer none, .int .i32 x, .int .i32 y] w fun e w' => e = .returned (zd9 (pairH (fun _ => none) x y)) /\ Below w.heap.size w w' := by
 obtain ⟨hx1, hx2⟩ := hx;obtain ⟨hy1, hy2⟩ := hy;rw [zg4 (.bool true) rfl];have JN := zik x y w hk hx1 (by omega) hy1 (by omega);go_enter Tryz.func28, Tryz.ntmps28;go_wp2_with fail;refine JN.mono ?_;rintro e w1 ⟨rfl, hb⟩;go_wp2;go_returns;exact ⟨rfl, hb⟩
def secH (sc : Int -> Option Int) (r : Int) : Bool := decide (0 < (sc r).getD 0) || ((joinH 4352 r).2 || (joinH 44032 r).2)
end
section
open Go.RowKit Go.Lib Go.Maps Go.Sort Go.Shelf
def zgj : Code := (Code.region 2 #[{ dst := some 5, op := Op.assign (Operand.tmp 7), type := 21, pos := "iter.go:51", after := #[], guard := none }] false)
def zjn : Code := (Code.block 1 (Code.region 3 #[{ dst := some 8, op := Op.load (33) (Operand.tmp 2), type := 33, pos := "iter.go:52", after := #[], guard := none }, { dst := some 9, op := Op.move (Operand.tmp 5), type := 21, pos := "iter.go:52", after := #[], guard := none }, { dst := some 10, op := Op.buildSlice (33) 1 #[(0, Operand.tmp 9)], type := 33, pos := "iter.go:52", after := #[{ on := 1, ground := Ground.data }], guard := none }, { dst := some 11, op := Op.call { callee := Callee.builtin Builtin.append, args := #[Operand.tmp 8, Operand.tmp 10], argTypes := #[33, 33] }, type := 33, pos := "iter.go:52", after := #[{ on := 0, ground := Ground.data }, { on := 2, ground := Ground.data }], guard := none }, { dst := none, op := Op.store (33) (Operand.tmp 2) (Operand.tmp 11), type := 0, pos := "iter.go:52", after := #[{ on := 3, ground := Ground.data }, { on := 3, ground := Ground.chain }, { on := 0, ground := Ground.phase }, { on := 1, ground := Ground.phase }, { on := 2, ground := Ground.phase }, { on := 3, ground := Ground.phase }], guard := none }] false))
def apRec (fn : FuncId) (sv : Value) (Bs D : Nat) (st : LoopState) (pend : Option Code) : Loop :=
 { state := st, pending := pend, fn, tmps := #[.slice none 0 0, sv, .pointer (some ⟨Bs, 0, none⟩), undef, .slice none 0 0, undef, sv, undef, undef, undef, undef, undef, undef], params := #[7], assign := zgj, body := zjn, defers := D }
structure ApAt (w0 : World) (fn : FuncId) (sv : Value) (Bs l D : Nat) (ss : List Int) (W : World) : Prop where
 box : ∃ v, W.heap[Bs]? = some (.cells #[v] (33) (0, 0)) /\ W.ownsRow w0.heap.size (21) 1 v ss.length (ss.map runeV) /\ (v = .slice none 0 0 ↔ ss = [])
 L : W.heap[l]? = some (.loop (apRec fn sv Bs D .ready none))
 K : W.heap[D]? = some (.deferred (some []))
 below : Below w0.heap.size w0 W
theorem ap_abides (w0 : World) (fn : FuncId) (sv : Value) (Bs l D B : Nat) (hB : w0.heap.size <= B) : AbidesFrom B (ApAt w0 fn sv Bs l D) := fun s W W' row h hg hrow => by
 have hrow' : ∀ r, row = some r -> ∃ o : Obj, W.heap[r]? = some o /\ o.isWalk = true := fun r e => (hrow r e).2;obtain ⟨v, hv, hr, hn⟩ := h.box
 exact ⟨⟨v, (grownBy_keeps hg hrow' hv rfl).trans hv, ownsRow_abides_a hr hg hrow', hn⟩, (grownBy_keeps hg hrow' h.L rfl).trans h.L, (grownBy_keeps hg hrow' h.K rfl).trans h.K,
  h.below.grown hg h.below.size (fun k e => Nat.le_trans hB (hrow k e).1)⟩
theorem apYield (F : Fence) (m : Nat) (w0 : World) (fn : FuncId) (hfn : F.fn fn) (sv : Value) (Bs l D : Nat) (hBl : Bs ≠ l) (hDl : D ≠ l) (hDB : D ≠ Bs) (h0B : w0.heap.size <= Bs) (h0l : w0.heap.size <= l)
  (N : Nat) (hN : N <= maxLen) (hNb : N * 8 <= 140737488355328) (ss : List Int) (x : Int) (W : World) (h : ApAt w0 fn sv Bs l D ss W) (hlen : ss.length < N) :
  YieldAt F m Tryz.prog l #[runeV x] W fun e W' => e = .returned (.bool true) /\ ApAt w0 fn sv Bs l D (ss ++ [x]) W' /\ KeepsWalks W W' := by
 have hne : (33 : TypeId) ≠ 21 := (by decide);obtain ⟨i0, hi, hz0, hz1, hz2⟩ := info_parts za8.hi;obtain ⟨v, hv, hrow, _⟩ := h.box;refine ⟨fn, #[.slice none 0 0, sv, .pointer (some ⟨Bs, 0, none⟩), undef, .slice none 0 0, undef, sv, runeV x, undef, undef, undef, undef, undef], zgj, zjn, by simpa [apRec] using run_yield (P := Tryz.prog) (args := #[runeV x]) h.L rfl, roundIn_of_wpIn hfn ?_⟩;have hl : l < W.heap.size := (Array.getElem?_eq_some_iff.1 h.L).1;have hbr := run_beginRound (P := Tryz.prog) h.L rfl;obtain ⟨W2, hW2⟩ : ∃ W2, W.putObj l (.loop { apRec fn sv Bs D .ready none with state := .busy }) = W2 := ⟨_, rfl⟩;rw [hW2] at hbr;have hg2 : W.grownBy W2 (some l) := (by rw [<- hW2]; exact grownBy_putObj_a _ _ _);have hk2 : KeepsWalks W W2 := (by rw [<- hW2]; exact KeepsWalks.putObj _ h.L rfl);have hv2 : W2.heap[Bs]? = some (.cells #[v] (33) (0, 0)) := (by rw [<- hW2]; exact (World.putObj_heap_other hBl).trans hv);have hK2 : W2.heap[D]? = some (.deferred (some [])) := (by rw [<- hW2]; exact (World.putObj_heap_other hDl).trans h.K);have hL2 : W2.heap[l]? = some (.loop { apRec fn sv Bs D .ready none with state := .busy }) := (by rw [<- hW2]; exact World.putObj_heap_same hl);have hrow2 : W2.ownsRow w0.heap.size (21) 1 v ss.length (ss.map runeV) := hrow.kept hg2 (ownsRow_ne_a hrow h.L (fun cur e => by first | cases e | exact hne (Obj.cells.inj e).2.1))
 have hb2 : Below w0.heap.size w0 W2 := h.below.grown hg2 h.below.size (fun k e => by cases e; exact h0l);obtain ⟨hc2, hf2⟩ := cell_of_box_a hv2;have hBlt : Bs < W2.heap.size := (Array.getElem?_eq_some_iff.1 hv2).1;have hl2 : l < W2.heap.size := (Array.getElem?_eq_some_iff.1 hL2).1;have hDlt : D < W2.heap.size := (Array.getElem?_eq_some_iff.1 hK2).1
 have ne_of : ∀ {j : Nat} {o : Obj}, W2.heap[j]? = some o -> (∀ cur, o ≠ .cells cur (21) (0, 0)) -> some j ≠ v.ownBlock := fun hj hno => by
  rcases ownsRow_ne_a hrow2 hj hno with e | e
  ·rw [e]; simp
  ·exact fun e' => e e'.symm
 clear hW2;unfold zgj
 gi_wp2_with gi_round_op_a
 unfold zjn
 gi_wp2_with (first
  | (gi_at_builtin; refine wpListIn_append_own _ rfl _ _ (33) rfl w0.heap.size (21) i0 (.int .i32 0) 1 4 Tryz.underlying33 hi hz0 hz1 hz2 rfl (by decide) _ _ _ rfl (hrow2.alloc _) ⟨W2.heap.size, 0, none⟩ 1 1 [runeV x] rfl rfl (cell_one_new _ _ _) (by simp [Value.oneCell', runeV]) (by omega) (by omega) (by have := hb2.size; simp; omega) ?_; intro v' w3 hown' hg3 hnil3
     have hv3 : w3.heap[Bs]? = some (.cells #[v] (33) (0, 0)) := (hg3.block Bs (by simp; omega) (ne_of hv2 (fun cur e => by first | cases e | exact hne (Obj.cells.inj e).2.1))).trans ((Below.heap_alloc _ _ Bs hBlt).trans hv2)
     obtain ⟨hc3, hf3⟩ := cell_of_box_a hv3
     obtain ⟨g', cap', cur', rfl, hbase', hgb', hr1, hr2, hr3, hr4⟩ : ∃ g' cap' cur', v' = .slice (some ⟨g', 0, none⟩) (ss.length + 1) cap' /\ w0.heap.size <= g' /\ w3.heap[g']? = some (.cells cur' (21) (0, 0)) /\ ss.length + 1 <= cap' /\ cap' <= maxLen /\ cur'.size = cap' * 1 /\ cur'.toList.take ((ss.length + 1) * 1) = ss.map runeV ++ [runeV x] := by
      rcases hown'.2 with ⟨_, h0⟩ | h'
      ·exact absurd h0 (by omega)
      ·exact h'
     go_frame)
  | gi_round_op_a)
 have hg3' : (W2.alloc (.cells #[runeV x] (21))).grownBy w3 v.ownBlock := hg3;have hL3 : w3.heap[l]? = some (.loop { apRec fn sv Bs D .ready none with state := .busy }) := (hg3'.block l (by simp; omega) (ne_of hL2 (fun cur e => by first | cases e | exact hne (Obj.cells.inj e).2.1))).trans ((Below.heap_alloc _ _ l hl2).trans hL2)
 have hK3 : w3.heap[D]? = some (.deferred (some [])) := (hg3'.block D (by simp; omega) (ne_of hK2 (fun cur e => by first | cases e | exact hne (Obj.cells.inj e).2.1))).trans ((Below.heap_alloc _ _ D hDlt).trans hK2)
 obtain ⟨w4, hw4⟩ : ∃ w4, w3.setCell ⟨Bs, 0, none⟩ (.slice (some ⟨g', 0, none⟩) (ss.length + 1) cap') = w4 := ⟨_, rfl⟩;rw [hw4];have hg4 : w3.grownBy w4 (some Bs) := (by rw [<- hw4]; exact grownBy_setCell0_a _ _ _);have hv4 : w4.heap[Bs]? = some (.cells #[.slice (some ⟨g', 0, none⟩) (ss.length + 1) cap'] (33) (0, 0)) := (by rw [<- hw4]; exact heap_setCell_box_a _ hv3);have hL4 : w4.heap[l]? = some (.loop { apRec fn sv Bs D .ready none with state := .busy }) := (hg4.block l (Array.getElem?_eq_some_iff.1 hL3).1 (fun e => hBl (by cases e; rfl))).trans hL3;have hK4 : w4.heap[D]? = some (.deferred (some [])) := (hg4.block D (Array.getElem?_eq_some_iff.1 hK3).1 (fun e => hDB (by cases e; rfl))).trans hK3;have hrow4 := hown'.kept hg4 (ownsRow_ne_a hown' hv3 (fun cur e => by first | cases e | exact hne (Obj.cells.inj e).2.1))
 have hl4 : l < w4.heap.size := (Array.getElem?_eq_some_iff.1 hL4).1;have hb3 : Below w0.heap.size w0 w3 := (hb2.alloc hb2.size _).grown hg3' (by have := hb2.size; simp; omega) (fun k e => (hrow2.lt k e).1);have hb4 : Below w0.heap.size w0 w4 := hb3.grown hg4 hb3.size (fun k e => by cases e; exact h0B);have hk4 : KeepsWalks W w4 := ((hk2.trans (KeepsWalks.alloc _ _)).trans (KeepsWalks.of_grownBy hg3' (ownsRow_not_walk_a (hrow2.alloc _)))).trans (by rw [<- hw4]; exact KeepsWalks.setCell _ _ _);clear hw4;refine ⟨_, _, run_endRound none hL4, rfl, ⟨⟨_, (World.putObj_heap_other hBl).trans hv4, ?_, by simp⟩, World.putObj_heap_same hl4, (World.putObj_heap_other hDl).trans hK4, hb4.grown (grownBy_putObj_a _ _ _) hb4.size (fun k e => by cases e; exact h0l)⟩, hk4.trans (KeepsWalks.putObj _ hL4 rfl)⟩;have := hrow4.kept (grownBy_putObj_a w4 l (.loop { { apRec fn sv Bs D .ready none with state := .busy } with state := if (none : Option Code).isNone then .ready else .done, pending := none })) (ownsRow_ne_a hrow4 hL4 (fun cur e => by first | cases e | exact hne (Obj.cells.inj e).2.1))
 simpa using this
theorem appendSeq_in (F : Fence) (n : Nat) (h11 : F.fn 112) (hro : F.round = none) (hn : 2 <= n) (g : Nat) (lb : Array Value) (hFg : F.fn g) (eg : ∀ args w, (callFunc g args).run Tryz.prog w = .ok (.enter g args) w)
  (S : List Int -> Prop) (N : Nat) (hN : N <= maxLen) (hNb : N * 8 <= 140737488355328) (w : World) (hseq : SeqGives F (n - 1) Tryz.prog g lb runeV S N w) :
  CallsIn F n Tryz.prog 112 #[.slice none 0 0, .func (.func g) #[] lb] w fun e w' => ∃ (v : Value) (ss : List Int), e = .returned v /\ S ss /\ w'.ownsRow w.heap.size (21) 1 v ss.length (ss.map runeV) /\ (v = .slice none 0 0 ↔ ss = []) /\ Below w.heap.size w w' := by
 have h1 : 1 <= n := (by omega);have hne : (33 : TypeId) ≠ 21 := (by decide);refine callsIn_of_wp_marks Tryz.func112 rfl h11 ?_ hro;simp only [Tryz.ntmps112, List.size_toArray, List.length_cons, List.length_nil, Nat.reduceAdd, Nat.reduceSub, Array.replicate_succ, Array.replicate_zero, List.push_toArray, List.append_toArray, List.nil_append, List.cons_append]
 gi_wp2
 refine wpIn_rangeFunc ?_;intro fn hfn;rw [hro];obtain ⟨W0, hW0⟩ : ∃ W0, w.alloc (.cells #[.slice none 0 0] (33)) = W0 := ⟨_, rfl⟩;have hs0 : W0.heap.size = w.heap.size + 1 := (by rw [<- hW0]; simp);have hv0 : W0.heap[w.heap.size]? = some (.cells #[.slice none 0 0] (33) (0, 0)) := (by rw [<- hW0]; exact World.alloc_heap_new w _);have hb0 : Below w.heap.size w W0 := (by rw [<- hW0]; exact (Below.refl _ w).alloc (Nat.le_refl _) _);rw [hW0];obtain ⟨W1, hW1⟩ : ∃ W1, (W0.alloc (.deferred (some []))).alloc (.loop (apRec fn (.func (.func g) #[] lb) w.heap.size W0.heap.size .ready none)) = W1 := ⟨_, rfl⟩
 have hold : ∀ k, k < W0.heap.size -> W1.heap[k]? = W0.heap[k]? := fun k hk => by
  rw [<- hW1]; exact (Below.heap_alloc _ _ k (by simp; omega)).trans (Below.heap_alloc _ _ k hk)
 have hb1 : Below w.heap.size w W1 := (by rw [<- hW1]; exact (hb0.alloc hb0.size _).alloc (by have := hb0.size; simp; omega) _);have hs1 : W1.heap.size = W0.heap.size + 2 := by rw [<- hW1]; simp
 have hM : ApAt w fn (.func (.func g) #[] lb) w.heap.size (W0.heap.size + 1) W0.heap.size [] W1 :=
  ⟨⟨_, (hold w.heap.size (by omega)).trans hv0, ⟨rfl, .inl ⟨rfl, rfl⟩⟩, by simp⟩,
   by rw [<- hW1]; have := World.alloc_heap_new (W0.alloc (.deferred (some []))) (.loop (apRec fn (.func (.func g) #[] lb) w.heap.size W0.heap.size .ready none)); rwa [World.size_alloc] at this,
   by rw [<- hW1]; exact (Below.heap_alloc _ _ _ (by simp)).trans (World.alloc_heap_new W0 _), hb1⟩
 refine ⟨W0.heap.size + 1, [{ target := .collected W0.heap.size, args := #[] }], W1, { target := .fn (.func g) lb, args := #[.func (.yield (W0.heap.size + 1)) #[] #[]] }, W1, g,
  #[.func (.yield (W0.heap.size + 1)) #[] #[]] ++ lb, W1, ?_, ?_, ?_, ?_, fun _ => h1, ?_⟩
 ·rw [<- hW1]; exact run_enterLoop_outer _ _ _ _ _
 ·simp [resolve, go_sem]
 ·intro f' hf'; simp [Target.leads] at hf'; subst hf'; exact hFg
 ·simp [invoke, go_sem, eg]
 ·refine (hseq (W0.heap.size + 1) (ApAt w fn (.func (.func g) #[] lb) w.heap.size (W0.heap.size + 1) W0.heap.size) W1 hb1 (ap_abides _ _ _ _ _ _ _ hb1.size)
   (fun pre x W hJ hl => apYield F (n - 1 - 1) w fn hfn _ w.heap.size (W0.heap.size + 1) W0.heap.size (by omega) (by omega) (by omega) (Nat.le_refl _) (by omega) N hN hNb pre x W hJ hl) hM).mono ?_
  rintro e W2 ⟨⟨v0, rfl⟩, ss, hS, h2⟩;obtain ⟨v, hv, hrow, hnil⟩ := h2.box;have hend := run_endLoop (P := Tryz.prog) h2.L (by simp [apRec]);obtain ⟨W3, hW3⟩ : ∃ W3, W2.putObj (W0.heap.size + 1) (.loop { apRec fn (.func (.func g) #[] lb) w.heap.size W0.heap.size .ready none with state := .exhausted }) = W3 := ⟨_, rfl⟩;rw [hW3] at hend;have hg3 : W2.grownBy W3 (some (W0.heap.size + 1)) := (by rw [<- hW3]; exact grownBy_putObj_a _ _ _);have hv3 : W3.heap[w.heap.size]? = some (.cells #[v] (33) (0, 0)) := (by rw [<- hW3]; exact (World.putObj_heap_other (by omega)).trans hv);have hK3 : W3.heap[W0.heap.size]? = some (.deferred (some [])) := (by rw [<- hW3]; exact (World.putObj_heap_other (by omega)).trans h2.K);have hrow3 := hrow.kept hg3 (ownsRow_ne_a hrow h2.L (fun cur e => by first | cases e | exact hne (Obj.cells.inj e).2.1))
  have hb3 : Below w.heap.size w W3 := h2.below.grown hg3 h2.below.size (fun k e => by cases e; omega);obtain ⟨hc3, hf3⟩ := cell_of_box_a hv3;clear hW3;refine ⟨none, W3, hend, ?_⟩
  gi_wp2
  rw [<- hs0];refine ⟨by simp, .inl ⟨_, _, rfl, run_takeDeferred hK3, ?_⟩⟩;exact ⟨_, results_tmp rfl _ _ _, v, ss, rfl, hS, hrow3.kept (grownBy_putObj_a _ _ _) (ownsRow_ne_a hrow3 hK3 (fun cur e => by first | cases e | exact hne (Obj.cells.inj e).2.1)), hnil, hb3.grown (grownBy_putObj_a _ _ _) hb3.size (fun k e => by cases e; omega)⟩
theorem collect_in (F : Fence) (n : Nat) (h8 : F.fn 72) (h11 : F.fn 112) (hro : F.round = none) (hn : 3 <= n) (g : Nat) (lb : Array Value) (hFg : F.fn g) (eg : ∀ args w, (callFunc g args).run Tryz.prog w = .ok (.enter g args) w)
  (S : List Int -> Prop) (N : Nat) (hN : N <= maxLen) (hNb : N * 8 <= 140737488355328) (w : World) (hseq : SeqGives F (n - 1 - 1) Tryz.prog g lb runeV S N w) :
  CallsIn F n Tryz.prog 72 #[.func (.func g) #[] lb] w fun e w' => ∃ (v : Value) (ss : List Int), e = .returned v /\ S ss /\ w'.ownsRow w.heap.size (21) 1 v ss.length (ss.map runeV) /\ (v = .slice none 0 0 ↔ ss = []) /\ Below w.heap.size w w' := by
 have h1 : 1 <= n := (by omega);have e11 : ∀ args w, (callFunc 112 args).run Tryz.prog w = .ok (.enter 112 args) w := enters_of Tryz.func112 (by kernel_rfl) rfl;refine callsIn_of_wp Tryz.func72 rfl h8 ?_ hro;simp only [Tryz.ntmps72, List.size_toArray, List.length_cons, List.length_nil, Nat.reduceAdd, Nat.reduceSub, Array.replicate_succ, Array.replicate_zero, List.push_toArray, List.append_toArray, List.nil_append, List.cons_append]
 gi_wp2_with (gi_at_fn 112; refine (appendSeq_in F (n - 1) h11 hro (by omega) g lb hFg eg S N hN hNb _ hseq).mono ?_; rintro e w' ⟨v, ss, rfl, hS, hrow, hnil, hb⟩)
 go_ret
 exact ⟨v, ss, rfl, hS, hrow, hnil, hb⟩
theorem zgp (n : Nat) (hn : 4 <= n) (g : Nat) (lb : Array Value) (eg : ∀ args w, (callFunc g args).run Tryz.prog w = .ok (.enter g args) w)
  (S : List Int -> Prop) (N : Nat) (hN : N <= maxLen) (hNb : N * 8 <= 140737488355328) (w : World) (hseq : SeqGives Fence.wide (n - 1 - 1 - 1) Tryz.prog g lb runeV S N w) :
  CallsIn Fence.wide n Tryz.prog 37 #[.func (.func g) #[] lb] w fun e w' => ∃ (A : Option Addr) (c : Nat) (ss : List Int), e = .returned (.slice A ss.length c) /\ S ss /\
   w'.ownsRow w.heap.size 21 1 (.slice A ss.length c) ss.length (Rs (srt ss)) /\ (A = none -> ss.length = 0 /\ c = 0) /\ ss.length <= N /\ Below w.heap.size w w' := by
 have hro : Fence.wide.round = none := rfl;have h1 : 1 <= n := (by omega);have e8 : ∀ args w, (callFunc 72 args).run Tryz.prog w = .ok (.enter 72 args) w := enters_of Tryz.func72 (by kernel_rfl) rfl;refine callsIn_of_wp Tryz.func37 rfl trivial ?_ hro;simp only [Tryz.ntmps37, List.size_toArray, List.length_cons, List.length_nil, Nat.reduceAdd, Nat.reduceSub, Array.replicate_succ, Array.replicate_zero, List.push_toArray, List.append_toArray, List.nil_append, List.cons_append]
 gi_wp2_with (refine ⟨trivial, ?_⟩; gi_at_fn 72; refine (collect_in Fence.wide (n - 1) trivial trivial hro (by omega) g lb trivial eg _ N hN hNb _ hseq.bounded).mono ?_; rintro e W ⟨v, ss, rfl, ⟨hS, hlen⟩, hrow, hnil, hb⟩)
 obtain ⟨A, c, rfl, hA⟩ : ∃ A c, v = .slice A ss.length c /\ (A = none -> ss.length = 0 /\ c = 0) := by
  rcases hrow.2 with ⟨rfl, hz⟩ | ⟨gb, cap, cur, rfl, _⟩
  ·exact ⟨none, 0, by rw [hz], fun _ => ⟨hz, rfl⟩⟩
  ·exact ⟨_, _, rfl, fun h => by cases h⟩
 have hsz : ss.length < 4611686018427387904 := (by unfold maxLen at hN; omega);have hsort := zh5 A ss.length c w.heap.size ss W hrow hsz;have hlt := fun k e => (hrow.lt k e).1;clear hrow hnil
 gi_wp2
 refine ⟨trivial, (callsIn_wide.2 hsort).mono ?_⟩;rintro e w' ⟨rfl, hown', hg'⟩
 gi_wp2
 go_ret
 exact ⟨A, c, ss, rfl, hS, hown', hA, hlen, hb.grown hg' hb.size hlt⟩
end
end Go.Proofs.YtfdelmodmadoaaaGreatDoor
