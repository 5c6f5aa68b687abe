/- Rows taken: what is wrong with them: the code. Rows taken by a base: the code. Which characters are made of two, and that what is noted of them is in order. Plain. -/
import Derived.Test.YtolcabjkbefjgaaGreatDoorZ23
set_option linter.unusedSimpArgs false
set_option linter.unusedVariables false
set_option maxRecDepth 20000
set_option maxHeartbeats 4000000
namespace Go.Proofs.YtolcabjkbefjgaaGreatDoor
section
open Go.RowKit Go.Lib Go.Maps
abbrev rowAV (x : RA) : Value := .agg #[.int .i32 x.1.fr, .int .i32 x.1.up, .string (mk8 x.1.nm), .string (mk8 x.1.ct), .int .i64 x.1.cl, .string (mk8 x.1.kd), .slice x.2.1 x.1.il.length x.2.2]
theorem rowidx_any (g : FuncId) (en : ∀ args w, (callFunc g args).run Tryz.prog w = .ok (.enter g args) w) (p : RowS -> Bool) (A : Option Addr) (n c : Nat) (os : List RA) (w : World) (hr : zd5 w A os) (hol : os.length = n) (hn : n <= 1099511627776)
  (hp : ∀ x ∈ os, ∀ W, Below w.heap.size w W -> Calls Tryz.prog g #[rowAV x] W fun e W' => e = .returned (.bool (p x.1)) /\ Below W.heap.size W W') :
  Calls Tryz.prog 112 #[.slice A n c, .func (.func g) #[] #[]] w fun e w' => (∃ k : Int, e = .returned (.int .i64 k) /\ decide (0 <= k) = (os.map (·.1)).any p) /\ Below w.heap.size w w' := by
 have HOL := hz0q hol;have HP := hz0q hp;clear hp hol;go_enter Tryz.func112, Tryz.ntmps112;go_wp2
 go_loopw [8] (fun i wr => ∃ k : Nat, k <= n /\ i = .int .i64 k /\ Hid (((os.map (·.1)).take k).any p = false) /\ Below w.heap.size w wr) (fun i _ => n - (intOf i).toNat)
 case atStart => exact ⟨0, Nat.zero_le _, rfl, by show _ = _; rfl, Below.refl _ _⟩
 case round =>
  obtain ⟨k, hk, rfl, HA, hb⟩ := hrel
  by_cases hlt : k < n
  ·obtain ⟨⟨x, Ax, cx⟩, hx⟩ : ∃ x, os[k]? = some x := ⟨_, List.getElem?_eq_getElem (by rw [HOL.out]; exact hlt)⟩;obtain ⟨b, off, rfl, hbl, hc⟩ := (hr.below hb).at_ (by rw [HOL.out]; omega);obtain ⟨c0, c1, c2, c3, c4, c5, c6⟩ := ziu hx hc;have HC := HP.out _ (List.mem_of_getElem? hx) wr hb;dsimp only [rowAV] at HC;have hLk : (os.map (·.1))[k]? = some x := by rw [List.getElem?_map, hx]; rfl
   have HT : Hid (((os.map (·.1)).take (k + 1)).any p = p x) := by
    show _ = _;rw [List.take_add_one, hLk, List.any_append, HA.out];simp
   have HMEM := hz0q (List.mem_of_getElem? hLk);have hi : (k : Int) < (n : Int) := (by omega);clear hc hr hx hLk
   cases hpx : p x
   ·rw [hpx] at HC HT;clear hpx HA;go_wp2_with fail;refine HC.mono ?_;rintro e w1 ⟨rfl, hb1⟩;have hb2 := zb hb hb1;go_wp2;go_roundw
    case rel => exact ⟨k + 1, by omega, by go_num, HT, hb2⟩
    case measure => simp [intOf]; omega
   ·have HZ : Hid ((os.map (·.1)).any p = true) := List.any_eq_true.2 ⟨x, HMEM.out, hpx⟩;rw [hpx] at HC;clear hpx HT HA;go_wp2_with fail;refine HC.mono ?_;rintro e w1 ⟨rfl, hb1⟩;have hb2 := zb hb hb1;go_wp2;go_returns;rw [HZ.out];exact ⟨⟨(k : Int), rfl, by simp⟩, hb2⟩
  ·have hi : (n : Int) <= (k : Int) := by omega
   have HZ : Hid ((os.map (·.1)).any p = false) := by
    show _ = _;rw [<- HA.out, List.take_of_length_le (by rw [List.length_map, HOL.out]; omega)]
   clear HA;go_wp2;go_returns;rw [HZ.out];exact ⟨⟨-1, rfl, by decide⟩, hb⟩
theorem zcv (g : FuncId) (en : ∀ args w, (callFunc g args).run Tryz.prog w = .ok (.enter g args) w) (p : RowS -> Bool) (A : Option Addr) (n c : Nat) (os : List RA) (w : World) (hr : zd5 w A os) (hol : os.length = n) (hn : n <= 1099511627776)
  (hp : ∀ x ∈ os, ∀ W, Below w.heap.size w W -> Calls Tryz.prog g #[rowAV x] W fun e W' => e = .returned (.bool (p x.1)) /\ Below W.heap.size W W') :
  Calls Tryz.prog 67 #[.slice A n c, .func (.func g) #[] #[]] w fun e w' => e = .returned (.bool ((os.map (·.1)).any p)) /\ Below w.heap.size w w' := by
 have HI := rowidx_any g en p A n c os w hr hol hn hp;clear hp hr;go_enter Tryz.func67, Tryz.ntmps67;go_wp2_with fail;refine HI.mono ?_;rintro e w1 ⟨⟨k, rfl, hk⟩, hb⟩;have HK := hz0q hk;clear hk HI;go_wp2;go_returns;refine ⟨?_, hb⟩;rw [<- HK.out];rfl
def zbu (x : RowS) : Bool := decide ((0 < x.cl \/ 0 < x.il.length) /\ x.fr <= 55203 /\ 44032 <= x.up)
def formB (x : RowS) : Bool := decide (x.kd = [] /\ 2 < x.il.length)
theorem zg7 (x : RA) (w : World) : Calls Tryz.prog 66 #[rowAV x] w fun e w' => e = .returned (.bool (zbu x.1)) /\ Below w.heap.size w w' := by
 obtain ⟨⟨fr, up, nm, ct, cl, kd, il⟩, A, c⟩ := x;have hb : ∀ o, Below w.heap.size w (w.alloc o) := fun o => (Below.refl _ _).alloc (Nat.le_refl _) _;unfold zbu;simp only [rowAV];obtain ⟨m, hm⟩ : ∃ m, m = il.length := ⟨_, rfl⟩;rw [<- hm];clear hm
 by_cases h1 : 0 < cl
 ·by_cases h2 : fr <= 55203
  ·by_cases h3 : 44032 <= up
   ·rw [decide_eq_true ⟨.inl h1, h2, h3⟩];go_enter Tryz.func66, Tryz.ntmps66;go_wp2;go_returns;exact ⟨rfl, hb _⟩
   ·rw [decide_eq_false (fun h => h3 h.2.2)];have h4 : up < 44032 := (by omega);go_enter Tryz.func66, Tryz.ntmps66;go_wp2;go_returns;exact ⟨rfl, hb _⟩
  ·rw [decide_eq_false (fun h => h2 h.2.1)];have h4 : 55203 < fr := (by omega);go_enter Tryz.func66, Tryz.ntmps66;go_wp2;go_returns;exact ⟨rfl, hb _⟩
 ·have h1' : cl <= 0 := by omega
  by_cases h0 : 0 < m
  ·have h0' : (0 : Int) < (m : Int) := by omega
   by_cases h2 : fr <= 55203
   ·by_cases h3 : 44032 <= up
    ·rw [decide_eq_true ⟨.inr h0, h2, h3⟩];go_enter Tryz.func66, Tryz.ntmps66;go_wp2;go_returns;exact ⟨rfl, hb _⟩
    ·rw [decide_eq_false (fun h => h3 h.2.2)];have h4 : up < 44032 := (by omega);go_enter Tryz.func66, Tryz.ntmps66;go_wp2;go_returns;exact ⟨rfl, hb _⟩
   ·rw [decide_eq_false (fun h => h2 h.2.1)];have h4 : 55203 < fr := (by omega);go_enter Tryz.func66, Tryz.ntmps66;go_wp2;go_returns;exact ⟨rfl, hb _⟩
  ·obtain rfl : m = 0 := (by omega);rw [decide_eq_false (fun h => by omega)];go_enter Tryz.func66, Tryz.ntmps66;go_wp2;go_returns;exact ⟨rfl, hb _⟩
theorem zg6 (x : RA) (w : World) : Calls Tryz.prog 68 #[rowAV x] w fun e w' => e = .returned (.bool (formB x.1)) /\ Below w.heap.size w w' := by
 obtain ⟨⟨fr, up, nm, ct, cl, kd, il⟩, A, c⟩ := x;have hb : ∀ o, Below w.heap.size w (w.alloc o) := fun o => (Below.refl _ _).alloc (Nat.le_refl _) _;unfold formB;simp only [rowAV];obtain ⟨m, hm⟩ : ∃ m, m = il.length := ⟨_, rfl⟩;rw [<- hm];clear hm
 by_cases h1 : kd = []
 ·have hte : (mk8 kd).toList.isEmpty = true := by rw [h1, zah, zay]; rfl
  by_cases h2 : 2 < m
  ·have h2' : (2 : Int) < (m : Int) := (by omega);rw [decide_eq_true ⟨h1, h2⟩];clear h1;go_enter Tryz.func68, Tryz.ntmps68;go_wp2;go_returns;exact ⟨rfl, hb _⟩
  ·have h2' : (m : Int) <= 2 := (by omega);rw [decide_eq_false (fun h => h2 h.2)];clear h1;go_enter Tryz.func68, Tryz.ntmps68;go_wp2;go_returns;exact ⟨zaw (decide_eq_false (by omega)), hb _⟩
 ·have hte : (mk8 kd).toList.isEmpty = false := by
   rw [zah, zay]
   cases kd with
   | nil => exact absurd rfl h1
   | cons c t => rfl
  rw [decide_eq_false (fun h => h1 h.1)];clear h1;go_enter Tryz.func68, Tryz.ntmps68;go_wp2;go_returns;exact ⟨rfl, hb _⟩
end
section
open Go.RowKit Go.Lib Go.Maps
def clsN (T : Int -> Int) (x : RowS) : Int -> Int := fun r => if x.fr <= r /\ r <= x.up then x.cl else T r
def clsL (l : List RowS) : Int -> Int := l.foldl clsN fun _ => 0
def prtN (f : Int -> Option (List UInt8 × List Int)) (x : RowS) : Int -> Option (List UInt8 × List Int) := if x.il = [] then f else upd f x.fr (some (x.kd, x.il))
def prtL (l : List RowS) : Int -> Option (List UInt8 × List Int) := l.foldl prtN fun _ => none
theorem clsL_snoc (l : List RowS) (x : RowS) : clsL (l ++ [x]) = clsN (clsL l) x := by simp [clsL]
theorem ziz (l : List RowS) (x : RowS) : prtL (l ++ [x]) = prtN (prtL l) x := by simp [prtL]
structure RowT (x : RowS) : Prop where
 lo : 0 <= x.fr
 le : x.fr <= x.up
 hi : x.up <= 1114111
 il : x.il.length <= 18
structure TInv (W0 w : World) (bp : Nat) (a : BAddr) (k : Nat) (l : List RowS) (wr : World) : Prop where
 box : wr.heap[bp]? = some (.cells #[.pointer (some ⟨a.tb, 0, none⟩), .map (some a.m1), .map (some a.m2), .map (some a.m3), .map (some a.m4)] 81 (0, 0))
 tab : TabAt wr a.tb a.mb (4353 * k) (clsL l)
 prt : ∃ f, MapF wr Tryz.prog 21 zr R32 partV a.m1 k f /\ ∀ r, R32 r -> zd6 W0 (f r) (prtL l r)
 wrote : Wrote (fun g => g = a.mb \/ g = a.m1) w wr
theorem zdb {α β : Type} {w : World} {P : Program} {K : TypeId} {lit : α -> Lit} {ok : α -> Prop} {mkV : β -> Value} {b n : Nat} {f : α -> Option β} (h : MapF w P K lit ok mkV b n f) {g : Nat} {cs : Array Value} {t : TypeId} {fr : Nat × Nat} (hg : w.heap[g]? = some (.cells cs t fr)) : g ≠ b := fun e => h.ne_cells hg e.symm
theorem TabAt.kept {w w' : World} {tb mb n : Nat} {T : Int -> Int} {row : Option Nat} (h : TabAt w tb mb n T) (hg : w.grownBy w' row) (h1 : some tb ≠ row) (h2 : some mb ≠ row) : TabAt w' tb mb n T := by
 obtain ⟨i1, f, i2, i3⟩ := h;exact ⟨(hg.block _ (zbl i1) h1).trans i1, f, i2.kept hg h2, i3⟩
theorem btakes_any {W0 w : World} {bp : Nat} {a : BAddr} (h : TInv W0 w bp a 0 [] w) (hb0 : Below W0.heap.size W0 w) (hmb : W0.heap.size <= a.mb) (hm1 : W0.heap.size <= a.m1) (hne : a.mb ≠ a.m1) (A : Option Addr) (n c : Nat) (os : List RA) (hr : zd5 W0 A os) (hol : os.length = n) (hn : n <= 100000) (hnil : ∀ x ∈ os, x.2.1 = none -> x.1.il.length = 0 /\ x.2.2 = 0) (hrt : ∀ x ∈ os, RowT x.1)
  (h1 : (os.map (·.1)).any zbu = false) (h2 : (os.map (·.1)).any formB = false) :
  Calls Tryz.prog 28 #[.pointer (some ⟨bp, 0, none⟩), .slice A n c] w fun e w' => e = .returned (.int .i64 0) /\ TInv W0 w bp a n (os.map (·.1)) w' := by
 have C1 := fun W hb => zcv 66 (enters_of Tryz.func66 (by kernel_rfl) rfl) zbu A n c os W (hr.below (w' := W) hb) hol (by omega) (fun x _ W _ => zg7 x W);have C2 := fun W hb => zcv 68 (enters_of Tryz.func68 (by kernel_rfl) rfl) formB A n c os W (hr.below (w' := W) hb) hol (by omega) (fun x _ W _ => zg6 x W);rw [h1] at C1;rw [h2] at C2;have HOL := hz0q hol;have HNIL := hz0q hnil;have HRT := hz0q hrt;have C1' := C1 w hb0;have hW : ∀ wr, Wrote (fun g => g = a.mb \/ g = a.m1) w wr -> Below W0.heap.size W0 wr := fun wr h => hb0.trans (h.below (by rintro k (rfl | rfl) <;> assumption) hb0.size)
 have HW := hz0q hW;clear hol hnil hrt h1 h2 C1 hW;go_enter Tryz.func28, Tryz.ntmps28;go_wp2_with fail;refine C1'.mono ?_;rintro e w1 ⟨rfl, hb1⟩;have C2' := C2 w1 (zb hb0 hb1);clear C1' C2;go_wp2_with fail;refine C2'.mono ?_;rintro e w2 ⟨rfl, hb2⟩;have hb02 := zb hb1 hb2
 have hI0 : TInv W0 w bp a 0 [] w2 := by
  obtain ⟨i1, i2, ⟨f, i3, i4⟩, i5⟩ := h;exact ⟨zd i1 hb02, i2.below hb02, ⟨f, i3.below hb02 i3.lt, i4⟩, .of_below hb02⟩
 clear C2' hb1 hb2 hb02 h;go_wp2
 go_loopw [15] (fun i wr => ∃ k : Nat, k <= n /\ i = .int .i64 k /\ TInv W0 w bp a k ((os.map (·.1)).take k) wr) (fun i _ => n - (intOf i).toNat)
 case atStart => exact ⟨0, Nat.zero_le _, rfl, hI0⟩
 case round =>
  obtain ⟨k, hk, rfl, hI⟩ := hrel
  by_cases hlt : k < n
  ·obtain ⟨⟨x, Ax, cx⟩, hx⟩ : ∃ x, os[k]? = some x := ⟨_, List.getElem?_eq_getElem (by rw [HOL.out]; exact hlt)⟩;have hbw := HW.out _ hI.wrote;obtain ⟨b, off, rfl, hbl, hc⟩ := (hr.below hbw).at_ (by rw [HOL.out]; omega);obtain ⟨c0, c1, c2, c3, c4, c5, c6⟩ := ziu hx hc;have hLk : (os.map (·.1))[k]? = some x := (by rw [List.getElem?_map, hx]; rfl);have hTk : (os.map (·.1)).take (k + 1) = (os.map (·.1)).take k ++ [x] := (by rw [List.take_add_one, hLk]; rfl);have HTK := hz0q hTk;have hrx := HRT.out _ (List.mem_of_getElem? hx);have hnx := HNIL.out _ (List.mem_of_getElem? hx);have hix := hr.into _ (List.mem_of_getElem? hx);simp only [] at hrx hnx hix;have hi : (k : Int) < (n : Int) := (by omega);have hi0 : (0 : Int) <= (k : Int) := (by omega);have HR := hz0q hr;clear hc hx hLk hTk hr;go_upto_region 9 with fail;have hbn : Below wr.heap.size wr (wr.alloc (.cells #[.int .i32 x.fr, .int .i32 x.up, .string (mk8 x.nm), .string (mk8 x.ct), .int .i64 x.cl, .string (mk8 x.kd), .slice Ax x.il.length cx] 143)) := (Below.refl _ _).alloc (Nat.le_refl _) _;have hbx := zj wr #[.int .i32 x.fr, .int .i32 x.up, .string (mk8 x.nm), .string (mk8 x.ct), .int .i64 x.cl, .string (mk8 x.kd), .slice Ax x.il.length cx] 143;obtain ⟨i1, i2, ⟨f, i3, i4⟩, i5⟩ := hI;have j1 := zd i1 hbn;have j2 := i2.below hbn;have j3 := i3.below hbn i3.lt;have j5 := i5.then_below hbn;clear i1 i2 i3 i5 c0 c1 c2 c3 c4 c5 c6;generalize hgq : wr.heap.size = q at *;generalize (wr.alloc (.cells #[.int .i32 x.fr, .int .i32 x.up, .string (mk8 x.nm), .string (mk8 x.ct), .int .i64 x.cl, .string (mk8 x.kd), .slice Ax x.il.length cx] 143)) = W at *
   have hce : ∀ w', Below W.heap.size W w' -> w'.heap[bp]? = some (.cells #[.pointer (some ⟨a.tb, 0, none⟩), .map (some a.m1), .map (some a.m2), .map (some a.m3), .map (some a.m4)] 81 (0, 0)) /\ w'.heap[q]? = some (.cells #[.int .i32 x.fr, .int .i32 x.up, .string (mk8 x.nm), .string (mk8 x.ct), .int .i64 x.cl, .string (mk8 x.kd), .slice Ax x.il.length cx] 143 (0, 0)) := fun w' h => ⟨zd j1 h, zd hbx h⟩;have HCE := hz0q hce;have hjd : Below W.heap.size W W.drew := Drew.to ⟨1, rfl⟩;have ST := trieSet_any (j2.below hjd) x.fr x.up x.cl hrx.lo hrx.le hrx.hi (by omega);have hmbT : ∃ f, MapF W Tryz.prog 21 zr R32 zez a.mb (4353 * k) f := (by obtain ⟨_, f, h, _⟩ := j2; exact ⟨f, h⟩);have hne1 : bp ≠ a.mb := (by obtain ⟨f, h⟩ := hmbT; exact zdb h j1);have hne2 : q ≠ a.mb := (by obtain ⟨f, h⟩ := hmbT; exact zdb h hbx);have hne3 : bp ≠ a.m1 := zdb j3 j1;have hne4 : q ≠ a.m1 := zdb j3 hbx;have HCW : Hid (∀ w', Wrote (fun g => g = a.mb) W.drew w' -> w'.heap[bp]? = some (.cells #[.pointer (some ⟨a.tb, 0, none⟩), .map (some a.m1), .map (some a.m2), .map (some a.m3), .map (some a.m4)] 81 (0, 0)) /\ w'.heap[q]? = some (.cells #[.int .i32 x.fr, .int .i32 x.up, .string (mk8 x.nm), .string (mk8 x.ct), .int .i64 x.cl, .string (mk8 x.kd), .slice Ax x.il.length cx] 143 (0, 0))) := fun w' h => ⟨h.blk (zd j1 hjd) hne1, h.blk (zd hbx hjd) hne2⟩;clear hce hbn hgq;refine wp_region_held_drew (S := fun w' => w'.heap[bp]? = some (.cells #[.pointer (some ⟨a.tb, 0, none⟩), .map (some a.m1), .map (some a.m2), .map (some a.m3), .map (some a.m4)] 81 (0, 0)) /\ w'.heap[q]? = some (.cells #[.int .i32 x.fr, .int .i32 x.up, .string (mk8 x.nm), .string (mk8 x.ct), .int .i64 x.cl, .string (mk8 x.kd), .slice Ax x.il.length cx] 143 (0, 0))) (by kernel_rfl) (HCE.out _ (Drew.to ⟨1, rfl⟩)) (fun hH0 => ?_)
   refine wpAnyH_take (i := 0) (v := .pointer (some ⟨bp, 0, none⟩)) rfl (by kernel_rfl) (by kernel_rfl) (by kernel_rfl) (fun _ _ _ h => h) (Or.inl ⟨by kernel_rfl, ?_⟩) hH0 ?_
   ·intro w hSw;obtain ⟨hS1, hS2⟩ := hSw;have s0 := za hS1 0 rfl;have s1 := za hS1 1 rfl;have t0 := za hS2 0 rfl;have t1 := za hS2 1 rfl;have t4 := za hS2 4 rfl;have t5 := za hS2 5 rfl;have t6 := za hS2 6 rfl;go_simp
    all_goals try with_reducible rfl
   try simp only [gA, gB, gC, Act.put, gD, gE, gF]
   refine wpAnyH_take (i := 1) (v := .pointer (some ⟨bp, 0, none⟩)) rfl (by kernel_rfl) (by kernel_rfl) (by kernel_rfl) (fun _ _ _ h => h) (Or.inl ⟨by kernel_rfl, ?_⟩) hH0 ?_
   ·intro w hSw;obtain ⟨hS1, hS2⟩ := hSw;have s0 := za hS1 0 rfl;have s1 := za hS1 1 rfl;have t0 := za hS2 0 rfl;have t1 := za hS2 1 rfl;have t4 := za hS2 4 rfl;have t5 := za hS2 5 rfl;have t6 := za hS2 6 rfl;go_simp
    all_goals try with_reducible rfl
   try simp only [gA, gB, gC, Act.put, gD, gE, gF]
   refine wpAnyH_take (i := 2) (v := .pointer (some ⟨bp, 0, none⟩)) rfl (by kernel_rfl) (by kernel_rfl) (by kernel_rfl) (fun _ _ _ h => h) (Or.inl ⟨by kernel_rfl, ?_⟩) hH0 ?_
   ·intro w hSw;obtain ⟨hS1, hS2⟩ := hSw;have s0 := za hS1 0 rfl;have s1 := za hS1 1 rfl;have t0 := za hS2 0 rfl;have t1 := za hS2 1 rfl;have t4 := za hS2 4 rfl;have t5 := za hS2 5 rfl;have t6 := za hS2 6 rfl;go_simp
    all_goals try with_reducible rfl
   try simp only [gA, gB, gC, Act.put, gD, gE, gF]
   refine wpAnyH_take (i := 3) (v := .pointer (some ⟨a.tb, 0, none⟩)) rfl (by kernel_rfl) (by kernel_rfl) (by kernel_rfl) (fun _ _ _ h => h) (Or.inl ⟨by kernel_rfl, ?_⟩) hH0 ?_
   ·intro w hSw;obtain ⟨hS1, hS2⟩ := hSw;have s0 := za hS1 0 rfl;have s1 := za hS1 1 rfl;have t0 := za hS2 0 rfl;have t1 := za hS2 1 rfl;have t4 := za hS2 4 rfl;have t5 := za hS2 5 rfl;have t6 := za hS2 6 rfl;go_simp
    all_goals try with_reducible rfl
   try simp only [gA, gB, gC, Act.put, gD, gE, gF]
   refine wpAnyH_take (i := 4) (v := .pointer (some ⟨q, 0, none⟩)) rfl (by kernel_rfl) (by kernel_rfl) (by kernel_rfl) (fun _ _ _ h => h) (Or.inl ⟨by kernel_rfl, ?_⟩) hH0 ?_
   ·intro w hSw;obtain ⟨hS1, hS2⟩ := hSw;have s0 := za hS1 0 rfl;have s1 := za hS1 1 rfl;have t0 := za hS2 0 rfl;have t1 := za hS2 1 rfl;have t4 := za hS2 4 rfl;have t5 := za hS2 5 rfl;have t6 := za hS2 6 rfl;go_simp
    all_goals try with_reducible rfl
   try simp only [gA, gB, gC, Act.put, gD, gE, gF]
   refine wpAnyH_take (i := 5) (v := .int .i32 x.fr) rfl (by kernel_rfl) (by kernel_rfl) (by kernel_rfl) (fun _ _ _ h => h) (Or.inl ⟨by kernel_rfl, ?_⟩) hH0 ?_
   ·intro w hSw;obtain ⟨hS1, hS2⟩ := hSw;have s0 := za hS1 0 rfl;have s1 := za hS1 1 rfl;have t0 := za hS2 0 rfl;have t1 := za hS2 1 rfl;have t4 := za hS2 4 rfl;have t5 := za hS2 5 rfl;have t6 := za hS2 6 rfl;go_simp
    all_goals try with_reducible rfl
   try simp only [gA, gB, gC, Act.put, gD, gE, gF]
   refine wpAnyH_take (i := 6) (v := .pointer (some ⟨q, 1, none⟩)) rfl (by kernel_rfl) (by kernel_rfl) (by kernel_rfl) (fun _ _ _ h => h) (Or.inl ⟨by kernel_rfl, ?_⟩) hH0 ?_
   ·intro w hSw;obtain ⟨hS1, hS2⟩ := hSw;have s0 := za hS1 0 rfl;have s1 := za hS1 1 rfl;have t0 := za hS2 0 rfl;have t1 := za hS2 1 rfl;have t4 := za hS2 4 rfl;have t5 := za hS2 5 rfl;have t6 := za hS2 6 rfl;go_simp
    all_goals try with_reducible rfl
   try simp only [gA, gB, gC, Act.put, gD, gE, gF]
   refine wpAnyH_take (i := 7) (v := .int .i32 x.up) rfl (by kernel_rfl) (by kernel_rfl) (by kernel_rfl) (fun _ _ _ h => h) (Or.inl ⟨by kernel_rfl, ?_⟩) hH0 ?_
   ·intro w hSw;obtain ⟨hS1, hS2⟩ := hSw;have s0 := za hS1 0 rfl;have s1 := za hS1 1 rfl;have t0 := za hS2 0 rfl;have t1 := za hS2 1 rfl;have t4 := za hS2 4 rfl;have t5 := za hS2 5 rfl;have t6 := za hS2 6 rfl;go_simp
    all_goals try with_reducible rfl
   try simp only [gA, gB, gC, Act.put, gD, gE, gF]
   refine wpAnyH_take (i := 8) (v := .pointer (some ⟨q, 4, none⟩)) rfl (by kernel_rfl) (by kernel_rfl) (by kernel_rfl) (fun _ _ _ h => h) (Or.inl ⟨by kernel_rfl, ?_⟩) hH0 ?_
   ·intro w hSw;obtain ⟨hS1, hS2⟩ := hSw;have s0 := za hS1 0 rfl;have s1 := za hS1 1 rfl;have t0 := za hS2 0 rfl;have t1 := za hS2 1 rfl;have t4 := za hS2 4 rfl;have t5 := za hS2 5 rfl;have t6 := za hS2 6 rfl;go_simp
    all_goals try with_reducible rfl
   try simp only [gA, gB, gC, Act.put, gD, gE, gF]
   refine wpAnyH_take (i := 9) (v := .int .i64 x.cl) rfl (by kernel_rfl) (by kernel_rfl) (by kernel_rfl) (fun _ _ _ h => h) (Or.inl ⟨by kernel_rfl, ?_⟩) hH0 ?_
   ·intro w hSw;obtain ⟨hS1, hS2⟩ := hSw;have s0 := za hS1 0 rfl;have s1 := za hS1 1 rfl;have t0 := za hS2 0 rfl;have t1 := za hS2 1 rfl;have t4 := za hS2 4 rfl;have t5 := za hS2 5 rfl;have t6 := za hS2 6 rfl;go_simp
    all_goals try with_reducible rfl
   try simp only [gA, gB, gC, Act.put, gD, gE, gF]
   refine wpAnyH_ready (rs := [10]) (by kernel_rfl) (by simp) ?_;refine AllReadyH.cons rfl (fun K hK => ?_) AllReadyH.nil;go_simp
   refine (ST).mono ?_;rintro e w50 ⟨rfl, hT5, hw5⟩;refine hK.out _ _ (HCW.out _ hw5) (fun hH1 => ?_);clear hK K hH0;try simp only [gA, gB, gC, Act.put, gD, gE, gF]
   refine wpAnyH_done (by kernel_rfl) ?_ _;have j13 : MapF w50 Tryz.prog 21 zr R32 partV a.m1 k f := (j3.below hjd j3.lt).at (hw5.block _ (by have := j3.lt; exact this) (fun e => hne e.symm));have j15 : Wrote (fun g => g = a.mb \/ g = a.m1) w w50 := (j5.then_below hjd).trans (hw5.mono fun k _ h => .inl h);obtain ⟨g1, g2⟩ := HCW.out _ hw5;have d6 := za g2 6 rfl;have hT6 : TabAt w50 a.tb a.mb (4353 * (k + 1)) (clsL ((os.map (·.1)).take (k + 1))) := (by rw [HTK.out, clsL_snoc]; exact hT5);clear hT5 hw5 j2 j3 j5 hjd hmbT hbx j1 hH1
   by_cases hz : x.il = []
   ·have hz0 : x.il.length = 0 := (by rw [hz]; rfl);have hI2 : TInv W0 w bp a (k + 1) ((os.map (·.1)).take (k + 1)) w50 := ⟨g1, hT6, ⟨f, j13.mono (by omega), fun r hr => by rw [HTK.out, ziz]; unfold prtN; rw [if_pos hz]; exact i4 r hr⟩, j15⟩;rw [hz0] at d6;clear hz hz0 hT6 j13 j15 g1 g2 i4 hrx hnx hix;go_wp2;go_roundw
    case rel => exact ⟨k + 1, by omega, by go_num, hI2⟩
    case measure => simp [intOf]; omega
   ·have hzn : 0 < x.il.length := List.length_pos_iff.2 hz;have hzp : (0 : Int) < (x.il.length : Int) := (by omega);have HZ := hz0q hz;have hfr : R32 x.fr := (by have := hrx.lo; have := hrx.le; have := hrx.hi; unfold R32; omega);have hmx : k < maxLen := (by unfold maxLen; omega);have hmd : MapF w50.drew Tryz.prog 21 zr R32 partV a.m1 k f := j13.at rfl;have HCE2 : Hid (∀ w', Below w50.heap.size w50 w' -> w'.heap[bp]? = some (.cells #[.pointer (some ⟨a.tb, 0, none⟩), .map (some a.m1), .map (some a.m2), .map (some a.m3), .map (some a.m4)] 81 (0, 0)) /\ w'.heap[q]? = some (.cells #[.int .i32 x.fr, .int .i32 x.up, .string (mk8 x.nm), .string (mk8 x.ct), .int .i64 x.cl, .string (mk8 x.kd), .slice Ax x.il.length cx] 143 (0, 0))) := fun w' h => ⟨zd g1 h, zd g2 h⟩;have HCG : Hid (∀ w', w50.drew.grownBy w' (some a.m1) -> w'.heap[bp]? = some (.cells #[.pointer (some ⟨a.tb, 0, none⟩), .map (some a.m1), .map (some a.m2), .map (some a.m3), .map (some a.m4)] 81 (0, 0)) /\ w'.heap[q]? = some (.cells #[.int .i32 x.fr, .int .i32 x.up, .string (mk8 x.nm), .string (mk8 x.ct), .int .i64 x.cl, .string (mk8 x.kd), .slice Ax x.il.length cx] 143 (0, 0))) := fun w' h => ⟨(h.block _ (zbl g1) (fun e => hne3 (by injection e with e))).trans g1, (h.block _ (zbl g2) (fun e => hne4 (by injection e with e))).trans g2⟩;have HNM : Hid (some a.tb ≠ some a.m1 /\ some a.mb ≠ some a.m1) := ⟨fun e => zdb j13 hT6.1 (by injection e with e), fun e => hne (by injection e with e)⟩;clear hz j13 g1 g2;go_upto_region 11 with fail
    refine wp_region_held_drew (S := fun w' => w'.heap[bp]? = some (.cells #[.pointer (some ⟨a.tb, 0, none⟩), .map (some a.m1), .map (some a.m2), .map (some a.m3), .map (some a.m4)] 81 (0, 0)) /\ w'.heap[q]? = some (.cells #[.int .i32 x.fr, .int .i32 x.up, .string (mk8 x.nm), .string (mk8 x.ct), .int .i64 x.cl, .string (mk8 x.kd), .slice Ax x.il.length cx] 143 (0, 0))) (by kernel_rfl) (HCE2.out _ (Drew.to ⟨1, rfl⟩)) (fun hH0 => ?_);refine wpAnyH_take (i := 0) (v := .pointer (some ⟨bp, 0, none⟩)) rfl (by kernel_rfl) (by kernel_rfl) (by kernel_rfl) (fun _ _ _ h => h) (Or.inl ⟨by kernel_rfl, ?_⟩) hH0 ?_
    ·intro w hSw;obtain ⟨hS1, hS2⟩ := hSw;have s0 := za hS1 0 rfl;have s1 := za hS1 1 rfl;have t0 := za hS2 0 rfl;have t1 := za hS2 1 rfl;have t4 := za hS2 4 rfl;have t5 := za hS2 5 rfl;have t6 := za hS2 6 rfl;go_simp
     all_goals try with_reducible rfl
    try simp only [gA, gB, gC, Act.put, gD, gE, gF]
    refine wpAnyH_take (i := 1) (v := .pointer (some ⟨bp, 0, none⟩)) rfl (by kernel_rfl) (by kernel_rfl) (by kernel_rfl) (fun _ _ _ h => h) (Or.inl ⟨by kernel_rfl, ?_⟩) hH0 ?_
    ·intro w hSw;obtain ⟨hS1, hS2⟩ := hSw;have s0 := za hS1 0 rfl;have s1 := za hS1 1 rfl;have t0 := za hS2 0 rfl;have t1 := za hS2 1 rfl;have t4 := za hS2 4 rfl;have t5 := za hS2 5 rfl;have t6 := za hS2 6 rfl;go_simp
     all_goals try with_reducible rfl
    try simp only [gA, gB, gC, Act.put, gD, gE, gF]
    refine wpAnyH_take (i := 2) (v := .pointer (some ⟨bp, 1, none⟩)) rfl (by kernel_rfl) (by kernel_rfl) (by kernel_rfl) (fun _ _ _ h => h) (Or.inl ⟨by kernel_rfl, ?_⟩) hH0 ?_
    ·intro w hSw;obtain ⟨hS1, hS2⟩ := hSw;have s0 := za hS1 0 rfl;have s1 := za hS1 1 rfl;have t0 := za hS2 0 rfl;have t1 := za hS2 1 rfl;have t4 := za hS2 4 rfl;have t5 := za hS2 5 rfl;have t6 := za hS2 6 rfl;go_simp
     all_goals try with_reducible rfl
    try simp only [gA, gB, gC, Act.put, gD, gE, gF]
    refine wpAnyH_take (i := 3) (v := .map (some a.m1)) rfl (by kernel_rfl) (by kernel_rfl) (by kernel_rfl) (fun _ _ _ h => h) (Or.inl ⟨by kernel_rfl, ?_⟩) hH0 ?_
    ·intro w hSw;obtain ⟨hS1, hS2⟩ := hSw;have s0 := za hS1 0 rfl;have s1 := za hS1 1 rfl;have t0 := za hS2 0 rfl;have t1 := za hS2 1 rfl;have t4 := za hS2 4 rfl;have t5 := za hS2 5 rfl;have t6 := za hS2 6 rfl;go_simp
     all_goals try with_reducible rfl
    try simp only [gA, gB, gC, Act.put, gD, gE, gF]
    refine wpAnyH_take (i := 4) (v := .pointer (some ⟨q, 0, none⟩)) rfl (by kernel_rfl) (by kernel_rfl) (by kernel_rfl) (fun _ _ _ h => h) (Or.inl ⟨by kernel_rfl, ?_⟩) hH0 ?_
    ·intro w hSw;obtain ⟨hS1, hS2⟩ := hSw;have s0 := za hS1 0 rfl;have s1 := za hS1 1 rfl;have t0 := za hS2 0 rfl;have t1 := za hS2 1 rfl;have t4 := za hS2 4 rfl;have t5 := za hS2 5 rfl;have t6 := za hS2 6 rfl;go_simp
     all_goals try with_reducible rfl
    try simp only [gA, gB, gC, Act.put, gD, gE, gF]
    refine wpAnyH_take (i := 5) (v := .int .i32 x.fr) rfl (by kernel_rfl) (by kernel_rfl) (by kernel_rfl) (fun _ _ _ h => h) (Or.inl ⟨by kernel_rfl, ?_⟩) hH0 ?_
    ·intro w hSw;obtain ⟨hS1, hS2⟩ := hSw;have s0 := za hS1 0 rfl;have s1 := za hS1 1 rfl;have t0 := za hS2 0 rfl;have t1 := za hS2 1 rfl;have t4 := za hS2 4 rfl;have t5 := za hS2 5 rfl;have t6 := za hS2 6 rfl;go_simp
     all_goals try with_reducible rfl
    try simp only [gA, gB, gC, Act.put, gD, gE, gF]
    refine wpAnyH_take (i := 6) (v := .pointer (some ⟨q, 5, none⟩)) rfl (by kernel_rfl) (by kernel_rfl) (by kernel_rfl) (fun _ _ _ h => h) (Or.inl ⟨by kernel_rfl, ?_⟩) hH0 ?_
    ·intro w hSw;obtain ⟨hS1, hS2⟩ := hSw;have s0 := za hS1 0 rfl;have s1 := za hS1 1 rfl;have t0 := za hS2 0 rfl;have t1 := za hS2 1 rfl;have t4 := za hS2 4 rfl;have t5 := za hS2 5 rfl;have t6 := za hS2 6 rfl;go_simp
     all_goals try with_reducible rfl
    try simp only [gA, gB, gC, Act.put, gD, gE, gF]
    refine wpAnyH_take (i := 7) (v := .string (mk8 x.kd)) rfl (by kernel_rfl) (by kernel_rfl) (by kernel_rfl) (fun _ _ _ h => h) (Or.inl ⟨by kernel_rfl, ?_⟩) hH0 ?_
    ·intro w hSw;obtain ⟨hS1, hS2⟩ := hSw;have s0 := za hS1 0 rfl;have s1 := za hS1 1 rfl;have t0 := za hS2 0 rfl;have t1 := za hS2 1 rfl;have t4 := za hS2 4 rfl;have t5 := za hS2 5 rfl;have t6 := za hS2 6 rfl;go_simp
     all_goals try with_reducible rfl
    try simp only [gA, gB, gC, Act.put, gD, gE, gF]
    refine wpAnyH_take (i := 8) (v := .pointer (some ⟨q, 6, none⟩)) rfl (by kernel_rfl) (by kernel_rfl) (by kernel_rfl) (fun _ _ _ h => h) (Or.inl ⟨by kernel_rfl, ?_⟩) hH0 ?_
    ·intro w hSw;obtain ⟨hS1, hS2⟩ := hSw;have s0 := za hS1 0 rfl;have s1 := za hS1 1 rfl;have t0 := za hS2 0 rfl;have t1 := za hS2 1 rfl;have t4 := za hS2 4 rfl;have t5 := za hS2 5 rfl;have t6 := za hS2 6 rfl;go_simp
     all_goals try with_reducible rfl
    try simp only [gA, gB, gC, Act.put, gD, gE, gF]
    refine wpAnyH_take (i := 9) (v := .slice Ax x.il.length cx) rfl (by kernel_rfl) (by kernel_rfl) (by kernel_rfl) (fun _ _ _ h => h) (Or.inl ⟨by kernel_rfl, ?_⟩) hH0 ?_
    ·intro w hSw;obtain ⟨hS1, hS2⟩ := hSw;have s0 := za hS1 0 rfl;have s1 := za hS1 1 rfl;have t0 := za hS2 0 rfl;have t1 := za hS2 1 rfl;have t4 := za hS2 4 rfl;have t5 := za hS2 5 rfl;have t6 := za hS2 6 rfl;go_simp
     all_goals try with_reducible rfl
    try simp only [gA, gB, gC, Act.put, gD, gE, gF]
    refine wpAnyH_take (i := 10) (v := partV (x.kd, Ax, x.il.length, cx)) rfl (by kernel_rfl) (by kernel_rfl) (by kernel_rfl) (fun _ _ _ h => h) (Or.inl ⟨by kernel_rfl, ?_⟩) hH0 ?_
    ·intro w hSw;obtain ⟨hS1, hS2⟩ := hSw;have s0 := za hS1 0 rfl;have s1 := za hS1 1 rfl;have t0 := za hS2 0 rfl;have t1 := za hS2 1 rfl;have t4 := za hS2 4 rfl;have t5 := za hS2 5 rfl;have t6 := za hS2 6 rfl;go_simp
     all_goals try with_reducible rfl
    try simp only [gA, gB, gC, Act.put, gD, gE, gF]
    refine wpAnyH_ready (rs := [11]) (by kernel_rfl) (by simp) ?_;refine AllReadyH.cons rfl (fun K hK => ?_) AllReadyH.nil;refine zel rfl _ _ _ rfl zk zkr hmx hmd (k := x.fr) hfr (x.kd, Ax, x.il.length, cx) rfl rfl rfl ?_;intro w7 hm7 hg7 hs7;refine hK.out _ _ (HCG.out _ hg7) (fun hH1 => ?_);clear hK K hH0;try simp only [gA, gB, gC, Act.put, gD, gE, gF]
    refine wpAnyH_done (by kernel_rfl) ?_ _;obtain ⟨g1', g2'⟩ := HCG.out _ hg7;have hgw := zec hg7
    have hI2 : TInv W0 w bp a (k + 1) ((os.map (·.1)).take (k + 1)) w7 := by
     refine ⟨g1', hT6.kept hgw HNM.out.1 HNM.out.2, ⟨_, hm7, fun r hr => ?_⟩, j15.trans (Wrote.grown hgw fun k hk => .inr (by injection hk with hk; exact hk.symm))⟩;rw [HTK.out, ziz];unfold prtN;rw [if_neg HZ.out];unfold upd
     by_cases e : r = x.fr
     ·rw [if_pos e, if_pos e];exact ⟨rfl, rfl, hrx.il, hix, hnx⟩
     ·rw [if_neg e, if_neg e];exact i4 r hr
    clear hm7 hg7 hgw g1' g2' hT6 hmd j15 i4 hH1;go_wp2;go_roundw
    case rel => exact ⟨k + 1, by omega, by go_num, hI2⟩
    case measure => simp [intOf]; omega
  ·have hi : (n : Int) <= (k : Int) := (by omega);have hk0 : k = n := (by omega);subst hk0;rw [List.take_of_length_le (by rw [List.length_map, HOL.out]; exact Nat.le_refl _)] at hI;have HI := hz0q hI;clear hI hr;go_wp2;go_returns;exact ⟨rfl, HI.out⟩
theorem btakes_bad {W0 w : World} {bp : Nat} (hb0 : Below W0.heap.size W0 w) (A : Option Addr) (n c : Nat) (os : List RA) (hr : zd5 W0 A os) (hol : os.length = n) (hn : n <= 100000)
  (hbad : (os.map (·.1)).any zbu = true \/ ((os.map (·.1)).any zbu = false /\ (os.map (·.1)).any formB = true)) :
  Calls Tryz.prog 28 #[.pointer (some ⟨bp, 0, none⟩), .slice A n c] w fun e w' => (e = .returned (.int .i64 12) \/ e = .returned (.int .i64 10)) /\ Below w.heap.size w w' := by
 have C1 := zcv 66 (enters_of Tryz.func66 (by kernel_rfl) rfl) zbu A n c os w (hr.below hb0) hol (by omega) (fun x _ W _ => zg7 x W);have C2 := fun W hb => zcv 68 (enters_of Tryz.func68 (by kernel_rfl) rfl) formB A n c os W (hr.below (w' := W) hb) hol (by omega) (fun x _ W _ => zg6 x W);rcases hbad with h1 | ⟨h1, h2⟩
 ·rw [h1] at C1;clear C2 h1;go_enter Tryz.func28, Tryz.ntmps28;go_wp2_with fail;refine C1.mono ?_;rintro e w1 ⟨rfl, hb1⟩;go_wp2;go_returns;exact ⟨.inl rfl, hb1⟩
 ·rw [h1] at C1;rw [h2] at C2;clear h1 h2;go_enter Tryz.func28, Tryz.ntmps28;go_wp2_with fail;refine C1.mono ?_;rintro e w1 ⟨rfl, hb1⟩;have C2' := C2 w1 (zb hb0 hb1);clear C1 C2;go_wp2_with fail;refine C2'.mono ?_;rintro e w2 ⟨rfl, hb2⟩;go_wp2;go_returns;exact ⟨.inr rfl, zb hb1 hb2⟩
end
section
def madeQ (cls : Int -> Int) (prt : Int -> Option (List UInt8 × List Int)) (out : List Int) (r : Int) : Bool :=
 match prt r with
 | some ([], [x, _]) => !decide (r ∈ out) && !decide (0 < cls r) && !decide (0 < cls x)
 | _ => false
def zax (prt : Int -> Option (List UInt8 × List Int)) (r : Int) : Int × Int :=
 match prt r with
 | some (_, [x, y]) => (x, y)
 | _ => (0, 0)
def zdd (p : Int × Int) : Bool := (joinH p.1 p.2).2
theorem zco {cls : Int -> Int} {prt : Int -> Option (List UInt8 × List Int)} {out : List Int} {r : Int} (h : madeQ cls prt out r = true) :
  prt r = some ([], [(zax prt r).1, (zax prt r).2]) /\ r ∉ out /\ ¬ 0 < cls r /\ ¬ 0 < cls (zax prt r).1 := by
 unfold madeQ at h;unfold zax;split at h
 ·rename_i x y hp;rw [hp];simp only [Bool.and_eq_true, Bool.not_eq_true', decide_eq_false_iff_not] at h;exact ⟨rfl, h.1.1, h.1.2, h.2⟩
 ·cases h
end
end Go.Proofs.YtolcabjkbefjgaaGreatDoor
