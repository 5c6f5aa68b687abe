/- Rows of a file: reading them, whether two are one, and the chapter's examples. slices.ContainsFunc of characters. What a line tells, by itself: the document's answer. -/
import Derived.Test.YtfdelmodmadoaaaGreatDoorY13
import Derived.Test.YtfdelmodmadoaaaGreatDoorY14
set_option linter.unusedSimpArgs false
set_option linter.unusedVariables false
set_option maxRecDepth 20000
set_option maxHeartbeats 4000000
section
section
namespace Go.Proofs.YtfdelmodmadoaaaGreatDoor
open Go.RowKit
structure zdw (w : World) (A : Option Addr) (os : List RA) : Prop where
 cells : RdK w A os.length 7 (Vs os)
 into : ∀ x ∈ os, Rd w x.2.1 x.1.il.length (Rs x.1.il)
section
variable {w w' : World} {A : Option Addr} {os : List RA}
theorem zac.rd {T : TypeId} {B c : Nat} (h : zac T B w os A c) : zdw w A os := by
 refine ⟨?_, fun x hx => ?_⟩
 ·obtain ⟨A', c', hv, _, _, hr⟩ := RdK.of_own h.own;injection hv with h1 _ _;subst h1;exact hr
 ·obtain ⟨A', c', hv, _, _, hr⟩ := Rd.of_own (h.into x hx);injection hv with h1 _ _;subst h1;exact hr
theorem zdw.below (h : zdw w A os) (hb : Below w.heap.size w w') : zdw w' A os := ⟨h.cells.below (by omega) hb, fun x hx => (h.into x hx).below hb⟩
theorem zdw.at_ (h : zdw w A os) (hn : 0 < os.length) : ∃ b off, A = some ⟨b, off, none⟩ /\ b < w.heap.size /\ ∀ j u, (Vs os)[j]? = some u -> w.cell? ⟨b, off + j, none⟩ = some u := h.cells.at_ (by omega) hn
theorem za9 {os : List RA} {k : Nat} {x : RowS} {Ax : Option Addr} {cx : Nat} (hx : os[k]? = some (x, Ax, cx)) {b off : Nat} (hc : ∀ j u, (Vs os)[j]? = some u -> w.cell? ⟨b, off + j, none⟩ = some u) :
  w.cell? ⟨b, off + k * 7, none⟩ = some (.int .i32 x.fr) /\ w.cell? ⟨b, off + k * 7 + 1, none⟩ = some (.int .i32 x.up) /\ w.cell? ⟨b, off + k * 7 + 2, none⟩ = some (.string (mk8 x.nm)) /\ w.cell? ⟨b, off + k * 7 + 3, none⟩ = some (.string (mk8 x.ct)) /\ w.cell? ⟨b, off + k * 7 + 4, none⟩ = some (.int .i64 x.cl) /\ w.cell? ⟨b, off + k * 7 + 5, none⟩ = some (.string (mk8 x.kd)) /\ w.cell? ⟨b, off + k * 7 + 6, none⟩ = some (.slice Ax x.il.length cx) := by
 have hv := Vs_at os k _ hx
 have g : ∀ j u, (rowC (x, Ax, cx))[j]? = some u -> w.cell? ⟨b, off + k * 7 + j, none⟩ = some u := fun j u hu => by
  have := hc _ _ (hv j u hu);rwa [<- Nat.add_assoc] at this
 exact ⟨g 0 _ rfl, g 1 _ rfl, g 2 _ rfl, g 3 _ rfl, g 4 _ rfl, g 5 _ rfl, g 6 _ rfl⟩
end
end Go.Proofs.YtfdelmodmadoaaaGreatDoor
end
section
namespace Go.Proofs.YtfdelmodmadoaaaGreatDoor
open Go.RowKit
theorem indexf_any (g : FuncId) (cb : Array Value) (en : ∀ args w, (callFunc g args).run Tryz.prog w = .ok (.enter g args) w) (p : Int -> Bool) (A : Option Addr) (n c : Nat) (zs : List Int) (w : World) (hr : Rd w A n (Rs zs)) (hn : n <= 1099511627776)
  (hp : ∀ x W, Below w.heap.size w W -> Calls Tryz.prog g (#[.int .i32 x] ++ cb) W fun e W' => e = .returned (.bool (p x)) /\ Below W.heap.size W W') :
  Calls Tryz.prog 105 #[.slice A n c, .func (.func g) #[] cb] w fun e w' => (∃ k : Int, e = .returned (.int .i64 k) /\ decide (0 <= k) = zs.any p) /\ Below w.heap.size w w' := by
 have hzl : zs.length = n := (by have := hr.1; simpa [Rs] using this);have HZL := hz0q hzl;clear hzl;have HP := hz0q hp;clear hp;go_enter Tryz.func105, Tryz.ntmps105;go_wp2
 go_loopw [8] (fun i wr => ∃ k : Nat, k <= n /\ i = .int .i64 k /\ Hid ((zs.take k).any p = false) /\ Below w.heap.size w wr) (fun i _ => n - (intOf i).toNat)
 case atStart => exact ⟨0, Nat.zero_le _, rfl, by show _ = _; rfl, Below.refl _ _⟩
 case round =>
  obtain ⟨k, hk, rfl, HA, hb⟩ := hrel
  by_cases hlt : k < n
  ·obtain ⟨x, hx⟩ : ∃ x, zs[k]? = some x := ⟨_, List.getElem?_eq_getElem (by rw [HZL.out]; exact hlt)⟩;obtain ⟨b, off, rfl, hbl, hc⟩ := (hr.below hb).at_ (by omega);have cx : wr.cell? ⟨b, off + k, none⟩ = some (.int .i32 x) := hc k _ (by simp [Rs, hx]);have HC := HP.out x wr hb
   have HT : Hid ((zs.take (k + 1)).any p = p x) := by
    show _ = _;rw [List.take_add_one, hx, List.any_append, HA.out];simp
   have hi : (k : Int) < (n : Int) := (by omega);clear hc hr hx
   cases hpx : p x
   ·rw [hpx] at HC HT;clear hpx;go_wp2_with fail;refine HC.mono ?_;rintro e w1 ⟨rfl, hb1⟩;have hb2 := zb hb hb1;go_wp2;go_roundw
    case rel => exact ⟨k + 1, by omega, by go_num, HT, hb2⟩
    case measure => simp [intOf]; omega
   ·have HZ : Hid (zs.any p = true) := by
     show _ = _;rw [<- List.take_append_drop (k + 1) zs, List.any_append, HT.out, hpx];rfl
    rw [hpx] at HC;clear hpx HT;go_wp2_with fail;refine HC.mono ?_;rintro e w1 ⟨rfl, hb1⟩;have hb2 := zb hb hb1;go_wp2;go_returns;rw [HZ.out];exact ⟨⟨(k : Int), rfl, by simp⟩, hb2⟩
  ·have hi : (n : Int) <= (k : Int) := by omega
   have HZ : Hid (zs.any p = false) := by
    show _ = _;rw [<- HA.out, List.take_of_length_le (by rw [HZL.out]; omega)]
   go_wp2;go_returns;rw [HZ.out];exact ⟨⟨-1, rfl, by decide⟩, hb⟩
theorem containsf_any (g : FuncId) (cb : Array Value) (en : ∀ args w, (callFunc g args).run Tryz.prog w = .ok (.enter g args) w) (p : Int -> Bool) (A : Option Addr) (n c : Nat) (zs : List Int) (w : World) (hr : Rd w A n (Rs zs)) (hn : n <= 1099511627776)
  (hp : ∀ x W, Below w.heap.size w W -> Calls Tryz.prog g (#[.int .i32 x] ++ cb) W fun e W' => e = .returned (.bool (p x)) /\ Below W.heap.size W W') :
  Calls Tryz.prog 63 #[.slice A n c, .func (.func g) #[] cb] w fun e w' => e = .returned (.bool (zs.any p)) /\ Below w.heap.size w w' := by
 have HI := indexf_any g cb en p A n c zs w hr hn hp;clear hp hr;go_enter Tryz.func63, Tryz.ntmps63;go_wp2_with fail;refine HI.mono ?_;rintro e w1 ⟨⟨k, rfl, hk⟩, hb⟩;have HK := hz0q hk;clear hk HI;go_wp2;go_returns;refine ⟨?_, hb⟩;rw [<- HK.out];rfl
def betw (a b x : Int) : Bool := decide (a <= x) && decide (x <= b)
theorem sets1_any (x a b : Int) (p q : Nat) (w : World) (ha : w.cell? ⟨p, 0, none⟩ = some (.int .i32 a)) (hb : w.cell? ⟨q, 0, none⟩ = some (.int .i32 b)) :
  Calls Tryz.prog 64 #[.int .i32 x, .pointer (some ⟨p, 0, none⟩), .pointer (some ⟨q, 0, none⟩)] w fun e w' => e = .returned (.bool (betw a b x)) /\ w = w' := by
 by_cases h1 : a <= x
 ·by_cases h2 : x <= b
  ·go_enter Tryz.func64, Tryz.ntmps64;go_wp2;go_returns;exact ⟨zo (by simp [betw, h1, h2]), rfl⟩
  ·have h3 : b < x := (by omega);go_enter Tryz.func64, Tryz.ntmps64;go_wp2;go_returns;exact ⟨zo (by simp [betw, h2]; try omega), rfl⟩
 ·have h3 : x < a := (by omega);go_enter Tryz.func64, Tryz.ntmps64;go_wp2;go_returns;exact ⟨zo (by simp [betw, h1]; try omega), rfl⟩
end Go.Proofs.YtfdelmodmadoaaaGreatDoor
end
end
namespace Go.Proofs.YtfdelmodmadoaaaGreatDoor
section
open Go.RowKit
theorem zfj {W : World} {B : Nat} {t : TypeId} {v0 v1 v2 v3 v4 v5 v6 e : Value} {tmps : Array Value} (h : W.heap[B]? = some (.cells #[v0, v1, v2, v3, v4, v5, v6] t (0, 0))) (h2 : tmps.getD 2 undef = .pointer (some ⟨B, 0, none⟩)) (h3 : tmps.getD 3 undef = e) :
  (results Tryz.f114 tmps).run Tryz.prog W = .ok (.tuple #[.agg #[v0, v1, v2, v3, v4, v5, v6], e]) W := by
 have c0 : W.cell? ⟨B, 0, none⟩ = some v0 := za h 0 rfl;have c1 : W.cell? ⟨B, 1, none⟩ = some v1 := za h 1 rfl;have c2 : W.cell? ⟨B, 2, none⟩ = some v2 := za h 2 rfl;have c3 : W.cell? ⟨B, 3, none⟩ = some v3 := za h 3 rfl;have c4 : W.cell? ⟨B, 4, none⟩ = some v4 := za h 4 rfl;have c5 : W.cell? ⟨B, 5, none⟩ = some v5 := za h 5 rfl;have c6 : W.cell? ⟨B, 6, none⟩ = some v6 := za h 6 rfl;have h2' : tmps[2]?.getD undef = .pointer (some ⟨B, 0, none⟩) := (by simpa using h2);have h3' : tmps[3]?.getD undef = e := (by simpa using h3);simp [results, Tryz.f114, go_sem, h2, h3, h2', h3', c0, c1, c2, c3, c4, c5, c6]
theorem rrow_any (s : ByteArray) (w : World) (hs : s.size <= 1073741824) :
  Calls Tryz.prog 114 #[.string s] w (zgn w (zae (bs s))) := by
 have SP := fun w => zia s 59 w hs;rw [show ((UInt8.toNat 59 : Nat) : Int) = 59 from rfl] at SP;have hpart := zbv 59 (bs s);unfold zae;obtain ⟨L, hL⟩ : ∃ L, L = (cutL 59 (bs s)).map bareL := ⟨_, rfl⟩
 have hpl : ∀ x ∈ L, x.length <= s.size := by
  intro x hx;rw [hL] at hx;obtain ⟨y, hy, rfl⟩ := List.mem_map.1 hx;have := hpart y hy;have := zbn y;rw [ze] at *;omega
 rw [<- hL] at SP;rw [<- hL];have HPL := hz0q hpl;clear hL hpart hpl;have hbx := zr w #[.int .i32 0, .int .i32 0, .string ⟨#[]⟩, .string ⟨#[]⟩, .int .i64 0, .string ⟨#[]⟩, .slice none 0 0] 150;have hb0 : Below w.heap.size w (w.alloc (.cells #[.int .i32 0, .int .i32 0, .string ⟨#[]⟩, .string ⟨#[]⟩, .int .i64 0, .string ⟨#[]⟩, .slice none 0 0] 150)) := (Below.refl _ _).alloc (Nat.le_refl _) _;unfold zik
 by_cases h6 : L.length < 6
 ·rw [if_pos h6];have h6i : (L.length : Int) < 6 := (by omega);clear h6;go_enter Tryz.func114, Tryz.ntmps114;go_wp2_with fail;refine (SP _).mono ?_;intro e w1 hF;obtain ⟨A, c, rfl, hr, hb⟩ := hF.rd;clear hF;replace hbx := zd hbx hb;replace hb0 := zb hb0 hb;have c0 := za hbx 0 rfl;have c1 := za hbx 1 rfl;have c2 := za hbx 2 rfl;have c3 := za hbx 3 rfl;have c4 := za hbx 4 rfl;have c5 := za hbx 5 rfl;have c6 := za hbx 6 rfl;have f0 := zc hbx 0;have f1 := zc hbx 1;have f2 := zc hbx 2;have f3 := zc hbx 3;have f4 := zc hbx 4;have f5 := zc hbx 5;have f6 := zc hbx 6;clear SP;go_wp2;refine bodyPost_ret (zfj (zbf hbx _ _ _ _ _ _ _) rfl rfl) rfl ?_;exact ⟨none, 0, rfl, World.ownsRow_nil _ _ _ _, zat hb0 (Nat.le_refl _) _ _ _ _ _ _ _⟩
 ·rw [if_neg h6];have h6i : (6 : Int) <= (L.length : Int) := by omega
  have hg : ∀ j, j < 6 -> ∃ l, L[j]? = some l /\ L.getD j [] = l /\ l.length <= 1073741824 := fun j hj => by
   have hj2 : j < L.length := (by omega);refine ⟨L[j], List.getElem?_eq_getElem hj2, by simp [List.getD, List.getElem?_eq_getElem hj2], ?_⟩;have := HPL.out L[j] (List.getElem_mem hj2);omega
  obtain ⟨l0, g0, e0, z0⟩ := hg 0 (by omega);obtain ⟨l1, g1, e1, z1⟩ := hg 1 (by omega);obtain ⟨l2, g2, e2, z2⟩ := hg 2 (by omega);obtain ⟨l3, g3, e3, z3⟩ := hg 3 (by omega);obtain ⟨l5, g5, e5, z5⟩ := hg 5 (by omega);rw [e0, e1, e2, e3, e5];have HX := fun w => rhexM l0 w (by rw [zm]; exact z0);have NM := fun w => rdec_any (mk8 l3) w (by rw [zm]; omega);have IN := fun w => rinto_any (mk8 l5) w (by rw [zm]; exact z5);rw [zz] at NM IN;obtain ⟨⟨r, er⟩, hr0⟩ : ∃ z, z = hexS l0 := ⟨_, rfl⟩;obtain ⟨⟨n, en⟩, hn0⟩ : ∃ z, z = decS l3 := ⟨_, rfl⟩;obtain ⟨⟨kd, il, ei⟩, hi0⟩ : ∃ z, z = intoS l5 := ⟨_, rfl⟩;rw [<- hr0] at HX;rw [<- hn0] at NM;rw [<- hi0] at IN;rw [<- hr0, <- hn0, <- hi0];simp only [] at HX NM IN ⊢;clear hr0 hn0 hi0 e0 e1 e2 e3 e5 z0 z1 z2 z3 z5 hg h6 HPL;have HG : Hid (L[0]? = some l0 /\ L[1]? = some l1 /\ L[2]? = some l2 /\ L[3]? = some l3 /\ L[5]? = some l5) := ⟨g0, g1, g2, g3, g5⟩;clear g0 g1 g2 g3 g5;have hll : 6 <= L.length := by omega
  by_cases her : er = 0
  ·subst her;rw [if_neg (show ¬ ((0 : Int) ≠ 0) by simp)]
   by_cases hen : en = 0
   ·subst hen;rw [if_neg (show ¬ ((0 : Int) ≠ 0) by simp)]
    by_cases hn : 254 < n
    ·rw [if_pos hn];clear IN;go_enter Tryz.func114, Tryz.ntmps114;go_wp2_with fail;refine (SP _).mono ?_;intro e w1 hF;obtain ⟨A, c, rfl, hown, hb⟩ := hF;have hr := zd8 hown;replace hbx := zd hbx hb;replace hb0 := zb hb0 hb;obtain ⟨b, off, rfl, hbl, hcx⟩ := hr.at_ (by omega);have d0 : w1.cell? ⟨b, off, none⟩ = some (.string (mk8 l0)) := hcx 0 (.string (mk8 l0)) (by simp [HG.out.1]);have d1 := hcx 1 (.string (mk8 l1)) (by simp [HG.out.2.1]);have d2 := hcx 2 (.string (mk8 l2)) (by simp [HG.out.2.2.1]);have d3 := hcx 3 (.string (mk8 l3)) (by simp [HG.out.2.2.2.1]);have d5 := hcx 5 (.string (mk8 l5)) (by simp [HG.out.2.2.2.2]);clear hcx hr hown hb SP HG hll hbl;go_wp2_with fail;refine (HX _).mono ?_;rintro e w2 ⟨rfl, rfl⟩;clear d0 HX;go_wp2_with fail;refine (NM _).mono ?_;rintro e w3 ⟨rfl, rfl⟩;clear d3 NM;have c0 := za hbx 0 rfl;have c1 := za hbx 1 rfl;have c2 := za hbx 2 rfl;have c3 := za hbx 3 rfl;have c4 := za hbx 4 rfl;have c5 := za hbx 5 rfl;have c6 := za hbx 6 rfl;have f0 := zc hbx 0;have f1 := zc hbx 1;have f2 := zc hbx 2;have f3 := zc hbx 3;have f4 := zc hbx 4;have f5 := zc hbx 5;have f6 := zc hbx 6;go_wp2;refine bodyPost_ret (zfj (zbf hbx _ _ _ _ _ _ _) rfl rfl) rfl ?_;exact ⟨none, 0, rfl, World.ownsRow_nil _ _ _ _, zat hb0 (Nat.le_refl _) _ _ _ _ _ _ _⟩
    ·rw [if_neg hn];have hni : n <= 254 := (by omega);clear hn
     by_cases hei : ei = 0
     ·subst hei;rw [if_neg (show ¬ ((0 : Int) ≠ 0) by simp)];go_enter Tryz.func114, Tryz.ntmps114;go_wp2_with fail;refine (SP _).mono ?_;intro e w1 hF;obtain ⟨A, c, rfl, hown, hb⟩ := hF;have hr := zd8 hown;replace hbx := zd hbx hb;replace hb0 := zb hb0 hb;obtain ⟨b, off, rfl, hbl, hcx⟩ := hr.at_ (by omega);have d0 : w1.cell? ⟨b, off, none⟩ = some (.string (mk8 l0)) := hcx 0 (.string (mk8 l0)) (by simp [HG.out.1]);have d1 := hcx 1 (.string (mk8 l1)) (by simp [HG.out.2.1]);have d2 := hcx 2 (.string (mk8 l2)) (by simp [HG.out.2.2.1]);have d3 := hcx 3 (.string (mk8 l3)) (by simp [HG.out.2.2.2.1]);have d5 := hcx 5 (.string (mk8 l5)) (by simp [HG.out.2.2.2.2]);clear hcx hr hown hb SP HG hll hbl;go_wp2_with fail;refine (HX _).mono ?_;rintro e w2 ⟨rfl, rfl⟩;clear d0 HX;go_wp2_with fail;refine (NM _).mono ?_;rintro e w3 ⟨rfl, rfl⟩;clear d3 NM;have hz3 := hb0.size;have hz3' : w.heap.size < w1.heap.size := zbj hbx;go_wp2_with fail;refine (IN _).mono ?_;intro e w4 hF;obtain ⟨A5, cp5, rfl, hown5, hb⟩ := hF;simp only [] at hown5;replace hbx := zd hbx hb;replace d1 := zf d1 hb;replace d2 := zf d2 hb;replace hb0 := zb hb0 hb;clear hb d5 IN;have c0 := za hbx 0 rfl;have c1 := za hbx 1 rfl;have c2 := za hbx 2 rfl;have c3 := za hbx 3 rfl;have c4 := za hbx 4 rfl;have c5 := za hbx 5 rfl;have c6 := za hbx 6 rfl;have f0 := zc hbx 0;have f1 := zc hbx 1;have f2 := zc hbx 2;have f3 := zc hbx 3;have f4 := zc hbx 4;have f5 := zc hbx 5;have f6 := zc hbx 6;go_wp2_with fail
      go_region
      go_wp2;refine bodyPost_ret (zfj (zmr (zbf hbx (.int .i32 r) (.int .i32 r) (.string (mk8 l1)) (.string (mk8 l2)) (.int .i64 n) (.string (mk8 kd)) (.slice A5 il.length cp5))) rfl rfl) rfl ?_;exact ⟨A5, cp5, rfl, za1 (zj9 (zl2 hown5 hz3' (.int .i32 r) (.int .i32 r) (.string (mk8 l1)) (.string (mk8 l2)) (.int .i64 n) (.string (mk8 kd)) (.slice A5 il.length cp5))) (by omega), (zat hb0 (Nat.le_refl _) (.int .i32 r) (.int .i32 r) (.string (mk8 l1)) (.string (mk8 l2)) (.int .i64 n) (.string (mk8 kd)) (.slice A5 il.length cp5)).drew⟩
     ·rw [if_pos hei];have hne : (ei != 0) = true := (by simpa using hei);clear hei;go_enter Tryz.func114, Tryz.ntmps114;go_wp2_with fail;refine (SP _).mono ?_;intro e w1 hF;obtain ⟨A, c, rfl, hown, hb⟩ := hF;have hr := zd8 hown;replace hbx := zd hbx hb;replace hb0 := zb hb0 hb;obtain ⟨b, off, rfl, hbl, hcx⟩ := hr.at_ (by omega);have d0 : w1.cell? ⟨b, off, none⟩ = some (.string (mk8 l0)) := hcx 0 (.string (mk8 l0)) (by simp [HG.out.1]);have d1 := hcx 1 (.string (mk8 l1)) (by simp [HG.out.2.1]);have d2 := hcx 2 (.string (mk8 l2)) (by simp [HG.out.2.2.1]);have d3 := hcx 3 (.string (mk8 l3)) (by simp [HG.out.2.2.2.1]);have d5 := hcx 5 (.string (mk8 l5)) (by simp [HG.out.2.2.2.2]);clear hcx hr hown hb SP HG hll hbl;go_wp2_with fail;refine (HX _).mono ?_;rintro e w2 ⟨rfl, rfl⟩;clear d0 HX;go_wp2_with fail;refine (NM _).mono ?_;rintro e w3 ⟨rfl, rfl⟩;clear d3 NM;have hz3 := hb0.size;have hz3' : w.heap.size < w1.heap.size := zbj hbx;go_wp2_with fail;refine (IN _).mono ?_;intro e w4 hF;obtain ⟨A5, cp5, rfl, hown5, hb⟩ := hF;simp only [] at hown5;replace hbx := zd hbx hb;replace d1 := zf d1 hb;replace d2 := zf d2 hb;replace hb0 := zb hb0 hb;clear hb d5 IN;have c0 := za hbx 0 rfl;have c1 := za hbx 1 rfl;have c2 := za hbx 2 rfl;have c3 := za hbx 3 rfl;have c4 := za hbx 4 rfl;have c5 := za hbx 5 rfl;have c6 := za hbx 6 rfl;have f0 := zc hbx 0;have f1 := zc hbx 1;have f2 := zc hbx 2;have f3 := zc hbx 3;have f4 := zc hbx 4;have f5 := zc hbx 5;have f6 := zc hbx 6;go_wp2;refine bodyPost_ret (zfj (zbf hbx _ _ _ _ _ _ _) rfl rfl) rfl ?_
      exact ⟨none, 0, rfl, World.ownsRow_nil _ _ _ _, zat hb0 (Nat.le_refl _) _ _ _ _ _ _ _⟩
   ·rw [if_pos hen];have hne : (en != 0) = true := (by simpa using hen);clear hen IN;go_enter Tryz.func114, Tryz.ntmps114;go_wp2_with fail;refine (SP _).mono ?_;intro e w1 hF;obtain ⟨A, c, rfl, hown, hb⟩ := hF;have hr := zd8 hown;replace hbx := zd hbx hb;replace hb0 := zb hb0 hb;obtain ⟨b, off, rfl, hbl, hcx⟩ := hr.at_ (by omega);have d0 : w1.cell? ⟨b, off, none⟩ = some (.string (mk8 l0)) := hcx 0 (.string (mk8 l0)) (by simp [HG.out.1]);have d1 := hcx 1 (.string (mk8 l1)) (by simp [HG.out.2.1]);have d2 := hcx 2 (.string (mk8 l2)) (by simp [HG.out.2.2.1]);have d3 := hcx 3 (.string (mk8 l3)) (by simp [HG.out.2.2.2.1]);have d5 := hcx 5 (.string (mk8 l5)) (by simp [HG.out.2.2.2.2]);clear hcx hr hown hb SP HG hll hbl;go_wp2_with fail;refine (HX _).mono ?_;rintro e w2 ⟨rfl, rfl⟩;clear d0 HX;go_wp2_with fail;refine (NM _).mono ?_;rintro e w3 ⟨rfl, rfl⟩;clear d3 NM;have c0 := za hbx 0 rfl;have c1 := za hbx 1 rfl;have c2 := za hbx 2 rfl;have c3 := za hbx 3 rfl;have c4 := za hbx 4 rfl;have c5 := za hbx 5 rfl;have c6 := za hbx 6 rfl;have f0 := zc hbx 0;have f1 := zc hbx 1;have f2 := zc hbx 2;have f3 := zc hbx 3;have f4 := zc hbx 4;have f5 := zc hbx 5;have f6 := zc hbx 6;go_wp2;refine bodyPost_ret (zfj (zbf hbx _ _ _ _ _ _ _) rfl rfl) rfl ?_;exact ⟨none, 0, rfl, World.ownsRow_nil _ _ _ _, zat hb0 (Nat.le_refl _) _ _ _ _ _ _ _⟩
  ·rw [if_pos her];have hne : (er != 0) = true := (by simpa using her);clear her NM IN;go_enter Tryz.func114, Tryz.ntmps114;go_wp2_with fail;refine (SP _).mono ?_;intro e w1 hF;obtain ⟨A, c, rfl, hown, hb⟩ := hF;have hr := zd8 hown;replace hbx := zd hbx hb;replace hb0 := zb hb0 hb;obtain ⟨b, off, rfl, hbl, hcx⟩ := hr.at_ (by omega);have d0 : w1.cell? ⟨b, off, none⟩ = some (.string (mk8 l0)) := hcx 0 (.string (mk8 l0)) (by simp [HG.out.1]);have d1 := hcx 1 (.string (mk8 l1)) (by simp [HG.out.2.1]);have d2 := hcx 2 (.string (mk8 l2)) (by simp [HG.out.2.2.1]);have d3 := hcx 3 (.string (mk8 l3)) (by simp [HG.out.2.2.2.1]);have d5 := hcx 5 (.string (mk8 l5)) (by simp [HG.out.2.2.2.2]);clear hcx hr hown hb SP HG hll hbl;go_wp2_with fail;refine (HX _).mono ?_;rintro e w2 ⟨rfl, rfl⟩;clear d0 HX;have c0 := za hbx 0 rfl;have c1 := za hbx 1 rfl;have c2 := za hbx 2 rfl;have c3 := za hbx 3 rfl;have c4 := za hbx 4 rfl;have c5 := za hbx 5 rfl;have c6 := za hbx 6 rfl;have f0 := zc hbx 0;have f1 := zc hbx 1;have f2 := zc hbx 2;have f3 := zc hbx 3;have f4 := zc hbx 4;have f5 := zc hbx 5;have f6 := zc hbx 6;go_wp2;refine bodyPost_ret (zfj (zbf hbx _ _ _ _ _ _ _) rfl rfl) rfl ?_;exact ⟨none, 0, rfl, World.ownsRow_nil _ _ _ _, zat hb0 (Nat.le_refl _) _ _ _ _ _ _ _⟩
end
end Go.Proofs.YtfdelmodmadoaaaGreatDoor
