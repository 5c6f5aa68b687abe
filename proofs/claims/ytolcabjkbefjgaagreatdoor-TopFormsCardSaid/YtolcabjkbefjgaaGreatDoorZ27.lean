/- wide.Decode. A decoder in memory; how many bytes are sure, and what is read of bytes. A decoder and the row of its faults in memory; New, add, from, all. A fault more in a decoder. -/
import Derived.Test.YtolcabjkbefjgaaGreatDoorZ26
set_option linter.unusedSimpArgs false
set_option linter.unusedVariables false
set_option maxRecDepth 20000
set_option maxHeartbeats 4000000
namespace Go.Proofs.YtolcabjkbefjgaaGreatDoor
section
open Go.RowKit
theorem zee {w w' : World} {b base kk n : Nat} {cs : Array Value} {t e : TypeId} {v : Value} {xs : List Value} (hx : w.heap[b]? = some (.cells cs t (0, 0))) (ho : w.ownsRow base e kk v n xs) (hg : w.grownBy w' v.ownBlock) (hne : t ≠ e) : w'.heap[b]? = some (.cells cs t (0, 0)) := by
 refine (hg.block b (Array.getElem?_eq_some_iff.1 hx).1 ?_).trans hx;intro h;rcases ho.2 with ⟨rfl, _⟩ | ⟨g, cap, cur, rfl, _, hh, _⟩
 ·cases h
 ·injection h with h;subst h;rw [hx] at hh;injection hh with hh;injection hh with _ hh;exact hne hh
section
variable {w : World}
theorem wdecode_any (k : Int) (hk1 : 1 <= k) (hk4 : k <= 4) (p : Int) (hp1 : 1 <= p) (hp3 : p <= 3) (A0 : Option Addr) (c0 : Nat) (s : ByteArray) (w : World) (h0 : Rd w A0 1 [.string s]) (hs : s.size <= 1073741824) :
  Calls Tryz.prog 129 #[.int .i64 k, .int .i64 p, .slice A0 1 c0] w (DecBP (rdN (nextW k) p (bs s)).1 (rdN (nextW k) p (bs s)).2 s.size w) := by
 rcases (show p = 1 \/ p = 2 \/ p = 3 by omega) with rfl | rfl | rfl
 ·clear hp1 hp3;have OF := zca k hk1 hk4 w;unfold fvW at OF;have NX0 := fun t W ht => zfx k hk1 hk4 t W ht;unfold fvW at NX0;obtain ⟨sz, hsz0⟩ : ∃ sz, sz = sizeW k := ⟨_, rfl⟩;obtain ⟨big, hbig⟩ : ∃ big, big = bigW k := ⟨_, rfl⟩;obtain ⟨prs, hprs⟩ : ∃ prs, prs = decide (k <= 2) := ⟨_, rfl⟩;rw [<- hsz0, <- hbig, <- hprs] at OF NX0;have NX1 := hz0q NX0;have hj0 := h0;clear hsz0 hbig hprs NX0;go_enter Tryz.func129, Tryz.ntmps129;go_wp2_with fail;refine OF.mono ?_;rintro e wo ⟨rfl, hbo⟩;have hba : Below wo.heap.size wo (wo.alloc (.cells #[.int .i64 sz, .bool big, .bool prs] 301)) := (Below.refl _ _).alloc (Nat.le_refl _) _;have hx0 : (wo.alloc (.cells #[.int .i64 sz, .bool big, .bool prs] 301)).heap[wo.heap.size]? = some (.cells #[.int .i64 sz, .bool big, .bool prs] 301 (0, 0)) := zj _ _ _;have hb0 := zb hbo hba;have JN := zb5 A0 c0 s (wo.alloc (.cells #[.int .i64 sz, .bool big, .bool prs] 301)) (hj0.below hb0);obtain ⟨bx, hbx⟩ : ∃ bx, wo.heap.size = bx := ⟨_, rfl⟩;have HBX := hz0q hbx;rw [hbx] at hx0;have HX0 := hz0q hx0;have HB00 := hz0q hb0;clear OF h0 hj0 hba hbo hx0 hb0;go_wp2_with fail;refine JN.mono ?_;rintro e wj ⟨rfl, rfl⟩;have hx0 := HX0.out;clear JN;go_wp2_with fail
  go_loopw [12, 13, 14] (fun v8 v9 v10 wr => ∃ (i : Nat) (A : Option Addr) (c : Nat) (A2 : Option Addr) (c2 : Nat) (zs : List Int) (fs : List (Int × Int)), v10 = .int .i64 i /\ i <= s.size /\ v8 = .slice A zs.length c /\ v9 = .slice A2 fs.length c2 /\ wr.ownsRow w.heap.size 21 1 (.slice A zs.length c) zs.length (Rs zs) /\ wr.ownsRow w.heap.size 128 2 (.slice A2 fs.length c2) fs.length (Fs fs) /\ fs.length <= i /\ zs.length <= i /\ Below w.heap.size w wr /\ wr.heap[bx]? = some (.cells #[.int .i64 sz, .bool big, .bool prs] 301 (0, 0)) /\ Hid (rdN (nextW k) 1 (bs s) = (zs ++ (rdN (nextW k) 1 ((bs s).drop i)).1, (rdN (nextW k) 1 ((bs s).drop i)).2)))
   (fun _ _ v10 _ => s.size - (intOf v10).toNat)
  case atStart => exact ⟨0, none, 0, none, 0, [], [], rfl, Nat.zero_le _, rfl, rfl, World.ownsRow_nil _ _ _ _, World.ownsRow_nil _ _ _ _, Nat.zero_le _, Nat.zero_le _, HB00.out, hx0, by show _ = _; simp⟩
  case round =>
   obtain ⟨i, A, c, A2, c2, zs, fs, rfl, hi, rfl, rfl, ho1, ho2, hf, hz, hb, hx, HQ0⟩ := hrel;obtain ⟨w1, rfl⟩ : ∃ w1, w1 = wr := ⟨wr, rfl⟩;have hsz := hb.size
   by_cases hlt : i < s.size
   ·have hii : (i : Int) < (s.size : Int) := by omega
    have hne : (bs s).drop i ≠ [] := by
     intro e;have := congrArg List.length e;rw [List.length_drop, ze] at this;simp at this;omega
    have hok := (zcc k) _ hne;rw [List.length_drop, ze] at hok;have hrc := zcx (p := 1) ((zcc k)) hne;have hbe : bs (s.extract i s.size) = (bs s).drop i := (by rw [z8, List.take_of_length_le (by rw [ze]; exact Nat.le_refl _)]);have NE : Hid (∀ W, Calls Tryz.prog 175 #[.agg #[.int .i64 sz, .bool big, .bool prs], .string (s.extract i s.size)] W fun e w' => e = .returned (.tuple #[.int .i32 (nextW k ((bs s).drop i)).1, .int .i64 (nextW k ((bs s).drop i)).2.1, .int .i64 (nextW k ((bs s).drop i)).2.2]) /\ Below W.heap.size W w') := fun W => (by have h := NX1.out (s.extract i s.size) W (by simp; omega); rw [hbe] at h; exact h);obtain ⟨r, hr⟩ : ∃ r, r = (nextW k ((bs s).drop i)).1 := ⟨_, rfl⟩;obtain ⟨n, hn⟩ : ∃ n, n = (nextW k ((bs s).drop i)).2.1 := ⟨_, rfl⟩;obtain ⟨ev, hev⟩ : ∃ ev, ev = (nextW k ((bs s).drop i)).2.2 := ⟨_, rfl⟩;rw [<- hr, <- hn, <- hev] at NE;rw [<- hn] at hok;have hput : putN 1 (nextW k ((bs s).drop i)) = if ev = 0 then [r] else if (1 : Int) = 2 then [65533] else [] := (by rw [hr, hev]; rfl);rw [hput, <- hn, <- hev, List.drop_drop] at hrc;have HRC := hz0q hrc;have HO1 := hz0q ho1;have HO2 := hz0q ho2;have HB := hz0q hb;have hin : i + n <= s.size := (by omega);clear hr hn hev hne hbe hrc hput ho1 ho2 hb;have b0 := za hx 0 rfl;have b1 := za hx 1 rfl;have b2 := za hx 2 rfl;have HX := hz0q hx;clear hx;go_upto_region 9 with fail
    go_region_with (refine (NE.out _).mono ?_; rintro e w3 ⟨rfl, hb3⟩)
    have hb3 : Below w1.heap.size w1 w3 := zb (Drew.to ⟨1, rfl⟩ : Below w1.heap.size w1 w1.drew) hb3;have ho1 := zl HO1.out hb3;have ho2 := zn HO2.out hb3;have hx3 := zd HX.out hb3;have hb13 := HB.out.trans (hb3.mono hsz);have hs3 : w.heap.size <= w3.heap.size := hb13.size;clear NE hb3 HO1 HO2 HB HX b0 b1 b2
    by_cases h0 : ev = 0
    ·subst h0
     have HQ : Hid (rdN (nextW k) 1 (bs s) = ((zs ++ [r]) ++ (rdN (nextW k) 1 ((bs s).drop (i + n))).1, (rdN (nextW k) 1 ((bs s).drop (i + n))).2)) := by
      show _ = _;rw [HQ0.out, HRC.out];simp
     clear HQ0 HRC;have hs4 : w.heap.size <= (w3.alloc (.cells #[.int .i32 r] 21)).heap.size := (by simp; omega);have hbA : Below w.heap.size w (w3.alloc (.cells #[.int .i32 r] 21)) := hb13.alloc (by omega) _;have ho1a := zl ho1 ((Below.refl _ _).alloc (Nat.le_refl _) (.cells #[.int .i32 r] 21));have ho2a := zn ho2 ((Below.refl _ _).alloc (Nat.le_refl _) (.cells #[.int .i32 r] 21));go_wp2_with (at_builtin; refine zu zz _ rfl _ _ rfl w.heap.size rfl ho1a rfl (Rd.new1 _ _ _) (zbw rfl) (by omega) (by decide) hs4 ?_)
     intro A8 c8 w8 ho8 hg8 hat8;have ho28 := zag ho2a hg8 (zam ho2a ho1a (by decide));have hxa := zd hx3 ((Below.refl _ _).alloc (Nat.le_refl _) (.cells #[.int .i32 r] 21));have HX8 := hz0q (zee hxa ho1a hg8 (by decide));have HB8 := hz0q (za4 hbA hs4 ho1a hg8);rw [show Rs zs ++ [.int .i32 r] = Rs (zs ++ [r]) by simp [Rs]] at ho8;have HO8 := hz0q ho8;have HO28 := hz0q ho28;clear ho1a ho2a hg8 hat8 hbA ho8 ho28 hs4 hxa;go_wp2;go_roundw
     case rel => exact ⟨i + n, A8, c8, A2, c2, zs ++ [r], fs, by go_num, by omega, by rw [List.length_append]; rfl, rfl, by rw [List.length_append]; exact HO8.out, HO28.out, by omega, by rw [List.length_append]; simp; omega, HB8.out, HX8.out, HQ⟩
     case measure => simp [intOf]; omega
    ·have hev1 : ((ev : Int) != 0) = true := (by simpa using h0);have hev2 : ((ev : Int) == 0) = false := (by simpa using h0);have hs4 : w.heap.size <= (w3.alloc (.cells #[.int .i64 i, .int .i64 n] 128)).heap.size := (by simp; omega);have hbA : Below w.heap.size w (w3.alloc (.cells #[.int .i64 i, .int .i64 n] 128)) := hb13.alloc (by omega) _;have ho1a := zl ho1 ((Below.refl _ _).alloc (Nat.le_refl _) (.cells #[.int .i64 i, .int .i64 n] 128));have ho2a := zn ho2 ((Below.refl _ _).alloc (Nat.le_refl _) (.cells #[.int .i64 i, .int .i64 n] 128))
     have HQF : Hid (rdN (nextW k) 1 (bs s) = (zs, false)) := by
      show _ = _;rw [HQ0.out, HRC.out];simp [h0]
     clear HQ0 HRC h0 ho1 ho2;go_wp2_with (at_builtin; refine zaz za2 _ rfl _ _ rfl w.heap.size rfl ho2a rfl (RdK.new _ _ 1 _ rfl) (zbs _ _) (by omega) (by decide) hs4 ?_)
     intro A9 c9 w9 ho9 hg9 hat9;have ho19 := zag ho1a hg9 (zam ho1a ho2a (by decide));have hx9 := zee (zd hx3 ((Below.refl _ _).alloc (Nat.le_refl _) (.cells #[.int .i64 i, .int .i64 n] 128))) ho2a hg9 (by decide);have hb9 := zaq hbA hs4 (Nat.le_refl _) ho2a hg9;rw [zg4] at ho9;have hs9 := hb9.size;clear ho1a ho2a hg9 hat9 hbA hs4;go_wp2;go_returns;exact ⟨A, c, A9, fs.length + 1, c9, fs ++ [((i : Int), (n : Int))], by rw [HQF.out]; rfl, by rw [HQF.out]; exact ho19, ho9, by simp, by omega, hb9⟩
   ·obtain rfl : i = s.size := (by omega);have hii : (s.size : Int) <= (s.size : Int) := Int.le_refl _
    have HQ : Hid (rdN (nextW k) 1 (bs s) = (zs, true)) := by
     show _ = _;rw [HQ0.out, List.drop_of_length_le (by rw [ze]; exact Nat.le_refl _), zfh];simp
    have HO1 := hz0q ho1;have HO2 := hz0q ho2;have HB := hz0q hb;clear HQ0 ho1 ho2 hb;go_wp2;go_returns;exact ⟨A, c, A2, fs.length, c2, fs, by rw [HQ.out]; rfl, by rw [HQ.out]; exact HO1.out, HO2.out, rfl, hf, HB.out⟩
 ·clear hp1 hp3;have OF := zca k hk1 hk4 w;unfold fvW at OF;have NX0 := fun t W ht => zfx k hk1 hk4 t W ht;unfold fvW at NX0;obtain ⟨sz, hsz0⟩ : ∃ sz, sz = sizeW k := ⟨_, rfl⟩;obtain ⟨big, hbig⟩ : ∃ big, big = bigW k := ⟨_, rfl⟩;obtain ⟨prs, hprs⟩ : ∃ prs, prs = decide (k <= 2) := ⟨_, rfl⟩;rw [<- hsz0, <- hbig, <- hprs] at OF NX0;have NX1 := hz0q NX0;have hj0 := h0;clear hsz0 hbig hprs NX0;go_enter Tryz.func129, Tryz.ntmps129;go_wp2_with fail;refine OF.mono ?_;rintro e wo ⟨rfl, hbo⟩;have hba : Below wo.heap.size wo (wo.alloc (.cells #[.int .i64 sz, .bool big, .bool prs] 301)) := (Below.refl _ _).alloc (Nat.le_refl _) _;have hx0 : (wo.alloc (.cells #[.int .i64 sz, .bool big, .bool prs] 301)).heap[wo.heap.size]? = some (.cells #[.int .i64 sz, .bool big, .bool prs] 301 (0, 0)) := zj _ _ _;have hb0 := zb hbo hba;have JN := zb5 A0 c0 s (wo.alloc (.cells #[.int .i64 sz, .bool big, .bool prs] 301)) (hj0.below hb0);obtain ⟨bx, hbx⟩ : ∃ bx, wo.heap.size = bx := ⟨_, rfl⟩;have HBX := hz0q hbx;rw [hbx] at hx0;have HX0 := hz0q hx0;have HB00 := hz0q hb0;clear OF h0 hj0 hba hbo hx0 hb0;go_wp2_with fail;refine JN.mono ?_;rintro e wj ⟨rfl, rfl⟩;have hx0 := HX0.out;clear JN;go_wp2_with fail
  go_loopw [12, 13, 14] (fun v8 v9 v10 wr => ∃ (i : Nat) (A : Option Addr) (c : Nat) (A2 : Option Addr) (c2 : Nat) (zs : List Int) (fs : List (Int × Int)), v10 = .int .i64 i /\ i <= s.size /\ v8 = .slice A zs.length c /\ v9 = .slice A2 fs.length c2 /\ wr.ownsRow w.heap.size 21 1 (.slice A zs.length c) zs.length (Rs zs) /\ wr.ownsRow w.heap.size 128 2 (.slice A2 fs.length c2) fs.length (Fs fs) /\ fs.length <= i /\ zs.length <= i /\ Below w.heap.size w wr /\ wr.heap[bx]? = some (.cells #[.int .i64 sz, .bool big, .bool prs] 301 (0, 0)) /\ Hid (rdN (nextW k) 2 (bs s) = (zs ++ (rdN (nextW k) 2 ((bs s).drop i)).1, (rdN (nextW k) 2 ((bs s).drop i)).2)))
   (fun _ _ v10 _ => s.size - (intOf v10).toNat)
  case atStart => exact ⟨0, none, 0, none, 0, [], [], rfl, Nat.zero_le _, rfl, rfl, World.ownsRow_nil _ _ _ _, World.ownsRow_nil _ _ _ _, Nat.zero_le _, Nat.zero_le _, HB00.out, hx0, by show _ = _; simp⟩
  case round =>
   obtain ⟨i, A, c, A2, c2, zs, fs, rfl, hi, rfl, rfl, ho1, ho2, hf, hz, hb, hx, HQ0⟩ := hrel;obtain ⟨w1, rfl⟩ : ∃ w1, w1 = wr := ⟨wr, rfl⟩;have hsz := hb.size
   by_cases hlt : i < s.size
   ·have hii : (i : Int) < (s.size : Int) := by omega
    have hne : (bs s).drop i ≠ [] := by
     intro e;have := congrArg List.length e;rw [List.length_drop, ze] at this;simp at this;omega
    have hok := (zcc k) _ hne;rw [List.length_drop, ze] at hok;have hrc := zcx (p := 2) ((zcc k)) hne;have hbe : bs (s.extract i s.size) = (bs s).drop i := (by rw [z8, List.take_of_length_le (by rw [ze]; exact Nat.le_refl _)]);have NE : Hid (∀ W, Calls Tryz.prog 175 #[.agg #[.int .i64 sz, .bool big, .bool prs], .string (s.extract i s.size)] W fun e w' => e = .returned (.tuple #[.int .i32 (nextW k ((bs s).drop i)).1, .int .i64 (nextW k ((bs s).drop i)).2.1, .int .i64 (nextW k ((bs s).drop i)).2.2]) /\ Below W.heap.size W w') := fun W => (by have h := NX1.out (s.extract i s.size) W (by simp; omega); rw [hbe] at h; exact h);obtain ⟨r, hr⟩ : ∃ r, r = (nextW k ((bs s).drop i)).1 := ⟨_, rfl⟩;obtain ⟨n, hn⟩ : ∃ n, n = (nextW k ((bs s).drop i)).2.1 := ⟨_, rfl⟩;obtain ⟨ev, hev⟩ : ∃ ev, ev = (nextW k ((bs s).drop i)).2.2 := ⟨_, rfl⟩;rw [<- hr, <- hn, <- hev] at NE;rw [<- hn] at hok;have hput : putN 2 (nextW k ((bs s).drop i)) = if ev = 0 then [r] else if (2 : Int) = 2 then [65533] else [] := (by rw [hr, hev]; rfl);rw [hput, <- hn, <- hev, List.drop_drop] at hrc;have HRC := hz0q hrc;have HO1 := hz0q ho1;have HO2 := hz0q ho2;have HB := hz0q hb;have hin : i + n <= s.size := (by omega);clear hr hn hev hne hbe hrc hput ho1 ho2 hb;have b0 := za hx 0 rfl;have b1 := za hx 1 rfl;have b2 := za hx 2 rfl;have HX := hz0q hx;clear hx;go_upto_region 9 with fail
    go_region_with (refine (NE.out _).mono ?_; rintro e w3 ⟨rfl, hb3⟩)
    have hb3 : Below w1.heap.size w1 w3 := zb (Drew.to ⟨1, rfl⟩ : Below w1.heap.size w1 w1.drew) hb3;have ho1 := zl HO1.out hb3;have ho2 := zn HO2.out hb3;have hx3 := zd HX.out hb3;have hb13 := HB.out.trans (hb3.mono hsz);have hs3 : w.heap.size <= w3.heap.size := hb13.size;clear NE hb3 HO1 HO2 HB HX b0 b1 b2
    by_cases h0 : ev = 0
    ·subst h0
     have HQ : Hid (rdN (nextW k) 2 (bs s) = ((zs ++ [r]) ++ (rdN (nextW k) 2 ((bs s).drop (i + n))).1, (rdN (nextW k) 2 ((bs s).drop (i + n))).2)) := by
      show _ = _;rw [HQ0.out, HRC.out];simp
     clear HQ0 HRC;have hs4 : w.heap.size <= (w3.alloc (.cells #[.int .i32 r] 21)).heap.size := (by simp; omega);have hbA : Below w.heap.size w (w3.alloc (.cells #[.int .i32 r] 21)) := hb13.alloc (by omega) _;have ho1a := zl ho1 ((Below.refl _ _).alloc (Nat.le_refl _) (.cells #[.int .i32 r] 21));have ho2a := zn ho2 ((Below.refl _ _).alloc (Nat.le_refl _) (.cells #[.int .i32 r] 21));go_wp2_with (at_builtin; refine zu zz _ rfl _ _ rfl w.heap.size rfl ho1a rfl (Rd.new1 _ _ _) (zbw rfl) (by omega) (by decide) hs4 ?_)
     intro A8 c8 w8 ho8 hg8 hat8;have ho28 := zag ho2a hg8 (zam ho2a ho1a (by decide));have hxa := zd hx3 ((Below.refl _ _).alloc (Nat.le_refl _) (.cells #[.int .i32 r] 21));have HX8 := hz0q (zee hxa ho1a hg8 (by decide));have HB8 := hz0q (za4 hbA hs4 ho1a hg8);rw [show Rs zs ++ [.int .i32 r] = Rs (zs ++ [r]) by simp [Rs]] at ho8;have HO8 := hz0q ho8;have HO28 := hz0q ho28;clear ho1a ho2a hg8 hat8 hbA ho8 ho28 hs4 hxa;go_wp2;go_roundw
     case rel => exact ⟨i + n, A8, c8, A2, c2, zs ++ [r], fs, by go_num, by omega, by rw [List.length_append]; rfl, rfl, by rw [List.length_append]; exact HO8.out, HO28.out, by omega, by rw [List.length_append]; simp; omega, HB8.out, HX8.out, HQ⟩
     case measure => simp [intOf]; omega
    ·have hev1 : ((ev : Int) != 0) = true := (by simpa using h0);have hev2 : ((ev : Int) == 0) = false := (by simpa using h0);have hs4 : w.heap.size <= (w3.alloc (.cells #[.int .i64 i, .int .i64 n] 128)).heap.size := (by simp; omega);have hbA : Below w.heap.size w (w3.alloc (.cells #[.int .i64 i, .int .i64 n] 128)) := hb13.alloc (by omega) _;have ho1a := zl ho1 ((Below.refl _ _).alloc (Nat.le_refl _) (.cells #[.int .i64 i, .int .i64 n] 128));have ho2a := zn ho2 ((Below.refl _ _).alloc (Nat.le_refl _) (.cells #[.int .i64 i, .int .i64 n] 128))
     have HQF : Hid (rdN (nextW k) 2 (bs s) = ((zs ++ [65533]) ++ (rdN (nextW k) 2 ((bs s).drop (i + n))).1, (rdN (nextW k) 2 ((bs s).drop (i + n))).2)) := by
      show _ = _;rw [HQ0.out, HRC.out];simp [h0]
     clear HQ0 HRC h0 ho1 ho2;go_wp2_with (at_builtin; refine zaz za2 _ rfl _ _ rfl w.heap.size rfl ho2a rfl (RdK.new _ _ 1 _ rfl) (zbs _ _) (by omega) (by decide) hs4 ?_)
     intro A9 c9 w9 ho9 hg9 hat9;have ho19 := zag ho1a hg9 (zam ho1a ho2a (by decide));have hx9 := zee (zd hx3 ((Below.refl _ _).alloc (Nat.le_refl _) (.cells #[.int .i64 i, .int .i64 n] 128))) ho2a hg9 (by decide);have hb9 := zaq hbA hs4 (Nat.le_refl _) ho2a hg9;rw [zg4] at ho9;have hs9 := hb9.size;clear ho1a ho2a hg9 hat9 hbA hs4;have HQ := HQF;have hs4 : w.heap.size <= (w9.alloc (.cells #[.int .i32 65533] 21)).heap.size := (by simp; omega);have hbA : Below w.heap.size w (w9.alloc (.cells #[.int .i32 65533] 21)) := hb9.alloc (by omega) _;have ho1a := zl ho19 ((Below.refl _ _).alloc (Nat.le_refl _) (.cells #[.int .i32 65533] 21));have ho2a := zn ho9 ((Below.refl _ _).alloc (Nat.le_refl _) (.cells #[.int .i32 65533] 21));go_wp2_with (at_builtin; refine zu zz _ rfl _ _ rfl w.heap.size rfl ho1a rfl (Rd.new1 _ _ _) (zbw rfl) (by omega) (by decide) hs4 ?_)
     intro A8 c8 w8 ho8 hg8 hat8;have ho28 := zag ho2a hg8 (zam ho2a ho1a (by decide));have hxa := zd hx9 ((Below.refl _ _).alloc (Nat.le_refl _) (.cells #[.int .i32 65533] 21));have HX8 := hz0q (zee hxa ho1a hg8 (by decide));have HB8 := hz0q (za4 hbA hs4 ho1a hg8);rw [show Rs zs ++ [.int .i32 65533] = Rs (zs ++ [65533]) by simp [Rs]] at ho8;have HO8 := hz0q ho8;have HO28 := hz0q ho28;clear ho1a ho2a hg8 hat8 hbA ho8 ho28 hs4 hxa;go_wp2;go_roundw
     case rel => exact ⟨i + n, A8, c8, A9, c9, zs ++ [65533], fs ++ [((i : Int), (n : Int))], by go_num, by omega, by rw [List.length_append]; rfl, by rw [List.length_append]; rfl, by rw [List.length_append]; exact HO8.out, by rw [List.length_append]; exact HO28.out, by rw [List.length_append]; simp; omega, by rw [List.length_append]; simp; omega, HB8.out, HX8.out, HQ⟩
     case measure => simp [intOf]; omega
   ·obtain rfl : i = s.size := (by omega);have hii : (s.size : Int) <= (s.size : Int) := Int.le_refl _
    have HQ : Hid (rdN (nextW k) 2 (bs s) = (zs, true)) := by
     show _ = _;rw [HQ0.out, List.drop_of_length_le (by rw [ze]; exact Nat.le_refl _), zfh];simp
    have HO1 := hz0q ho1;have HO2 := hz0q ho2;have HB := hz0q hb;clear HQ0 ho1 ho2 hb;go_wp2;go_returns;exact ⟨A, c, A2, fs.length, c2, fs, by rw [HQ.out]; rfl, by rw [HQ.out]; exact HO1.out, HO2.out, rfl, hf, HB.out⟩
 ·clear hp1 hp3;have OF := zca k hk1 hk4 w;unfold fvW at OF;have NX0 := fun t W ht => zfx k hk1 hk4 t W ht;unfold fvW at NX0;obtain ⟨sz, hsz0⟩ : ∃ sz, sz = sizeW k := ⟨_, rfl⟩;obtain ⟨big, hbig⟩ : ∃ big, big = bigW k := ⟨_, rfl⟩;obtain ⟨prs, hprs⟩ : ∃ prs, prs = decide (k <= 2) := ⟨_, rfl⟩;rw [<- hsz0, <- hbig, <- hprs] at OF NX0;have NX1 := hz0q NX0;have hj0 := h0;clear hsz0 hbig hprs NX0;go_enter Tryz.func129, Tryz.ntmps129;go_wp2_with fail;refine OF.mono ?_;rintro e wo ⟨rfl, hbo⟩;have hba : Below wo.heap.size wo (wo.alloc (.cells #[.int .i64 sz, .bool big, .bool prs] 301)) := (Below.refl _ _).alloc (Nat.le_refl _) _;have hx0 : (wo.alloc (.cells #[.int .i64 sz, .bool big, .bool prs] 301)).heap[wo.heap.size]? = some (.cells #[.int .i64 sz, .bool big, .bool prs] 301 (0, 0)) := zj _ _ _;have hb0 := zb hbo hba;have JN := zb5 A0 c0 s (wo.alloc (.cells #[.int .i64 sz, .bool big, .bool prs] 301)) (hj0.below hb0);obtain ⟨bx, hbx⟩ : ∃ bx, wo.heap.size = bx := ⟨_, rfl⟩;have HBX := hz0q hbx;rw [hbx] at hx0;have HX0 := hz0q hx0;have HB00 := hz0q hb0;clear OF h0 hj0 hba hbo hx0 hb0;go_wp2_with fail;refine JN.mono ?_;rintro e wj ⟨rfl, rfl⟩;have hx0 := HX0.out;clear JN;go_wp2_with fail
  go_loopw [12, 13, 14] (fun v8 v9 v10 wr => ∃ (i : Nat) (A : Option Addr) (c : Nat) (A2 : Option Addr) (c2 : Nat) (zs : List Int) (fs : List (Int × Int)), v10 = .int .i64 i /\ i <= s.size /\ v8 = .slice A zs.length c /\ v9 = .slice A2 fs.length c2 /\ wr.ownsRow w.heap.size 21 1 (.slice A zs.length c) zs.length (Rs zs) /\ wr.ownsRow w.heap.size 128 2 (.slice A2 fs.length c2) fs.length (Fs fs) /\ fs.length <= i /\ zs.length <= i /\ Below w.heap.size w wr /\ wr.heap[bx]? = some (.cells #[.int .i64 sz, .bool big, .bool prs] 301 (0, 0)) /\ Hid (rdN (nextW k) 3 (bs s) = (zs ++ (rdN (nextW k) 3 ((bs s).drop i)).1, (rdN (nextW k) 3 ((bs s).drop i)).2)))
   (fun _ _ v10 _ => s.size - (intOf v10).toNat)
  case atStart => exact ⟨0, none, 0, none, 0, [], [], rfl, Nat.zero_le _, rfl, rfl, World.ownsRow_nil _ _ _ _, World.ownsRow_nil _ _ _ _, Nat.zero_le _, Nat.zero_le _, HB00.out, hx0, by show _ = _; simp⟩
  case round =>
   obtain ⟨i, A, c, A2, c2, zs, fs, rfl, hi, rfl, rfl, ho1, ho2, hf, hz, hb, hx, HQ0⟩ := hrel;obtain ⟨w1, rfl⟩ : ∃ w1, w1 = wr := ⟨wr, rfl⟩;have hsz := hb.size
   by_cases hlt : i < s.size
   ·have hii : (i : Int) < (s.size : Int) := by omega
    have hne : (bs s).drop i ≠ [] := by
     intro e;have := congrArg List.length e;rw [List.length_drop, ze] at this;simp at this;omega
    have hok := (zcc k) _ hne;rw [List.length_drop, ze] at hok;have hrc := zcx (p := 3) ((zcc k)) hne;have hbe : bs (s.extract i s.size) = (bs s).drop i := (by rw [z8, List.take_of_length_le (by rw [ze]; exact Nat.le_refl _)]);have NE : Hid (∀ W, Calls Tryz.prog 175 #[.agg #[.int .i64 sz, .bool big, .bool prs], .string (s.extract i s.size)] W fun e w' => e = .returned (.tuple #[.int .i32 (nextW k ((bs s).drop i)).1, .int .i64 (nextW k ((bs s).drop i)).2.1, .int .i64 (nextW k ((bs s).drop i)).2.2]) /\ Below W.heap.size W w') := fun W => (by have h := NX1.out (s.extract i s.size) W (by simp; omega); rw [hbe] at h; exact h);obtain ⟨r, hr⟩ : ∃ r, r = (nextW k ((bs s).drop i)).1 := ⟨_, rfl⟩;obtain ⟨n, hn⟩ : ∃ n, n = (nextW k ((bs s).drop i)).2.1 := ⟨_, rfl⟩;obtain ⟨ev, hev⟩ : ∃ ev, ev = (nextW k ((bs s).drop i)).2.2 := ⟨_, rfl⟩;rw [<- hr, <- hn, <- hev] at NE;rw [<- hn] at hok;have hput : putN 3 (nextW k ((bs s).drop i)) = if ev = 0 then [r] else if (3 : Int) = 2 then [65533] else [] := (by rw [hr, hev]; rfl);rw [hput, <- hn, <- hev, List.drop_drop] at hrc;have HRC := hz0q hrc;have HO1 := hz0q ho1;have HO2 := hz0q ho2;have HB := hz0q hb;have hin : i + n <= s.size := (by omega);clear hr hn hev hne hbe hrc hput ho1 ho2 hb;have b0 := za hx 0 rfl;have b1 := za hx 1 rfl;have b2 := za hx 2 rfl;have HX := hz0q hx;clear hx;go_upto_region 9 with fail
    go_region_with (refine (NE.out _).mono ?_; rintro e w3 ⟨rfl, hb3⟩)
    have hb3 : Below w1.heap.size w1 w3 := zb (Drew.to ⟨1, rfl⟩ : Below w1.heap.size w1 w1.drew) hb3;have ho1 := zl HO1.out hb3;have ho2 := zn HO2.out hb3;have hx3 := zd HX.out hb3;have hb13 := HB.out.trans (hb3.mono hsz);have hs3 : w.heap.size <= w3.heap.size := hb13.size;clear NE hb3 HO1 HO2 HB HX b0 b1 b2
    by_cases h0 : ev = 0
    ·subst h0
     have HQ : Hid (rdN (nextW k) 3 (bs s) = ((zs ++ [r]) ++ (rdN (nextW k) 3 ((bs s).drop (i + n))).1, (rdN (nextW k) 3 ((bs s).drop (i + n))).2)) := by
      show _ = _;rw [HQ0.out, HRC.out];simp
     clear HQ0 HRC;have hs4 : w.heap.size <= (w3.alloc (.cells #[.int .i32 r] 21)).heap.size := (by simp; omega);have hbA : Below w.heap.size w (w3.alloc (.cells #[.int .i32 r] 21)) := hb13.alloc (by omega) _;have ho1a := zl ho1 ((Below.refl _ _).alloc (Nat.le_refl _) (.cells #[.int .i32 r] 21));have ho2a := zn ho2 ((Below.refl _ _).alloc (Nat.le_refl _) (.cells #[.int .i32 r] 21));go_wp2_with (at_builtin; refine zu zz _ rfl _ _ rfl w.heap.size rfl ho1a rfl (Rd.new1 _ _ _) (zbw rfl) (by omega) (by decide) hs4 ?_)
     intro A8 c8 w8 ho8 hg8 hat8;have ho28 := zag ho2a hg8 (zam ho2a ho1a (by decide));have hxa := zd hx3 ((Below.refl _ _).alloc (Nat.le_refl _) (.cells #[.int .i32 r] 21));have HX8 := hz0q (zee hxa ho1a hg8 (by decide));have HB8 := hz0q (za4 hbA hs4 ho1a hg8);rw [show Rs zs ++ [.int .i32 r] = Rs (zs ++ [r]) by simp [Rs]] at ho8;have HO8 := hz0q ho8;have HO28 := hz0q ho28;clear ho1a ho2a hg8 hat8 hbA ho8 ho28 hs4 hxa;go_wp2;go_roundw
     case rel => exact ⟨i + n, A8, c8, A2, c2, zs ++ [r], fs, by go_num, by omega, by rw [List.length_append]; rfl, rfl, by rw [List.length_append]; exact HO8.out, HO28.out, by omega, by rw [List.length_append]; simp; omega, HB8.out, HX8.out, HQ⟩
     case measure => simp [intOf]; omega
    ·have hev1 : ((ev : Int) != 0) = true := (by simpa using h0);have hev2 : ((ev : Int) == 0) = false := (by simpa using h0);have hs4 : w.heap.size <= (w3.alloc (.cells #[.int .i64 i, .int .i64 n] 128)).heap.size := (by simp; omega);have hbA : Below w.heap.size w (w3.alloc (.cells #[.int .i64 i, .int .i64 n] 128)) := hb13.alloc (by omega) _;have ho1a := zl ho1 ((Below.refl _ _).alloc (Nat.le_refl _) (.cells #[.int .i64 i, .int .i64 n] 128));have ho2a := zn ho2 ((Below.refl _ _).alloc (Nat.le_refl _) (.cells #[.int .i64 i, .int .i64 n] 128))
     have HQF : Hid (rdN (nextW k) 3 (bs s) = (zs ++ (rdN (nextW k) 3 ((bs s).drop (i + n))).1, (rdN (nextW k) 3 ((bs s).drop (i + n))).2)) := by
      show _ = _;rw [HQ0.out, HRC.out];simp [h0]
     clear HQ0 HRC h0 ho1 ho2;go_wp2_with (at_builtin; refine zaz za2 _ rfl _ _ rfl w.heap.size rfl ho2a rfl (RdK.new _ _ 1 _ rfl) (zbs _ _) (by omega) (by decide) hs4 ?_)
     intro A9 c9 w9 ho9 hg9 hat9;have ho19 := zag ho1a hg9 (zam ho1a ho2a (by decide));have hx9 := zee (zd hx3 ((Below.refl _ _).alloc (Nat.le_refl _) (.cells #[.int .i64 i, .int .i64 n] 128))) ho2a hg9 (by decide);have hb9 := zaq hbA hs4 (Nat.le_refl _) ho2a hg9;rw [zg4] at ho9;have hs9 := hb9.size;clear ho1a ho2a hg9 hat9 hbA hs4;have HO9 := hz0q ho9;have HO19 := hz0q ho19;have HB9 := hz0q hb9;have HX9 := hz0q hx9;clear ho9 ho19 hb9 hx9;go_wp2;go_roundw
     case rel => exact ⟨i + n, A, c, A9, c9, zs, fs ++ [((i : Int), (n : Int))], by go_num, by omega, rfl, by rw [List.length_append]; rfl, HO19.out, by rw [List.length_append]; exact HO9.out, by rw [List.length_append]; simp; omega, by omega, HB9.out, HX9.out, HQF⟩
     case measure => simp [intOf]; omega
   ·obtain rfl : i = s.size := (by omega);have hii : (s.size : Int) <= (s.size : Int) := Int.le_refl _
    have HQ : Hid (rdN (nextW k) 3 (bs s) = (zs, true)) := by
     show _ = _;rw [HQ0.out, List.drop_of_length_le (by rw [ze]; exact Nat.le_refl _), zfh];simp
    have HO1 := hz0q ho1;have HO2 := hz0q ho2;have HB := hz0q hb;clear HQ0 ho1 ho2 hb;go_wp2;go_returns;exact ⟨A, c, A2, fs.length, c2, fs, by rw [HQ.out]; rfl, by rw [HQ.out]; exact HO1.out, HO2.out, rfl, hf, HB.out⟩
end
end
section
open Go.RowKit
abbrev stC (rest : ByteArray) (all k p : Int) (g ov : Bool) (vb : Value) : Array Value := #[.string rest, .int .i64 all, .int .i64 k, .int .i64 p, .bool g, .bool ov, vb]
theorem nextK_5 : nextK 5 = nextU := if_pos rfl
theorem nextK_n {k : Int} (h : k ≠ 5) : nextK k = nextW k := if_neg h
section
variable {w : World} {q : Nat} {rest : ByteArray} {all k p : Int} {g ov : Bool} {vb : Value}
theorem sure_any (hx : w.heap[q]? = some (.cells (stC rest all k p g ov vb) 93 (0, 0))) (h1 : 1 <= k) (h5 : k <= 5) (s : ByteArray) (hU : RowsU w) (hs : s.size <= 1073741824) :
  Calls Tryz.prog 79 #[.pointer (some ⟨q, 0, none⟩), .string s] w fun e w' => e = .returned (.int .i64 (cutK k (bs s))) /\ Below w.heap.size w w' := by
 have c2 := za hx 2 rfl;clear hx
 by_cases h : k = 5
 ·subst h;have C := cut8_any s w hU hs;have HR : Hid (cutK 5 (bs s) = cutU (bs s)) := if_pos rfl;rw [HR.out];go_enter Tryz.func79, Tryz.ntmps79;go_wp2_with (go_at_call 127; refine C.mono ?_; rintro e w1 ⟨rfl, hb1⟩)
  go_returns;exact ⟨rfl, hb1⟩
 ·have hk : ((k : Int) == 5) = false := (by simpa using h);have C := wcut_any k h1 (by omega) s w hs;have HR : Hid (cutK k (bs s) = cutW k (bs s)) := if_neg h;rw [HR.out];go_enter Tryz.func79, Tryz.ntmps79;go_wp2_with (go_at_call 128; refine C.mono ?_; rintro e w1 ⟨rfl, hb1⟩)
  go_returns;exact ⟨rfl, hb1⟩
theorem DecBP.base {zs : List Int} {ok : Bool} {lim : Nat} {w w1 w' : World} {e : Ending} (h : DecBP zs ok lim w1 e w') (hb : Below w.heap.size w w1) : DecBP zs ok lim w e w' := by
 obtain ⟨A, c, A2, n2, c2, fs, he, h1, h2, h3, h4, h5⟩ := h;exact ⟨A, c, A2, n2, c2, fs, he, zba h1 hb.size, zba h2 hb.size, h3, h4, zb hb h5⟩
theorem DecBP.opened {zs : List Int} {ok : Bool} {lim : Nat} {w w' : World} {e : Ending} (h : DecBP zs ok lim w e w') : ∃ A c A2 n2 c2 fs er, e = .returned (.tuple #[.slice A zs.length c, .slice A2 n2 c2, .int .i64 er]) /\ Hid ((er : Int) = if ok = true then 0 else 17) /\
  w'.ownsRow w.heap.size 21 1 (.slice A zs.length c) zs.length (Rs zs) /\ w'.ownsRow w.heap.size 128 2 (.slice A2 n2 c2) n2 (Fs fs) /\ fs.length = n2 /\ n2 <= lim /\ Below w.heap.size w w' := by
 obtain ⟨A, c, A2, n2, c2, fs, he, h1, h2, h3, h4, h5⟩ := h;exact ⟨A, c, A2, n2, c2, fs, _, he, rfl, h1, h2, h3, h4, h5⟩
theorem DecBP.shut {zs : List Int} {ok : Bool} {lim : Nat} {w w' : World} {A A2 : Option Addr} {c n2 c2 : Nat} {fs : List (Int × Int)} {er : Int} (he : Hid ((er : Int) = if ok = true then 0 else 17)) (h1 : w'.ownsRow w.heap.size 21 1 (.slice A zs.length c) zs.length (Rs zs)) (h2 : w'.ownsRow w.heap.size 128 2 (.slice A2 n2 c2) n2 (Fs fs)) (h3 : fs.length = n2) (h4 : n2 <= lim) (h5 : Below w.heap.size w w') :
  DecBP zs ok lim w (.returned (.tuple #[.slice A zs.length c, .slice A2 n2 c2, .int .i64 er])) w' := ⟨A, c, A2, n2, c2, fs, by rw [he.out], h1, h2, h3, h4, h5⟩
theorem zkl (hx : w.heap[q]? = some (.cells (stC rest all k p g ov vb) 93 (0, 0))) (h1 : 1 <= k) (h5 : k <= 5) (hp1 : 1 <= p) (hp3 : p <= 3) (s : ByteArray) (hU : RowsU w) (hs : s.size <= 1073741824) :
  Calls Tryz.prog 82 #[.pointer (some ⟨q, 0, none⟩), .string s] w (DecBP (rdN (nextK k) p (bs s)).1 (rdN (nextK k) p (bs s)).2 s.size w) := by
 have c2 := za hx 2 rfl;have c3 := za hx 3 rfl;have hqw := (Array.getElem?_eq_some_iff.1 hx).1;have d2 := zat (show w.drew.cell? ⟨q, 2, none⟩ = some (.int .i64 k) from c2) (.cells #[.string s] 9)
 have d3 := zat (show w.drew.cell? ⟨q, 3, none⟩ = some (.int .i64 p) from c3) (.cells #[.string s] 9)
 have HX := hz0q hx;clear hx
 by_cases h : k = 5
 ·subst h;have hba : Below w.heap.size w (w.alloc (.cells #[.string s] 9)) := (Below.refl _ _).alloc (Nat.le_refl _) _;have C := decode8_any p hp1 hp3 (some ⟨w.heap.size, 0, none⟩) 1 s (w.alloc (.cells #[.string s] 9)) (Rd.new1 _ _ _) (hU.below hba) hs;have HBA := hz0q hba;rw [nextK_5];clear hba hU;go_enter Tryz.func82, Tryz.ntmps82;go_wp2_with fail;refine C.mono ?_;intro e w1 hd;obtain ⟨A, c, A2, n2, c4, fs, er, rfl, he, h1, h2, h3, h4, h5⟩ := (hd.base HBA.out).opened;clear C hd;go_wp2;go_returns;exact DecBP.shut he h1 h2 h3 h4 h5
 ·have hk : ((k : Int) == 5) = false := (by simpa using h);have hba : Below w.heap.size w (w.drew.alloc (.cells #[.string s] 9)) := zb (Drew.to ⟨1, rfl⟩ : Below w.heap.size w w.drew) ((Below.refl _ _).alloc (Nat.le_refl _) _);have C := wdecode_any k h1 (by omega) p hp1 hp3 (some ⟨w.heap.size, 0, none⟩) 1 s (w.drew.alloc (.cells #[.string s] 9)) (Rd.new1 w.drew _ _) hs;have HBA := hz0q hba;rw [nextK_n h];clear hba hU h;go_enter Tryz.func82, Tryz.ntmps82;go_upto_region 3 with fail
  go_cut [4, 5, 6] from 22 (fun s4 s5 s6 wx => ∃ A c A2 n2 c4 fs er, s4 = .slice A (rdN (nextW k) p (bs s)).1.length c /\ s5 = .slice A2 n2 c4 /\ s6 = .int .i64 er /\ Hid (Hid ((er : Int) = if (rdN (nextW k) p (bs s)).2 = true then 0 else 17) /\ wx.ownsRow w.heap.size 21 1 (.slice A (rdN (nextW k) p (bs s)).1.length c) (rdN (nextW k) p (bs s)).1.length (Rs (rdN (nextW k) p (bs s)).1) /\ wx.ownsRow w.heap.size 128 2 (.slice A2 n2 c4) n2 (Fs fs) /\ fs.length = n2 /\ n2 <= s.size /\ Below w.heap.size w wx))
  case first =>
   go_region_with (refine C.mono ?_; intro e w3 hd; obtain ⟨A, c, A2, n2, c4, fs, er, rfl, k0, k1, k2, k3, k4, k5⟩ := (hd.base HBA.out).opened)
   all_goals
    first | go_meet | (go_wp2; go_meet)
    case rel => exact ⟨A, c, A2, n2, c4, fs, er, rfl, rfl, rfl, k0, k1, k2, k3, k4, k5⟩
  case rest =>
   obtain ⟨A, c, A2, n2, c4, fs, er, rfl, rfl, rfl, HF⟩ := hcut;go_wp2;go_returns;obtain ⟨k0, k1, k2, k3, k4, k5⟩ := HF.out;exact DecBP.shut k0 k1 k2 k3 k4 k5
end
end
section
open Go.RowKit
structure DecM (base : Nat) (w : World) (q : Nat) (rest : ByteArray) (all k p : Int) (g ov : Bool) (nf : Nat) (A : Option Addr) (c : Nat) (fs : List (Int × Int)) : Prop where
 box : w.heap[q]? = some (.cells (stC rest all k p g ov (.slice A nf c)) 93 (0, 0))
 own : w.ownsRow base 128 2 (.slice A nf c) nf (Fs fs)
 len : fs.length = nf
 tb : base <= q
def zi (w w' : World) : Prop := w.heap.size <= w'.heap.size /\ ∀ (k : Nat) (o : Obj), w.heap[k]? = some o -> (∀ cur fr, o ≠ .cells cur 93 fr) -> (∀ cur fr, o ≠ .cells cur 128 fr) -> w'.heap[k]? = some o
theorem zi.refl (w : World) : zi w w := ⟨Nat.le_refl _, fun _ _ h _ _ => h⟩
theorem zi.trans {w1 w2 w3 : World} (h : zi w1 w2) (k : zi w2 w3) : zi w1 w3 := ⟨Nat.le_trans h.1 k.1, fun i o h1 h2 h3 => k.2 i o (h.2 i o h1 h2 h3) h2 h3⟩
theorem zi.of_below {w w' : World} (h : Below w.heap.size w w') : zi w w' := ⟨h.size, fun k o hk _ _ => (h.block k (Array.getElem?_eq_some_iff.1 hk).1).trans hk⟩
theorem zi.set {w : World} {q : Nat} {cs : Array Value} {fr : Nat × Nat} (h : w.heap[q]? = some (.cells cs 93 fr)) (i : Nat) (v : Value) : zi w (w.setCell ⟨q, i, none⟩ v) :=
 ⟨by simp [World.setCell], fun k o hk hn _ => (Below.heap_setCell w ⟨q, i, none⟩ v k fun e => by
  have e : k = q := e;rw [e, h] at hk;injection hk with hk
  exact hn _ _ hk.symm).trans hk⟩
theorem zi.row {base n : Nat} {w w' : World} {v : Value} {xs : List Value} (ho : w.ownsRow base 128 2 v n xs) (hg : w.grownBy w' v.ownBlock) : zi w w' := by
 refine ⟨hg.size, fun k o hk _ hno => (hg.block k (Array.getElem?_eq_some_iff.1 hk).1 fun e => ?_).trans hk⟩;rcases ho.2 with ⟨rfl, _⟩ | ⟨g, cap, cur, rfl, _, hh, _⟩
 ·cases e
 ·injection e with e;subst e;rw [hh] at hk;injection hk with hk;exact hno _ _ hk.symm
theorem zmr : (93 : TypeId) ≠ 128 := by decide
section
variable {w w' w2 : World} {q base : Nat} {rest rest' : ByteArray} {all all' k k' p p' : Int} {g g' ov ov' : Bool} {nf nf' c c' : Nat} {A A' : Option Addr} {fs fs' : List (Int × Int)}
theorem DecM.below (h : DecM base w q rest all k p g ov nf A c fs) (hb : Below w.heap.size w w') : DecM base w' q rest all k p g ov nf A c fs := ⟨zd h.box hb, zn h.own hb, h.len, h.tb⟩
theorem DecM.ne (h : DecM base w q rest all k p g ov nf A c fs) : ∀ b, (Value.slice A nf c).ownBlock = some b -> b ≠ q := by
 intro b hb e;subst e;rcases h.own.2 with ⟨hv, _⟩ | ⟨g, cap, cur, hv, _, hh, _⟩
 ·rw [hv] at hb; cases hb
 ·rw [hv] at hb;injection hb with hb;subst hb;rw [h.box] at hh;injection hh with hh;injection hh with _ hh;exact absurd hh zmr
theorem zds {base kk n : Nat} {e : TypeId} {v : Value} {xs : List Value} (h : w.ownsRow base e kk v n xs) (hb : ∀ g, v.ownBlock = some g -> w'.heap[g]? = w.heap[g]?) : w'.ownsRow base e kk v n xs := by
 refine ⟨h.1, ?_⟩;rcases h.2 with hn | ⟨g, cap, cur, hv, hgb, hh, r⟩
 ·exact .inl hn
 ·exact .inr ⟨g, cap, cur, hv, hgb, (hb g (by rw [hv]; rfl)).trans hh, r⟩
theorem DecM.put (h : DecM base w q rest all k p g ov nf A c fs) (i : Nat) (v : Value) (he : (stC rest all k p g ov (.slice A nf c)).setIfInBounds i v = stC rest' all' k' p' g' ov' (.slice A nf c)) :
  DecM base (w.setCell ⟨q, i, none⟩ v) q rest' all' k' p' g' ov' nf A c fs :=
 ⟨by have := zb2 h.box i v; rw [he] at this; exact this, zds h.own fun b hb => Below.heap_setCell w ⟨q, i, none⟩ v b (h.ne b hb), h.len, h.tb⟩
theorem DecM.keep (h : DecM base w q rest all k p g ov nf A c fs) (hb : w'.heap[q]? = w.heap[q]?) (hr : ∀ b, (Value.slice A nf c).ownBlock = some b -> w'.heap[b]? = w.heap[b]?) : DecM base w' q rest all k p g ov nf A c fs :=
 ⟨hb.trans h.box, zds h.own hr, h.len, h.tb⟩
theorem DecM.lt (h : DecM base w q rest all k p g ov nf A c fs) : q < w.heap.size := (Array.getElem?_eq_some_iff.1 h.box).1
theorem DecM.grow (h : DecM base w q rest all k p g ov nf A c fs) (hbox : w2.heap[q]? = w.heap[q]?) (hown : w2.ownsRow base 128 2 (.slice A' nf' c') nf' (Fs fs')) (hl : fs'.length = nf') :
  DecM base (w2.setCell ⟨q, 6, none⟩ (.slice A' nf' c')) q rest all k p g ov nf' A' c' fs' := by
 have hb := hbox.trans h.box
 have hne : ∀ b, (Value.slice A' nf' c').ownBlock = some b -> b ≠ q := by
  intro b hb2 e;subst e;rcases hown.2 with ⟨hv, _⟩ | ⟨g, cap, cur, hv, _, hh, _⟩
  ·rw [hv] at hb2; cases hb2
  ·rw [hv] at hb2;injection hb2 with hb2;subst hb2;rw [hb] at hh;injection hh with hh;injection hh with _ hh;exact absurd hh zmr
 exact ⟨zb2 hb 6 _, zds hown fun b hb2 => Below.heap_setCell w2 ⟨q, 6, none⟩ _ b (hne b hb2), hl, h.tb⟩
end
def zcb (k p : Int) : Bool := decide (1 <= k) && (decide (k <= 5) && (decide (1 <= p) && decide (p <= 3)))
theorem zbp (k p : Int) : zcb k p = true ↔ (1 <= k /\ k <= 5) /\ 1 <= p /\ p <= 3 := by
 simp [zcb];omega
theorem zg8 (k p : Int) (w : World) : Calls Tryz.prog 33 #[.int .i64 k, .int .i64 p] w fun e w' => e = .returned (.bool (zcb k p)) /\ w = w' := by
 obtain ⟨R, hR⟩ : ∃ R, R = zcb k p := ⟨_, rfl⟩;rw [<- hR];have HR := hz0q hR;clear hR
 by_cases h1 : 1 <= k
 ·by_cases h2 : k <= 5
  ·by_cases h3 : 1 <= p
   ·by_cases h4 : p <= 3
    ·have HV : Hid (R = true) := (by show _ = _; rw [HR.out]; simp [zcb, h1, h2, h3, h4]);go_enter Tryz.func33, Tryz.ntmps33;go_wp2;go_returns;exact ⟨by rw [HV.out]; first | done | rfl | simp [*], rfl⟩
    ·have h4' : 3 < p := (by omega);have HV : Hid (R = false) := (by show _ = _; rw [HR.out]; simp [zcb, h4]);go_enter Tryz.func33, Tryz.ntmps33;go_wp2;go_returns;exact ⟨by rw [HV.out]; first | done | rfl | simp [*], rfl⟩
   ·have h3' : p < 1 := (by omega);have HV : Hid (R = false) := (by show _ = _; rw [HR.out]; simp [zcb, h3]);go_enter Tryz.func33, Tryz.ntmps33;go_wp2;go_returns;exact ⟨by rw [HV.out]; first | done | rfl | simp [*], rfl⟩
  ·have h2' : 5 < k := (by omega);have HV : Hid (R = false) := (by show _ = _; rw [HR.out]; simp [zcb, h2]);go_enter Tryz.func33, Tryz.ntmps33;go_wp2;go_returns;exact ⟨by rw [HV.out]; first | done | rfl | simp [*], rfl⟩
 ·have h1' : k < 1 := (by omega);have HV : Hid (R = false) := (by show _ = _; rw [HR.out]; simp [zcb, h1]);go_enter Tryz.func33, Tryz.ntmps33;go_wp2;go_returns;exact ⟨by rw [HV.out]; first | done | rfl | simp [*], rfl⟩
theorem zl0 (k p : Int) (g : Bool) (w : World) (h : zcb k p = false) : Calls Tryz.prog 9 #[.int .i64 k, .int .i64 p, .bool g] w fun e w' => e = .returned (.tuple #[.pointer none, .int .i64 16]) /\ w = w' := by
 have R := zg8 k p w;rw [h] at R;go_enter Tryz.func9, Tryz.ntmps9;go_wp2_with fail;refine R.mono ?_;rintro e w' ⟨rfl, rfl⟩;go_wp2;go_returns;exact ⟨rfl, rfl⟩
theorem snew_yes (k p : Int) (g : Bool) (w : World) (h : zcb k p = true) : Calls Tryz.prog 9 #[.int .i64 k, .int .i64 p, .bool g] w fun e w' => e = .returned (.tuple #[.pointer (some ⟨w.heap.size, 0, none⟩), .int .i64 0]) /\ DecM w.heap.size w' w.heap.size ⟨#[]⟩ 0 k p g false 0 none 0 [] /\ Below w.heap.size w w' := by
 have R := zg8 k p w;rw [h] at R;have hd : DecM w.heap.size (w.alloc (.cells (stC ⟨#[]⟩ 0 k p g false (.slice none 0 0)) 93)) w.heap.size ⟨#[]⟩ 0 k p g false 0 none 0 [] := ⟨zj w _ _, World.ownsRow_nil _ _ _ _, rfl, Nat.le_refl _⟩;have HD := hz0q hd;clear hd;go_enter Tryz.func9, Tryz.ntmps9;go_wp2_with fail;refine R.mono ?_;rintro e w' ⟨rfl, rfl⟩;go_wp2;go_returns;exact ⟨rfl, HD.out, (Below.refl _ w).alloc (Nat.le_refl _) _⟩
section
variable {w : World} {q base : Nat} {rest : ByteArray} {k p : Int} {g ov : Bool} {nf c a : Nat} {A : Option Addr} {fs : List (Int × Int)}
theorem zmx (h : DecM base w q rest a k p g ov nf A c fs) (Al : Option Addr) (cl : Nat) (s : ByteArray) (hs : Rd w Al 1 [.string s]) (hbd : rest.size + s.size <= 1073741824) (ha : a + s.size <= 1073741824) :
  Calls Tryz.prog 34 #[.pointer (some ⟨q, 0, none⟩), .slice Al 1 cl] w fun e w' => e = .returned (.tuple #[]) /\ DecM base w' q (rest ++ s) (a + s.size : Nat) k p g ov nf A c fs /\ zi w w' /\ Below base w w' := by
 have J := zb5 Al cl s w hs;have b0 := za h.box 0 rfl;have b1 := za h.box 1 rfl;have f0 := zc h.box 0;have f1 := zc h.box 1;have h1 := h.put (rest' := rest ++ s) (all' := a) (k' := k) (p' := p) (g' := g) (ov' := ov) 0 (.string (rest ++ s)) rfl;have k1 := zi.set h.box 0 (.string (rest ++ s));obtain ⟨W1, hW1⟩ : ∃ W1, W1 = w.setCell ⟨q, 0, none⟩ (.string (rest ++ s)) := ⟨_, rfl⟩;rw [<- hW1] at h1 k1;have h2 := h1.put (rest' := rest ++ s) (all' := (a + s.size : Nat)) (k' := k) (p' := p) (g' := g) (ov' := ov) 1 (.int .i64 ((a + s.size : Nat) : Int)) rfl;have k2 := k1.trans (zi.set h1.box 1 (.int .i64 ((a + s.size : Nat) : Int)))
 have wr : Below base w (W1.setCell ⟨q, 1, none⟩ (.int .i64 ((a + s.size : Nat) : Int))) := by
  rw [hW1]; exact ((Below.refl base w).setCell (p := ⟨q, 0, none⟩) h.tb _).setCell (p := ⟨q, 1, none⟩) h.tb _
 have b11 := za h1.box 1 rfl;have f11 := zc h1.box 1;have HF : Hid (DecM base (W1.setCell ⟨q, 1, none⟩ (.int .i64 ((a + s.size : Nat) : Int))) q (rest ++ s) (a + s.size : Nat) k p g ov nf A c fs /\ zi w (W1.setCell ⟨q, 1, none⟩ (.int .i64 ((a + s.size : Nat) : Int))) /\ Below base w (W1.setCell ⟨q, 1, none⟩ (.int .i64 ((a + s.size : Nat) : Int)))) := ⟨h2, k2, wr⟩;have hsz : ¬ (9223372036854775807 < rest.size + s.size) := (by omega);have hcast : ((a : Int) + (s.size : Int)) = ((a + s.size : Nat) : Int) := (by simp);obtain ⟨m, hm⟩ : ∃ m, m = a + s.size := ⟨_, rfl⟩;rw [<- hm] at HF hcast;have HM := hz0q hm;have hwm : IntKind.i64.wrap ((a : Int) + (s.size : Int)) = (m : Int) := (by rw [hcast]; exact IntWalk.i64_in _ (by omega));have HW1 := hz0q hW1;rw [<- HM.out];clear h h1 h2 k1 k2 wr hW1 hs hm hcast;go_enter Tryz.func34, Tryz.ntmps34;go_wp2_with fail;refine J.mono ?_;rintro e w' ⟨rfl, rfl⟩;go_upto_region 2 with fail;rw [<- HW1.out];go_wp2;go_end0;exact ⟨rfl, HF.out⟩
theorem zk8 (h : DecM base w q rest a k p g ov nf A c fs) (hle : rest.size <= a) (ha : a <= 1073741824) :
  Calls Tryz.prog 81 #[.pointer (some ⟨q, 0, none⟩)] w fun e w' => e = .returned (.int .i64 ((a - rest.size : Nat) : Int)) /\ Below w.heap.size w w' := by
 have b0 := za h.box 0 rfl;have b1 := za h.box 1 rfl;have hcast : ((a : Int) - (rest.size : Int)) = ((a - rest.size : Nat) : Int) := (by omega);obtain ⟨m, hm⟩ : ∃ m, m = a - rest.size := ⟨_, rfl⟩;rw [<- hm] at hcast ⊢;have hwm : IntKind.i64.wrap ((a : Int) - (rest.size : Int)) = (m : Int) := (by rw [hcast]; exact IntWalk.i64_in _ (by omega));clear h hm;go_enter Tryz.func81, Tryz.ntmps81;go_wp2_with fail;go_quiet (fail)
 obtain ⟨W5, hW5⟩ : ∃ W5, w.drewN nq = W5 := ⟨_, rfl⟩;have HB5 : Hid (Below w.heap.size w W5) := (by rw [<- hW5]; exact zh (Below.refl _ _) _);rw [hW5];clear hW5;go_wp2;go_returns;exact ⟨rfl, HB5.out⟩
theorem all_any (s : ByteArray) (w : World) : Calls Tryz.prog 80 #[.string s] w fun e w' => e = .returned (.int .i64 s.size) /\ Below w.heap.size w w' := by
 go_enter Tryz.func80, Tryz.ntmps80;go_wp2;go_returns;exact ⟨rfl, Below.refl _ _⟩
end
end
section
open Go.RowKit
section
variable {P : Program}
theorem zen {t e : TypeId} {z : Value} {k bytes : Nat} (E : ElemK P t e z k bytes) (w : World) {ops : Array Oper} {o : Oper} {a : Act} {K : Act -> World -> Prop} {Q : Exit -> Act -> World -> Prop} {R : Prop} (hgd : o.guard = none) (s x : Operand)
  (ho : o.op = .call { callee := .builtin .append, args := #[s, x], argTypes := #[t, t] }) (base : Nat)
  {v : Value} {n : Nat} {xs : List Value} (hs : a.eval s = v) (hown : w.ownsRow base e k v n xs) {A : Option Addr} {m c : Nat} {news : List Value} (hx : a.eval x = .slice A m c) (hr : RdK w A m k news) (h1 : ∀ u ∈ news, u.oneCell' = true)
  (h63 : n + m <= 1099511627776) (hby : bytes <= 64) (hbase : base <= w.heap.size)
  (h : ∀ A' c' w', w'.ownsRow base e k (.slice A' (n + m) c') (n + m) (xs ++ news) -> w.grownBy w' v.ownBlock ->
   ((Value.slice A' (n + m) c').ownBlock = v.ownBlock \/ (Value.slice A' (n + m) c').ownBlock = some w.heap.size) -> K (a.put o.dst (.slice A' (n + m) c')) w') :
  if Region.wanted o (yielded ops a.tmps) = true then Oper.wp P o a w K Q else R := by
 rw [if_pos (by simp [Region.wanted, hgd])];obtain ⟨A', c', w', hrun, h2, h3, h4⟩ := zkj E w o.type base hown (c := c) hr h1 h63 hby hbase;unfold Oper.wp execOp;simp only [ho, resolve, invoke, builtin, Sem.run_bind, Sem.run_pure, Result.andThen_ok, List.map_toArray, List.map_cons, List.map_nil, hs, hx, hrun];exact h A' c' w' h2 h3 h4
end
theorem zlq {fs : List (Int × Int)} {j : Nat} {x y : Int} (h : fs[j]? = some (x, y)) : (Fs fs)[j * 2]? = some (.int .i64 x) /\ (Fs fs)[j * 2 + 1]? = some (.int .i64 y) := by
 induction fs generalizing j with
 | nil => simp at h
 | cons f t ih =>
  cases j with
  | zero =>
   simp only [List.getElem?_cons_zero] at h;injection h with h;subst h;exact ⟨rfl, rfl⟩
  | succ j =>
   have := ih (j := j) (by simpa using h);rw [show (j + 1) * 2 = j * 2 + 1 + 1 by omega];exact this
theorem za0 {w w' : World} {base kk n : Nat} {e : TypeId} {v : Value} {xs : List Value} (h : w.ownsRow base e kk v n xs) (hk : zi w w') (h1 : e ≠ 93) (h2 : e ≠ 128) : w'.ownsRow base e kk v n xs := by
 refine ⟨h.1, ?_⟩;rcases h.2 with hn | ⟨g, cap, cur, hv, hgb, hh, r⟩
 ·exact .inl hn
 ·exact .inr ⟨g, cap, cur, hv, hgb, hk.2 g _ hh (fun c f e => by injection e with _ e; exact h1 e) (fun c f e => by injection e with _ e; exact h2 e), r⟩
section
variable {wr W1 w9 : World} {q base b2 n2 : Nat} {rest : ByteArray} {all k p x y : Int} {g ov : Bool} {nf c c' : Nat} {A A' : Option Addr} {fs : List (Int × Int)} {v2 : Value} {x2 : List Value}
theorem DecM.fault (h : DecM base wr q rest all k p g ov nf A c fs) (hb : Below wr.heap.size wr W1) (hbase : base <= wr.heap.size)
  (hown : w9.ownsRow base 128 2 (.slice A' (nf + 1) c') (nf + 1) (Fs fs ++ [.int .i64 x, .int .i64 y])) (hg : W1.grownBy w9 (Value.slice A nf c).ownBlock)
  (hat : (Value.slice A' (nf + 1) c').ownBlock = (Value.slice A nf c).ownBlock \/ (Value.slice A' (nf + 1) c').ownBlock = some W1.heap.size)
  (h2 : wr.ownsRow b2 128 2 v2 n2 x2) (hap : ∀ b, (Value.slice A nf c).ownBlock = some b -> v2.ownBlock ≠ some b) :
  DecM base (w9.setCell ⟨q, 6, none⟩ (.slice A' (nf + 1) c')) q rest all k p g ov (nf + 1) A' c' (fs ++ [(x, y)]) /\ zi wr (w9.setCell ⟨q, 6, none⟩ (.slice A' (nf + 1) c')) /\ Below base wr (w9.setCell ⟨q, 6, none⟩ (.slice A' (nf + 1) c')) /\
   (w9.setCell ⟨q, 6, none⟩ (.slice A' (nf + 1) c')).ownsRow b2 128 2 v2 n2 x2 /\ ∀ b, (Value.slice A' (nf + 1) c').ownBlock = some b -> v2.ownBlock ≠ some b := by
 have h1 := h.below hb;have h21 := zn h2 hb;have hq1 := h1.lt;have hbox : w9.heap[q]? = W1.heap[q]? := hg.block q hq1 (fun e => h1.ne q e.symm rfl);have hb9 := hbox.trans h1.box;have hbs : base <= W1.heap.size := Nat.le_trans hbase hb.size;rw [zg4] at hown
 have hne2 : ∀ b, v2.ownBlock = some b -> b ≠ q := by
  intro b hb2 e;subst e;rcases h21.2 with ⟨rfl, _⟩ | ⟨g, cap, cur, rfl, _, hh, _⟩
  ·cases hb2
  ·injection hb2 with hb2;subst hb2;rw [h1.box] at hh;injection hh with hh;injection hh with _ hh;exact absurd hh zmr
 have hlt2 : ∀ b, v2.ownBlock = some b -> b < W1.heap.size := fun b hb2 => (h21.lt b hb2).2;refine ⟨h1.grow hbox hown (by simp [h.len]), ((zi.of_below hb).trans (zi.row h1.own hg)).trans (zi.set hb9 6 _), ?_, ?_, ?_⟩
 ·exact ((hb.mono hbase).trans ((Below.refl base W1).grown hg hbs (fun j hj => (h1.own.lt j hj).1))).setCell (p := ⟨q, 6, none⟩) h.tb _
 ·refine zds h21 fun b hb2 => ?_;rw [Below.heap_setCell w9 ⟨q, 6, none⟩ _ b (hne2 b hb2)];exact hg.block b (hlt2 b hb2) (fun e => hap b e.symm hb2)
 ·intro b hb2 hv2;rcases hat with e | e
  ·exact hap b (e ▸ hb2) hv2
  ·rw [e] at hb2;injection hb2 with hb2;have := hlt2 b hv2;omega
end
end
end Go.Proofs.YtolcabjkbefjgaaGreatDoor
