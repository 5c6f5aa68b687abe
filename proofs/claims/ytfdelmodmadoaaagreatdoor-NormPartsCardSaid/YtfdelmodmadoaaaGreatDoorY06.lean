/- Plain functions for the layer of syllables: what is a syllable, its two and three characters, joining, and lists of characters parted and joined. No program stands here. The contracts of the package of syllables: what each function answers, the table of kinds being laid. The plain laws of syllables: Join and Split are each other's backs, Full is Split again and again, Parts and Syllables done again turn nothing. No program stands here. The contracts of the document's answer for syllables. -/
import Derived.Test.YtfdelmodmadoaaaGreatDoorY02
set_option linter.unusedSimpArgs false
set_option linter.unusedVariables false
set_option maxRecDepth 20000
set_option maxHeartbeats 4000000
namespace Go.Proofs.YtfdelmodmadoaaaGreatDoor
section
open Go.RowKit
def isH (r : Int) : Bool := decide (44032 <= r /\ r < 55204)
def zw (r : Int) : Int × Int × Bool :=
 if 44032 <= r /\ r < 55204 then
  if 0 < (r - 44032) % 28 then (r - (r - 44032) % 28, 4519 + (r - 44032) % 28, true)
  else (4352 + (r - 44032) / 588, 4449 + (r - 44032) / 28 % 21, true)
 else (0, 0, false)
def joinH (a b : Int) : Int × Bool :=
 if 4352 <= a /\ a < 4371 /\ 4449 <= b /\ b < 4470 then (44032 + 588 * (a - 4352) + 28 * (b - 4449), true)
 else if 44032 <= a /\ a < 55204 /\ (a - 44032) % 28 = 0 /\ 4519 < b /\ b < 4547 then (a + (b - 4519), true)
 else (0, false)
def inK (f m r : Int) : Bool := decide (f <= r /\ r < f + m)
def offK (f r : Int) : Int := wrap32 (r - f)
theorem zje {f m r : Int} (h : inK f m r = true) : f <= r /\ r < f + m := by simpa [inK] using h
theorem zhi {f m r : Int} (h : inK f m r = false) : ¬ (f <= r /\ r < f + m) := by
 intro h2;have : inK f m r = true := (by simp [inK, h2]);rw [h] at this
 cases this
theorem zld {f r : Int} (h : f <= r) (h0 : 0 <= f) (hr : r <= 2147483647) : offK f r = r - f := IntWalk.wrap32_in _ (by omega)
theorem isH_true {r : Int} (h : isH r = true) : 44032 <= r /\ r < 55204 := by simpa [isH] using h
theorem isH_false {r : Int} (h : isH r = false) : ¬ (44032 <= r /\ r < 55204) := by
 intro h2;have : isH r = true := (by simp [isH, h2]);rw [h] at this
 cases this
theorem joinH_i32 (a b : Int) (ha : -2147483648 <= a /\ a <= 2147483647) : -2147483648 <= (joinH a b).1 /\ (joinH a b).1 <= 2147483647 := by
 unfold joinH;split
 ·simp only []; omega
 ·split <;> (simp only []; omega)
end
section
open Go.RowKit
structure Kinds (w : World) : Prop where
 c0 : w.cell? ⟨0, 0, none⟩ = some (.int .i32 4352)
 c1 : w.cell? ⟨0, 1, none⟩ = some (.int .i32 19)
 c2 : w.cell? ⟨0, 2, none⟩ = some (.int .i32 4449)
 c3 : w.cell? ⟨0, 3, none⟩ = some (.int .i32 21)
 c4 : w.cell? ⟨0, 4, none⟩ = some (.int .i32 4519)
 c5 : w.cell? ⟨0, 5, none⟩ = some (.int .i32 28)
theorem Kinds.lt {w : World} (h : Kinds w) : 0 < w.heap.size := World.block_lt_of_cell? w _ h.c0
theorem Kinds.keep {w w' : World} (h : Kinds w) (hc : ∀ o, w'.cell? ⟨0, o, none⟩ = w.cell? ⟨0, o, none⟩) : Kinds w' :=
 ⟨(hc 0).trans h.c0, (hc 1).trans h.c1, (hc 2).trans h.c2, (hc 3).trans h.c3, (hc 4).trans h.c4, (hc 5).trans h.c5⟩
theorem Kinds.below {w w' : World} {B : Nat} (h : Kinds w) (hb : Below B w w') (hB : 0 < B) : Kinds w' := h.keep fun _ => hb.cell hB
theorem Kinds.below' {w w' : World} (h : Kinds w) (hb : Below w.heap.size w w') : Kinds w' := h.below hb h.lt
theorem Kinds.drewN {w : World} (h : Kinds w) (n : Nat) : Kinds (w.drewN n) := h.keep fun _ => rfl
theorem zme (r : Int) (w : World) (hk : Kinds w) :
  Calls Tryz.prog 74 #[.int .i32 r] w fun e w' => e = .returned (.bool (isH r)) /\ w = w' := by
 obtain ⟨k0, k1, k2, k3, k4, k5⟩ := hk
 by_cases h0 : 44032 <= r
 ·go_enter Tryz.func74, Tryz.ntmps74;go_wp2;go_ret
  exact ⟨zo (by simp [isH, h0]), rfl⟩
 ·go_enter Tryz.func74, Tryz.ntmps74;go_wp2;go_ret
  exact ⟨zo (by simp [isH]; omega), rfl⟩
theorem zhb (r : Int) (w : World) (hk : Kinds w) (h1 : 44032 <= r) (h2 : r < 55204) :
  Calls Tryz.prog 75 #[.int .i32 r] w fun e w' =>
   e = .returned (.agg #[.int .i32 ((r - 44032) / 28 / 21), .int .i32 ((r - 44032) / 28 % 21), .int .i32 ((r - 44032) % 28)]) /\ Below w.heap.size w w' := by
 have hl := hk.lt;obtain ⟨k0, k1, k2, k3, k4, k5⟩ := hk;go_enter Tryz.func75, Tryz.ntmps75;go_wp2
 go_region
 go_wp2;go_returns;refine ⟨rfl, ?_⟩;go_grown
theorem zn5 (r : Int) (w : World) (hk : Kinds w) (h0 : -2147483648 <= r) (h1 : r <= 2147483647) :
  Calls Tryz.prog 94 #[.int .i64 0, .int .i32 r] w fun e w' =>
   e = .returned (.tuple #[.int .i32 (offK 4352 r), .bool (inK 4352 19 r)]) /\ Drew w w' := by
 have hl := hk.lt;obtain ⟨k0, k1, k2, k3, k4, k5⟩ := hk;go_enter Tryz.func94, Tryz.ntmps94;go_wp2
 by_cases h : 4352 <= r
 ·go_quiet (fail)
  go_wp2;go_returns;exact ⟨zy rfl (by rw [IntWalk.wrap32_in _ (by omega)]; simp [inK, h]; omega), _, rfl⟩
 ·go_quiet (fail)
  go_wp2;go_returns;exact ⟨zy rfl (by simp [inK]; omega), _, rfl⟩
theorem zn4 (r : Int) (w : World) (hk : Kinds w) (h0 : -2147483648 <= r) (h1 : r <= 2147483647) :
  Calls Tryz.prog 94 #[.int .i64 1, .int .i32 r] w fun e w' =>
   e = .returned (.tuple #[.int .i32 (offK 4449 r), .bool (inK 4449 21 r)]) /\ Drew w w' := by
 have hl := hk.lt;obtain ⟨k0, k1, k2, k3, k4, k5⟩ := hk;go_enter Tryz.func94, Tryz.ntmps94;go_wp2
 by_cases h : 4449 <= r
 ·go_quiet (fail)
  go_wp2;go_returns;exact ⟨zy rfl (by rw [IntWalk.wrap32_in _ (by omega)]; simp [inK, h]; omega), _, rfl⟩
 ·go_quiet (fail)
  go_wp2;go_returns;exact ⟨zy rfl (by simp [inK]; omega), _, rfl⟩
theorem place2 (r : Int) (w : World) (hk : Kinds w) (h0 : -2147483648 <= r) (h1 : r <= 2147483647) :
  Calls Tryz.prog 94 #[.int .i64 2, .int .i32 r] w fun e w' =>
   e = .returned (.tuple #[.int .i32 (offK 4519 r), .bool (inK 4519 28 r)]) /\ Drew w w' := by
 have hl := hk.lt;obtain ⟨k0, k1, k2, k3, k4, k5⟩ := hk;go_enter Tryz.func94, Tryz.ntmps94;go_wp2
 by_cases h : 4519 <= r
 ·go_quiet (fail)
  go_wp2;go_returns;exact ⟨zy rfl (by rw [IntWalk.wrap32_in _ (by omega)]; simp [inK, h]; omega), _, rfl⟩
 ·go_quiet (fail)
  go_wp2;go_returns;exact ⟨zy rfl (by simp [inK]; omega), _, rfl⟩
theorem of_any (a b c : Int) (w : World) (hk : Kinds w) (ha : 0 <= a /\ a < 19) (hb : 0 <= b /\ b < 21) (hc : 0 <= c /\ c < 28) :
  Calls Tryz.prog 95 #[.agg #[.int .i32 a, .int .i32 b, .int .i32 c]] w fun e w' =>
   e = .returned (.int .i32 (44032 + (a * 21 + b) * 28 + c)) /\ Below w.heap.size w w' := by
 have hl := hk.lt;obtain ⟨k0, k1, k2, k3, k4, k5⟩ := hk;obtain ⟨ha1, ha2⟩ := ha;obtain ⟨hb1, hb2⟩ := hb;obtain ⟨hc1, hc2⟩ := hc;go_enter Tryz.func95, Tryz.ntmps95;go_wp2;go_returns;refine ⟨rfl, ?_⟩;go_grown
theorem split_no (r : Int) (w : World) (hk : Kinds w) (h : ¬ (44032 <= r /\ r < 55204)) :
  Calls Tryz.prog 39 #[.int .i32 r] w fun e w' =>
   e = .returned (.tuple #[.int .i32 0, .int .i32 0, .bool false]) /\ Below w.heap.size w w' := by
 have hb : isH r = false := (by simp [isH]; omega);go_enter Tryz.func39, Tryz.ntmps39;go_wp2_with (go_at_call 74; refine (zme _ _ hk).mono ?_; rintro e w' ⟨rfl, rfl⟩)
 go_returns;exact ⟨rfl, Below.refl _ _⟩
theorem split_yes (r : Int) (w : World) (hk : Kinds w) (h1 : 44032 <= r) (h2 : r < 55204) :
  Calls Tryz.prog 39 #[.int .i32 r] w fun e w' =>
   e = .returned (.tuple #[.int .i32 (zw r).1, .int .i32 (zw r).2.1, .bool true]) /\ Below w.heap.size w w' := by
 have hb : isH r = true := by simp [isH]; omega
 by_cases ht : 0 < (r - 44032) % 28
 ·have hs : zw r = (r - (r - 44032) % 28, 4519 + (r - 44032) % 28, true) := (by simp [zw, h1, h2, ht]);have Hs := hz0q hs; clear hs;have hdt : decide (0 < (r - 44032) % 28) = true := (by simpa using ht);go_enter Tryz.func39, Tryz.ntmps39;go_wp2_with (go_at_call 74; refine (zme _ _ hk).mono ?_; rintro e w' ⟨rfl, rfl⟩)
  refine (zhb _ _ hk h1 h2).mono ?_;rintro e w1 ⟨rfl, hb1⟩;have hk1 := hk.below' hb1;have hl1 := hk1.lt;obtain ⟨k0, k1, k2, k3, k4, k5⟩ := hk1;clear hk;go_wp2;go_quiet (fail)
  go_wp2;go_returns;exact ⟨zfl (by rw [Hs.out]) (by rw [Hs.out]) rfl, zh (hb1.alloc hb1.size _) _⟩
 ·have hs : zw r = (4352 + (r - 44032) / 588, 4449 + (r - 44032) / 28 % 21, true) := (by simp [zw, h1, h2, ht]);have Hs := hz0q hs; clear hs;have hdt : decide (0 < (r - 44032) % 28) = false := (by simpa using ht);go_enter Tryz.func39, Tryz.ntmps39;go_wp2_with (go_at_call 74; refine (zme _ _ hk).mono ?_; rintro e w' ⟨rfl, rfl⟩)
  refine (zhb _ _ hk h1 h2).mono ?_;rintro e w1 ⟨rfl, hb1⟩;have hk1 := hk.below' hb1;have hl1 := hk1.lt;obtain ⟨k0, k1, k2, k3, k4, k5⟩ := hk1;clear hk;go_wp2;go_quiet (fail)
  go_wp2;go_returns;exact ⟨zfl (by rw [Hs.out]; omega) (by rw [Hs.out]) rfl, zh (hb1.alloc hb1.size _) _⟩
theorem zgy (r : Int) (w : World) (hk : Kinds w) :
  Calls Tryz.prog 39 #[.int .i32 r] w fun e w' =>
   e = .returned (.tuple #[.int .i32 (zw r).1, .int .i32 (zw r).2.1, .bool (zw r).2.2]) /\ Below w.heap.size w w' := by
 by_cases h : 44032 <= r /\ r < 55204
 ·refine (split_yes r w hk h.1 h.2).mono ?_;rintro e w' ⟨rfl, hb⟩;refine ⟨zfl rfl rfl ?_, hb⟩;simp only [zw, h, if_true, and_self]; split <;> rfl
 ·refine (split_no r w hk h).mono ?_;rintro e w' ⟨rfl, hb⟩;refine ⟨?_, hb⟩;simp only [zw, h, if_false]
theorem zd2 (a b : Int) (w : World) (hk : Kinds w) (ha0 : -2147483648 <= a) (ha1 : a <= 2147483647) (hb0 : -2147483648 <= b) (hb1 : b <= 2147483647) :
  Calls Tryz.prog 55 #[.int .i32 a, .int .i32 b] w fun e w' =>
   e = .returned (.tuple #[.int .i32 (joinH a b).1, .bool (joinH a b).2]) /\ Below w.heap.size w w' := by
 rcases Bool.eq_false_or_eq_true (inK 4352 19 a) with hp | hp <;> rcases Bool.eq_false_or_eq_true (inK 4449 21 b) with hq | hq
 ·have h1 := zje hp;have h2 := zje hq;have Hj := hz0q (show joinH a b = (44032 + 588 * (a - 4352) + 28 * (b - 4449), true) by unfold joinH; rw [if_pos (by omega)]);have U1 := hz0q (zld (f := 4352) (r := a) (by omega) (by omega) (by omega));have U2 := hz0q (zld (f := 4449) (r := b) (by omega) (by omega) (by omega));go_enter Tryz.func55, Tryz.ntmps55;go_wp2_with fail;refine (zn5 _ _ hk ha0 ha1).mono ?_;rintro e w1 ⟨rfl, hd1⟩;rw [U1.out];have hk1 := hk.below' hd1.to;go_wp2_with fail;refine (zn4 _ _ hk1 hb0 hb1).mono ?_;rintro e w2 ⟨rfl, hd2⟩;rw [U2.out];have hk2 := hk1.below' hd2.to;go_wp2_with fail;refine (of_any (a - 4352) (b - 4449) 0 _ hk2 (by omega) (by omega) (by omega)).mono ?_;rintro e w3 ⟨rfl, hb⟩;go_wp2;go_returns;exact ⟨zy (by rw [Hj.out]; omega) (by rw [Hj.out]), zb (hd1.trans hd2).to hb⟩
 all_goals
  have hno : ¬ (4352 <= a /\ a < 4371 /\ 4449 <= b /\ b < 4470) := by
   intro hh
   first
    | exact zhi hp (by omega)
    | exact zhi hq (by omega)
  have Hj := hz0q (show joinH a b = if 44032 <= a /\ a < 55204 /\ (a - 44032) % 28 = 0 /\ 4519 < b /\ b < 4547 then (a + (b - 4519), true) else (0, false) by unfold joinH; rw [if_neg hno]);have i2 : ∀ (x0 x1 x2 : Value) (w : World), (Instr.index 136 (.agg #[x0, x1, x2]) (.int .i64 2)).run Tryz.prog w = .ok x2 w := fun _ _ _ _ => by kernel_rfl
  go_enter Tryz.func55, Tryz.ntmps55;go_wp2_with fail;refine (zn5 _ _ hk ha0 ha1).mono ?_;rintro e w1 ⟨rfl, hd1⟩;have hk1 := hk.below' hd1.to;go_wp2_with fail;refine (zn4 _ _ hk1 hb0 hb1).mono ?_;rintro e w2 ⟨rfl, hd2⟩;have hk2 := hk1.below' hd2.to;go_wp2_with fail;refine (place2 _ _ hk2 hb0 hb1).mono ?_;rintro e w3 ⟨rfl, hd3⟩;have hk3 := hk2.below' hd3.to;go_wp2_with fail;refine (zme _ _ hk3).mono ?_;rintro e w3' ⟨rfl, rfl⟩;rcases Bool.eq_false_or_eq_true (isH a) with hi | hi
  ·have h1 := isH_true hi;obtain ⟨h1a, h1b⟩ := h1;go_wp2_with fail;refine (zhb a _ hk3 h1a h1b).mono ?_;rintro e w4 ⟨rfl, hbl⟩
   by_cases hz : (a - 44032) % 28 = 0
   ·have hz' : ((a - 44032) % 28 == 0) = true := (by simpa using hz);have HZ := hz0q hz; clear hz;rcases Bool.eq_false_or_eq_true (inK 4519 28 b) with ht | ht
    ·have h2 := zje ht;have U3 := hz0q (zld (f := 4519) (r := b) (by omega) (by omega) (by omega))
     by_cases h0 : 4519 < b
     ·rw [U3.out];have hd : decide (0 < b - 4519) = true := (by simp; omega);go_wp2;go_returns;exact ⟨zy (by rw [Hj.out, if_pos ⟨h1a, h1b, HZ.out, by omega, by omega⟩]) (by rw [Hj.out, if_pos ⟨h1a, h1b, HZ.out, by omega, by omega⟩]), zb ((hd1.trans hd2).trans hd3).to hbl⟩
     ·rw [U3.out];have hd : decide (0 < b - 4519) = false := (by simp; omega);go_wp2;go_returns;exact ⟨zy (by rw [Hj.out, if_neg (by omega)]) (by rw [Hj.out, if_neg (by omega)]), zb ((hd1.trans hd2).trans hd3).to hbl⟩
    ·have h2 := zhi ht;go_wp2;go_returns;exact ⟨zy (by rw [Hj.out, if_neg (by omega)]) (by rw [Hj.out, if_neg (by omega)]), zb ((hd1.trans hd2).trans hd3).to hbl⟩
   ·have hz' : ((a - 44032) % 28 == 0) = false := (by simpa using hz);have HZ := hz0q hz; clear hz;go_wp2;go_returns;exact ⟨zy (by rw [Hj.out, if_neg (fun h => HZ.out h.2.2.1)]) (by rw [Hj.out, if_neg (fun h => HZ.out h.2.2.1)]), zb ((hd1.trans hd2).trans hd3).to hbl⟩
  ·have h1 := isH_false hi;have hn : ¬ (44032 <= a /\ a < 55204 /\ (a - 44032) % 28 = 0 /\ 4519 < b /\ b < 4547) := (by omega);have HN := hz0q hn; clear hn;clear h1;go_wp2;go_returns;exact ⟨zy (by rw [Hj.out, if_neg HN.out]) (by rw [Hj.out, if_neg HN.out]), ((hd1.trans hd2).trans hd3).to⟩
end
section
open Go.RowKit
theorem zf4 {r : Int} (h : 44032 <= r /\ r < 55204) : zw r = if 0 < (r - 44032) % 28 then (r - (r - 44032) % 28, 4519 + (r - 44032) % 28, true) else (4352 + (r - 44032) / 588, 4449 + (r - 44032) / 28 % 21, true) := by unfold zw; rw [if_pos h]
theorem join_back {a b : Int} (h : (joinH a b).2 = true) : zw (joinH a b).1 = (a, b, true) /\ isH (joinH a b).1 = true := by
 unfold joinH at *;split at h
 ·rename_i h1;rw [if_pos h1];simp only [];refine ⟨?_, by simp [isH]; omega⟩;rw [zf4 (by omega), if_neg (by omega)];simp only [Prod.mk.injEq, and_true];omega
 ·split at h
  ·rename_i h1 h2;rw [if_neg h1, if_pos h2];simp only [];refine ⟨?_, by simp [isH]; omega⟩;rw [zf4 (by omega), if_pos (by omega)];simp only [Prod.mk.injEq, and_true];omega
  ·cases h
end
section
open Go.RowKit
theorem zdl (l v t : Int) (w : World) (h1 : 0 <= l) (h2 : l <= 19) (h3 : 0 <= v) (h4 : v <= 21) (h5 : 0 <= t) (h6 : t <= 28) :
  Calls Tryz.prog 120 #[.int .i64 l, .int .i64 v, .int .i64 t] w fun e w' => e = .returned (.int .i32 (44032 + 588 * l + 28 * v + t)) /\ w = w' := by
 go_enter Tryz.func120, Tryz.ntmps120;go_wp2;go_returns;exact ⟨rfl, rfl⟩
def findH (r : Int) : Int × Int × Int × Bool :=
 if 44032 <= r /\ r < 55204 then ((r - 44032) / 588, (r - 44032) / 28 % 21, (r - 44032) % 28, true) else (0, 0, 0, false)
theorem zda (r : Int) (w : World) (hr0 : -2147483648 <= r) (hr1 : r <= 2147483647) :
  Calls Tryz.prog 121 #[.int .i32 r] w fun e w' => e = .returned (.tuple #[.int .i64 (findH r).1, .int .i64 (findH r).2.1, .int .i64 (findH r).2.2.1, .bool (findH r).2.2.2]) /\ w = w' := by
 go_enter Tryz.func121, Tryz.ntmps121;go_wp2_with fail;go_loop [6] (fun i => ∃ k : Nat, k <= 19 /\ i = .int .i64 k /\ (r < 44032 \/ 44032 + 588 * (k : Int) <= r)) (fun i => 19 - (intOf i).toNat)
 case atStart => exact ⟨0, by omega, rfl, by omega⟩
 case round =>
  obtain ⟨k, hk, rfl, hrel⟩ := hrel
  by_cases hlt : k < 19
  ·by_cases h1 : r < 44032 + 588 * (k : Int)
   ·have hr : r < 44032 := (by omega);clear hrel;go_wp2_with (go_at_call 120; refine (zdl _ _ _ _ (by omega) (by omega) (by omega) (by omega) (by omega) (by omega)).mono ?_; rintro e w' ⟨rfl, rfl⟩)
    go_round
    case rel => exact ⟨k + 1, by omega, by go_num, .inl hr⟩
    case measure => simp [intOf]; omega
   ·by_cases h2 : 44032 + 588 * ((k : Int) + 1) <= r
    ·have h1' : ¬ r < 44032 + 588 * (k : Int) := h1;go_wp2_with (go_at_call 120; refine (zdl _ _ _ _ (by omega) (by omega) (by omega) (by omega) (by omega) (by omega)).mono ?_; rintro e w' ⟨rfl, rfl⟩)
     go_round
     case rel => exact ⟨k + 1, by omega, by go_num, .inr (by omega)⟩
     case measure => simp [intOf]; omega
    ·have h2' : r < 44032 + 588 * ((k : Int) + 1) := (by omega);have h1' : 44032 + 588 * (k : Int) <= r := (by omega);clear hrel h1 h2;go_wp2_with (go_at_call 120; refine (zdl _ _ _ _ (by omega) (by omega) (by omega) (by omega) (by omega) (by omega)).mono ?_; rintro e w' ⟨rfl, rfl⟩)
     go_loop [7, 2, 3, 4, 5, 8] (fun i _ _ _ _ _ => ∃ v : Nat, v <= 21 /\ i = .int .i64 v /\ 44032 + 588 * (k : Int) + 28 * (v : Int) <= r) (fun i _ _ _ _ _ => 21 - (intOf i).toNat)
     case atStart => exact ⟨0, by omega, rfl, by omega⟩
     case round =>
      obtain ⟨v, hv, rfl, hrel⟩ := hrel
      by_cases hv2 : v < 21
      ·go_wp2_with fail;go_loop [8, 2, 3, 4, 5] (fun i _ _ _ _ => ∃ t : Nat, t <= 28 /\ i = .int .i64 t /\ 44032 + 588 * (k : Int) + 28 * (v : Int) + (t : Int) <= r) (fun i _ _ _ _ => 28 - (intOf i).toNat)
       case atStart => exact ⟨0, by omega, rfl, by omega⟩
       case round =>
        obtain ⟨t, ht, rfl, hrel2⟩ := hrel
        by_cases ht2 : t < 28
        ·by_cases he : 44032 + 588 * (k : Int) + 28 * (v : Int) + (t : Int) = r
         ·have heb : ((44032 + 588 * (k : Int) + 28 * (v : Int) + (t : Int)) == r) = true := (by simpa using he);have HE := hz0q he; clear he;go_wp2_with (go_at_call 120; refine (zdl _ _ _ _ (by omega) (by omega) (by omega) (by omega) (by omega) (by omega)).mono ?_; rintro e w' ⟨rfl, rfl⟩)
          go_returns
          have e : findH r = ((k : Int), (v : Int), (t : Int), true) := by
           have := HE.out;unfold findH;rw [if_pos (by omega)];have e1 : (r - 44032) / 588 = k := (by omega);have e2 : (r - 44032) / 28 % 21 = v := (by omega);have e3 : (r - 44032) % 28 = t := (by omega);rw [e1, e2, e3]
          rw [e];exact ⟨rfl, rfl⟩
         ·have heb : ((44032 + 588 * (k : Int) + 28 * (v : Int) + (t : Int)) == r) = false := (by simpa using he);go_wp2_with (go_at_call 120; refine (zdl _ _ _ _ (by omega) (by omega) (by omega) (by omega) (by omega) (by omega)).mono ?_; rintro e w' ⟨rfl, rfl⟩)
          go_round
          case rel => exact ⟨t + 1, by omega, by go_num, by omega⟩
          case measure => simp [intOf]; omega
        ·go_wp2_with fail;go_round
         case rel => exact ⟨v + 1, by omega, by go_num, by omega⟩
         case measure => simp [intOf]; omega
      ·exfalso; omega
  ·have hk19 : k = 19 := (by omega);subst hk19;have hf : findH r = (0, 0, 0, false) := (by unfold findH; rw [if_neg (by omega)]);have HF := hz0q hf;clear hrel hf;go_wp2_with fail;go_returns;rw [HF.out];exact ⟨rfl, rfl⟩
theorem rsplit_any (r : Int) (w : World) (hr0 : -2147483648 <= r) (hr1 : r <= 2147483647) :
  Calls Tryz.prog 155 #[.int .i32 r] w fun e w' => e = .returned (.tuple #[.int .i32 (zw r).1, .int .i32 (zw r).2.1, .bool (zw r).2.2]) /\ w = w' := by
 by_cases h : 44032 <= r /\ r < 55204
 ·have hf : findH r = ((r - 44032) / 588, (r - 44032) / 28 % 21, (r - 44032) % 28, true) := (by unfold findH; rw [if_pos h]);have HF := hz0q hf; clear hf;obtain ⟨h1, h2⟩ := h
  by_cases ht : 0 < (r - 44032) % 28
  ·have hs : zw r = (r - (r - 44032) % 28, 4519 + (r - 44032) % 28, true) := (by simp [zw, h1, h2, ht]);have HS := hz0q hs; clear hs;have hb : ((r - 44032) % 28 == 0) = false := (by simp; omega);go_enter Tryz.func155, Tryz.ntmps155;go_wp2_with fail;refine (zda r _ hr0 hr1).mono ?_;rw [HF.out];rintro e w' ⟨rfl, rfl⟩;go_wp2_with fail;refine (zdl _ _ 0 _ (by omega) (by omega) (by omega) (by omega) (by omega) (by omega)).mono ?_;rintro e w' ⟨rfl, rfl⟩;go_wp2;go_returns;exact ⟨zfl (by rw [HS.out]; omega) (by rw [HS.out]) (by rw [HS.out]), rfl⟩
  ·have hs : zw r = (4352 + (r - 44032) / 588, 4449 + (r - 44032) / 28 % 21, true) := (by simp [zw, h1, h2, ht]);have HS := hz0q hs; clear hs;have hb : ((r - 44032) % 28 == 0) = true := (by simp; omega);go_enter Tryz.func155, Tryz.ntmps155;go_wp2_with fail;refine (zda r _ hr0 hr1).mono ?_;rw [HF.out];rintro e w' ⟨rfl, rfl⟩;go_wp2;go_returns;exact ⟨zfl (by rw [HS.out]) (by rw [HS.out]) (by rw [HS.out]), rfl⟩
 ·have hf : findH r = (0, 0, 0, false) := (by unfold findH; rw [if_neg h]);have HF := hz0q hf; clear hf;have hs : zw r = (0, 0, false) := (by unfold zw; rw [if_neg h]);have HS := hz0q hs; clear hs h;go_enter Tryz.func155, Tryz.ntmps155;go_wp2_with fail;refine (zda r _ hr0 hr1).mono ?_;rw [HF.out];rintro e w' ⟨rfl, rfl⟩;go_wp2;go_returns;exact ⟨zfl (by rw [HS.out]) (by rw [HS.out]) (by rw [HS.out]), rfl⟩
theorem zg8 (a b : Int) (w : World) (ha0 : -2147483648 <= a) (ha1 : a <= 2147483647) (hb0 : -2147483648 <= b) (hb1 : b <= 2147483647) :
  Calls Tryz.prog 82 #[.int .i32 a, .int .i32 b] w fun e w' => e = .returned (.tuple #[.int .i32 (joinH a b).1, .bool (joinH a b).2]) /\ w = w' := by
 by_cases h : 4352 <= a /\ a < 4371 /\ 4449 <= b /\ b < 4470
 ·have hj : joinH a b = (44032 + 588 * (a - 4352) + 28 * (b - 4449), true) := (by unfold joinH; rw [if_pos h]);have HJ := hz0q hj; clear hj;obtain ⟨h1, h2, h3, h4⟩ := h;go_enter Tryz.func82, Tryz.ntmps82;go_wp2_with fail;refine (zdl (a - 4352) (b - 4449) 0 _ (by omega) (by omega) (by omega) (by omega) (by omega) (by omega)).mono ?_;rintro e w' ⟨rfl, rfl⟩;go_wp2;go_returns;exact ⟨zy (by rw [HJ.out]; try omega) (by rw [HJ.out]), rfl⟩
 ·have hj : joinH a b = if 44032 <= a /\ a < 55204 /\ (a - 44032) % 28 = 0 /\ 4519 < b /\ b < 4547 then (a + (b - 4519), true) else (0, false) := (by unfold joinH; rw [if_neg h]);have HJ := hz0q hj; clear hj
  have step : ∀ (W : World), Calls Tryz.prog 82 #[.int .i32 a, .int .i32 b] W fun e w' => e = .returned (.tuple #[.int .i32 (joinH a b).1, .bool (joinH a b).2]) /\ W = w' := by
   intro W
   by_cases hs : 44032 <= a /\ a < 55204
   ·have hf : findH a = ((a - 44032) / 588, (a - 44032) / 28 % 21, (a - 44032) % 28, true) := (by unfold findH; rw [if_pos hs]);have HF := hz0q hf; clear hf;obtain ⟨h1, h2⟩ := hs
    by_cases hz : (a - 44032) % 28 = 0
    ·have hzb : ((a - 44032) % 28 == 0) = true := (by simpa using hz);have HZ := hz0q hz; clear hz;rcases (show (4519 < b /\ b < 4547) \/ b <= 4519 \/ (4519 < b /\ 4547 <= b) by omega) with ⟨h5, h6⟩ | h5 | ⟨h5, h6⟩
     ·go_enter Tryz.func82, Tryz.ntmps82;go_wp2_with fail;refine (zda a _ ha0 ha1).mono ?_;rw [HF.out];rintro e w' ⟨rfl, rfl⟩;go_wp2_with fail;refine (zdl _ _ (b - 4519) _ (by omega) (by omega) (by omega) (by omega) (by omega) (by omega)).mono ?_;rintro e w' ⟨rfl, rfl⟩;go_wp2;go_returns;exact ⟨zy (by rw [HJ.out, if_pos ⟨h1, h2, HZ.out, h5, h6⟩]; have := HZ.out; try omega) (by rw [HJ.out, if_pos ⟨h1, h2, HZ.out, h5, h6⟩]), rfl⟩
     all_goals
      have hn : ¬ (44032 <= a /\ a < 55204 /\ (a - 44032) % 28 = 0 /\ 4519 < b /\ b < 4547) := (by omega);have HN := hz0q hn; clear hn;go_enter Tryz.func82, Tryz.ntmps82;go_wp2_with fail;refine (zda a _ ha0 ha1).mono ?_;rw [HF.out];rintro e w' ⟨rfl, rfl⟩;go_wp2;go_returns;exact ⟨zy (by rw [HJ.out, if_neg HN.out]) (by rw [HJ.out, if_neg HN.out]), rfl⟩
    ·have hzb : ((a - 44032) % 28 == 0) = false := (by simpa using hz);have hn : ¬ (44032 <= a /\ a < 55204 /\ (a - 44032) % 28 = 0 /\ 4519 < b /\ b < 4547) := fun hh => hz hh.2.2.1;have HN := hz0q hn; clear hn hz;go_enter Tryz.func82, Tryz.ntmps82;go_wp2_with fail;refine (zda a _ ha0 ha1).mono ?_;rw [HF.out];rintro e w' ⟨rfl, rfl⟩;go_wp2;go_returns;exact ⟨zy (by rw [HJ.out, if_neg HN.out]) (by rw [HJ.out, if_neg HN.out]), rfl⟩
   ·have hf : findH a = (0, 0, 0, false) := (by unfold findH; rw [if_neg hs]);have HF := hz0q hf; clear hf;have hn : ¬ (44032 <= a /\ a < 55204 /\ (a - 44032) % 28 = 0 /\ 4519 < b /\ b < 4547) := fun hh => hs ⟨hh.1, hh.2.1⟩;have HN := hz0q hn; clear hn hs;have hways : a < 4352 \/ 4371 <= a \/ (4352 <= a /\ a < 4371 /\ b < 4449) \/ (4352 <= a /\ a < 4371 /\ 4449 <= b /\ 4470 <= b) := (by omega);rcases hways with h1 | h1 | ⟨h1, h2, h3⟩ | ⟨h1, h2, h3, h4⟩
    all_goals
     clear h;go_enter Tryz.func82, Tryz.ntmps82;go_wp2_with fail;refine (zda a _ ha0 ha1).mono ?_;rw [HF.out];rintro e w' ⟨rfl, rfl⟩;go_wp2;go_returns;exact ⟨zy (by rw [HJ.out, if_neg HN.out]) (by rw [HJ.out, if_neg HN.out]), rfl⟩
  exact step w
end
end Go.Proofs.YtfdelmodmadoaaaGreatDoor
