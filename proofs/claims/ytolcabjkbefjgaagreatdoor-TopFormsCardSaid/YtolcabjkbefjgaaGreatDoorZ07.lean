/- Plain functions for the layer of syllables: what is a syllable, its two and three characters, joining, and lists of characters parted and joined. No program stands here. The contracts of the package of syllables: what each function answers, the table of kinds being laid. The plain laws of syllables: Join and Split are each other's backs, Full is Split again and again, Parts and Syllables done again turn nothing. No program stands here. -/
import Derived.Test.YtolcabjkbefjgaaGreatDoorZ02
set_option linter.unusedSimpArgs false
set_option linter.unusedVariables false
set_option maxRecDepth 20000
set_option maxHeartbeats 4000000
namespace Go.Proofs.YtolcabjkbefjgaaGreatDoor
section
open Go.RowKit
def isH (r : Int) : Bool := decide (44032 <= r /\ r < 55204)
def z6 (r : Int) : Int × Int × Bool :=
 if 44032 <= r /\ r < 55204 then
  if 0 < (r - 44032) % 28 then (r - (r - 44032) % 28, 4519 + (r - 44032) % 28, true)
  else (4352 + (r - 44032) / 588, 4449 + (r - 44032) / 28 % 21, true)
 else (0, 0, false)
def joinH (a b : Int) : Int × Bool :=
 if 4352 <= a /\ a < 4371 /\ 4449 <= b /\ b < 4470 then (44032 + 588 * (a - 4352) + 28 * (b - 4449), true)
 else if 44032 <= a /\ a < 55204 /\ (a - 44032) % 28 = 0 /\ 4519 < b /\ b < 4547 then (a + (b - 4519), true)
 else (0, false)
def inK (f m r : Int) : Bool := decide (f <= r /\ r < f + m)
def offK (f r : Int) : Int := wrap32 (r - f)
theorem zia {f m r : Int} (h : inK f m r = true) : f <= r /\ r < f + m := by simpa [inK] using h
theorem zgr {f m r : Int} (h : inK f m r = false) : ¬ (f <= r /\ r < f + m) := by
 intro h2;have : inK f m r = true := (by simp [inK, h2]);rw [h] at this
 cases this
theorem zj0 {f r : Int} (h : f <= r) (h0 : 0 <= f) (hr : r <= 2147483647) : offK f r = r - f := IntWalk.wrap32_in _ (by omega)
theorem isH_true {r : Int} (h : isH r = true) : 44032 <= r /\ r < 55204 := by simpa [isH] using h
theorem isH_false {r : Int} (h : isH r = false) : ¬ (44032 <= r /\ r < 55204) := by
 intro h2;have : isH r = true := (by simp [isH, h2]);rw [h] at this
 cases this
theorem joinH_i32 (a b : Int) (ha : -2147483648 <= a /\ a <= 2147483647) : -2147483648 <= (joinH a b).1 /\ (joinH a b).1 <= 2147483647 := by
 unfold joinH;split
 ·simp only []; omega
 ·split <;> (simp only []; omega)
end
section
open Go.RowKit
structure Kinds (w : World) : Prop where
 c0 : w.cell? ⟨1, 0, none⟩ = some (.int .i32 4352)
 c1 : w.cell? ⟨1, 1, none⟩ = some (.int .i32 19)
 c2 : w.cell? ⟨1, 2, none⟩ = some (.int .i32 4449)
 c3 : w.cell? ⟨1, 3, none⟩ = some (.int .i32 21)
 c4 : w.cell? ⟨1, 4, none⟩ = some (.int .i32 4519)
 c5 : w.cell? ⟨1, 5, none⟩ = some (.int .i32 28)
theorem Kinds.lt {w : World} (h : Kinds w) : 1 < w.heap.size := World.block_lt_of_cell? w _ h.c0
theorem Kinds.keep {w w' : World} (h : Kinds w) (hc : ∀ o, w'.cell? ⟨1, o, none⟩ = w.cell? ⟨1, o, none⟩) : Kinds w' :=
 ⟨(hc 0).trans h.c0, (hc 1).trans h.c1, (hc 2).trans h.c2, (hc 3).trans h.c3, (hc 4).trans h.c4, (hc 5).trans h.c5⟩
theorem Kinds.below {w w' : World} {B : Nat} (h : Kinds w) (hb : Below B w w') (hB : 1 < B) : Kinds w' := h.keep fun _ => hb.cell hB
theorem Kinds.below' {w w' : World} (h : Kinds w) (hb : Below w.heap.size w w') : Kinds w' := h.below hb h.lt
theorem Kinds.drewN {w : World} (h : Kinds w) (n : Nat) : Kinds (w.drewN n) := h.keep fun _ => rfl
theorem zk1 (r : Int) (w : World) (hk : Kinds w) :
  Calls Tryz.prog 165 #[.int .i32 r] w fun e w' => e = .returned (.bool (isH r)) /\ w = w' := by
 obtain ⟨k0, k1, k2, k3, k4, k5⟩ := hk
 by_cases h0 : 44032 <= r
 ·go_enter Tryz.func165, Tryz.ntmps165;go_wp2;go_ret
  exact ⟨zaw (by simp [isH, h0]), rfl⟩
 ·go_enter Tryz.func165, Tryz.ntmps165;go_wp2;go_ret
  exact ⟨zaw (by simp [isH]; omega), rfl⟩
theorem zgb (r : Int) (w : World) (hk : Kinds w) (h1 : 44032 <= r) (h2 : r < 55204) :
  Calls Tryz.prog 166 #[.int .i32 r] w fun e w' =>
   e = .returned (.agg #[.int .i32 ((r - 44032) / 28 / 21), .int .i32 ((r - 44032) / 28 % 21), .int .i32 ((r - 44032) % 28)]) /\ Below w.heap.size w w' := by
 have hl := hk.lt;obtain ⟨k0, k1, k2, k3, k4, k5⟩ := hk;go_enter Tryz.func166, Tryz.ntmps166;go_wp2
 go_region
 go_wp2;go_returns;refine ⟨rfl, ?_⟩;go_grown
theorem zm5 (r : Int) (w : World) (hk : Kinds w) (h0 : -2147483648 <= r) (h1 : r <= 2147483647) :
  Calls Tryz.prog 168 #[.int .i64 0, .int .i32 r] w fun e w' =>
   e = .returned (.tuple #[.int .i32 (offK 4352 r), .bool (inK 4352 19 r)]) /\ Drew w w' := by
 have hl := hk.lt;obtain ⟨k0, k1, k2, k3, k4, k5⟩ := hk;go_enter Tryz.func168, Tryz.ntmps168;go_wp2
 by_cases h : 4352 <= r
 ·go_quiet (fail)
  go_wp2;go_returns;exact ⟨zac rfl (by rw [IntWalk.wrap32_in _ (by omega)]; simp [inK, h]; omega), _, rfl⟩
 ·go_quiet (fail)
  go_wp2;go_returns;exact ⟨zac rfl (by simp [inK]; omega), _, rfl⟩
theorem zm4 (r : Int) (w : World) (hk : Kinds w) (h0 : -2147483648 <= r) (h1 : r <= 2147483647) :
  Calls Tryz.prog 168 #[.int .i64 1, .int .i32 r] w fun e w' =>
   e = .returned (.tuple #[.int .i32 (offK 4449 r), .bool (inK 4449 21 r)]) /\ Drew w w' := by
 have hl := hk.lt;obtain ⟨k0, k1, k2, k3, k4, k5⟩ := hk;go_enter Tryz.func168, Tryz.ntmps168;go_wp2
 by_cases h : 4449 <= r
 ·go_quiet (fail)
  go_wp2;go_returns;exact ⟨zac rfl (by rw [IntWalk.wrap32_in _ (by omega)]; simp [inK, h]; omega), _, rfl⟩
 ·go_quiet (fail)
  go_wp2;go_returns;exact ⟨zac rfl (by simp [inK]; omega), _, rfl⟩
theorem place2 (r : Int) (w : World) (hk : Kinds w) (h0 : -2147483648 <= r) (h1 : r <= 2147483647) :
  Calls Tryz.prog 168 #[.int .i64 2, .int .i32 r] w fun e w' =>
   e = .returned (.tuple #[.int .i32 (offK 4519 r), .bool (inK 4519 28 r)]) /\ Drew w w' := by
 have hl := hk.lt;obtain ⟨k0, k1, k2, k3, k4, k5⟩ := hk;go_enter Tryz.func168, Tryz.ntmps168;go_wp2
 by_cases h : 4519 <= r
 ·go_quiet (fail)
  go_wp2;go_returns;exact ⟨zac rfl (by rw [IntWalk.wrap32_in _ (by omega)]; simp [inK, h]; omega), _, rfl⟩
 ·go_quiet (fail)
  go_wp2;go_returns;exact ⟨zac rfl (by simp [inK]; omega), _, rfl⟩
theorem of_any (a b c : Int) (w : World) (hk : Kinds w) (ha : 0 <= a /\ a < 19) (hb : 0 <= b /\ b < 21) (hc : 0 <= c /\ c < 28) :
  Calls Tryz.prog 169 #[.agg #[.int .i32 a, .int .i32 b, .int .i32 c]] w fun e w' =>
   e = .returned (.int .i32 (44032 + (a * 21 + b) * 28 + c)) /\ Below w.heap.size w w' := by
 have hl := hk.lt;obtain ⟨k0, k1, k2, k3, k4, k5⟩ := hk;obtain ⟨ha1, ha2⟩ := ha;obtain ⟨hb1, hb2⟩ := hb;obtain ⟨hc1, hc2⟩ := hc;go_enter Tryz.func169, Tryz.ntmps169;go_wp2;go_returns;refine ⟨rfl, ?_⟩;go_grown
theorem split_no (r : Int) (w : World) (hk : Kinds w) (h : ¬ (44032 <= r /\ r < 55204)) :
  Calls Tryz.prog 117 #[.int .i32 r] w fun e w' =>
   e = .returned (.tuple #[.int .i32 0, .int .i32 0, .bool false]) /\ Below w.heap.size w w' := by
 have hb : isH r = false := (by simp [isH]; omega);go_enter Tryz.func117, Tryz.ntmps117;go_wp2_with (go_at_call 165; refine (zk1 _ _ hk).mono ?_; rintro e w' ⟨rfl, rfl⟩)
 go_returns;exact ⟨rfl, Below.refl _ _⟩
theorem split_yes (r : Int) (w : World) (hk : Kinds w) (h1 : 44032 <= r) (h2 : r < 55204) :
  Calls Tryz.prog 117 #[.int .i32 r] w fun e w' =>
   e = .returned (.tuple #[.int .i32 (z6 r).1, .int .i32 (z6 r).2.1, .bool true]) /\ Below w.heap.size w w' := by
 have hb : isH r = true := by simp [isH]; omega
 by_cases ht : 0 < (r - 44032) % 28
 ·have hs : z6 r = (r - (r - 44032) % 28, 4519 + (r - 44032) % 28, true) := (by simp [z6, h1, h2, ht]);have Hs := hz0q hs; clear hs;have hdt : decide (0 < (r - 44032) % 28) = true := (by simpa using ht);go_enter Tryz.func117, Tryz.ntmps117;go_wp2_with (go_at_call 165; refine (zk1 _ _ hk).mono ?_; rintro e w' ⟨rfl, rfl⟩)
  refine (zgb _ _ hk h1 h2).mono ?_;rintro e w1 ⟨rfl, hb1⟩;have hk1 := hk.below' hb1;have hl1 := hk1.lt;obtain ⟨k0, k1, k2, k3, k4, k5⟩ := hk1;clear hk;go_wp2;go_quiet (fail)
  go_wp2;go_returns;exact ⟨zjy (by rw [Hs.out]) (by rw [Hs.out]) rfl, zh (hb1.alloc hb1.size _) _⟩
 ·have hs : z6 r = (4352 + (r - 44032) / 588, 4449 + (r - 44032) / 28 % 21, true) := (by simp [z6, h1, h2, ht]);have Hs := hz0q hs; clear hs;have hdt : decide (0 < (r - 44032) % 28) = false := (by simpa using ht);go_enter Tryz.func117, Tryz.ntmps117;go_wp2_with (go_at_call 165; refine (zk1 _ _ hk).mono ?_; rintro e w' ⟨rfl, rfl⟩)
  refine (zgb _ _ hk h1 h2).mono ?_;rintro e w1 ⟨rfl, hb1⟩;have hk1 := hk.below' hb1;have hl1 := hk1.lt;obtain ⟨k0, k1, k2, k3, k4, k5⟩ := hk1;clear hk;go_wp2;go_quiet (fail)
  go_wp2;go_returns;exact ⟨zjy (by rw [Hs.out]; omega) (by rw [Hs.out]) rfl, zh (hb1.alloc hb1.size _) _⟩
theorem zf5 (r : Int) (w : World) (hk : Kinds w) :
  Calls Tryz.prog 117 #[.int .i32 r] w fun e w' =>
   e = .returned (.tuple #[.int .i32 (z6 r).1, .int .i32 (z6 r).2.1, .bool (z6 r).2.2]) /\ Below w.heap.size w w' := by
 by_cases h : 44032 <= r /\ r < 55204
 ·refine (split_yes r w hk h.1 h.2).mono ?_;rintro e w' ⟨rfl, hb⟩;refine ⟨zjy rfl rfl ?_, hb⟩;simp only [z6, h, if_true, and_self]; split <;> rfl
 ·refine (split_no r w hk h).mono ?_;rintro e w' ⟨rfl, hb⟩;refine ⟨?_, hb⟩;simp only [z6, h, if_false]
theorem zdv (a b : Int) (w : World) (hk : Kinds w) (ha0 : -2147483648 <= a) (ha1 : a <= 2147483647) (hb0 : -2147483648 <= b) (hb1 : b <= 2147483647) :
  Calls Tryz.prog 121 #[.int .i32 a, .int .i32 b] w fun e w' =>
   e = .returned (.tuple #[.int .i32 (joinH a b).1, .bool (joinH a b).2]) /\ Below w.heap.size w w' := by
 rcases Bool.eq_false_or_eq_true (inK 4352 19 a) with hp | hp <;> rcases Bool.eq_false_or_eq_true (inK 4449 21 b) with hq | hq
 ·have h1 := zia hp;have h2 := zia hq;have Hj := hz0q (show joinH a b = (44032 + 588 * (a - 4352) + 28 * (b - 4449), true) by unfold joinH; rw [if_pos (by omega)]);have U1 := hz0q (zj0 (f := 4352) (r := a) (by omega) (by omega) (by omega));have U2 := hz0q (zj0 (f := 4449) (r := b) (by omega) (by omega) (by omega));go_enter Tryz.func121, Tryz.ntmps121;go_wp2_with fail;refine (zm5 _ _ hk ha0 ha1).mono ?_;rintro e w1 ⟨rfl, hd1⟩;rw [U1.out];have hk1 := hk.below' hd1.to;go_wp2_with fail;refine (zm4 _ _ hk1 hb0 hb1).mono ?_;rintro e w2 ⟨rfl, hd2⟩;rw [U2.out];have hk2 := hk1.below' hd2.to;go_wp2_with fail;refine (of_any (a - 4352) (b - 4449) 0 _ hk2 (by omega) (by omega) (by omega)).mono ?_;rintro e w3 ⟨rfl, hb⟩;go_wp2;go_returns;exact ⟨zac (by rw [Hj.out]; omega) (by rw [Hj.out]), zb (hd1.trans hd2).to hb⟩
 all_goals
  have hno : ¬ (4352 <= a /\ a < 4371 /\ 4449 <= b /\ b < 4470) := by
   intro hh
   first
    | exact zgr hp (by omega)
    | exact zgr hq (by omega)
  have Hj := hz0q (show joinH a b = if 44032 <= a /\ a < 55204 /\ (a - 44032) % 28 = 0 /\ 4519 < b /\ b < 4547 then (a + (b - 4519), true) else (0, false) by unfold joinH; rw [if_neg hno]);have i2 : ∀ (x0 x1 x2 : Value) (w : World), (Instr.index 288 (.agg #[x0, x1, x2]) (.int .i64 2)).run Tryz.prog w = .ok x2 w := fun _ _ _ _ => by kernel_rfl
  go_enter Tryz.func121, Tryz.ntmps121;go_wp2_with fail;refine (zm5 _ _ hk ha0 ha1).mono ?_;rintro e w1 ⟨rfl, hd1⟩;have hk1 := hk.below' hd1.to;go_wp2_with fail;refine (zm4 _ _ hk1 hb0 hb1).mono ?_;rintro e w2 ⟨rfl, hd2⟩;have hk2 := hk1.below' hd2.to;go_wp2_with fail;refine (place2 _ _ hk2 hb0 hb1).mono ?_;rintro e w3 ⟨rfl, hd3⟩;have hk3 := hk2.below' hd3.to;go_wp2_with fail;refine (zk1 _ _ hk3).mono ?_;rintro e w3' ⟨rfl, rfl⟩;rcases Bool.eq_false_or_eq_true (isH a) with hi | hi
  ·have h1 := isH_true hi;obtain ⟨h1a, h1b⟩ := h1;go_wp2_with fail;refine (zgb a _ hk3 h1a h1b).mono ?_;rintro e w4 ⟨rfl, hbl⟩
   by_cases hz : (a - 44032) % 28 = 0
   ·have hz' : ((a - 44032) % 28 == 0) = true := (by simpa using hz);have HZ := hz0q hz; clear hz;rcases Bool.eq_false_or_eq_true (inK 4519 28 b) with ht | ht
    ·have h2 := zia ht;have U3 := hz0q (zj0 (f := 4519) (r := b) (by omega) (by omega) (by omega))
     by_cases h0 : 4519 < b
     ·rw [U3.out];have hd : decide (0 < b - 4519) = true := (by simp; omega);go_wp2;go_returns;exact ⟨zac (by rw [Hj.out, if_pos ⟨h1a, h1b, HZ.out, by omega, by omega⟩]) (by rw [Hj.out, if_pos ⟨h1a, h1b, HZ.out, by omega, by omega⟩]), zb ((hd1.trans hd2).trans hd3).to hbl⟩
     ·rw [U3.out];have hd : decide (0 < b - 4519) = false := (by simp; omega);go_wp2;go_returns;exact ⟨zac (by rw [Hj.out, if_neg (by omega)]) (by rw [Hj.out, if_neg (by omega)]), zb ((hd1.trans hd2).trans hd3).to hbl⟩
    ·have h2 := zgr ht;go_wp2;go_returns;exact ⟨zac (by rw [Hj.out, if_neg (by omega)]) (by rw [Hj.out, if_neg (by omega)]), zb ((hd1.trans hd2).trans hd3).to hbl⟩
   ·have hz' : ((a - 44032) % 28 == 0) = false := (by simpa using hz);have HZ := hz0q hz; clear hz;go_wp2;go_returns;exact ⟨zac (by rw [Hj.out, if_neg (fun h => HZ.out h.2.2.1)]) (by rw [Hj.out, if_neg (fun h => HZ.out h.2.2.1)]), zb ((hd1.trans hd2).trans hd3).to hbl⟩
  ·have h1 := isH_false hi;have hn : ¬ (44032 <= a /\ a < 55204 /\ (a - 44032) % 28 = 0 /\ 4519 < b /\ b < 4547) := (by omega);have HN := hz0q hn; clear hn;clear h1;go_wp2;go_returns;exact ⟨zac (by rw [Hj.out, if_neg HN.out]) (by rw [Hj.out, if_neg HN.out]), ((hd1.trans hd2).trans hd3).to⟩
end
section
open Go.RowKit
theorem zfg {r : Int} (h : 44032 <= r /\ r < 55204) : z6 r = if 0 < (r - 44032) % 28 then (r - (r - 44032) % 28, 4519 + (r - 44032) % 28, true) else (4352 + (r - 44032) / 588, 4449 + (r - 44032) / 28 % 21, true) := by unfold z6; rw [if_pos h]
theorem join_back {a b : Int} (h : (joinH a b).2 = true) : z6 (joinH a b).1 = (a, b, true) /\ isH (joinH a b).1 = true := by
 unfold joinH at *;split at h
 ·rename_i h1;rw [if_pos h1];simp only [];refine ⟨?_, by simp [isH]; omega⟩;rw [zfg (by omega), if_neg (by omega)];simp only [Prod.mk.injEq, and_true];omega
 ·split at h
  ·rename_i h1 h2;rw [if_neg h1, if_pos h2];simp only [];refine ⟨?_, by simp [isH]; omega⟩;rw [zfg (by omega), if_pos (by omega)];simp only [Prod.mk.injEq, and_true];omega
  ·cases h
end
end Go.Proofs.YtolcabjkbefjgaaGreatDoor
