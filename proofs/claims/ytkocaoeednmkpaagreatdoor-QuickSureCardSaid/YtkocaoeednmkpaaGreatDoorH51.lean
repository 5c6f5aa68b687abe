/- QuickSure, QuickNil: the laws. -/
import Derived.Test.YtkocaoeednmkpaaGreatDoorH42
import Derived.Test.YtkocaoeednmkpaaGreatDoorH47
set_option linter.unusedSimpArgs false
set_option linter.unusedVariables false
set_option maxRecDepth 20000
set_option maxHeartbeats 4000000
namespace Go.Proofs.YtkocaoeednmkpaaGreatDoor
section
open Go.RowKit Go.Lib
theorem quicksure_yes (s o : ByteArray) (f : Int) (A : Option Addr) (n cp : Nat) (zs : List Int) (w : World) (hE : Env w) (hk : Kinds w) (hz : ArgR w A n cp zs) :
  Calls Tryz.prog 6 #[.agg #[.string s, .string o], .int .i64 f, .slice A n cp] w fun e w' => e = .returned (.bool true) /\ Below w.heap.size w w' := by
 obtain ⟨W0, hW0⟩ : ∃ W0, w.alloc (.cells #[.string s, .string o] 23) = W0 := ⟨_, rfl⟩;have hB0 : Below w.heap.size w W0 := (by rw [<- hW0]; exact (Below.refl _ w).alloc (Nat.le_refl _) _);have bx1 : W0.heap[w.heap.size]? = some (.cells #[.string s, .string o] 23 (0, 0)) := (by rw [<- hW0]; exact zl w _ _);have hc0 := za bx1 0 rfl;have hc1 := za bx1 1 rfl;have BO := zb8 s o W0 (hE.below hB0) (hk.below' hB0);have HEE := hz0q hE;have HKK := hz0q hk;have HZ := hz0q hz;clear hE hk bx1 hz;go_enter Tryz.func6, Tryz.ntmps6;go_wp2_with fail;refine BO.mono ?_;rintro e v0 (⟨rfl, hb0⟩ | ⟨bp, x, B, rfl, hB, hR, hbd, hb0⟩)
 ·have HW := hz0q (zb hB0 hb0);clear BO hc0 hc1 hW0 hB0 hb0;have HE0 := HEE.out.below HW.out;have HK0 := HKK.out.below' HW.out;have AW := zf _ HE0 HK0;go_wp2_with fail;refine AW.mono ?_;rintro e v1 ⟨rfl, hbn⟩;have HW := hz0q (zb HW.out hbn);clear AW hbn;go_wp2;go_returns;exact ⟨rfl, HW.out⟩
 have HW := hz0q (zb hB0 hb0);have ST : Hid (LawSt v0 bp x B) := ⟨hB, hR, hbd, HEE.out.below HW.out, HKK.out.below' HW.out⟩;replace HZ := hz0q (HZ.out.below HW.out);clear BO hc0 hc1 hW0 hB hR hbd hb0 hB0 HEE HKK
 by_cases hn : n <= 60
 rotate_left
 ·have hn1 : (60 : Int) < (n : Int) := (by omega);clear hn;have AW := zf _ ST.out.e ST.out.k;go_wp2_with fail;refine AW.mono ?_;rintro e v1 ⟨rfl, hbn⟩;have HW := hz0q (zb HW.out hbn);clear AW hbn;go_wp2;go_returns;exact ⟨rfl, HW.out⟩
 have hn1 : ¬ (60 : Int) < (n : Int) := by omega
 by_cases hf1 : f < 1
 ·clear hn1;have AW := zf _ ST.out.e ST.out.k;go_wp2_with fail;refine AW.mono ?_;rintro e v1 ⟨rfl, hbn⟩;have HW := hz0q (zb HW.out hbn);clear AW hbn;go_wp2;go_returns;exact ⟨rfl, HW.out⟩
 by_cases hf4 : 4 < f
 ·have hf5 : ¬ (f < 1) := hf1;have AW := zf _ ST.out.e ST.out.k;go_wp2_with fail;refine AW.mono ?_;rintro e v1 ⟨rfl, hbn⟩;have HW := hz0q (zb HW.out hbn);clear AW hbn;go_wp2;go_returns;exact ⟨rfl, HW.out⟩
 have hm : mayF f = true := (zbz f).2 ⟨by omega, by omega⟩;have HMT := hz0q hm;have hf14 : 1 <= f /\ f <= 4 := ⟨by omega, by omega⟩;clear hm;obtain ⟨c, hc⟩ : ∃ c, c = cB f := ⟨_, rfl⟩;obtain ⟨j, hj⟩ : ∃ j, j = jB f := ⟨_, rfl⟩;have HCC := hz0q hc;have HJJ := hz0q hj;obtain ⟨k, hk⟩ : ∃ k, k = B.check c j zs := ⟨_, rfl⟩;have HKK2 := hz0q hk;obtain ⟨fs, hfs⟩ : ∃ fs, fs = B.form c j zs := ⟨_, rfl⟩;have HFS := hz0q hfs;have HFR : Hid (∀ y ∈ fs, R32 y) := zcd ST.out.bd c j HZ.out.r hfs;have hfl : fs.length <= 3240 := zbp ST.out.bd c j (by rw [HZ.out.len]; exact hn) hfs;have h3 := zb0 (B := B) c j zs;rw [<- hk] at h3;obtain ⟨bb, hbb⟩ : ∃ bb, bb = decide (fs = zs) := ⟨_, rfl⟩;have HBB := hz0q hbb;have hy : k = 1 -> bb = true := fun e => by rw [hbb, hfs]; exact decide_eq_true (check_yes (by rw [<- hk]; exact e))
 have hno : k = 2 -> bb = false := fun e => by rw [hbb, hfs]; exact decide_eq_false (zow (by rw [<- hk]; exact e))
 have HY := hz0q hy;have HNO := hz0q hno;clear hc hj hk hfs hbb hy hno hf1 hf4;have C := zbl ST.out.b ST.out.k ST.out.bd f A n cp zs HZ.out.rd HZ.out.len HZ.out.r (by omega);rw [if_pos HMT.out, if_pos HMT.out, <- HCC.out, <- HJJ.out, <- HKK2.out] at C;go_wp2_with fail;refine C.mono ?_;rintro e v1 ⟨rfl, hbn⟩;clear C;replace ST := hz0q (ST.out.below hbn);replace HZ := hz0q (HZ.out.below hbn);replace HW := hz0q (zb HW.out hbn);clear hbn;have C := zb4 ST.out.b ST.out.k ST.out.bd f hf14 A n cp zs HZ.out.rd HZ.out.len HZ.out.r (by omega);rw [<- HCC.out, <- HJJ.out, <- HFS.out] at C;go_wp2_with fail;refine C.mono ?_;intro e v2 hf;obtain ⟨A1, c1, rfl, z10, hbn⟩ := hf.arg HFR.out;clear C hf;replace ST := hz0q (ST.out.below hbn);replace HZ := hz0q (HZ.out.below hbn);replace HW := hz0q (zb HW.out hbn);clear hbn;have Z1 := hz0q z10;clear z10;have C := zo9 A1 A fs.length n c1 cp fs zs _ Z1.out.rd HZ.out.rd (by omega) (by omega);rw [<- HBB.out] at C;go_wp2_with fail;refine C.mono ?_;rintro e v3 ⟨rfl, hbn⟩;clear C;replace ST := hz0q (ST.out.below hbn);replace HZ := hz0q (HZ.out.below hbn);replace Z1 := hz0q (Z1.out.below hbn);replace HW := hz0q (zb HW.out hbn);clear hbn;rcases h3 with rfl | rfl | rfl
 ·obtain rfl : bb = true := HY.out rfl;have C := zb4 ST.out.b ST.out.k ST.out.bd f hf14 A n cp zs HZ.out.rd HZ.out.len HZ.out.r (by omega);rw [<- HCC.out, <- HJJ.out, <- HFS.out] at C;go_wp2_with fail;refine C.mono ?_;intro e v4 hf;obtain ⟨A2, c2, rfl, z20, hbn⟩ := hf.arg HFR.out;clear C hf;replace ST := hz0q (ST.out.below hbn);replace HZ := hz0q (HZ.out.below hbn);replace Z1 := hz0q (Z1.out.below hbn);replace HW := hz0q (zb HW.out hbn);clear hbn;have Z2 := hz0q z20;clear z20;obtain ⟨m, hm⟩ : ∃ m, m = B.check c j fs := ⟨_, rfl⟩;have HM := hz0q hm;have hm3 := zb0 (B := B) c j fs;rw [<- hm] at hm3;have hmn : m ≠ 2 := fun e => zdd (B := B) c j zs (by rw [<- HFS.out, <- hm]; exact e);clear hm;have C := zbl ST.out.b ST.out.k ST.out.bd f A2 fs.length c2 fs Z2.out.rd rfl HFR.out (by omega);rw [if_pos HMT.out, if_pos HMT.out, <- HCC.out, <- HJJ.out, <- HM.out] at C;go_wp2_with fail;refine C.mono ?_;rintro e v5 ⟨rfl, hbn⟩;clear C;replace ST := hz0q (ST.out.below hbn);replace HZ := hz0q (HZ.out.below hbn);replace Z1 := hz0q (Z1.out.below hbn);replace Z2 := hz0q (Z2.out.below hbn);replace HW := hz0q (zb HW.out hbn);clear hbn;have hff : f = 1 \/ f = 2 \/ f = 3 \/ f = 4 := (by omega);rcases hff with rfl | rfl | rfl | rfl
  ·have hj : j = false := HJJ.out
   have hm1 : m = 1 := by
    rcases hm3 with h | h | h
    ·exact h
    ·exact absurd h hmn
    ·exact absurd (show B.check c false fs = 3 by rw [<- hj, <- HM.out]; exact h) zck
   subst hm1;clear hm3 hmn hj;have AW := zf _ ST.out.e ST.out.k;go_wp2_with fail;refine AW.mono ?_;rintro e v6 ⟨rfl, hbn⟩;have HW := hz0q (zb HW.out hbn);clear AW hbn;go_wp2;go_returns;exact ⟨rfl, HW.out⟩
  ·rcases hm3 with rfl | rfl | rfl
   ·clear hmn;have AW := zf _ ST.out.e ST.out.k;go_wp2_with fail;refine AW.mono ?_;rintro e v6 ⟨rfl, hbn⟩;have HW := hz0q (zb HW.out hbn);clear AW hbn;go_wp2;go_returns;exact ⟨rfl, HW.out⟩
   ·exact absurd rfl hmn
   ·clear hmn;have AW := zf _ ST.out.e ST.out.k;go_wp2_with fail;refine AW.mono ?_;rintro e v6 ⟨rfl, hbn⟩;have HW := hz0q (zb HW.out hbn);clear AW hbn;go_wp2;go_returns;exact ⟨rfl, HW.out⟩
  ·have hj : j = false := HJJ.out
   have hm1 : m = 1 := by
    rcases hm3 with h | h | h
    ·exact h
    ·exact absurd h hmn
    ·exact absurd (show B.check c false fs = 3 by rw [<- hj, <- HM.out]; exact h) zck
   subst hm1;clear hm3 hmn hj;have AW := zf _ ST.out.e ST.out.k;go_wp2_with fail;refine AW.mono ?_;rintro e v6 ⟨rfl, hbn⟩;have HW := hz0q (zb HW.out hbn);clear AW hbn;go_wp2;go_returns;exact ⟨rfl, HW.out⟩
  ·rcases hm3 with rfl | rfl | rfl
   ·clear hmn;have AW := zf _ ST.out.e ST.out.k;go_wp2_with fail;refine AW.mono ?_;rintro e v6 ⟨rfl, hbn⟩;have HW := hz0q (zb HW.out hbn);clear AW hbn;go_wp2;go_returns;exact ⟨rfl, HW.out⟩
   ·exact absurd rfl hmn
   ·clear hmn;have AW := zf _ ST.out.e ST.out.k;go_wp2_with fail;refine AW.mono ?_;rintro e v6 ⟨rfl, hbn⟩;have HW := hz0q (zb HW.out hbn);clear AW hbn;go_wp2;go_returns;exact ⟨rfl, HW.out⟩
 ·obtain rfl : bb = false := HNO.out rfl;have C := zb4 ST.out.b ST.out.k ST.out.bd f hf14 A n cp zs HZ.out.rd HZ.out.len HZ.out.r (by omega);rw [<- HCC.out, <- HJJ.out, <- HFS.out] at C;go_wp2_with fail;refine C.mono ?_;intro e v4 hf;obtain ⟨A2, c2, rfl, z20, hbn⟩ := hf.arg HFR.out;clear C hf;replace ST := hz0q (ST.out.below hbn);replace HZ := hz0q (HZ.out.below hbn);replace Z1 := hz0q (Z1.out.below hbn);replace HW := hz0q (zb HW.out hbn);clear hbn;have Z2 := hz0q z20;clear z20;obtain ⟨m, hm⟩ : ∃ m, m = B.check c j fs := ⟨_, rfl⟩;have HM := hz0q hm;have hm3 := zb0 (B := B) c j fs;rw [<- hm] at hm3;have hmn : m ≠ 2 := fun e => zdd (B := B) c j zs (by rw [<- HFS.out, <- hm]; exact e);clear hm;have C := zbl ST.out.b ST.out.k ST.out.bd f A2 fs.length c2 fs Z2.out.rd rfl HFR.out (by omega);rw [if_pos HMT.out, if_pos HMT.out, <- HCC.out, <- HJJ.out, <- HM.out] at C;go_wp2_with fail;refine C.mono ?_;rintro e v5 ⟨rfl, hbn⟩;clear C;replace ST := hz0q (ST.out.below hbn);replace HZ := hz0q (HZ.out.below hbn);replace Z1 := hz0q (Z1.out.below hbn);replace Z2 := hz0q (Z2.out.below hbn);replace HW := hz0q (zb HW.out hbn);clear hbn;have hff : f = 1 \/ f = 2 \/ f = 3 \/ f = 4 := (by omega);rcases hff with rfl | rfl | rfl | rfl
  ·have hj : j = false := HJJ.out
   have hm1 : m = 1 := by
    rcases hm3 with h | h | h
    ·exact h
    ·exact absurd h hmn
    ·exact absurd (show B.check c false fs = 3 by rw [<- hj, <- HM.out]; exact h) zck
   subst hm1;clear hm3 hmn hj;have AW := zf _ ST.out.e ST.out.k;go_wp2_with fail;refine AW.mono ?_;rintro e v6 ⟨rfl, hbn⟩;have HW := hz0q (zb HW.out hbn);clear AW hbn;go_wp2;go_returns;exact ⟨rfl, HW.out⟩
  ·rcases hm3 with rfl | rfl | rfl
   ·clear hmn;have AW := zf _ ST.out.e ST.out.k;go_wp2_with fail;refine AW.mono ?_;rintro e v6 ⟨rfl, hbn⟩;have HW := hz0q (zb HW.out hbn);clear AW hbn;go_wp2;go_returns;exact ⟨rfl, HW.out⟩
   ·exact absurd rfl hmn
   ·clear hmn;have AW := zf _ ST.out.e ST.out.k;go_wp2_with fail;refine AW.mono ?_;rintro e v6 ⟨rfl, hbn⟩;have HW := hz0q (zb HW.out hbn);clear AW hbn;go_wp2;go_returns;exact ⟨rfl, HW.out⟩
  ·have hj : j = false := HJJ.out
   have hm1 : m = 1 := by
    rcases hm3 with h | h | h
    ·exact h
    ·exact absurd h hmn
    ·exact absurd (show B.check c false fs = 3 by rw [<- hj, <- HM.out]; exact h) zck
   subst hm1;clear hm3 hmn hj;have AW := zf _ ST.out.e ST.out.k;go_wp2_with fail;refine AW.mono ?_;rintro e v6 ⟨rfl, hbn⟩;have HW := hz0q (zb HW.out hbn);clear AW hbn;go_wp2;go_returns;exact ⟨rfl, HW.out⟩
  ·rcases hm3 with rfl | rfl | rfl
   ·clear hmn;have AW := zf _ ST.out.e ST.out.k;go_wp2_with fail;refine AW.mono ?_;rintro e v6 ⟨rfl, hbn⟩;have HW := hz0q (zb HW.out hbn);clear AW hbn;go_wp2;go_returns;exact ⟨rfl, HW.out⟩
   ·exact absurd rfl hmn
   ·clear hmn;have AW := zf _ ST.out.e ST.out.k;go_wp2_with fail;refine AW.mono ?_;rintro e v6 ⟨rfl, hbn⟩;have HW := hz0q (zb HW.out hbn);clear AW hbn;go_wp2;go_returns;exact ⟨rfl, HW.out⟩
 ·have hj : j = true := by
   cases hj : j with
   | true => rfl
   | false => exact absurd (show B.check c false zs = 3 by rw [<- hj]; exact HKK2.out.symm) zck
  have HJT := hz0q hj;clear hj
  cases bb with
  | true =>
   have C := zb4 ST.out.b ST.out.k ST.out.bd f hf14 A n cp zs HZ.out.rd HZ.out.len HZ.out.r (by omega);rw [<- HCC.out, <- HJJ.out, <- HFS.out] at C;go_wp2_with fail;refine C.mono ?_;intro e v4 hf;obtain ⟨A2, c2, rfl, z20, hbn⟩ := hf.arg HFR.out;clear C hf;replace ST := hz0q (ST.out.below hbn);replace HZ := hz0q (HZ.out.below hbn);replace Z1 := hz0q (Z1.out.below hbn);replace HW := hz0q (zb HW.out hbn);clear hbn;have Z2 := hz0q z20;clear z20;obtain ⟨m, hm⟩ : ∃ m, m = B.check c j fs := ⟨_, rfl⟩;have HM := hz0q hm;have hm3 := zb0 (B := B) c j fs;rw [<- hm] at hm3;have hmn : m ≠ 2 := fun e => zdd (B := B) c j zs (by rw [<- HFS.out, <- hm]; exact e);clear hm;have C := zbl ST.out.b ST.out.k ST.out.bd f A2 fs.length c2 fs Z2.out.rd rfl HFR.out (by omega);rw [if_pos HMT.out, if_pos HMT.out, <- HCC.out, <- HJJ.out, <- HM.out] at C;go_wp2_with fail;refine C.mono ?_;rintro e v5 ⟨rfl, hbn⟩;clear C;replace ST := hz0q (ST.out.below hbn);replace HZ := hz0q (HZ.out.below hbn);replace Z1 := hz0q (Z1.out.below hbn);replace Z2 := hz0q (Z2.out.below hbn);replace HW := hz0q (zb HW.out hbn);clear hbn;have hff : f = 1 \/ f = 2 \/ f = 3 \/ f = 4 := (by omega);rcases hff with rfl | rfl | rfl | rfl
   ·exact absurd (HJT.out.symm.trans HJJ.out) (by decide)
   ·rcases hm3 with rfl | rfl | rfl
    ·clear hmn;have AW := zf _ ST.out.e ST.out.k;go_wp2_with fail;refine AW.mono ?_;rintro e v6 ⟨rfl, hbn⟩;have HW := hz0q (zb HW.out hbn);clear AW hbn;go_wp2;go_returns;exact ⟨rfl, HW.out⟩
    ·exact absurd rfl hmn
    ·clear hmn;have AW := zf _ ST.out.e ST.out.k;go_wp2_with fail;refine AW.mono ?_;rintro e v6 ⟨rfl, hbn⟩;have HW := hz0q (zb HW.out hbn);clear AW hbn;go_wp2;go_returns;exact ⟨rfl, HW.out⟩
   ·exact absurd (HJT.out.symm.trans HJJ.out) (by decide)
   ·rcases hm3 with rfl | rfl | rfl
    ·clear hmn;have AW := zf _ ST.out.e ST.out.k;go_wp2_with fail;refine AW.mono ?_;rintro e v6 ⟨rfl, hbn⟩;have HW := hz0q (zb HW.out hbn);clear AW hbn;go_wp2;go_returns;exact ⟨rfl, HW.out⟩
    ·exact absurd rfl hmn
    ·clear hmn;have AW := zf _ ST.out.e ST.out.k;go_wp2_with fail;refine AW.mono ?_;rintro e v6 ⟨rfl, hbn⟩;have HW := hz0q (zb HW.out hbn);clear AW hbn;go_wp2;go_returns;exact ⟨rfl, HW.out⟩
  | false =>
   have C := zb4 ST.out.b ST.out.k ST.out.bd f hf14 A n cp zs HZ.out.rd HZ.out.len HZ.out.r (by omega);rw [<- HCC.out, <- HJJ.out, <- HFS.out] at C;go_wp2_with fail;refine C.mono ?_;intro e v4 hf;obtain ⟨A2, c2, rfl, z20, hbn⟩ := hf.arg HFR.out;clear C hf;replace ST := hz0q (ST.out.below hbn);replace HZ := hz0q (HZ.out.below hbn);replace Z1 := hz0q (Z1.out.below hbn);replace HW := hz0q (zb HW.out hbn);clear hbn;have Z2 := hz0q z20;clear z20;obtain ⟨m, hm⟩ : ∃ m, m = B.check c j fs := ⟨_, rfl⟩;have HM := hz0q hm;have hm3 := zb0 (B := B) c j fs;rw [<- hm] at hm3;have hmn : m ≠ 2 := fun e => zdd (B := B) c j zs (by rw [<- HFS.out, <- hm]; exact e);clear hm;have C := zbl ST.out.b ST.out.k ST.out.bd f A2 fs.length c2 fs Z2.out.rd rfl HFR.out (by omega);rw [if_pos HMT.out, if_pos HMT.out, <- HCC.out, <- HJJ.out, <- HM.out] at C;go_wp2_with fail;refine C.mono ?_;rintro e v5 ⟨rfl, hbn⟩;clear C;replace ST := hz0q (ST.out.below hbn);replace HZ := hz0q (HZ.out.below hbn);replace Z1 := hz0q (Z1.out.below hbn);replace Z2 := hz0q (Z2.out.below hbn);replace HW := hz0q (zb HW.out hbn);clear hbn;have hff : f = 1 \/ f = 2 \/ f = 3 \/ f = 4 := (by omega);rcases hff with rfl | rfl | rfl | rfl
   ·exact absurd (HJT.out.symm.trans HJJ.out) (by decide)
   ·rcases hm3 with rfl | rfl | rfl
    ·clear hmn;have AW := zf _ ST.out.e ST.out.k;go_wp2_with fail;refine AW.mono ?_;rintro e v6 ⟨rfl, hbn⟩;have HW := hz0q (zb HW.out hbn);clear AW hbn;go_wp2;go_returns;exact ⟨rfl, HW.out⟩
    ·exact absurd rfl hmn
    ·clear hmn;have AW := zf _ ST.out.e ST.out.k;go_wp2_with fail;refine AW.mono ?_;rintro e v6 ⟨rfl, hbn⟩;have HW := hz0q (zb HW.out hbn);clear AW hbn;go_wp2;go_returns;exact ⟨rfl, HW.out⟩
   ·exact absurd (HJT.out.symm.trans HJJ.out) (by decide)
   ·rcases hm3 with rfl | rfl | rfl
    ·clear hmn;have AW := zf _ ST.out.e ST.out.k;go_wp2_with fail;refine AW.mono ?_;rintro e v6 ⟨rfl, hbn⟩;have HW := hz0q (zb HW.out hbn);clear AW hbn;go_wp2;go_returns;exact ⟨rfl, HW.out⟩
    ·exact absurd rfl hmn
    ·clear hmn;have AW := zf _ ST.out.e ST.out.k;go_wp2_with fail;refine AW.mono ?_;rintro e v6 ⟨rfl, hbn⟩;have HW := hz0q (zb HW.out hbn);clear AW hbn;go_wp2;go_returns;exact ⟨rfl, HW.out⟩
end
end Go.Proofs.YtkocaoeednmkpaaGreatDoor
