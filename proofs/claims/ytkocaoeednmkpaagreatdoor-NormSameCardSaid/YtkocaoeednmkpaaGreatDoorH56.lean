/- NormForms, NormSame: the laws. -/
import Derived.Test.YtkocaoeednmkpaaGreatDoorH46
set_option linter.unusedSimpArgs false
set_option linter.unusedVariables false
set_option maxRecDepth 20000
set_option maxHeartbeats 4000000
namespace Go.Proofs.YtkocaoeednmkpaaGreatDoor
section
open Go.RowKit Go.Lib
theorem normsame_yes (s o : ByteArray) (A : Option Addr) (n cp : Nat) (zs : List Int) (A2 : Option Addr) (m c2 : Nat) (ys : List Int) (w : World) (hE : Env w) (hk : Kinds w) (hz : ArgR w A n cp zs) (hy : ArgR w A2 m c2 ys) :
  Calls Tryz.prog 13 #[.agg #[.string s, .string o], .slice A n cp, .slice A2 m c2] w fun e w' => e = .returned (.bool true) /\ Below w.heap.size w w' := by
 obtain ⟨W0, hW0⟩ : ∃ W0, w.alloc (.cells #[.string s, .string o] 23) = W0 := ⟨_, rfl⟩;have hB0 : Below w.heap.size w W0 := (by rw [<- hW0]; exact (Below.refl _ w).alloc (Nat.le_refl _) _);have bx1 : W0.heap[w.heap.size]? = some (.cells #[.string s, .string o] 23 (0, 0)) := (by rw [<- hW0]; exact zl w _ _);have hc0 := za bx1 0 rfl;have hc1 := za bx1 1 rfl;have BO := zb8 s o W0 (hE.below hB0) (hk.below' hB0);have HEE := hz0q hE;have HKK := hz0q hk;have HZ := hz0q hz;have HY := hz0q hy;clear hE hk bx1 hz hy;go_enter Tryz.func13, Tryz.ntmps13;go_wp2_with fail;refine BO.mono ?_;rintro e v0 (⟨rfl, hb0⟩ | ⟨bp, x, B, rfl, hB, hR, hbd, hb0⟩)
 ·have HW := hz0q (zb hB0 hb0);clear BO hc0 hc1 hW0 hB0 hb0;have HE0 := HEE.out.below HW.out;have HK0 := HKK.out.below' HW.out;have AW := zaa _ HE0 HK0;go_wp2_with fail;refine AW.mono ?_;rintro e v1 ⟨rfl, hbn⟩;have HW := hz0q (zb HW.out hbn);clear AW hbn;go_wp2;go_returns;exact ⟨rfl, HW.out⟩
 have HW := hz0q (zb hB0 hb0);have ST : Hid (LawSt v0 bp x B) := ⟨hB, hR, hbd, HEE.out.below HW.out, HKK.out.below' HW.out⟩;replace HZ := hz0q (HZ.out.below HW.out);replace HY := hz0q (HY.out.below HW.out);clear BO hc0 hc1 hW0 hB hR hbd hb0 hB0 HEE HKK
 by_cases hn : n <= 40
 rotate_left
 ·have hn1 : (40 : Int) < (n : Int) := (by omega);clear hn;have AW := zaa _ ST.out.e ST.out.k;go_wp2_with fail;refine AW.mono ?_;rintro e v1 ⟨rfl, hbn⟩;have HW := hz0q (zb HW.out hbn);clear AW hbn;go_wp2;go_returns;exact ⟨rfl, HW.out⟩
 have hn1 : ¬ (40 : Int) < (n : Int) := by omega
 by_cases hn : m <= 40
 rotate_left
 ·have hn1 : (40 : Int) < (m : Int) := (by omega);clear hn;have AW := zaa _ ST.out.e ST.out.k;go_wp2_with fail;refine AW.mono ?_;rintro e v1 ⟨rfl, hbn⟩;have HW := hz0q (zb HW.out hbn);clear AW hbn;go_wp2;go_returns;exact ⟨rfl, HW.out⟩
 have hn1 : ¬ (40 : Int) < (m : Int) := (by omega);obtain ⟨sa, hsa⟩ : ∃ sa, sa = decide (B.full false zs = B.full false ys) := ⟨_, rfl⟩;have HSa := hz0q hsa;have hea : (sa == sa) = true := (by simp);clear hsa;have C := zc8 ST.out.b ST.out.k ST.out.bd false A n cp zs A2 m c2 ys HZ.out.rd HZ.out.len HZ.out.r (by omega) HY.out.rd HY.out.len HY.out.r (by omega);rw [<- HSa.out] at C;go_wp2_with fail;refine C.mono ?_;rintro e v1 ⟨rfl, hbn⟩;clear C;replace ST := hz0q (ST.out.below hbn);replace HZ := hz0q (HZ.out.below hbn);replace HY := hz0q (HY.out.below hbn);replace HW := hz0q (zb HW.out hbn);clear hbn;have C := zpc ST.out.r ST.out.bd false A n cp zs A2 m c2 ys HZ.out.rd HZ.out.len HZ.out.r (by omega) HY.out.rd HY.out.len HY.out.r (by omega);rw [<- HSa.out] at C;go_wp2_with fail;refine C.mono ?_;rintro e v2 ⟨rfl, hbn⟩;clear C;replace ST := hz0q (ST.out.below hbn);replace HZ := hz0q (HZ.out.below hbn);replace HY := hz0q (HY.out.below hbn);replace HW := hz0q (zb HW.out hbn);clear hbn;obtain ⟨sb, hsb⟩ : ∃ sb, sb = decide (B.full true zs = B.full true ys) := ⟨_, rfl⟩;have HSb := hz0q hsb;have heb : (sb == sb) = true := (by simp);clear hsb;have C := zc8 ST.out.b ST.out.k ST.out.bd true A n cp zs A2 m c2 ys HZ.out.rd HZ.out.len HZ.out.r (by omega) HY.out.rd HY.out.len HY.out.r (by omega);rw [<- HSb.out] at C;go_wp2_with fail;refine C.mono ?_;rintro e v3 ⟨rfl, hbn⟩;clear C;replace ST := hz0q (ST.out.below hbn);replace HZ := hz0q (HZ.out.below hbn);replace HY := hz0q (HY.out.below hbn);replace HW := hz0q (zb HW.out hbn)
 clear hbn;have C := zpc ST.out.r ST.out.bd true A n cp zs A2 m c2 ys HZ.out.rd HZ.out.len HZ.out.r (by omega) HY.out.rd HY.out.len HY.out.r (by omega);rw [<- HSb.out] at C;go_wp2_with fail;refine C.mono ?_;rintro e v4 ⟨rfl, hbn⟩;clear C;replace ST := hz0q (ST.out.below hbn);replace HZ := hz0q (HZ.out.below hbn);replace HY := hz0q (HY.out.below hbn);replace HW := hz0q (zb HW.out hbn);clear hbn;have AW := zaa _ ST.out.e ST.out.k;go_wp2_with fail;refine AW.mono ?_;rintro e v5 ⟨rfl, hbn⟩;have HW := hz0q (zb HW.out hbn);clear AW hbn;go_wp2;go_returns;exact ⟨rfl, HW.out⟩
end
end Go.Proofs.YtkocaoeednmkpaaGreatDoor
