/- QuickNil, QuickParts: the laws. -/
import Derived.Test.YtkocaoeednmkpaaGreatDoorH42
import Derived.Test.YtkocaoeednmkpaaGreatDoorH48
set_option linter.unusedSimpArgs false
set_option linter.unusedVariables false
set_option maxRecDepth 20000
set_option maxHeartbeats 4000000
namespace Go.Proofs.YtkocaoeednmkpaaGreatDoor
section
open Go.RowKit Go.Lib
theorem quicknil_yes (f : Int) (A : Option Addr) (n cp : Nat) (zs : List Int) (w : World) (hE : Env w) (hk : Kinds w) (hz : ArgR w A n cp zs) :
  Calls Tryz.prog 7 #[.int .i64 f, .slice A n cp] w fun e w' => e = .returned (.bool true) /\ Below w.heap.size w w' := by
 have HZ := hz0q hz;have HEE := hz0q hE;have HKK := hz0q hk;have HW : Hid (Below w.heap.size w w) := Below.refl _ _;clear hz hE hk;go_enter Tryz.func7, Tryz.ntmps7
 by_cases hn : n <= 60
 rotate_left
 ·have hn1 : (60 : Int) < (n : Int) := (by omega);clear hn;have AW := zf _ HEE.out HKK.out;go_wp2_with fail;refine AW.mono ?_;rintro e v1 ⟨rfl, hbn⟩;have HW := hz0q (zb HW.out hbn);clear AW hbn;go_wp2;go_returns;exact ⟨rfl, HW.out⟩
 have hn1 : ¬ (60 : Int) < (n : Int) := by omega
 by_cases hf1 : f < 1
 ·clear hn;have AW := zf _ HEE.out HKK.out;go_wp2_with fail;refine AW.mono ?_;rintro e v1 ⟨rfl, hbn⟩;have HW := hz0q (zb HW.out hbn);clear AW hbn;go_wp2;go_returns;exact ⟨rfl, HW.out⟩
 by_cases hf4 : 4 < f
 ·clear hn;have AW := zf _ HEE.out HKK.out;go_wp2_with fail;refine AW.mono ?_;rintro e v1 ⟨rfl, hbn⟩;have HW := hz0q (zb HW.out hbn);clear AW hbn;go_wp2;go_returns;exact ⟨rfl, HW.out⟩
 have HMT := hz0q ((zbz f).2 ⟨by omega, by omega⟩);have hf14 : 1 <= f /\ f <= 4 := ⟨by omega, by omega⟩;obtain ⟨W0, hW0⟩ : ∃ W0, w.alloc (.cells #[.slice none 0 0, .slice none 0 0] 46) = W0 := ⟨_, rfl⟩;have hB0 : Below w.heap.size w W0 := (by rw [<- hW0]; exact (Below.refl _ w).alloc (Nat.le_refl _) _);have ST : Hid (NilSt W0 (.pointer (some ⟨w.heap.size, 0, none⟩))) := ⟨zpf W0 w.heap.size (by rw [<- hW0]; exact zl _ _ _), HEE.out.below hB0, HKK.out.below' hB0⟩;have HBD := hz0q zqh;replace HZ := hz0q (HZ.out.below hB0);replace HW := hz0q hB0;obtain ⟨kd, hkd⟩ : ∃ kd, kd = nilB.check (cB f) (jB f) zs := ⟨_, rfl⟩;have HKD := hz0q hkd;have hkk : (kd == kd) = true := (by simp);clear hB0 HEE HKK hkd;have C := zbl ST.out.b ST.out.k HBD.out f A n cp zs HZ.out.rd HZ.out.len HZ.out.r (by omega);rw [if_pos HMT.out, if_pos HMT.out, <- HKD.out] at C;go_wp2_with fail;try rw [hW0]
 clear hW0;refine C.mono ?_;rintro e v1 ⟨rfl, hbn⟩;clear C;replace ST := hz0q (ST.out.below hbn);replace HZ := hz0q (HZ.out.below hbn);replace HW := hz0q (zb HW.out hbn);clear hbn;have C := zes ST.out.b ST.out.k HBD.out f A n cp zs HZ.out.rd HZ.out.len HZ.out.r (by omega);rw [if_pos HMT.out] at C;go_wp2_with fail;refine C.mono ?_;rintro e v2 ⟨⟨m, hm, rfl⟩, hbn⟩;clear C;replace ST := hz0q (ST.out.below hbn);replace HZ := hz0q (HZ.out.below hbn);replace HW := hz0q (zb HW.out hbn);clear hbn;have HCM : Hid (CutAt nilB (cB f) (jB f) zs m) := (by show CutAt _ _ _ _ _; simpa [HMT.out] using hm);clear hm;have C := zji ST.out.r HBD.out f hf14.2 A n cp zs HZ.out.rd HZ.out.len HZ.out.r (by omega);rw [<- HKD.out] at C;go_wp2_with fail;refine C.mono ?_;rintro e v3 ⟨rfl, hbn⟩;clear C;replace ST := hz0q (ST.out.below hbn);replace HZ := hz0q (HZ.out.below hbn);replace HW := hz0q (zb HW.out hbn);clear hbn;have C := zli ST.out.r HBD.out f hf14.2 A n cp zs HZ.out.rd HZ.out.len HZ.out.r (by omega);go_wp2_with fail;refine C.mono ?_;rintro e v4 ⟨⟨m2, hm2, rfl⟩, hbn⟩;clear C;replace ST := hz0q (ST.out.below hbn);replace HZ := hz0q (HZ.out.below hbn);replace HW := hz0q (zb HW.out hbn);clear hbn;obtain rfl : m2 = m := zkw hm2 HCM.out;have hmm : ((m2 : Int) == (m2 : Int)) = true := (by simp);clear hm2;have AW := zf _ ST.out.e ST.out.k;go_wp2_with fail;refine AW.mono ?_;rintro e v5 ⟨rfl, hbn⟩;have HW := hz0q (zb HW.out hbn);clear AW hbn;go_wp2;go_returns;exact ⟨rfl, HW.out⟩
end
end Go.Proofs.YtkocaoeednmkpaaGreatDoor
