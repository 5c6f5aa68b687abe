/- NormNil, NormJoins: the laws. -/
import Derived.Test.YtkocaoeednmkpaaGreatDoorH46
set_option linter.unusedSimpArgs false
set_option linter.unusedVariables false
set_option maxRecDepth 20000
set_option maxHeartbeats 4000000
namespace Go.Proofs.YtkocaoeednmkpaaGreatDoor
section
open Go.RowKit Go.Lib
theorem normnil_yes (A : Option Addr) (n cp : Nat) (zs : List Int) (w : World) (hE : Env w) (hk : Kinds w) (hz : ArgR w A n cp zs) :
  Calls Tryz.prog 12 #[.slice A n cp] w fun e w' => e = .returned (.bool true) /\ Below w.heap.size w w' := by
 have HZ := hz0q hz;have HEE := hz0q hE;have HKK := hz0q hk;have HW : Hid (Below w.heap.size w w) := Below.refl _ _;clear hz hE hk;go_enter Tryz.func12, Tryz.ntmps12
 by_cases hn : n <= 60
 rotate_left
 ·have hn1 : (60 : Int) < (n : Int) := (by omega);clear hn;have AW := zaa _ HEE.out HKK.out;go_wp2_with fail;refine AW.mono ?_;rintro e v1 ⟨rfl, hbn⟩;have HW := hz0q (zb HW.out hbn);clear AW hbn;go_wp2;go_returns;exact ⟨rfl, HW.out⟩
 have hn1 : ¬ (60 : Int) < (n : Int) := (by omega);obtain ⟨W0, hW0⟩ : ∃ W0, w.alloc (.cells #[.slice none 0 0, .slice none 0 0] 46) = W0 := ⟨_, rfl⟩;have hB0 : Below w.heap.size w W0 := (by rw [<- hW0]; exact (Below.refl _ w).alloc (Nat.le_refl _) _);have ST : Hid (NilSt W0 (.pointer (some ⟨w.heap.size, 0, none⟩))) := ⟨zpf W0 w.heap.size (by rw [<- hW0]; exact zl _ _ _), HEE.out.below hB0, HKK.out.below' hB0⟩;have HBD := hz0q zqh;replace HZ := hz0q (HZ.out.below hB0);replace HW := hz0q hB0;clear hB0 HEE HKK;go_wp2;try rw [hW0]
 clear hW0;have HB0 : Hid (Below W0.heap.size W0 W0) := Below.refl _ _
 go_loopw [4] (fun i wr => ∃ k : Nat, 1 <= k /\ k <= 5 /\ i = .int .i64 k /\ Hid (Below W0.heap.size W0 wr)) (fun i _ => 5 - (intOf i).toNat)
 case atStart => exact ⟨1, by omega, by omega, rfl, HB0⟩
 case round =>
  obtain ⟨k, hk1, hk5, rfl, HBW⟩ := hrel
  by_cases hlt : k <= 4
  ·have hki : (k : Int) <= 4 := (by omega);have HMT := hz0q (zqj hk1 hlt);have hwk : IntKind.i64.wrap ((k : Int) + 1) = (k : Int) + 1 := IntWalk.i64_in _ (by omega);replace ST := hz0q (ST.out.below HBW.out);replace HZ := hz0q (HZ.out.below HBW.out);obtain ⟨fs, hfs⟩ : ∃ fs, fs = nilB.form (cB (k : Int)) (jB (k : Int)) zs := ⟨_, rfl⟩;have hlfs : fs.length <= 3240 := zbp HBD.out _ _ (by rw [HZ.out.len]; omega) hfs;have HRFS : Hid (∀ y ∈ fs, R32 y) := zcd HBD.out _ _ HZ.out.r hfs;have HFS := hz0q hfs;clear hfs;have C := zao ST.out.b ST.out.k HBD.out (k : Int) A n cp zs HZ.out.rd HZ.out.len HZ.out.r (by omega);rw [formE_yes HMT.out, <- HFS.out] at C;go_wp2_with fail;refine C.mono ?_;intro e v1 hf;obtain ⟨A3, c3, rfl, z30, hbn⟩ := hf.arg HRFS.out;clear C hf;replace ST := hz0q (ST.out.below hbn);replace HZ := hz0q (HZ.out.below hbn);replace HBW := hz0q (zb HBW.out hbn);clear hbn;have Z3 := hz0q z30;clear z30;have C := zd7 (cp := cp) ST.out.r HBD.out (k : Int) hki A n zs HZ.out.rd HZ.out.len HZ.out.r (by omega);rw [<- HFS.out] at C;go_wp2_with fail;refine C.mono ?_;intro e v2 hf;obtain ⟨A4, c4, rfl, z40, hbn⟩ := hf.arg HRFS.out;clear C hf;replace ST := hz0q (ST.out.below hbn);replace HZ := hz0q (HZ.out.below hbn);replace Z3 := hz0q (Z3.out.below hbn);replace HBW := hz0q (zb HBW.out hbn);clear hbn;have Z4 := hz0q z40;clear z40;have C := zbg (ca := c3) (cb := c4) Z3.out.rd Z4.out.rd rfl (by omega) (by omega);go_wp2_with fail;refine C.mono ?_;rintro e v3 ⟨rfl, hbn⟩;clear C;replace ST := hz0q (ST.out.below hbn)
   replace HZ := hz0q (HZ.out.below hbn);replace Z3 := hz0q (Z3.out.below hbn);replace Z4 := hz0q (Z4.out.below hbn);replace HBW := hz0q (zb HBW.out hbn);clear hbn;go_wp2;go_roundw
   case rel => exact ⟨k + 1, by omega, by omega, by go_num, HBW⟩
   case measure => simp [intOf]; omega
  ·obtain rfl : k = 5 := (by omega);have hki : ¬ ((5 : Nat) : Int) <= 4 := (by omega);replace ST := hz0q (ST.out.below HBW.out);replace HZ := hz0q (HZ.out.below HBW.out);replace HW := hz0q (zb HW.out HBW.out);clear HBW HB0;have C := nfeed_nil A n cp wr;go_wp2_with fail;refine C.mono ?_;rintro e v_ ⟨rfl, rfl⟩;clear C;have C := nclose_nil wr;go_wp2_with fail;refine C.mono ?_;rintro e v_ ⟨rfl, rfl⟩;clear C;have C := nwaits_nil wr;go_wp2_with fail;refine C.mono ?_;rintro e v_ ⟨rfl, rfl⟩;clear C;have AW := zaa _ ST.out.e ST.out.k;go_wp2_with fail;refine AW.mono ?_;rintro e v4 ⟨rfl, hbn⟩;have HW := hz0q (zb HW.out hbn);clear AW hbn;go_wp2;go_returns;exact ⟨rfl, HW.out⟩
end
end Go.Proofs.YtkocaoeednmkpaaGreatDoor
