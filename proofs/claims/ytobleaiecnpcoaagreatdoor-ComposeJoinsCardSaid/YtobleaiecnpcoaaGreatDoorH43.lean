/- ComposeJoins: the law. -/
import Derived.Test.YtobleaiecnpcoaaGreatDoorH02
import Derived.Test.YtobleaiecnpcoaaGreatDoorH06
import Derived.Test.YtobleaiecnpcoaaGreatDoorH09
import Derived.Test.YtobleaiecnpcoaaGreatDoorH10
import Derived.Test.YtobleaiecnpcoaaGreatDoorH04
import Derived.Test.YtobleaiecnpcoaaGreatDoorH07
import Derived.Test.YtobleaiecnpcoaaGreatDoorH12
import Derived.Test.YtobleaiecnpcoaaGreatDoorH13
import Derived.Test.YtobleaiecnpcoaaGreatDoorH14
import Derived.Test.YtobleaiecnpcoaaGreatDoorH15
import Derived.Test.YtobleaiecnpcoaaGreatDoorH18
import Derived.Test.YtobleaiecnpcoaaGreatDoorH08
import Derived.Test.YtobleaiecnpcoaaGreatDoorH19
import Derived.Test.YtobleaiecnpcoaaGreatDoorH22
import Derived.Test.YtobleaiecnpcoaaGreatDoorH27
import Derived.Test.YtobleaiecnpcoaaGreatDoorH31
import Derived.Test.YtobleaiecnpcoaaGreatDoorH34
import Derived.Test.YtobleaiecnpcoaaGreatDoorH28
import Derived.Test.YtobleaiecnpcoaaGreatDoorH37
import Derived.Test.YtobleaiecnpcoaaGreatDoorH40
import Derived.Test.YtobleaiecnpcoaaGreatDoorH39
set_option linter.unusedSimpArgs false
set_option linter.unusedVariables false
namespace Go.Proofs.YtobleaiecnpcoaaGreatDoor
section
open Go.RowKit Go.Lib
set_option maxRecDepth 20000 in
set_option maxHeartbeats 4000000 in
theorem composejoins_yes (s o : ByteArray) (A : Option Addr) (n cp : Nat) (zs : List Int) (w : World) (hE : Env w) (hk : Kinds w) (hz : ArgR w A n cp zs) :
  Calls Tryz.prog 3 #[.agg #[.string s, .string o], .slice A n cp] w fun e w' => e = .returned (.bool true) ∧ Below w.heap.size w w' := by
 obtain ⟨W0, hW0⟩ : ∃ W0, w.alloc (.cells #[.string s, .string o] 23) = W0 := ⟨_, rfl⟩
 have hB0 : Below w.heap.size w W0 := by rw [← hW0]; exact (Below.refl _ w).alloc (Nat.le_refl _) _
 have bx1 : W0.heap[w.heap.size]? = some (.cells #[.string s, .string o] 23 (0, 0)) := by rw [← hW0]; exact box_new w _ _
 have hc0 := box_cell bx1 0 rfl
 have hc1 := box_cell bx1 1 rfl
 have BO := both_any s o W0 (hE.below hB0) (hk.below' hB0)
 have HEE := Lib.hid hE
 have HKK := Lib.hid hk
 have HZ := Lib.hid hz
 clear hE hk bx1 hz
 go_enter Tryz.func3, Tryz.ntmps3
 go_wp2_with fail
 refine BO.mono ?_
 rintro e v0 (⟨rfl, hb0⟩ | ⟨bp, x, B, rfl, hB, hR, hbd, hb0⟩)
 ·have HW := Lib.hid (below_then hB0 hb0)
  clear BO hc0 hc1 hW0 hB0 hb0
  have HE0 := HEE.out.below HW.out
  have HK0 := HKK.out.below' HW.out
  have AW := awakeA_any _ HE0 HK0
  go_wp2_with fail
  refine AW.mono ?_
  rintro e v1 ⟨rfl, hbn⟩
  have HW := Lib.hid (below_then HW.out hbn)
  clear AW hbn
  go_wp2
  go_returns
  exact ⟨rfl, HW.out⟩
 have HW := Lib.hid (below_then hB0 hb0)
 have ST : Hid (LawSt v0 bp x B) := ⟨hB, hR, hbd, HEE.out.below HW.out, HKK.out.below' HW.out⟩
 replace HZ := Lib.hid (HZ.out.below HW.out)
 clear BO hc0 hc1 hW0 hB hR hbd hb0 hB0 HEE HKK
 by_cases hn : n ≤ 60
 rotate_left
 ·have hn1 : (60 : Int) < (n : Int) := by omega
  clear hn
  have AW := awakeA_any _ ST.out.e ST.out.k
  go_wp2_with fail
  refine AW.mono ?_
  rintro e v1 ⟨rfl, hbn⟩
  have HW := Lib.hid (below_then HW.out hbn)
  clear AW hbn
  go_wp2
  go_returns
  exact ⟨rfl, HW.out⟩
 have hn1 : ¬ (60 : Int) < (n : Int) := by omega
 obtain ⟨ys, hys⟩ : ∃ ys, ys = B.join zs := ⟨_, rfl⟩
 have hly : ys.length ≤ 60 := by rw [hys]; have h1 := join_len (B := B) zs; rw [HZ.out.len] at h1; omega
 have HYS := Lib.hid hys
 clear hys
 have C := rcjoin_any ST.out.r ST.out.bd A n cp zs HZ.out.rd HZ.out.len HZ.out.r (by omega)
 rw [← HYS.out] at C
 go_wp2_with fail
 refine C.mono ?_
 intro e v1 hf
 obtain ⟨A1, c1, rfl, rd10, hbn⟩ := hf.rd
 clear C hf
 replace ST := Lib.hid (ST.out.below hbn)
 replace HZ := Lib.hid (HZ.out.below hbn)
 replace HW := Lib.hid (below_then HW.out hbn)
 clear hbn
 have RD1 := Lib.hid rd10
 clear rd10
 have C := cjoin_any ST.out.b ST.out.k ST.out.bd A n cp zs HZ.out.rd HZ.out.len HZ.out.r (by omega)
 rw [← HYS.out] at C
 go_wp2_with fail
 refine C.mono ?_
 intro e v2 hf
 obtain ⟨A2, c2, rfl, rd20, hbn⟩ := hf.rd
 clear C hf
 replace ST := Lib.hid (ST.out.below hbn)
 replace HZ := Lib.hid (HZ.out.below hbn)
 replace RD1 := Lib.hid (RD1.out.below hbn)
 replace HW := Lib.hid (below_then HW.out hbn)
 clear hbn
 have RD2 := Lib.hid rd20
 clear rd20
 have C := runes_same (ca := c2) (cb := c1) RD2.out RD1.out rfl (by omega) (by omega)
 go_wp2_with fail
 refine C.mono ?_
 rintro e v3 ⟨rfl, hbn⟩
 clear C
 replace ST := Lib.hid (ST.out.below hbn)
 replace HZ := Lib.hid (HZ.out.below hbn)
 replace RD1 := Lib.hid (RD1.out.below hbn)
 replace RD2 := Lib.hid (RD2.out.below hbn)
 replace HW := Lib.hid (below_then HW.out hbn)
 clear hbn
 obtain ⟨sb, hsb⟩ : ∃ sb, sb = decide (ys = zs) := ⟨_, rfl⟩
 have HSB := Lib.hid hsb
 clear hsb
 have C := joins_any ST.out.b ST.out.k ST.out.bd A n cp zs HZ.out.rd HZ.out.len HZ.out.r (by omega)
 rw [← HYS.out, ← HSB.out] at C
 go_wp2_with fail
 refine C.mono ?_
 rintro e v4 ⟨rfl, hbn⟩
 clear C
 replace ST := Lib.hid (ST.out.below hbn)
 replace HZ := Lib.hid (HZ.out.below hbn)
 replace RD1 := Lib.hid (RD1.out.below hbn)
 replace RD2 := Lib.hid (RD2.out.below hbn)
 replace HW := Lib.hid (below_then HW.out hbn)
 clear hbn
 have C := runes_b A1 A ys.length n c1 cp ys zs _ RD1.out HZ.out.rd (by omega) (by omega)
 rw [← HSB.out] at C
 go_wp2_with fail
 refine C.mono ?_
 rintro e v5 ⟨rfl, hbn⟩
 clear C
 replace ST := Lib.hid (ST.out.below hbn)
 replace HZ := Lib.hid (HZ.out.below hbn)
 replace RD1 := Lib.hid (RD1.out.below hbn)
 replace RD2 := Lib.hid (RD2.out.below hbn)
 replace HW := Lib.hid (below_then HW.out hbn)
 clear hbn
 have hsn : ((!sb) != sb) = true := by cases sb <;> rfl
 have AW := awakeA_any _ ST.out.e ST.out.k
 go_wp2_with fail
 refine AW.mono ?_
 rintro e v6 ⟨rfl, hbn⟩
 have HW := Lib.hid (below_then HW.out hbn)
 clear AW hbn
 go_wp2
 go_returns
 exact ⟨rfl, HW.out⟩
end
end Go.Proofs.YtobleaiecnpcoaaGreatDoor
