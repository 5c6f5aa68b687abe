/- DecompOne, DecompFull: the laws. -/
import Derived.Test.YtajkjaciooijjaaGreatDoorH02
import Derived.Test.YtajkjaciooijjaaGreatDoorH05
import Derived.Test.YtajkjaciooijjaaGreatDoorH06
import Derived.Test.YtajkjaciooijjaaGreatDoorH09
import Derived.Test.YtajkjaciooijjaaGreatDoorH10
import Derived.Test.YtajkjaciooijjaaGreatDoorH04
import Derived.Test.YtajkjaciooijjaaGreatDoorH07
import Derived.Test.YtajkjaciooijjaaGreatDoorH12
import Derived.Test.YtajkjaciooijjaaGreatDoorH13
import Derived.Test.YtajkjaciooijjaaGreatDoorH14
import Derived.Test.YtajkjaciooijjaaGreatDoorH15
import Derived.Test.YtajkjaciooijjaaGreatDoorH18
import Derived.Test.YtajkjaciooijjaaGreatDoorH08
import Derived.Test.YtajkjaciooijjaaGreatDoorH19
import Derived.Test.YtajkjaciooijjaaGreatDoorH22
import Derived.Test.YtajkjaciooijjaaGreatDoorH27
import Derived.Test.YtajkjaciooijjaaGreatDoorH32
import Derived.Test.YtajkjaciooijjaaGreatDoorH35
import Derived.Test.YtajkjaciooijjaaGreatDoorH28
import Derived.Test.YtajkjaciooijjaaGreatDoorH38
import Derived.Test.YtajkjaciooijjaaGreatDoorH43
import Derived.Test.YtajkjaciooijjaaGreatDoorH39
import Derived.Test.YtajkjaciooijjaaGreatDoorH42
import Derived.Test.YtajkjaciooijjaaGreatDoorH41
import Derived.Test.YtajkjaciooijjaaGreatDoorH40
section
set_option linter.unusedSimpArgs false
set_option linter.unusedVariables false
namespace Go.Proofs.YtajkjaciooijjaaGreatDoor
open Go.RowKit Go.Lib
set_option maxRecDepth 20000 in
set_option maxHeartbeats 4000000 in
theorem decompone_yes (s o : ByteArray) (y : Int) (c : Bool) (w : World) (hE : Env w) (hk : Kinds w) (hy1 : -2147483648 ≤ y) (hy2 : y < 2147483648) :
  Calls Tryz.prog 3 #[.agg #[.string s, .string o], .int .i32 y, .bool c] w fun e w' => e = .returned (.bool true) ∧ Below w.heap.size w w' := by
 have HY : Hid (R32 y) := ⟨hy1, hy2⟩
 clear hy1 hy2
 obtain ⟨W0, hW0⟩ : ∃ W0, w.alloc (.cells #[.string s, .string o] 23) = W0 := ⟨_, rfl⟩
 have hB0 : Below w.heap.size w W0 := by rw [← hW0]; exact (Below.refl _ w).alloc (Nat.le_refl _) _
 have bx1 : W0.heap[w.heap.size]? = some (.cells #[.string s, .string o] 23 (0, 0)) := by rw [← hW0]; exact box_new w _ _
 have hc0 := box_cell bx1 0 rfl
 have hc1 := box_cell bx1 1 rfl
 have BO := both_any s o W0 (hE.below hB0) (hk.below' hB0)
 have HEE := Lib.hid hE
 have HKK := Lib.hid hk
 clear hE hk bx1
 go_enter Tryz.func3, Tryz.ntmps3
 go_wp2_with fail
 refine BO.mono ?_
 rintro e v0 (⟨rfl, hb0⟩ | ⟨bp, x, B, rfl, hB, hR, hbd, hb0⟩)
 ·have HW := Lib.hid (below_then hB0 hb0)
  clear BO hc0 hc1 hW0 hB0 hb0
  have HE0 := HEE.out.below HW.out
  have HK0 := HKK.out.below' HW.out
  have AW := awake9_any _ HE0 HK0
  go_wp2_with fail
  refine AW.mono ?_
  rintro e v1 ⟨rfl, hbn⟩
  have HW := Lib.hid (below_then HW.out hbn)
  clear AW hbn
  go_wp2
  go_returns
  exact ⟨rfl, HW.out⟩
 have HW := Lib.hid (below_then hB0 hb0)
 have ST : Hid (LawSt v0 bp x B) := ⟨hB, hR, hbd, HEE.out.below HW.out, HKK.out.below' HW.out⟩
 clear BO hc0 hc1 hW0 hB hR hbd hb0 hB0 HEE HKK
 obtain ⟨ys, hys⟩ : ∃ ys, ys = B.one c y := ⟨_, rfl⟩
 have hly : ys.length ≤ 54 := by rw [hys]; exact ST.out.bd.len c y
 have HYS := Lib.hid hys
 clear hys
 have C := one_any ST.out.b ST.out.k ST.out.bd c y HY.out
 rw [← HYS.out] at C
 go_wp2_with fail
 refine C.mono ?_
 intro e v1 hf
 obtain ⟨A1, c1, rfl, rd10, hbn⟩ := hf.rd
 clear C hf
 replace ST := Lib.hid (ST.out.below hbn)
 replace HW := Lib.hid (below_then HW.out hbn)
 clear hbn
 have RD1 := Lib.hid rd10
 clear rd10
 have C := rone_any (c := c) ST.out.r ST.out.bd y HY.out _ (Below.refl _ _)
 rw [← HYS.out] at C
 go_wp2_with fail
 refine C.mono ?_
 intro e v2 hf
 obtain ⟨A2, c2, rfl, rd20, hbn⟩ := hf.rd
 clear C hf
 replace ST := Lib.hid (ST.out.below hbn)
 replace RD1 := Lib.hid (RD1.out.below hbn)
 replace HW := Lib.hid (below_then HW.out hbn)
 clear hbn
 have RD2 := Lib.hid rd20
 clear rd20
 have C := runes_same (ca := c1) (cb := c2) RD1.out RD2.out rfl (by omega) (by omega)
 go_wp2_with fail
 refine C.mono ?_
 rintro e v3 ⟨rfl, hbn⟩
 clear C
 replace ST := Lib.hid (ST.out.below hbn)
 replace RD1 := Lib.hid (RD1.out.below hbn)
 replace RD2 := Lib.hid (RD2.out.below hbn)
 replace HW := Lib.hid (below_then HW.out hbn)
 clear hbn
 have AW := awake9_any _ ST.out.e ST.out.k
 go_wp2_with fail
 refine AW.mono ?_
 rintro e v4 ⟨rfl, hbn⟩
 have HW := Lib.hid (below_then HW.out hbn)
 clear AW hbn
 go_wp2
 go_returns
 exact ⟨rfl, HW.out⟩
set_option maxRecDepth 20000 in
set_option maxHeartbeats 4000000 in
theorem decompfull_yes (s o : ByteArray) (A : Option Addr) (n cp : Nat) (zs : List Int) (c : Bool) (w : World) (hE : Env w) (hk : Kinds w) (hz : ArgR w A n cp zs) :
  Calls Tryz.prog 5 #[.agg #[.string s, .string o], .slice A n cp, .bool c] w fun e w' => e = .returned (.bool true) ∧ Below w.heap.size w w' := by
 obtain ⟨W0, hW0⟩ : ∃ W0, w.alloc (.cells #[.string s, .string o] 23) = W0 := ⟨_, rfl⟩
 have hB0 : Below w.heap.size w W0 := by rw [← hW0]; exact (Below.refl _ w).alloc (Nat.le_refl _) _
 have bx1 : W0.heap[w.heap.size]? = some (.cells #[.string s, .string o] 23 (0, 0)) := by rw [← hW0]; exact box_new w _ _
 have hc0 := box_cell bx1 0 rfl
 have hc1 := box_cell bx1 1 rfl
 have BO := both_any s o W0 (hE.below hB0) (hk.below' hB0)
 have HEE := Lib.hid hE
 have HKK := Lib.hid hk
 have HZ := Lib.hid hz
 clear hE hk bx1 hz
 go_enter Tryz.func5, Tryz.ntmps5
 go_wp2_with fail
 refine BO.mono ?_
 rintro e v0 (⟨rfl, hb0⟩ | ⟨bp, x, B, rfl, hB, hR, hbd, hb0⟩)
 ·have HW := Lib.hid (below_then hB0 hb0)
  clear BO hc0 hc1 hW0 hB0 hb0
  have HE0 := HEE.out.below HW.out
  have HK0 := HKK.out.below' HW.out
  have AW := awake9_any _ HE0 HK0
  go_wp2_with fail
  refine AW.mono ?_
  rintro e v1 ⟨rfl, hbn⟩
  have HW := Lib.hid (below_then HW.out hbn)
  clear AW hbn
  go_wp2
  go_returns
  exact ⟨rfl, HW.out⟩
 have HW := Lib.hid (below_then hB0 hb0)
 have ST : Hid (LawSt v0 bp x B) := ⟨hB, hR, hbd, HEE.out.below HW.out, HKK.out.below' HW.out⟩
 replace HZ := Lib.hid (HZ.out.below HW.out)
 clear BO hc0 hc1 hW0 hB hR hbd hb0 hB0 HEE HKK
 by_cases hn : n ≤ 60
 rotate_left
 ·have hn1 : (60 : Int) < (n : Int) := by omega
  clear hn
  have AW := awake9_any _ ST.out.e ST.out.k
  go_wp2_with fail
  refine AW.mono ?_
  rintro e v1 ⟨rfl, hbn⟩
  have HW := Lib.hid (below_then HW.out hbn)
  clear AW hbn
  go_wp2
  go_returns
  exact ⟨rfl, HW.out⟩
 have hn1 : ¬ (60 : Int) < (n : Int) := by omega
 obtain ⟨ys, hys⟩ : ∃ ys, ys = B.full c zs := ⟨_, rfl⟩
 have hly : ys.length ≤ 3240 := by rw [hys]; have h1 := full_len ST.out.bd c zs; rw [HZ.out.len] at h1; omega
 have HYS := Lib.hid hys
 obtain ⟨os, hos⟩ : ∃ os, os = B.ord zs := ⟨_, rfl⟩
 have hlo : os.length ≤ 60 := by rw [hos, ord_len, HZ.out.len]; exact hn
 have HOS := Lib.hid hos
 clear hys hos
 have C := full_any ST.out.b ST.out.k ST.out.bd (one_R ST.out.bd) c A n cp zs HZ.out.rd HZ.out.len HZ.out.r (by omega)
 rw [← HYS.out] at C
 go_wp2_with fail
 refine C.mono ?_
 intro e v1 hf
 obtain ⟨A1, c1, rfl, rd10, hbn⟩ := hf.rd
 clear C hf
 replace ST := Lib.hid (ST.out.below hbn)
 replace HZ := Lib.hid (HZ.out.below hbn)
 replace HW := Lib.hid (below_then HW.out hbn)
 clear hbn
 have RD1 := Lib.hid rd10
 clear rd10
 have C := rfull_any9 ST.out.r ST.out.bd c A n cp zs HZ.out.rd HZ.out.len HZ.out.r (by omega)
 rw [← HYS.out] at C
 go_wp2_with fail
 refine C.mono ?_
 intro e v2 hf
 obtain ⟨A2, c2, rfl, rd20, hbn⟩ := hf.rd
 clear C hf
 replace ST := Lib.hid (ST.out.below hbn)
 replace HZ := Lib.hid (HZ.out.below hbn)
 replace RD1 := Lib.hid (RD1.out.below hbn)
 replace HW := Lib.hid (below_then HW.out hbn)
 clear hbn
 have RD2 := Lib.hid rd20
 clear rd20
 have C := runes_same (ca := c1) (cb := c2) RD1.out RD2.out rfl (by omega) (by omega)
 go_wp2_with fail
 refine C.mono ?_
 rintro e v3 ⟨rfl, hbn⟩
 clear C
 replace ST := Lib.hid (ST.out.below hbn)
 replace HZ := Lib.hid (HZ.out.below hbn)
 replace RD1 := Lib.hid (RD1.out.below hbn)
 replace RD2 := Lib.hid (RD2.out.below hbn)
 replace HW := Lib.hid (below_then HW.out hbn)
 clear hbn
 have C := Order_any ST.out.b A n cp zs HZ.out.rd HZ.out.nil HZ.out.len HZ.out.r (by omega)
 rw [← HOS.out] at C
 go_wp2_with fail
 refine C.mono ?_
 intro e v4 hf
 obtain ⟨A3, c3, rfl, rd30, hbn⟩ := hf.rd
 clear C hf
 replace ST := Lib.hid (ST.out.below hbn)
 replace HZ := Lib.hid (HZ.out.below hbn)
 replace RD1 := Lib.hid (RD1.out.below hbn)
 replace RD2 := Lib.hid (RD2.out.below hbn)
 replace HW := Lib.hid (below_then HW.out hbn)
 clear hbn
 have RD3 := Lib.hid rd30
 clear rd30
 have C := rorder_any ST.out.r A n cp zs HZ.out.rd HZ.out.len (by omega)
 rw [← HOS.out] at C
 go_wp2_with fail
 refine C.mono ?_
 intro e v5 hf
 obtain ⟨A4, c4, rfl, rd40, hbn⟩ := hf.rd
 clear C hf
 replace ST := Lib.hid (ST.out.below hbn)
 replace HZ := Lib.hid (HZ.out.below hbn)
 replace RD1 := Lib.hid (RD1.out.below hbn)
 replace RD2 := Lib.hid (RD2.out.below hbn)
 replace RD3 := Lib.hid (RD3.out.below hbn)
 replace HW := Lib.hid (below_then HW.out hbn)
 clear hbn
 have RD4 := Lib.hid rd40
 clear rd40
 have C := runes_same (ca := c3) (cb := c4) RD3.out RD4.out rfl (by omega) (by omega)
 go_wp2_with fail
 refine C.mono ?_
 rintro e v6 ⟨rfl, hbn⟩
 clear C
 replace ST := Lib.hid (ST.out.below hbn)
 replace HZ := Lib.hid (HZ.out.below hbn)
 replace RD1 := Lib.hid (RD1.out.below hbn)
 replace RD2 := Lib.hid (RD2.out.below hbn)
 replace RD3 := Lib.hid (RD3.out.below hbn)
 replace RD4 := Lib.hid (RD4.out.below hbn)
 replace HW := Lib.hid (below_then HW.out hbn)
 clear hbn
 have AW := awake9_any _ ST.out.e ST.out.k
 go_wp2_with fail
 refine AW.mono ?_
 rintro e v7 ⟨rfl, hbn⟩
 have HW := Lib.hid (below_then HW.out hbn)
 clear AW hbn
 go_wp2
 go_returns
 exact ⟨rfl, HW.out⟩
end Go.Proofs.YtajkjaciooijjaaGreatDoor
end
