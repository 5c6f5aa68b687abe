/- ComposeBack: the law. -/
import Derived.Test.YtobleaiecnpcoaaGreatDoorH02
import Derived.Test.YtobleaiecnpcoaaGreatDoorH05
import Derived.Test.YtobleaiecnpcoaaGreatDoorH06
import Derived.Test.YtobleaiecnpcoaaGreatDoorH09
import Derived.Test.YtobleaiecnpcoaaGreatDoorH10
import Derived.Test.YtobleaiecnpcoaaGreatDoorH04
import Derived.Test.YtobleaiecnpcoaaGreatDoorH07
import Derived.Test.YtobleaiecnpcoaaGreatDoorH12
import Derived.Test.YtobleaiecnpcoaaGreatDoorH13
import Derived.Test.YtobleaiecnpcoaaGreatDoorH14
import Derived.Test.YtobleaiecnpcoaaGreatDoorH15
import Derived.Test.YtobleaiecnpcoaaGreatDoorH18
import Derived.Test.YtobleaiecnpcoaaGreatDoorH08
import Derived.Test.YtobleaiecnpcoaaGreatDoorH19
import Derived.Test.YtobleaiecnpcoaaGreatDoorH22
import Derived.Test.YtobleaiecnpcoaaGreatDoorH27
import Derived.Test.YtobleaiecnpcoaaGreatDoorH31
import Derived.Test.YtobleaiecnpcoaaGreatDoorH34
import Derived.Test.YtobleaiecnpcoaaGreatDoorH28
import Derived.Test.YtobleaiecnpcoaaGreatDoorH37
import Derived.Test.YtobleaiecnpcoaaGreatDoorH40
import Derived.Test.YtobleaiecnpcoaaGreatDoorH42
import Derived.Test.YtobleaiecnpcoaaGreatDoorH39
set_option linter.unusedSimpArgs false
set_option linter.unusedVariables false
namespace Go.Proofs.YtobleaiecnpcoaaGreatDoor
section
open Go.RowKit Go.Lib
set_option maxRecDepth 20000 in
set_option maxHeartbeats 4000000 in
theorem composeback_yes (s o : ByteArray) (A : Option Addr) (n cp : Nat) (zs : List Int) (w : World) (hE : Env w) (hk : Kinds w) (hz : ArgR w A n cp zs) :
  Calls Tryz.prog 7 #[.agg #[.string s, .string o], .slice A n cp] w fun e w' => e = .returned (.bool true) ∧ Below w.heap.size w w' := by
 obtain ⟨W0, hW0⟩ : ∃ W0, w.alloc (.cells #[.string s, .string o] 23) = W0 := ⟨_, rfl⟩
 have hB0 : Below w.heap.size w W0 := by rw [← hW0]; exact (Below.refl _ w).alloc (Nat.le_refl _) _
 have bx1 : W0.heap[w.heap.size]? = some (.cells #[.string s, .string o] 23 (0, 0)) := by rw [← hW0]; exact box_new w _ _
 have hc0 := box_cell bx1 0 rfl
 have hc1 := box_cell bx1 1 rfl
 have BO := both_any s o W0 (hE.below hB0) (hk.below' hB0)
 have HEE := Lib.hid hE
 have HKK := Lib.hid hk
 have HZ := Lib.hid hz
 clear hE hk bx1 hz
 go_enter Tryz.func7, Tryz.ntmps7
 go_wp2_with fail
 refine BO.mono ?_
 rintro e v0 (⟨rfl, hb0⟩ | ⟨bp, x, B, rfl, hB, hR, hbd, hb0⟩)
 ·have HW := Lib.hid (below_then hB0 hb0)
  clear BO hc0 hc1 hW0 hB0 hb0
  have HE0 := HEE.out.below HW.out
  have HK0 := HKK.out.below' HW.out
  have AW := awakeA_any _ HE0 HK0
  go_wp2_with fail
  refine AW.mono ?_
  rintro e v1 ⟨rfl, hbn⟩
  have HW := Lib.hid (below_then HW.out hbn)
  clear AW hbn
  go_wp2
  go_returns
  exact ⟨rfl, HW.out⟩
 have HW := Lib.hid (below_then hB0 hb0)
 have ST : Hid (LawSt v0 bp x B) := ⟨hB, hR, hbd, HEE.out.below HW.out, HKK.out.below' HW.out⟩
 replace HZ := Lib.hid (HZ.out.below HW.out)
 clear BO hc0 hc1 hW0 hB hR hbd hb0 hB0 HEE HKK
 by_cases hn : n ≤ 60
 rotate_left
 ·have hn1 : (60 : Int) < (n : Int) := by omega
  clear hn
  have AW := awakeA_any _ ST.out.e ST.out.k
  go_wp2_with fail
  refine AW.mono ?_
  rintro e v1 ⟨rfl, hbn⟩
  have HW := Lib.hid (below_then HW.out hbn)
  clear AW hbn
  go_wp2
  go_returns
  exact ⟨rfl, HW.out⟩
 have hn1 : ¬ (60 : Int) < (n : Int) := by omega
 obtain ⟨ds, hds⟩ : ∃ ds, ds = B.full false zs := ⟨_, rfl⟩
 obtain ⟨cs, hcs⟩ : ∃ cs, cs = B.join ds := ⟨_, rfl⟩
 have hld : ds.length ≤ 3240 := by rw [hds]; have h1 := full_len ST.out.bd false zs; rw [HZ.out.len] at h1; omega
 have hlc : cs.length ≤ ds.length := by rw [hcs]; exact join_len ds
 have HDR : Hid (∀ x ∈ ds, R32 x) := fun x hx => full_R ST.out.bd false HZ.out.r x (by rw [← hds]; exact hx)
 have HCR : Hid (∀ x ∈ cs, R32 x) := fun x hx => jn_join_R ST.out.bd HDR.out x (by rw [← hcs]; exact hx)
 have HFC : Hid (B.full false cs = ds) := by show _ = _; rw [hcs, hds]; exact full_form false true zs
 have HDS := Lib.hid hds
 have HCS := Lib.hid hcs
 clear hds hcs
 have C := full_any ST.out.b ST.out.k ST.out.bd (one_R ST.out.bd) false A n cp zs HZ.out.rd HZ.out.len HZ.out.r (by omega)
 rw [← HDS.out] at C
 go_wp2_with fail
 refine C.mono ?_
 intro e v1 hf
 obtain ⟨A1, c1, rfl, z10, hbn⟩ := hf.arg HDR.out
 clear C hf
 replace ST := Lib.hid (ST.out.below hbn)
 replace HZ := Lib.hid (HZ.out.below hbn)
 replace HW := Lib.hid (below_then HW.out hbn)
 clear hbn
 have Z1 := Lib.hid z10
 clear z10
 have C := cjoin_any ST.out.b ST.out.k ST.out.bd A1 ds.length c1 ds Z1.out.rd Z1.out.len Z1.out.r (by omega)
 rw [← HCS.out] at C
 go_wp2_with fail
 refine C.mono ?_
 intro e v2 hf
 obtain ⟨A2, c2, rfl, z20, hbn⟩ := hf.arg HCR.out
 clear C hf
 replace ST := Lib.hid (ST.out.below hbn)
 replace HZ := Lib.hid (HZ.out.below hbn)
 replace Z1 := Lib.hid (Z1.out.below hbn)
 replace HW := Lib.hid (below_then HW.out hbn)
 clear hbn
 have Z2 := Lib.hid z20
 clear z20
 have C := full_any ST.out.b ST.out.k ST.out.bd (one_R ST.out.bd) false A2 cs.length c2 cs Z2.out.rd Z2.out.len Z2.out.r (by omega)
 rw [HFC.out] at C
 go_wp2_with fail
 refine C.mono ?_
 intro e v3 hf
 obtain ⟨A3, c3, rfl, z30, hbn⟩ := hf.arg HDR.out
 clear C hf
 replace ST := Lib.hid (ST.out.below hbn)
 replace HZ := Lib.hid (HZ.out.below hbn)
 replace Z1 := Lib.hid (Z1.out.below hbn)
 replace Z2 := Lib.hid (Z2.out.below hbn)
 replace HW := Lib.hid (below_then HW.out hbn)
 clear hbn
 have Z3 := Lib.hid z30
 clear z30
 have C := runes_same (ca := c1) (cb := c3) Z1.out.rd Z3.out.rd rfl (by omega) (by omega)
 go_wp2_with fail
 refine C.mono ?_
 rintro e v4 ⟨rfl, hbn⟩
 clear C
 replace ST := Lib.hid (ST.out.below hbn)
 replace HZ := Lib.hid (HZ.out.below hbn)
 replace Z1 := Lib.hid (Z1.out.below hbn)
 replace Z2 := Lib.hid (Z2.out.below hbn)
 replace Z3 := Lib.hid (Z3.out.below hbn)
 replace HW := Lib.hid (below_then HW.out hbn)
 clear hbn
 have C := cjoin_any ST.out.b ST.out.k ST.out.bd A3 ds.length c3 ds Z3.out.rd Z3.out.len Z3.out.r (by omega)
 rw [← HCS.out] at C
 go_wp2_with fail
 refine C.mono ?_
 intro e v5 hf
 obtain ⟨A4, c4, rfl, z40, hbn⟩ := hf.arg HCR.out
 clear C hf
 replace ST := Lib.hid (ST.out.below hbn)
 replace HZ := Lib.hid (HZ.out.below hbn)
 replace Z1 := Lib.hid (Z1.out.below hbn)
 replace Z2 := Lib.hid (Z2.out.below hbn)
 replace Z3 := Lib.hid (Z3.out.below hbn)
 replace HW := Lib.hid (below_then HW.out hbn)
 clear hbn
 have Z4 := Lib.hid z40
 clear z40
 have C := runes_same (ca := c4) (cb := c2) Z4.out.rd Z2.out.rd rfl (by omega) (by omega)
 go_wp2_with fail
 refine C.mono ?_
 rintro e v6 ⟨rfl, hbn⟩
 clear C
 replace ST := Lib.hid (ST.out.below hbn)
 replace HZ := Lib.hid (HZ.out.below hbn)
 replace Z1 := Lib.hid (Z1.out.below hbn)
 replace Z2 := Lib.hid (Z2.out.below hbn)
 replace Z3 := Lib.hid (Z3.out.below hbn)
 replace Z4 := Lib.hid (Z4.out.below hbn)
 replace HW := Lib.hid (below_then HW.out hbn)
 clear hbn
 have hlc2 : (cs.length : Int) ≤ (ds.length : Int) := by omega
 have AW := awakeA_any _ ST.out.e ST.out.k
 go_wp2_with fail
 refine AW.mono ?_
 rintro e v7 ⟨rfl, hbn⟩
 have HW := Lib.hid (below_then HW.out hbn)
 clear AW hbn
 go_wp2
 go_returns
 exact ⟨rfl, HW.out⟩
end
end Go.Proofs.YtobleaiecnpcoaaGreatDoor
