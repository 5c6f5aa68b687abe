/- ComposeBlocks, ComposeNil: the laws. -/
import Derived.Test.YtobleaiecnpcoaaGreatDoorH02
import Derived.Test.YtobleaiecnpcoaaGreatDoorH06
import Derived.Test.YtobleaiecnpcoaaGreatDoorH09
import Derived.Test.YtobleaiecnpcoaaGreatDoorH10
import Derived.Test.YtobleaiecnpcoaaGreatDoorH04
import Derived.Test.YtobleaiecnpcoaaGreatDoorH07
import Derived.Test.YtobleaiecnpcoaaGreatDoorH12
import Derived.Test.YtobleaiecnpcoaaGreatDoorH13
import Derived.Test.YtobleaiecnpcoaaGreatDoorH14
import Derived.Test.YtobleaiecnpcoaaGreatDoorH15
import Derived.Test.YtobleaiecnpcoaaGreatDoorH18
import Derived.Test.YtobleaiecnpcoaaGreatDoorH08
import Derived.Test.YtobleaiecnpcoaaGreatDoorH19
import Derived.Test.YtobleaiecnpcoaaGreatDoorH22
import Derived.Test.YtobleaiecnpcoaaGreatDoorH27
import Derived.Test.YtobleaiecnpcoaaGreatDoorH31
import Derived.Test.YtobleaiecnpcoaaGreatDoorH34
import Derived.Test.YtobleaiecnpcoaaGreatDoorH28
import Derived.Test.YtobleaiecnpcoaaGreatDoorH37
import Derived.Test.YtobleaiecnpcoaaGreatDoorH40
import Derived.Test.YtobleaiecnpcoaaGreatDoorH39
import Derived.Test.YtobleaiecnpcoaaGreatDoorH41
set_option linter.unusedSimpArgs false
set_option linter.unusedVariables false
namespace Go.Proofs.YtobleaiecnpcoaaGreatDoor
section
open Go.RowKit Go.Lib
set_option maxRecDepth 20000 in
set_option maxHeartbeats 4000000 in
theorem composeblocks_yes (s o : ByteArray) (A : Option Addr) (n cp : Nat) (zs : List Int) (y : Int) (w : World) (hE : Env w) (hk : Kinds w) (hz : ArgR w A n cp zs) :
  Calls Tryz.prog 4 #[.agg #[.string s, .string o], .slice A n cp, .int .i64 y] w fun e w' => e = .returned (.bool true) ∧ Below w.heap.size w w' := by
 obtain ⟨W0, hW0⟩ : ∃ W0, w.alloc (.cells #[.string s, .string o] 23) = W0 := ⟨_, rfl⟩
 have hB0 : Below w.heap.size w W0 := by rw [← hW0]; exact (Below.refl _ w).alloc (Nat.le_refl _) _
 have bx1 : W0.heap[w.heap.size]? = some (.cells #[.string s, .string o] 23 (0, 0)) := by rw [← hW0]; exact box_new w _ _
 have hc0 := box_cell bx1 0 rfl
 have hc1 := box_cell bx1 1 rfl
 have BO := both_any s o W0 (hE.below hB0) (hk.below' hB0)
 have HEE := Lib.hid hE
 have HKK := Lib.hid hk
 have HZ := Lib.hid hz
 clear hE hk bx1 hz
 go_enter Tryz.func4, Tryz.ntmps4
 go_wp2_with fail
 refine BO.mono ?_
 rintro e v0 (⟨rfl, hb0⟩ | ⟨bp, x, B, rfl, hB, hR, hbd, hb0⟩)
 ·have HW := Lib.hid (below_then hB0 hb0)
  clear BO hc0 hc1 hW0 hB0 hb0
  have HE0 := HEE.out.below HW.out
  have HK0 := HKK.out.below' HW.out
  have AW := awakeA_any _ HE0 HK0
  go_wp2_with fail
  refine AW.mono ?_
  rintro e v1 ⟨rfl, hbn⟩
  have HW := Lib.hid (below_then HW.out hbn)
  clear AW hbn
  go_wp2
  go_returns
  exact ⟨rfl, HW.out⟩
 have HW := Lib.hid (below_then hB0 hb0)
 have ST : Hid (LawSt v0 bp x B) := ⟨hB, hR, hbd, HEE.out.below HW.out, HKK.out.below' HW.out⟩
 replace HZ := Lib.hid (HZ.out.below HW.out)
 clear BO hc0 hc1 hW0 hB hR hbd hb0 hB0 HEE HKK
 by_cases hn : n ≤ 60
 rotate_left
 ·have hn1 : (60 : Int) < (n : Int) := by omega
  clear hn
  have AW := awakeA_any _ ST.out.e ST.out.k
  go_wp2_with fail
  refine AW.mono ?_
  rintro e v1 ⟨rfl, hbn⟩
  have HW := Lib.hid (below_then HW.out hbn)
  clear AW hbn
  go_wp2
  go_returns
  exact ⟨rfl, HW.out⟩
 have hn1 : ¬ (60 : Int) < (n : Int) := by omega
 go_wp2
 have HB0 : Hid (Below v0.heap.size v0 v0) := Below.refl _ _
 go_loopw [9] (fun i wr => ∃ k : Nat, k ≤ n ∧ i = .int .i64 k ∧ Hid (Below v0.heap.size v0 wr)) (fun i _ => n - (intOf i).toNat)
 case atStart => exact ⟨0, Nat.zero_le _, rfl, HB0⟩
 case round =>
  obtain ⟨k, hk, rfl, HBW⟩ := hrel
  by_cases hlt : k < n
  ·have hki : (k : Int) < (n : Int) := by omega
   have STW := Lib.hid (ST.out.below HBW.out)
   have HZW := Lib.hid (HZ.out.below HBW.out)
   obtain ⟨bb, hbb⟩ : ∃ bb, bb = B.blocked zs (k : Int) := ⟨_, rfl⟩
   have C1 := blocked_any STW.out.b A n cp zs HZW.out.rd HZW.out.len HZW.out.cap HZW.out.r (by omega) (k : Int)
   rw [← hbb] at C1
   have HBB := Lib.hid hbb
   clear hbb
   have hbn : (bb != bb) = false := by cases bb <;> rfl
   go_wp2_with fail
   refine C1.mono ?_
   rintro e w1 ⟨rfl, hb1⟩
   clear C1
   have C2 := rblocked_any (cp := cp) (STW.out.r.below hb1) A n zs (HZW.out.below hb1).rd (HZW.out.below hb1).len (by omega) (k : Int)
   rw [← HBB.out] at C2
   have HB1 := Lib.hid (below_then HBW.out hb1)
   clear hb1
   go_wp2_with fail
   refine C2.mono ?_
   rintro e w2 ⟨rfl, hd2⟩
   have HB2 := Lib.hid (below_then HB1.out (hd2.below _))
   clear C2 hd2
   go_wp2
   go_roundw
   case rel => exact ⟨k + 1, by omega, by go_num, HB2⟩
   case measure => simp [intOf]; omega
  ·obtain rfl : k = n := by omega
   have hki : (k : Int) ≤ (k : Int) := Int.le_refl _
   replace ST := Lib.hid (ST.out.below HBW.out)
   replace HZ := Lib.hid (HZ.out.below HBW.out)
   replace HW := Lib.hid (below_then HW.out HBW.out)
   clear HBW HB0
   obtain ⟨bb, hbb⟩ : ∃ bb, bb = B.blocked zs y := ⟨_, rfl⟩
   have HBB := Lib.hid hbb
   clear hbb
   have hbn : (bb == bb) = true := by cases bb <;> rfl
   have C := blocked_any ST.out.b A k cp zs HZ.out.rd HZ.out.len HZ.out.cap HZ.out.r (by omega) y
   rw [← HBB.out] at C
   go_wp2_with fail
   refine C.mono ?_
   rintro e v6 ⟨rfl, hbn⟩
   clear C
   replace ST := Lib.hid (ST.out.below hbn)
   replace HZ := Lib.hid (HZ.out.below hbn)
   replace HW := Lib.hid (below_then HW.out hbn)
   clear hbn
   have C := rblocked_any (cp := cp) ST.out.r A k zs HZ.out.rd HZ.out.len (by omega) y
   rw [← HBB.out] at C
   go_wp2_with fail
   refine C.mono ?_
   rintro e v7 ⟨rfl, hd⟩
   have hbn := hd.below
   replace hbn := hbn v6.heap.size
   clear C hd
   replace ST := Lib.hid (ST.out.below hbn)
   replace HZ := Lib.hid (HZ.out.below hbn)
   replace HW := Lib.hid (below_then HW.out hbn)
   clear hbn
   have AW := awakeA_any _ ST.out.e ST.out.k
   go_wp2_with fail
   refine AW.mono ?_
   rintro e v8 ⟨rfl, hbn⟩
   have HW := Lib.hid (below_then HW.out hbn)
   clear AW hbn
   go_wp2
   go_returns
   exact ⟨rfl, HW.out⟩
set_option maxRecDepth 20000 in
set_option maxHeartbeats 4000000 in
theorem composenil_yes (A : Option Addr) (n cp : Nat) (zs : List Int) (w : World) (hE : Env w) (hk : Kinds w) (hz : ArgR w A n cp zs) :
  Calls Tryz.prog 5 #[.slice A n cp] w fun e w' => e = .returned (.bool true) ∧ Below w.heap.size w w' := by
 have HZ := Lib.hid hz
 have HEE := Lib.hid hE
 have HKK := Lib.hid hk
 clear hz hE hk
 by_cases hn : n ≤ 60
 rotate_left
 ·have hn1 : (60 : Int) < (n : Int) := by omega
  clear hn
  have AW := awakeA_any w HEE.out HKK.out
  go_enter Tryz.func5, Tryz.ntmps5
  go_wp2_with fail
  refine AW.mono ?_
  rintro e v1 ⟨rfl, hbn⟩
  have HW := Lib.hid hbn
  clear AW hbn
  go_wp2
  go_returns
  exact ⟨rfl, HW.out⟩
 have hn1 : ¬ (60 : Int) < (n : Int) := by omega
 obtain ⟨W0, hW0⟩ : ∃ W0, w.alloc (.cells #[.slice none 0 0, .slice none 0 0] 40) = W0 := ⟨_, rfl⟩
 have hB0 : Below w.heap.size w W0 := by rw [← hW0]; exact (Below.refl _ w).alloc (Nat.le_refl _) _
 have R : Hid (RefIs W0 (.pointer (some ⟨w.heap.size, 0, none⟩)) nilB) := ref_nil W0 w.heap.size (by rw [← hW0]; exact box_new _ _ _)
 have E := Lib.hid (HEE.out.below hB0)
 have K := Lib.hid (HKK.out.below' hB0)
 replace HZ := Lib.hid (HZ.out.below hB0)
 have HW := Lib.hid hB0
 have HBD := Lib.hid nil_bd
 clear hB0 HEE HKK
 go_enter Tryz.func5, Tryz.ntmps5
 go_wp2
 try rw [hW0]
 clear hW0
 have HB0 : Hid (Below W0.heap.size W0 W0) := Below.refl _ _
 go_loopw [4] (fun i wr => ∃ k : Nat, k ≤ n + 2 ∧ i = .int .i64 ((k : Int) - 1) ∧ Hid (Below W0.heap.size W0 wr)) (fun i _ => ((n : Int) + 2 - intOf i).toNat)
 case atStart => exact ⟨0, Nat.zero_le _, rfl, HB0⟩
 case round =>
  obtain ⟨k, hk, rfl, HBW⟩ := hrel
  obtain ⟨z, hz⟩ : ∃ z, z = (k : Int) - 1 := ⟨_, rfl⟩
  rw [← hz]
  by_cases hlt : k ≤ n + 1
  ·have hki : z ≤ (n : Int) := by omega
   have RW := Lib.hid (R.out.below HBW.out)
   have HZW := Lib.hid (HZ.out.below HBW.out)
   obtain ⟨bb, hbb⟩ : ∃ bb, bb = nilB.blocked zs z := ⟨_, rfl⟩
   have C1 := blocked_any (BaseIs.nil wr) A n cp zs HZW.out.rd HZW.out.len HZW.out.cap HZW.out.r (by omega) z
   rw [← hbb] at C1
   have HBB := Lib.hid hbb
   have HZZ := Lib.hid hz
   clear hbb
   have hbn : (bb != bb) = false := by cases bb <;> rfl
   have hwz : IntKind.i64.wrap (z + 1) = z + 1 := IntWalk.i64_in _ (by omega)
   clear hz
   go_wp2_with fail
   refine C1.mono ?_
   rintro e w1 ⟨rfl, hb1⟩
   clear C1
   have C2 := rblocked_any (cp := cp) (RW.out.below hb1) A n zs (HZW.out.below hb1).rd (HZW.out.below hb1).len (by omega) z
   rw [← HBB.out] at C2
   have HB1 := Lib.hid (below_then HBW.out hb1)
   clear hb1
   go_wp2_with fail
   refine C2.mono ?_
   rintro e w2 ⟨rfl, hd2⟩
   have HB2 := Lib.hid (below_then HB1.out (hd2.below _))
   clear C2 hd2
   go_wp2
   go_roundw
   case rel => exact ⟨k + 1, by omega, by rw [HZZ.out]; congr 1; omega, HB2⟩
   case measure =>
    have := HZZ.out
    simp only [intOf]
    omega
  ·have hki : (n : Int) < z := by omega
   have hkk : ¬ (z ≤ (n : Int)) := by omega
   clear hz
   replace R := Lib.hid (R.out.below HBW.out)
   replace HZ := Lib.hid (HZ.out.below HBW.out)
   replace E := Lib.hid (E.out.below HBW.out)
   replace K := Lib.hid (K.out.below' HBW.out)
   replace HW := Lib.hid (below_then HW.out HBW.out)
   clear HBW HB0
   obtain ⟨ys, hys⟩ : ∃ ys, ys = nilB.join zs := ⟨_, rfl⟩
   have hly : ys.length ≤ 60 := by rw [hys]; have h1 := join_len (B := nilB) zs; rw [HZ.out.len] at h1; omega
   have HYS := Lib.hid hys
   clear hys
   have C := cjoin_any (BaseIs.nil _) K.out HBD.out A n cp zs HZ.out.rd HZ.out.len HZ.out.r (by omega)
   rw [← HYS.out] at C
   go_wp2_with fail
   refine C.mono ?_
   intro e v6 hf
   obtain ⟨A1, c1, rfl, rd10, hbn⟩ := hf.rd
   clear C hf
   replace R := Lib.hid (R.out.below hbn)
   replace E := Lib.hid (E.out.below hbn)
   replace K := Lib.hid (K.out.below' hbn)
   replace HZ := Lib.hid (HZ.out.below hbn)
   replace HW := Lib.hid (below_then HW.out hbn)
   clear hbn
   have RD1 := Lib.hid rd10
   clear rd10
   have C := rcjoin_any R.out HBD.out A n cp zs HZ.out.rd HZ.out.len HZ.out.r (by omega)
   rw [← HYS.out] at C
   go_wp2_with fail
   refine C.mono ?_
   intro e v7 hf
   obtain ⟨A2, c2, rfl, rd20, hbn⟩ := hf.rd
   clear C hf
   replace R := Lib.hid (R.out.below hbn)
   replace E := Lib.hid (E.out.below hbn)
   replace K := Lib.hid (K.out.below' hbn)
   replace HZ := Lib.hid (HZ.out.below hbn)
   replace RD1 := Lib.hid (RD1.out.below hbn)
   replace HW := Lib.hid (below_then HW.out hbn)
   clear hbn
   have RD2 := Lib.hid rd20
   clear rd20
   have C := runes_same (ca := c1) (cb := c2) RD1.out RD2.out rfl (by omega) (by omega)
   go_wp2_with fail
   refine C.mono ?_
   rintro e v8 ⟨rfl, hbn⟩
   clear C
   replace R := Lib.hid (R.out.below hbn)
   replace E := Lib.hid (E.out.below hbn)
   replace K := Lib.hid (K.out.below' hbn)
   replace HZ := Lib.hid (HZ.out.below hbn)
   replace RD1 := Lib.hid (RD1.out.below hbn)
   replace RD2 := Lib.hid (RD2.out.below hbn)
   replace HW := Lib.hid (below_then HW.out hbn)
   clear hbn
   have AW := awakeA_any _ E.out K.out
   go_wp2_with fail
   refine AW.mono ?_
   rintro e v9 ⟨rfl, hbn⟩
   have HW := Lib.hid (below_then HW.out hbn)
   clear AW hbn
   go_wp2
   go_returns
   exact ⟨rfl, HW.out⟩
end
end Go.Proofs.YtobleaiecnpcoaaGreatDoor
