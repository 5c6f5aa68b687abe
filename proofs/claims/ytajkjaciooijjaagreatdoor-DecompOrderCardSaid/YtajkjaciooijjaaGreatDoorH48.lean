/- DecompOrder: the law. -/
import Derived.Test.YtajkjaciooijjaaGreatDoorH02
import Derived.Test.YtajkjaciooijjaaGreatDoorH05
import Derived.Test.YtajkjaciooijjaaGreatDoorH06
import Derived.Test.YtajkjaciooijjaaGreatDoorH09
import Derived.Test.YtajkjaciooijjaaGreatDoorH10
import Derived.Test.YtajkjaciooijjaaGreatDoorH04
import Derived.Test.YtajkjaciooijjaaGreatDoorH07
import Derived.Test.YtajkjaciooijjaaGreatDoorH12
import Derived.Test.YtajkjaciooijjaaGreatDoorH13
import Derived.Test.YtajkjaciooijjaaGreatDoorH14
import Derived.Test.YtajkjaciooijjaaGreatDoorH15
import Derived.Test.YtajkjaciooijjaaGreatDoorH18
import Derived.Test.YtajkjaciooijjaaGreatDoorH08
import Derived.Test.YtajkjaciooijjaaGreatDoorH19
import Derived.Test.YtajkjaciooijjaaGreatDoorH22
import Derived.Test.YtajkjaciooijjaaGreatDoorH27
import Derived.Test.YtajkjaciooijjaaGreatDoorH32
import Derived.Test.YtajkjaciooijjaaGreatDoorH35
import Derived.Test.YtajkjaciooijjaaGreatDoorH28
import Derived.Test.YtajkjaciooijjaaGreatDoorH38
import Derived.Test.YtajkjaciooijjaaGreatDoorH43
import Derived.Test.YtajkjaciooijjaaGreatDoorH42
import Derived.Test.YtajkjaciooijjaaGreatDoorH44
import Derived.Test.YtajkjaciooijjaaGreatDoorH40
section
set_option linter.unusedSimpArgs false
set_option linter.unusedVariables false
namespace Go.Proofs.YtajkjaciooijjaaGreatDoor
open Go.RowKit Go.Lib
theorem filter_take {p : Int → Bool} {l : List Int} {k : Nat} {y : Int} (h : l[k]? = some y) : (l.take (k + 1)).filter p = (l.take k).filter p ++ (if p y = true then [y] else []) := by
 rw [List.take_add_one, h, List.filter_append]
 cases hp : p y <;> simp [hp]
theorem count_take {l : List Int} {k : Nat} {y x : Int} (h : l[k]? = some y) : (l.take (k + 1)).count x = (l.take k).count x + (if y = x then 1 else 0) := by
 rw [List.take_add_one, h, List.count_append]
 congr 1
 show List.count x [y] = _
 rw [List.count_singleton]
 by_cases e : y = x <;> simp [e]
section
variable {w : World} {p : Option Addr} {B : BaseF}
set_option maxRecDepth 20000 in
set_option maxHeartbeats 4000000 in
theorem classes_any (hB : BaseIs w (.pointer p) B) (A A2 : Option Addr) (n cp c2 : Nat) (zs os : List Int) (hrd : Rd w A n (Rs zs)) (hrd2 : Rd w A2 n (Rs os)) (hn : zs.length = n) (ho : os.length = n) (hx : ∀ x ∈ zs, R32 x) (hy : ∀ x ∈ os, R32 x) (hn2 : n ≤ 1000000)
  (hEq : ∀ c, zs.filter (fun x => decide (B.cls x = c)) = os.filter (fun x => decide (B.cls x = c))) :
  Calls Tryz.prog 25 #[.pointer p, .slice A n cp, .slice A2 n c2] w fun e w' => e = .returned (.bool true) ∧ Below w.heap.size w w' := by
 have HB := Lib.hid hB
 have HR1 := Lib.hid hrd
 have HR2 := Lib.hid hrd2
 have HN := Lib.hid hn
 have HO := Lib.hid ho
 have HX := Lib.hid hx
 have HY := Lib.hid hy
 have HEQ := Lib.hid hEq
 clear hB hrd hrd2 hn ho hx hy hEq
 have HB0 : Hid (Below w.heap.size w w) := Below.refl _ _
 go_enter Tryz.func25, Tryz.ntmps25
 go_wp2
 go_loopw [7] (fun i wr => ∃ k : Nat, k ≤ n ∧ i = .int .i64 k ∧ Hid (Below w.heap.size w wr)) (fun i _ => n - (intOf i).toNat)
 case atStart => exact ⟨0, Nat.zero_le _, rfl, HB0⟩
 case round =>
  obtain ⟨wo, rfl⟩ : ∃ wo, wo = wr := ⟨wr, rfl⟩
  obtain ⟨k, hk, rfl, HBW⟩ := hrel
  by_cases hlt : k < n
  ·obtain ⟨y, hy⟩ : ∃ y, zs[k]? = some y := ⟨_, List.getElem?_eq_getElem (by rw [HN.out]; exact hlt)⟩
   have C1 := class_is (HB.out.below HBW.out) y (HX.out y (List.mem_of_getElem? hy))
   obtain ⟨b, off, rfl, hbl, hcx⟩ := HR1.out.at_ (by omega)
   have c0 : wo.cell? ⟨b, off + k, none⟩ = some (.int .i32 y) := (HBW.out.cell (p := ⟨b, off + k, none⟩) hbl).trans (hcx k (.int .i32 y) (by simp [Rs, hy]))
   have hki : (k : Int) < (n : Int) := by omega
   obtain ⟨cl, hcl⟩ : ∃ cl, cl = B.cls y := ⟨_, rfl⟩
   rw [← hcl] at C1
   clear hy hcx hbl hcl
   go_wp2_with fail
   refine C1.mono ?_
   rintro e w1 ⟨rfl, hb1⟩
   have HB1 := Lib.hid (below_then HBW.out hb1)
   have HS0 : Hid (Below w1.heap.size w1 w1) := Below.refl _ _
   clear C1 c0 hb1
   go_wp2
   go_loopw [9, 10, 11] (fun s9 s10 i wi => ∃ (j La Lb : Nat) (xa xb : List Int) (Aa Ab : Option Addr) (ca cb : Nat), j ≤ n ∧ La ≤ j ∧ Lb ≤ j ∧ i = .int .i64 j ∧ s9 = .slice Aa La ca ∧ s10 = .slice Ab Lb cb ∧ Hid (La = xa.length) ∧ Hid (Lb = xb.length) ∧ Hid (xa = (zs.take j).filter fun x => decide (B.cls x = cl)) ∧ Hid (xb = (os.take j).filter fun x => decide (B.cls x = cl)) ∧ Hid (TwoR w1.heap.size wi Aa ca xa Ab cb xb) ∧ Hid (Below w1.heap.size w1 wi)) (fun _ _ i _ => n - (intOf i).toNat)
   case atStart => exact ⟨0, 0, 0, [], [], none, none, 0, 0, Nat.zero_le _, Nat.zero_le _, Nat.zero_le _, rfl, rfl, rfl, rfl, rfl, rfl, rfl, TwoR.nil _ _, HS0⟩
   case round =>
    obtain ⟨j, La, Lb, xa, xb, Aa, Ab, ca, cb, hj, hla, hlb, rfl, rfl, rfl, HLA, HLB, HXA, HXB, HTW, HBI⟩ := hrel
    by_cases hjt : j < n
    ·have HBX := Lib.hid (below_then HB1.out HBI.out)
     obtain ⟨y1, hy1⟩ : ∃ y1, zs[j]? = some y1 := ⟨_, List.getElem?_eq_getElem (by rw [HN.out]; exact hjt)⟩
     obtain ⟨y2, hy2⟩ : ∃ y2, os[j]? = some y2 := ⟨_, List.getElem?_eq_getElem (by rw [HO.out]; exact hjt)⟩
     obtain ⟨b1, f1, e1, hbl1, hcx1⟩ := HR1.out.at_ (by omega)
     injection e1 with e1
     injection e1 with e1 e2
     subst e1 e2
     obtain ⟨b2, f2, rfl, hbl2, hcx2⟩ := HR2.out.at_ (by omega)
     have HQ1 : Hid (w.cell? ⟨b, off + j, none⟩ = some (.int .i32 y1) ∧ b < w.heap.size) := ⟨hcx1 j (.int .i32 y1) (by simp [Rs, hy1]), hbl1⟩
     have HQ2 : Hid (w.cell? ⟨b2, f2 + j, none⟩ = some (.int .i32 y2) ∧ b2 < w.heap.size) := ⟨hcx2 j (.int .i32 y2) (by simp [Rs, hy2]), hbl2⟩
     have HC1 : Hid (∀ W, Below w.heap.size w W → W.cell? ⟨b, off + j, none⟩ = some (.int .i32 y1)) := fun W h => (h.cell (p := ⟨b, off + j, none⟩) HQ1.out.2).trans HQ1.out.1
     have HC2 : Hid (∀ W, Below w.heap.size w W → W.cell? ⟨b2, f2 + j, none⟩ = some (.int .i32 y2)) := fun W h => (h.cell (p := ⟨b2, f2 + j, none⟩) HQ2.out.2).trans HQ2.out.1
     have c1 := HC1.out _ HBX.out
     have hji : (j : Int) < (n : Int) := by omega
     have HF1 := Lib.hid (filter_take (p := fun x => decide (B.cls x = cl)) hy1)
     have HF2 := Lib.hid (filter_take (p := fun x => decide (B.cls x = cl)) hy2)
     have D1 := class_is (HB.out.below HBX.out) y1 (HX.out y1 (List.mem_of_getElem? hy1))
     have HY2 := Lib.hid (HY.out y2 (List.mem_of_getElem? hy2))
     obtain ⟨k1, hk1⟩ : ∃ k1, k1 = B.cls y1 := ⟨_, rfl⟩
     rw [← hk1] at D1
     have HK1 := Lib.hid hk1
     clear hy1 hy2 hcx1 hcx2 hbl1 hbl2 hk1
     go_wp2_with fail
     refine D1.mono ?_
     rintro e w2 ⟨rfl, hb2⟩
     have HBX2 := Lib.hid (below_then HBX.out hb2)
     have HBI2 := Lib.hid (below_then HBI.out hb2)
     have HT2 := Lib.hid (HTW.out.below hb2)
     have c1 := HC1.out _ HBX2.out
     clear D1 hb2
     by_cases hq1 : k1 = cl
     ·have hq1b : (k1 == cl) = true := by simpa using hq1
      have HXA2 : Hid (xa ++ [y1] = (zs.take (j + 1)).filter fun x => decide (B.cls x = cl)) := by show _ = _; rw [HF1.out, ← HXA.out, if_pos (by rw [← HK1.out, hq1]; simp)]
      have hown := HT2.out.o1
      rw [← HLA.out] at hown
      have hbx : Below w2.heap.size w2 (w2.alloc (.cells #[.int .i32 y1] 21)) := (Below.refl _ _).alloc (Nat.le_refl _) _
      have hTx := HT2.out.below hbx
      have hox := hTx.o1
      rw [← HLA.out] at hox
      have hbI := below_then HBI2.out hbx
      have hbs := hbI.size
      clear hown
      go_wp2_with (at_builtin; refine wpList_app runeElem _ rfl _ _ rfl w1.heap.size rfl hox rfl (Rd.new1 _ _ _) (one_of rfl) (by omega) (by omega) hbs ?_)
      intro A4 c4 w4 hown4 hg4 hat4
      have HT3 := Lib.hid (hTx.app (zs := [y1]) HLA.out rfl hown4 hg4 (hat4.imp id (fun e => e.trans (by rw [World.size_alloc]))))
      have HBI3 := Lib.hid (below_app hbI hbs hox hg4)
      have HBX3 := Lib.hid (below_then HB1.out HBI3.out)
      have HLA3 : Hid (La + 1 = (xa ++ [y1]).length) := by show _ = _; rw [List.length_append, HLA.out]; rfl
      have hla3 : La + 1 ≤ j + 1 := by omega
      clear hown4 hg4 hat4 hTx hox hbI hbs hbx hq1
      have c2 := HC2.out _ HBX3.out
      have D2 := class_is (HB.out.below HBX3.out) y2 HY2.out
      obtain ⟨k2, hk2⟩ : ∃ k2, k2 = B.cls y2 := ⟨_, rfl⟩
      rw [← hk2] at D2
      have HK2 := Lib.hid hk2
      clear hk2
      go_wp2_with fail
      refine D2.mono ?_
      rintro e w5 ⟨rfl, hb5⟩
      have HBI5 := Lib.hid (below_then HBI3.out hb5)
      have HBX5 := Lib.hid (below_then HBX3.out hb5)
      have HT5 := Lib.hid (HT3.out.below hb5)
      have c2 := HC2.out _ HBX5.out
      clear D2 hb5
      by_cases hq2 : k2 = cl
      ·have hq2b : (k2 == cl) = true := by simpa using hq2
       have HXB2 : Hid (xb ++ [y2] = (os.take (j + 1)).filter fun x => decide (B.cls x = cl)) := by show _ = _; rw [HF2.out, ← HXB.out, if_pos (by rw [← HK2.out, hq2]; simp)]
       have hbx : Below w5.heap.size w5 (w5.alloc (.cells #[.int .i32 y2] 21)) := (Below.refl _ _).alloc (Nat.le_refl _) _
       have hTx := (HT5.out.below hbx).swap
       have hox := hTx.o1
       rw [← HLB.out] at hox
       have hbI := below_then HBI5.out hbx
       have hbs := hbI.size
       go_wp2_with (at_builtin; refine wpList_app runeElem _ rfl _ _ rfl w1.heap.size rfl hox rfl (Rd.new1 _ _ _) (one_of rfl) (by omega) (by omega) hbs ?_)
       intro A7 c7 w7 hown7 hg7 hat7
       have HT7 := Lib.hid (hTx.app (zs := [y2]) HLB.out rfl hown7 hg7 (hat7.imp id (fun e => e.trans (by rw [World.size_alloc])))).swap
       have HBI7 := Lib.hid (below_app hbI hbs hox hg7)
       have HLB7 : Hid (Lb + 1 = (xb ++ [y2]).length) := by show _ = _; rw [List.length_append, HLB.out]; rfl
       clear hown7 hg7 hat7 hTx hox hbI hbs hbx hq2
       go_wp2
       go_roundw
       case rel => exact ⟨j + 1, _, Lb + 1, _, _, _, _, _, _, by omega, hla3, by omega, by go_num, rfl, rfl, HLA3, HLB7, HXA2, HXB2, HT7, HBI7⟩
       case measure => simp [intOf]; omega
      ·have hq2b : (k2 == cl) = false := by simpa using hq2
       have HXB2 : Hid (xb = (os.take (j + 1)).filter fun x => decide (B.cls x = cl)) := by show _ = _; rw [HF2.out, ← HXB.out, if_neg (by rw [← HK2.out]; simpa using hq2), List.append_nil]
       clear hq2
       go_wp2
       go_roundw
       case rel => exact ⟨j + 1, _, Lb, _, _, _, _, _, _, by omega, hla3, by omega, by go_num, rfl, rfl, HLA3, HLB, HXA2, HXB2, HT5, HBI5⟩
       case measure => simp [intOf]; omega
     ·have hq1b : (k1 == cl) = false := by simpa using hq1
      have HXA2 : Hid (xa = (zs.take (j + 1)).filter fun x => decide (B.cls x = cl)) := by show _ = _; rw [HF1.out, ← HXA.out, if_neg (by rw [← HK1.out]; simpa using hq1), List.append_nil]
      have HBI3 := HBI2
      have HT3 := HT2
      have HLA3 := HLA
      have HBX3 := HBX2
      have hla3 : La ≤ j + 1 := by omega
      clear hq1
      have c2 := HC2.out _ HBX3.out
      have D2 := class_is (HB.out.below HBX3.out) y2 HY2.out
      obtain ⟨k2, hk2⟩ : ∃ k2, k2 = B.cls y2 := ⟨_, rfl⟩
      rw [← hk2] at D2
      have HK2 := Lib.hid hk2
      clear hk2
      go_wp2_with fail
      refine D2.mono ?_
      rintro e w5 ⟨rfl, hb5⟩
      have HBI5 := Lib.hid (below_then HBI3.out hb5)
      have HBX5 := Lib.hid (below_then HBX3.out hb5)
      have HT5 := Lib.hid (HT3.out.below hb5)
      have c2 := HC2.out _ HBX5.out
      clear D2 hb5
      by_cases hq2 : k2 = cl
      ·have hq2b : (k2 == cl) = true := by simpa using hq2
       have HXB2 : Hid (xb ++ [y2] = (os.take (j + 1)).filter fun x => decide (B.cls x = cl)) := by show _ = _; rw [HF2.out, ← HXB.out, if_pos (by rw [← HK2.out, hq2]; simp)]
       have hbx : Below w5.heap.size w5 (w5.alloc (.cells #[.int .i32 y2] 21)) := (Below.refl _ _).alloc (Nat.le_refl _) _
       have hTx := (HT5.out.below hbx).swap
       have hox := hTx.o1
       rw [← HLB.out] at hox
       have hbI := below_then HBI5.out hbx
       have hbs := hbI.size
       go_wp2_with (at_builtin; refine wpList_app runeElem _ rfl _ _ rfl w1.heap.size rfl hox rfl (Rd.new1 _ _ _) (one_of rfl) (by omega) (by omega) hbs ?_)
       intro A7 c7 w7 hown7 hg7 hat7
       have HT7 := Lib.hid (hTx.app (zs := [y2]) HLB.out rfl hown7 hg7 (hat7.imp id (fun e => e.trans (by rw [World.size_alloc])))).swap
       have HBI7 := Lib.hid (below_app hbI hbs hox hg7)
       have HLB7 : Hid (Lb + 1 = (xb ++ [y2]).length) := by show _ = _; rw [List.length_append, HLB.out]; rfl
       clear hown7 hg7 hat7 hTx hox hbI hbs hbx hq2
       go_wp2
       go_roundw
       case rel => exact ⟨j + 1, _, Lb + 1, _, _, _, _, _, _, by omega, hla3, by omega, by go_num, rfl, rfl, HLA3, HLB7, HXA2, HXB2, HT7, HBI7⟩
       case measure => simp [intOf]; omega
      ·have hq2b : (k2 == cl) = false := by simpa using hq2
       have HXB2 : Hid (xb = (os.take (j + 1)).filter fun x => decide (B.cls x = cl)) := by show _ = _; rw [HF2.out, ← HXB.out, if_neg (by rw [← HK2.out]; simpa using hq2), List.append_nil]
       clear hq2
       go_wp2
       go_roundw
       case rel => exact ⟨j + 1, _, Lb, _, _, _, _, _, _, by omega, hla3, by omega, by go_num, rfl, rfl, HLA3, HLB, HXA2, HXB2, HT5, HBI5⟩
       case measure => simp [intOf]; omega
    ·obtain rfl : j = n := by omega
     have hji : (j : Int) ≤ (j : Int) := Int.le_refl _
     obtain ⟨Ay, cy, hvy, _, _, hrdw⟩ := Rd.of_own HTW.out.o1
     injection hvy with e1 _ e3
     subst e1 e3
     obtain ⟨Az, cz, hvz, _, _, hrda⟩ := Rd.of_own HTW.out.o2
     injection hvz with e1 _ e3
     subst e1 e3
     rw [← HLA.out] at hrdw
     rw [← HLB.out] at hrda
     have hsame : xa = xb := by
      rw [HXA.out, HXB.out, List.take_of_length_le (by rw [HN.out]; exact Nat.le_refl _), List.take_of_length_le (by rw [HO.out]; exact Nat.le_refl _)]
      exact HEQ.out cl
     have RN := runes_same (ca := ca) (cb := cb) hrdw hrda hsame (by omega) (by omega)
     have HB6 := Lib.hid (below_then HB1.out HBI.out)
     clear hrdw hrda hsame
     go_wp2_with fail
     refine RN.mono ?_
     rintro e w9 ⟨rfl, hb9⟩
     have HB7 := Lib.hid (below_then HB6.out hb9)
     clear RN hb9
     go_wp2
     go_roundw
     case rel => exact ⟨k + 1, by omega, by go_num, HB7⟩
     case measure => simp [intOf]; omega
  ·obtain rfl : k = n := by omega
   have hki : (k : Int) ≤ (k : Int) := Int.le_refl _
   go_wp2
   go_returns
   exact ⟨rfl, HBW.out⟩
end
set_option maxRecDepth 20000 in
set_option maxHeartbeats 4000000 in
theorem decomporder_yes (s o : ByteArray) (A : Option Addr) (n cp : Nat) (zs : List Int) (w : World) (hE : Env w) (hk : Kinds w) (hz : ArgR w A n cp zs) :
  Calls Tryz.prog 8 #[.agg #[.string s, .string o], .slice A n cp] w fun e w' => e = .returned (.bool true) ∧ Below w.heap.size w w' := by
 obtain ⟨W0, hW0⟩ : ∃ W0, w.alloc (.cells #[.string s, .string o] 23) = W0 := ⟨_, rfl⟩
 have hB0 : Below w.heap.size w W0 := by rw [← hW0]; exact (Below.refl _ w).alloc (Nat.le_refl _) _
 have bx1 : W0.heap[w.heap.size]? = some (.cells #[.string s, .string o] 23 (0, 0)) := by rw [← hW0]; exact box_new w _ _
 have hc0 := box_cell bx1 0 rfl
 have hc1 := box_cell bx1 1 rfl
 have BO := both_any s o W0 (hE.below hB0) (hk.below' hB0)
 have HEE := Lib.hid hE
 have HKK := Lib.hid hk
 have HZ := Lib.hid hz
 clear hE hk bx1 hz
 go_enter Tryz.func8, Tryz.ntmps8
 go_wp2_with fail
 refine BO.mono ?_
 rintro e v0 (⟨rfl, hb0⟩ | ⟨bp, x, B, rfl, hB, hR, hbd, hb0⟩)
 ·have HW := Lib.hid (below_then hB0 hb0)
  clear BO hc0 hc1 hW0 hB0 hb0
  have HE0 := HEE.out.below HW.out
  have HK0 := HKK.out.below' HW.out
  have AW := awake9_any _ HE0 HK0
  go_wp2_with fail
  refine AW.mono ?_
  rintro e v1 ⟨rfl, hbn⟩
  have HW := Lib.hid (below_then HW.out hbn)
  clear AW hbn
  go_wp2
  go_returns
  exact ⟨rfl, HW.out⟩
 have HW := Lib.hid (below_then hB0 hb0)
 have ST : Hid (LawSt v0 bp x B) := ⟨hB, hR, hbd, HEE.out.below HW.out, HKK.out.below' HW.out⟩
 replace HZ := Lib.hid (HZ.out.below HW.out)
 clear BO hc0 hc1 hW0 hB hR hbd hb0 hB0 HEE HKK
 by_cases hn : n ≤ 60
 rotate_left
 ·have hn1 : (60 : Int) < (n : Int) := by omega
  clear hn
  have AW := awake9_any _ ST.out.e ST.out.k
  go_wp2_with fail
  refine AW.mono ?_
  rintro e v1 ⟨rfl, hbn⟩
  have HW := Lib.hid (below_then HW.out hbn)
  clear AW hbn
  go_wp2
  go_returns
  exact ⟨rfl, HW.out⟩
 have hn1 : ¬ (60 : Int) < (n : Int) := by omega
 obtain ⟨os, hos⟩ : ∃ os, os = B.ord zs := ⟨_, rfl⟩
 have HEV : Hid (B.Eqv zs os) := by show B.Eqv _ _; rw [hos]; exact eqv_ord zs
 have hol : os.length = n := by rw [hos, ord_len, HZ.out.len]
 have HOL := Lib.hid hol
 have HOR : Hid (∀ x ∈ os, R32 x) := fun x hx => HZ.out.r x ((HEV.out.mem x).2 hx)
 have HOO : Hid (B.ord os = os) := by show _ = _; rw [hos]; exact ord_ord zs
 have HOS : Hid (B.srt 0 os = true) := by show _ = _; rw [hos]; exact srt_ord zs
 have HOI : Hid ((os = zs) ↔ B.srt 0 zs = true) := by show _ ↔ _; rw [hos]; exact ord_eq_iff
 have HY := Lib.hid hos
 clear hos
 have C := Order_any ST.out.b A n cp zs HZ.out.rd HZ.out.nil HZ.out.len HZ.out.r (by omega)
 rw [← HY.out] at C
 go_wp2_with fail
 refine C.mono ?_
 intro e v1 hf
 obtain ⟨A1, c1, rfl, z10, hbn⟩ := hf.arg HOR.out
 clear C hf
 replace ST := Lib.hid (ST.out.below hbn)
 replace HZ := Lib.hid (HZ.out.below hbn)
 replace HW := Lib.hid (below_then HW.out hbn)
 clear hbn
 rw [HOL.out]
 have Z1 : Hid (ArgR v1 A1 n c1 os) := by have := z10; rw [HOL.out] at this; exact this
 clear z10
 clear hol
 have hnn : ((n : Int) != (n : Int)) = false := by simp
 have C := ordered_any ST.out.b A1 n c1 os Z1.out.rd HOL.out HOR.out (by omega)
 rw [HOS.out] at C
 go_wp2_with fail
 refine C.mono ?_
 rintro e v2 ⟨rfl, hbn⟩
 clear C
 replace ST := Lib.hid (ST.out.below hbn)
 replace HZ := Lib.hid (HZ.out.below hbn)
 replace Z1 := Lib.hid (Z1.out.below hbn)
 replace HW := Lib.hid (below_then HW.out hbn)
 clear hbn
 obtain ⟨sb, hsb⟩ : ∃ sb, sb = B.srt 0 zs := ⟨_, rfl⟩
 have HSB := Lib.hid hsb
 clear hsb
 have C := ordered_any ST.out.b A n cp zs HZ.out.rd HZ.out.len HZ.out.r (by omega)
 rw [← HSB.out] at C
 go_wp2_with fail
 refine C.mono ?_
 rintro e v3 ⟨rfl, hbn⟩
 clear C
 replace ST := Lib.hid (ST.out.below hbn)
 replace HZ := Lib.hid (HZ.out.below hbn)
 replace Z1 := Lib.hid (Z1.out.below hbn)
 replace HW := Lib.hid (below_then HW.out hbn)
 clear hbn
 have hdb : decide (os = zs) = sb := by
  rw [Bool.eq_iff_iff, decide_eq_true_iff, HOI.out, HSB.out]
 have C := runes_b A1 A n n c1 cp os zs _ Z1.out.rd HZ.out.rd (by omega) (by omega)
 rw [hdb] at C
 go_wp2_with fail
 refine C.mono ?_
 rintro e v4 ⟨rfl, hbn⟩
 clear C
 replace ST := Lib.hid (ST.out.below hbn)
 replace HZ := Lib.hid (HZ.out.below hbn)
 replace Z1 := Lib.hid (Z1.out.below hbn)
 replace HW := Lib.hid (below_then HW.out hbn)
 clear hbn
 have hsn : (sb != sb) = false := by cases sb <;> rfl
 clear hdb
 have C := Order_any ST.out.b A1 n c1 os Z1.out.rd Z1.out.nil HOL.out HOR.out (by omega)
 rw [HOO.out] at C
 go_wp2_with fail
 refine C.mono ?_
 intro e v5 hf
 obtain ⟨A2, c2, rfl, rd20, hbn⟩ := hf.rd
 clear C hf
 replace ST := Lib.hid (ST.out.below hbn)
 replace HZ := Lib.hid (HZ.out.below hbn)
 replace Z1 := Lib.hid (Z1.out.below hbn)
 replace HW := Lib.hid (below_then HW.out hbn)
 clear hbn
 have RD2 := Lib.hid rd20
 clear rd20
 rw [HOL.out]
 replace RD2 : Hid (Rd v5 A2 n (Rs os)) := by have := RD2.out; rw [HOL.out] at this; exact this
 have C := runes_same (ca := c2) (cb := c1) RD2.out Z1.out.rd rfl (by omega) (by omega)
 go_wp2_with fail
 refine C.mono ?_
 rintro e v6 ⟨rfl, hbn⟩
 clear C
 replace ST := Lib.hid (ST.out.below hbn)
 replace HZ := Lib.hid (HZ.out.below hbn)
 replace Z1 := Lib.hid (Z1.out.below hbn)
 replace RD2 := Lib.hid (RD2.out.below hbn)
 replace HW := Lib.hid (below_then HW.out hbn)
 clear hbn
 go_wp2
 have HB0 : Hid (Below v6.heap.size v6 v6) := Below.refl _ _
 go_loopw [8] (fun i wr => ∃ k : Nat, k ≤ n ∧ i = .int .i64 k ∧ Hid (Below v6.heap.size v6 wr)) (fun i _ => n - (intOf i).toNat)
 case atStart => exact ⟨0, Nat.zero_le _, rfl, HB0⟩
 case round =>
  obtain ⟨wo, rfl⟩ : ∃ wo, wo = wr := ⟨wr, rfl⟩
  obtain ⟨k, hk, rfl, HBW⟩ := hrel
  by_cases hlt : k < n
  ·have hki : (k : Int) < (n : Int) := by omega
   obtain ⟨y, hy⟩ : ∃ y, zs[k]? = some y := ⟨_, List.getElem?_eq_getElem (by rw [HZ.out.len]; exact hlt)⟩
   obtain ⟨u, hu⟩ : ∃ u, os[k]? = some u := ⟨_, List.getElem?_eq_getElem (by rw [HOL.out]; exact hlt)⟩
   obtain ⟨b1, f1, rfl, hb1l, hcx1⟩ := HZ.out.rd.at_ (by omega)
   obtain ⟨b2, f2, rfl, hb2l, hcx2⟩ := Z1.out.rd.at_ (by omega)
   have HRA : Hid (∀ W, Below v6.heap.size v6 W → ∀ i z, zs[i]? = some z → W.cell? ⟨b1, f1 + i, none⟩ = some (.int .i32 z)) := fun W h i z hz => (h.cell (p := ⟨b1, f1 + i, none⟩) hb1l).trans (hcx1 i (.int .i32 z) (by simp [Rs, hz]))
   have HRB : Hid (∀ W, Below v6.heap.size v6 W → ∀ i z, os[i]? = some z → W.cell? ⟨b2, f2 + i, none⟩ = some (.int .i32 z)) := fun W h i z hz => (h.cell (p := ⟨b2, f2 + i, none⟩) hb2l).trans (hcx2 i (.int .i32 z) (by simp [Rs, hz]))
   obtain ⟨hp1, hp2⟩ := eqv_place HEV.out k y u hy hu
   have HP1 := Lib.hid hp1
   have HP2 := Lib.hid hp2
   have CLY : Hid (∀ W, Below wo.heap.size wo W → Calls Tryz.prog 16 #[.pointer (some ⟨bp, 0, none⟩), .int .i32 y] W fun e w' => e = .returned (.int .i64 (B.cls y)) ∧ Below W.heap.size W w') := fun W h => class_is (ST.out.b.below (below_then HBW.out h)) y (HZ.out.r y (List.mem_of_getElem? hy))
   have CLU : Hid (∀ W, Below wo.heap.size wo W → Calls Tryz.prog 16 #[.pointer (some ⟨bp, 0, none⟩), .int .i32 u] W fun e w' => e = .returned (.int .i64 (B.cls u)) ∧ Below W.heap.size W w') := fun W h => class_is (ST.out.b.below (below_then HBW.out h)) u (HOR.out u (List.mem_of_getElem? hu))
   obtain ⟨cy, hcy⟩ : ∃ cy, cy = B.cls y := ⟨_, rfl⟩
   obtain ⟨cu, hcu⟩ : ∃ cu, cu = B.cls u := ⟨_, rfl⟩
   rw [← hcy] at CLY
   rw [← hcu] at CLU
   have HCY := Lib.hid hcy
   have HCU := Lib.hid hcu
   have HYY := Lib.hid hy
   have HUU := Lib.hid hu
   have HMK : Hid (∀ w', Below wo.heap.size wo w' → (w'.cell? ⟨b1, f1 + k, none⟩ = some (.int .i32 y) ∧ w'.cell? ⟨b2, f2 + k, none⟩ = some (.int .i32 u)) ∧ Below wo.heap.size wo w') := fun w' h => ⟨⟨HRA.out w' (below_then HBW.out h) k y HYY.out, HRB.out w' (below_then HBW.out h) k u HUU.out⟩, h⟩
   clear hy hu hcx1 hcx2 hb1l hb2l hp1 hp2 hcy hcu
   by_cases hz : cy = 0
   ·have huz : cu = 0 := by rw [HCU.out]; exact HP1.out.1 (HCY.out.symm.trans hz)
    have hyu : y = u := HP2.out (HCY.out.symm.trans hz)
    subst hz huz hyu
    go_upto_region 10 with fail
    refine wp_region_held_drew (S := fun w' => (w'.cell? ⟨b1, f1 + k, none⟩ = some (.int .i32 y) ∧ w'.cell? ⟨b2, f2 + k, none⟩ = some (.int .i32 y)) ∧ Below wo.heap.size wo w') (by kernel_rfl) (HMK.out _ (Drew.to ⟨1, rfl⟩)) (fun hH0 => ?_)
    refine wpAnyH_take (i := 0) (v := .pointer (some ⟨bp, 0, none⟩)) rfl (by kernel_rfl) (by kernel_rfl) (by kernel_rfl) (fun _ _ _ h => h) (Or.inl ⟨by kernel_rfl, ?_⟩) hH0 ?_
    ·intro w hSw
     (try dsimp only at hSw)
     go_simp
     all_goals try with_reducible rfl
    try simp only [List.getElem_toArray, List.getElem_cons_succ, List.getElem_cons_zero, Act.put, List.setIfInBounds_toArray, List.set_cons_zero, List.set_cons_succ]
    refine wpAnyH_take (i := 1) (v := .slice (some ⟨b1, f1, none⟩) n cp) rfl (by kernel_rfl) (by kernel_rfl) (by kernel_rfl) (fun _ _ _ h => h) (Or.inl ⟨by kernel_rfl, ?_⟩) hH0 ?_
    ·intro w hSw
     (try dsimp only at hSw)
     go_simp
     all_goals try with_reducible rfl
    try simp only [List.getElem_toArray, List.getElem_cons_succ, List.getElem_cons_zero, Act.put, List.setIfInBounds_toArray, List.set_cons_zero, List.set_cons_succ]
    refine wpAnyH_take (i := 2) (v := .int .i64 k) rfl (by kernel_rfl) (by kernel_rfl) (by kernel_rfl) (fun _ _ _ h => h) (Or.inl ⟨by kernel_rfl, ?_⟩) hH0 ?_
    ·intro w hSw
     (try dsimp only at hSw)
     go_simp
     all_goals try with_reducible rfl
    try simp only [List.getElem_toArray, List.getElem_cons_succ, List.getElem_cons_zero, Act.put, List.setIfInBounds_toArray, List.set_cons_zero, List.set_cons_succ]
    refine wpAnyH_take (i := 3) (v := .pointer (some ⟨b1, f1 + k, none⟩)) rfl (by kernel_rfl) (by kernel_rfl) (by kernel_rfl) (fun _ _ _ h => h) (Or.inl ⟨by kernel_rfl, ?_⟩) hH0 ?_
    ·intro w hSw
     (try dsimp only at hSw)
     go_simp
     all_goals try with_reducible rfl
    try simp only [List.getElem_toArray, List.getElem_cons_succ, List.getElem_cons_zero, Act.put, List.setIfInBounds_toArray, List.set_cons_zero, List.set_cons_succ]
    refine wpAnyH_take (i := 4) (v := .int .i32 y) rfl (by kernel_rfl) (by kernel_rfl) (by kernel_rfl) (fun _ _ _ h => h) (Or.inl ⟨by kernel_rfl, ?_⟩) hH0 ?_
    ·intro w hSw
     (try dsimp only at hSw)
     go_simp
     all_goals try with_reducible rfl
    try simp only [List.getElem_toArray, List.getElem_cons_succ, List.getElem_cons_zero, Act.put, List.setIfInBounds_toArray, List.set_cons_zero, List.set_cons_succ]
    refine wpAnyH_take (i := 7) (v := .pointer (some ⟨bp, 0, none⟩)) rfl (by kernel_rfl) (by kernel_rfl) (by kernel_rfl) (fun _ _ _ h => h) (Or.inl ⟨by kernel_rfl, ?_⟩) hH0 ?_
    ·intro w hSw
     (try dsimp only at hSw)
     go_simp
     all_goals try with_reducible rfl
    try simp only [List.getElem_toArray, List.getElem_cons_succ, List.getElem_cons_zero, Act.put, List.setIfInBounds_toArray, List.set_cons_zero, List.set_cons_succ]
    refine wpAnyH_take (i := 8) (v := .slice (some ⟨b2, f2, none⟩) n c1) rfl (by kernel_rfl) (by kernel_rfl) (by kernel_rfl) (fun _ _ _ h => h) (Or.inl ⟨by kernel_rfl, ?_⟩) hH0 ?_
    ·intro w hSw
     (try dsimp only at hSw)
     go_simp
     all_goals try with_reducible rfl
    try simp only [List.getElem_toArray, List.getElem_cons_succ, List.getElem_cons_zero, Act.put, List.setIfInBounds_toArray, List.set_cons_zero, List.set_cons_succ]
    refine wpAnyH_take (i := 9) (v := .int .i64 k) rfl (by kernel_rfl) (by kernel_rfl) (by kernel_rfl) (fun _ _ _ h => h) (Or.inl ⟨by kernel_rfl, ?_⟩) hH0 ?_
    ·intro w hSw
     (try dsimp only at hSw)
     go_simp
     all_goals try with_reducible rfl
    try simp only [List.getElem_toArray, List.getElem_cons_succ, List.getElem_cons_zero, Act.put, List.setIfInBounds_toArray, List.set_cons_zero, List.set_cons_succ]
    refine wpAnyH_take (i := 10) (v := .pointer (some ⟨b2, f2 + k, none⟩)) rfl (by kernel_rfl) (by kernel_rfl) (by kernel_rfl) (fun _ _ _ h => h) (Or.inl ⟨by kernel_rfl, ?_⟩) hH0 ?_
    ·intro w hSw
     (try dsimp only at hSw)
     go_simp
     all_goals try with_reducible rfl
    try simp only [List.getElem_toArray, List.getElem_cons_succ, List.getElem_cons_zero, Act.put, List.setIfInBounds_toArray, List.set_cons_zero, List.set_cons_succ]
    refine wpAnyH_take (i := 11) (v := .int .i32 y) rfl (by kernel_rfl) (by kernel_rfl) (by kernel_rfl) (fun _ _ _ h => h) (Or.inl ⟨by kernel_rfl, ?_⟩) hH0 ?_
    ·intro w hSw
     (try dsimp only at hSw)
     go_simp
     all_goals try with_reducible rfl
    try simp only [List.getElem_toArray, List.getElem_cons_succ, List.getElem_cons_zero, Act.put, List.setIfInBounds_toArray, List.set_cons_zero, List.set_cons_succ]
    refine wpAnyH_ready (rs := [5]) (by kernel_rfl) (by simp) ?_
    refine AllReadyH.cons rfl (fun K hK => ?_) AllReadyH.nil
    go_simp
    refine (CLY.out _ hH0.2).mono ?_
    rintro e w50 ⟨rfl, hb5⟩
    refine hK.out _ _ (HMK.out _ (below_then hH0.2 hb5)) (fun hH1 => ?_)
    clear hK K hH0
    try simp only [List.getElem_toArray, List.getElem_cons_succ, List.getElem_cons_zero, Act.put, List.setIfInBounds_toArray, List.set_cons_zero, List.set_cons_succ]
    refine wpAnyH_take (i := 6) (v := .bool true) rfl (by kernel_rfl) (by kernel_rfl) (by kernel_rfl) (fun _ _ _ h => h) (Or.inl ⟨by kernel_rfl, ?_⟩) hH1 ?_
    ·intro w hSw
     (try dsimp only at hSw)
     go_simp
     all_goals try with_reducible rfl
    try simp only [List.getElem_toArray, List.getElem_cons_succ, List.getElem_cons_zero, Act.put, List.setIfInBounds_toArray, List.set_cons_zero, List.set_cons_succ]
    refine wpAnyH_ready (rs := [12]) (by kernel_rfl) (by simp) ?_
    refine AllReadyH.cons rfl (fun K hK => ?_) AllReadyH.nil
    go_simp
    refine (CLU.out _ hH1.2).mono ?_
    rintro e w51 ⟨rfl, hb6⟩
    refine hK.out _ _ (HMK.out _ (below_then hH1.2 hb6)) (fun hH2 => ?_)
    clear hK K hH1
    try simp only [List.getElem_toArray, List.getElem_cons_succ, List.getElem_cons_zero, Act.put, List.setIfInBounds_toArray, List.set_cons_zero, List.set_cons_succ]
    refine wpAnyH_take (i := 13) (v := .bool true) rfl (by kernel_rfl) (by kernel_rfl) (by kernel_rfl) (fun _ _ _ h => h) (Or.inl ⟨by kernel_rfl, ?_⟩) hH2 ?_
    ·intro w hSw
     (try dsimp only at hSw)
     go_simp
     all_goals try with_reducible rfl
    try simp only [List.getElem_toArray, List.getElem_cons_succ, List.getElem_cons_zero, Act.put, List.setIfInBounds_toArray, List.set_cons_zero, List.set_cons_succ]
    refine wpAnyH_take (i := 14) (v := .bool false) rfl (by kernel_rfl) (by kernel_rfl) (by kernel_rfl) (fun _ _ _ h => h) (Or.inl ⟨by kernel_rfl, ?_⟩) hH2 ?_
    ·intro w hSw
     (try dsimp only at hSw)
     go_simp
     all_goals try with_reducible rfl
    try simp only [List.getElem_toArray, List.getElem_cons_succ, List.getElem_cons_zero, Act.put, List.setIfInBounds_toArray, List.set_cons_zero, List.set_cons_succ]
    refine wpAnyH_take (i := 15) (v := .bool false) rfl (by kernel_rfl) (by kernel_rfl) (by kernel_rfl) (fun _ _ _ h => h) (Or.inl ⟨by kernel_rfl, ?_⟩) hH2 ?_
    ·intro w hSw
     (try dsimp only at hSw)
     go_simp
     all_goals try with_reducible rfl
    try simp only [List.getElem_toArray, List.getElem_cons_succ, List.getElem_cons_zero, Act.put, List.setIfInBounds_toArray, List.set_cons_zero, List.set_cons_succ]
    refine wpAnyH_take (i := 16) (v := .pointer (some ⟨bp, 0, none⟩)) rfl (by kernel_rfl) (by kernel_rfl) (by kernel_rfl) (fun _ _ _ h => h) (Or.inl ⟨by kernel_rfl, ?_⟩) hH2 ?_
    ·intro w hSw
     (try dsimp only at hSw)
     go_simp
     all_goals try with_reducible rfl
    try simp only [List.getElem_toArray, List.getElem_cons_succ, List.getElem_cons_zero, Act.put, List.setIfInBounds_toArray, List.set_cons_zero, List.set_cons_succ]
    refine wpAnyH_take (i := 17) (v := .slice (some ⟨b1, f1, none⟩) n cp) rfl (by kernel_rfl) (by kernel_rfl) (by kernel_rfl) (fun _ _ _ h => h) (Or.inl ⟨by kernel_rfl, ?_⟩) hH2 ?_
    ·intro w hSw
     (try dsimp only at hSw)
     go_simp
     all_goals try with_reducible rfl
    try simp only [List.getElem_toArray, List.getElem_cons_succ, List.getElem_cons_zero, Act.put, List.setIfInBounds_toArray, List.set_cons_zero, List.set_cons_succ]
    refine wpAnyH_take (i := 18) (v := .int .i64 k) rfl (by kernel_rfl) (by kernel_rfl) (by kernel_rfl) (fun _ _ _ h => h) (Or.inl ⟨by kernel_rfl, ?_⟩) hH2 ?_
    ·intro w hSw
     (try dsimp only at hSw)
     go_simp
     all_goals try with_reducible rfl
    try simp only [List.getElem_toArray, List.getElem_cons_succ, List.getElem_cons_zero, Act.put, List.setIfInBounds_toArray, List.set_cons_zero, List.set_cons_succ]
    refine wpAnyH_take (i := 19) (v := .pointer (some ⟨b1, f1 + k, none⟩)) rfl (by kernel_rfl) (by kernel_rfl) (by kernel_rfl) (fun _ _ _ h => h) (Or.inl ⟨by kernel_rfl, ?_⟩) hH2 ?_
    ·intro w hSw
     (try dsimp only at hSw)
     go_simp
     all_goals try with_reducible rfl
    try simp only [List.getElem_toArray, List.getElem_cons_succ, List.getElem_cons_zero, Act.put, List.setIfInBounds_toArray, List.set_cons_zero, List.set_cons_succ]
    refine wpAnyH_take (i := 20) (v := .int .i32 y) rfl (by kernel_rfl) (by kernel_rfl) (by kernel_rfl) (fun _ _ _ h => h) (Or.inl ⟨by kernel_rfl, ?_⟩) hH2 ?_
    ·intro w hSw
     (try dsimp only at hSw)
     go_simp
     all_goals try with_reducible rfl
    try simp only [List.getElem_toArray, List.getElem_cons_succ, List.getElem_cons_zero, Act.put, List.setIfInBounds_toArray, List.set_cons_zero, List.set_cons_succ]
    refine wpAnyH_ready (rs := [21]) (by kernel_rfl) (by simp) ?_
    refine AllReadyH.cons rfl (fun K hK => ?_) AllReadyH.nil
    go_simp
    refine (CLY.out _ hH2.2).mono ?_
    rintro e w52 ⟨rfl, hb7⟩
    refine hK.out _ _ (HMK.out _ (below_then hH2.2 hb7)) (fun hH3 => ?_)
    clear hK K hH2
    try simp only [List.getElem_toArray, List.getElem_cons_succ, List.getElem_cons_zero, Act.put, List.setIfInBounds_toArray, List.set_cons_zero, List.set_cons_succ]
    refine wpAnyH_take (i := 22) (v := .bool true) rfl (by kernel_rfl) (by kernel_rfl) (by kernel_rfl) (fun _ _ _ h => h) (Or.inl ⟨by kernel_rfl, ?_⟩) hH3 ?_
    ·intro w hSw
     (try dsimp only at hSw)
     go_simp
     all_goals try with_reducible rfl
    try simp only [List.getElem_toArray, List.getElem_cons_succ, List.getElem_cons_zero, Act.put, List.setIfInBounds_toArray, List.set_cons_zero, List.set_cons_succ]
    refine wpAnyH_take (i := 23) (v := .bool true) rfl (by kernel_rfl) (by kernel_rfl) (by kernel_rfl) (fun _ _ _ h => h) (Or.inl ⟨by kernel_rfl, ?_⟩) hH3 ?_
    ·intro w hSw
     (try dsimp only at hSw)
     go_simp
     all_goals try with_reducible rfl
    try simp only [List.getElem_toArray, List.getElem_cons_succ, List.getElem_cons_zero, Act.put, List.setIfInBounds_toArray, List.set_cons_zero, List.set_cons_succ]
    refine wpAnyH_take (i := 24) (v := .slice (some ⟨b1, f1, none⟩) n cp) rfl (by kernel_rfl) (by kernel_rfl) (by kernel_rfl) (fun _ _ _ h => h) (Or.inl ⟨by kernel_rfl, ?_⟩) hH3 ?_
    ·intro w hSw
     (try dsimp only at hSw)
     go_simp
     all_goals try with_reducible rfl
    try simp only [List.getElem_toArray, List.getElem_cons_succ, List.getElem_cons_zero, Act.put, List.setIfInBounds_toArray, List.set_cons_zero, List.set_cons_succ]
    refine wpAnyH_take (i := 25) (v := .int .i64 k) rfl (by kernel_rfl) (by kernel_rfl) (by kernel_rfl) (fun _ _ _ h => h) (Or.inl ⟨by kernel_rfl, ?_⟩) hH3 ?_
    ·intro w hSw
     (try dsimp only at hSw)
     go_simp
     all_goals try with_reducible rfl
    try simp only [List.getElem_toArray, List.getElem_cons_succ, List.getElem_cons_zero, Act.put, List.setIfInBounds_toArray, List.set_cons_zero, List.set_cons_succ]
    refine wpAnyH_take (i := 26) (v := .pointer (some ⟨b1, f1 + k, none⟩)) rfl (by kernel_rfl) (by kernel_rfl) (by kernel_rfl) (fun _ _ _ h => h) (Or.inl ⟨by kernel_rfl, ?_⟩) hH3 ?_
    ·intro w hSw
     (try dsimp only at hSw)
     go_simp
     all_goals try with_reducible rfl
    try simp only [List.getElem_toArray, List.getElem_cons_succ, List.getElem_cons_zero, Act.put, List.setIfInBounds_toArray, List.set_cons_zero, List.set_cons_succ]
    refine wpAnyH_take (i := 27) (v := .int .i32 y) rfl (by kernel_rfl) (by kernel_rfl) (by kernel_rfl) (fun _ _ _ h => h) (Or.inl ⟨by kernel_rfl, ?_⟩) hH3 ?_
    ·intro w hSw
     (try dsimp only at hSw)
     go_simp
     all_goals try with_reducible rfl
    try simp only [List.getElem_toArray, List.getElem_cons_succ, List.getElem_cons_zero, Act.put, List.setIfInBounds_toArray, List.set_cons_zero, List.set_cons_succ]
    refine wpAnyH_take (i := 28) (v := .slice (some ⟨b2, f2, none⟩) n c1) rfl (by kernel_rfl) (by kernel_rfl) (by kernel_rfl) (fun _ _ _ h => h) (Or.inl ⟨by kernel_rfl, ?_⟩) hH3 ?_
    ·intro w hSw
     (try dsimp only at hSw)
     go_simp
     all_goals try with_reducible rfl
    try simp only [List.getElem_toArray, List.getElem_cons_succ, List.getElem_cons_zero, Act.put, List.setIfInBounds_toArray, List.set_cons_zero, List.set_cons_succ]
    refine wpAnyH_take (i := 29) (v := .int .i64 k) rfl (by kernel_rfl) (by kernel_rfl) (by kernel_rfl) (fun _ _ _ h => h) (Or.inl ⟨by kernel_rfl, ?_⟩) hH3 ?_
    ·intro w hSw
     (try dsimp only at hSw)
     go_simp
     all_goals try with_reducible rfl
    try simp only [List.getElem_toArray, List.getElem_cons_succ, List.getElem_cons_zero, Act.put, List.setIfInBounds_toArray, List.set_cons_zero, List.set_cons_succ]
    refine wpAnyH_take (i := 30) (v := .pointer (some ⟨b2, f2 + k, none⟩)) rfl (by kernel_rfl) (by kernel_rfl) (by kernel_rfl) (fun _ _ _ h => h) (Or.inl ⟨by kernel_rfl, ?_⟩) hH3 ?_
    ·intro w hSw
     (try dsimp only at hSw)
     go_simp
     all_goals try with_reducible rfl
    try simp only [List.getElem_toArray, List.getElem_cons_succ, List.getElem_cons_zero, Act.put, List.setIfInBounds_toArray, List.set_cons_zero, List.set_cons_succ]
    refine wpAnyH_take (i := 31) (v := .int .i32 y) rfl (by kernel_rfl) (by kernel_rfl) (by kernel_rfl) (fun _ _ _ h => h) (Or.inl ⟨by kernel_rfl, ?_⟩) hH3 ?_
    ·intro w hSw
     (try dsimp only at hSw)
     go_simp
     all_goals try with_reducible rfl
    try simp only [List.getElem_toArray, List.getElem_cons_succ, List.getElem_cons_zero, Act.put, List.setIfInBounds_toArray, List.set_cons_zero, List.set_cons_succ]
    refine wpAnyH_take (i := 32) (v := .bool false) rfl (by kernel_rfl) (by kernel_rfl) (by kernel_rfl) (fun _ _ _ h => h) (Or.inl ⟨by kernel_rfl, ?_⟩) hH3 ?_
    ·intro w hSw
     (try dsimp only at hSw)
     go_simp
     all_goals try with_reducible rfl
    try simp only [List.getElem_toArray, List.getElem_cons_succ, List.getElem_cons_zero, Act.put, List.setIfInBounds_toArray, List.set_cons_zero, List.set_cons_succ]
    refine wpAnyH_take (i := 33) (v := .bool false) rfl (by kernel_rfl) (by kernel_rfl) (by kernel_rfl) (fun _ _ _ h => h) (Or.inl ⟨by kernel_rfl, ?_⟩) hH3 ?_
    ·intro w hSw
     (try dsimp only at hSw)
     go_simp
     all_goals try with_reducible rfl
    try simp only [List.getElem_toArray, List.getElem_cons_succ, List.getElem_cons_zero, Act.put, List.setIfInBounds_toArray, List.set_cons_zero, List.set_cons_succ]
    refine wpAnyH_take (i := 34) (v := .bool false) rfl (by kernel_rfl) (by kernel_rfl) (by kernel_rfl) (fun _ _ _ h => h) (Or.inl ⟨by kernel_rfl, ?_⟩) hH3 ?_
    ·intro w hSw
     (try dsimp only at hSw)
     go_simp
     all_goals try with_reducible rfl
    try simp only [List.getElem_toArray, List.getElem_cons_succ, List.getElem_cons_zero, Act.put, List.setIfInBounds_toArray, List.set_cons_zero, List.set_cons_succ]
    refine wpAnyH_done (by kernel_rfl) ?_ _
    have HB5 := Lib.hid (below_then HBW.out hH3.2)
    clear hH3
    obtain ⟨wq, hwq⟩ : ∃ wq, wq = w52 := ⟨_, rfl⟩
    have HI0 : Hid (Below w52.heap.size w52 w52) := Below.refl _ _
    go_wp2
    go_loopw [9, 10, 11] (fun s9 s10 i wi => ∃ (j n1 n2 : Nat), j ≤ n ∧ n1 ≤ j ∧ n2 ≤ j ∧ i = .int .i64 j ∧ s9 = .int .i64 n1 ∧ s10 = .int .i64 n2 ∧ Hid (n1 = (zs.take j).count y) ∧ Hid (n2 = (os.take j).count y) ∧ Hid (Below w52.heap.size w52 wi)) (fun _ _ i _ => n - (intOf i).toNat)
    case atStart => exact ⟨0, 0, 0, Nat.zero_le _, Nat.zero_le _, Nat.zero_le _, rfl, rfl, rfl, rfl, rfl, HI0⟩
    case round =>
     obtain ⟨j, n1, n2, hj, hn1j, hn2j, rfl, rfl, rfl, HN1, HN2, HBI⟩ := hrel
     have HBX := Lib.hid (below_then HB5.out HBI.out)
     by_cases hjt : j < n
     ·have hji : (j : Int) < (n : Int) := by omega
      obtain ⟨y1, hy1⟩ : ∃ y1, zs[j]? = some y1 := ⟨_, List.getElem?_eq_getElem (by rw [HZ.out.len]; exact hjt)⟩
      obtain ⟨y2, hy2⟩ : ∃ y2, os[j]? = some y2 := ⟨_, List.getElem?_eq_getElem (by rw [HOL.out]; exact hjt)⟩
      have q1 := HRA.out _ HBX.out j y1 hy1
      have q2 := HRB.out _ HBX.out j y2 hy2
      have q0 := HRA.out _ HBX.out k y HYY.out
      have HT1 := Lib.hid (count_take (x := y) hy1)
      have HT2 := Lib.hid (count_take (x := y) hy2)
      have HBN : Hid (∀ nq, Below w52.heap.size w52 (wr.drewN nq)) := fun nq => below_then HBI.out (below_drewN wr _ nq)
      have hw1 : IntKind.i64.wrap ((n1 : Int) + 1) = (n1 : Int) + 1 := IntWalk.i64_in _ (by omega)
      have hw2 : IntKind.i64.wrap ((n2 : Int) + 1) = (n2 : Int) + 1 := IntWalk.i64_in _ (by omega)
      have HYJ := Lib.hid hy2
      clear hy1 hy2
      by_cases h1 : y1 = y
      ·have h1b : (y1 == y) = true := by simpa using h1
       have HN1' : Hid (n1 + 1 = (zs.take (j + 1)).count y) := by show _ = _; rw [HT1.out, ← HN1.out, if_pos h1]
       clear h1
       by_cases h2 : y2 = y
       ·have h2b : (y2 == y) = true := by simpa using h2
        have HN2' : Hid (n2 + 1 = (os.take (j + 1)).count y) := by show _ = _; rw [HT2.out, ← HN2.out, if_pos h2]
        clear h2
        go_wp2
        go_quiet (fail)
        have HBQ := HBN.out nq
        obtain ⟨wd, hwd⟩ : ∃ wd, wd = wr.drewN nq := ⟨_, rfl⟩
        rw [← hwd] at HBQ ⊢
        have HBQ2 := Lib.hid (below_then HB5.out HBQ)
        have HBQ1 := Lib.hid HBQ
        have q2 := HRB.out _ HBQ2.out j y2 HYJ.out
        have q0 := HRA.out _ HBQ2.out k y HYY.out
        clear q1 hwd HBQ
        go_wp2
        go_quiet (fail)
        have HB8 := Lib.hid (below_then HBQ1.out (below_drewN wd _ nq))
        go_wp2
        go_roundw
        case rel => exact ⟨j + 1, n1 + 1, n2 + 1, by omega, by omega, by omega, by go_num, by go_num, by go_num, HN1', HN2', HB8⟩
        case measure => simp [intOf]; omega
       ·have h2b : (y2 == y) = false := by simpa using h2
        have HN2' : Hid (n2 = (os.take (j + 1)).count y) := by show _ = _; rw [HT2.out, ← HN2.out, if_neg h2, Nat.add_zero]
        clear h2
        go_wp2
        go_quiet (fail)
        have HBQ := HBN.out nq
        obtain ⟨wd, hwd⟩ : ∃ wd, wd = wr.drewN nq := ⟨_, rfl⟩
        rw [← hwd] at HBQ ⊢
        have HBQ2 := Lib.hid (below_then HB5.out HBQ)
        have HBQ1 := Lib.hid HBQ
        have q2 := HRB.out _ HBQ2.out j y2 HYJ.out
        have q0 := HRA.out _ HBQ2.out k y HYY.out
        clear q1 hwd HBQ
        go_wp2
        go_quiet (fail)
        have HB8 := Lib.hid (below_then HBQ1.out (below_drewN wd _ nq))
        go_wp2
        go_roundw
        case rel => exact ⟨j + 1, n1 + 1, n2, by omega, by omega, by omega, by go_num, by go_num, by go_num, HN1', HN2', HB8⟩
        case measure => simp [intOf]; omega
      ·have h1b : (y1 == y) = false := by simpa using h1
       have HN1' : Hid (n1 = (zs.take (j + 1)).count y) := by show _ = _; rw [HT1.out, ← HN1.out, if_neg h1, Nat.add_zero]
       clear h1
       by_cases h2 : y2 = y
       ·have h2b : (y2 == y) = true := by simpa using h2
        have HN2' : Hid (n2 + 1 = (os.take (j + 1)).count y) := by show _ = _; rw [HT2.out, ← HN2.out, if_pos h2]
        clear h2
        go_wp2
        go_quiet (fail)
        have HBQ := HBN.out nq
        obtain ⟨wd, hwd⟩ : ∃ wd, wd = wr.drewN nq := ⟨_, rfl⟩
        rw [← hwd] at HBQ ⊢
        have HBQ2 := Lib.hid (below_then HB5.out HBQ)
        have HBQ1 := Lib.hid HBQ
        have q2 := HRB.out _ HBQ2.out j y2 HYJ.out
        have q0 := HRA.out _ HBQ2.out k y HYY.out
        clear q1 hwd HBQ
        go_wp2
        go_quiet (fail)
        have HB8 := Lib.hid (below_then HBQ1.out (below_drewN wd _ nq))
        go_wp2
        go_roundw
        case rel => exact ⟨j + 1, n1, n2 + 1, by omega, by omega, by omega, by go_num, by go_num, by go_num, HN1', HN2', HB8⟩
        case measure => simp [intOf]; omega
       ·have h2b : (y2 == y) = false := by simpa using h2
        have HN2' : Hid (n2 = (os.take (j + 1)).count y) := by show _ = _; rw [HT2.out, ← HN2.out, if_neg h2, Nat.add_zero]
        clear h2
        go_wp2
        go_quiet (fail)
        have HBQ := HBN.out nq
        obtain ⟨wd, hwd⟩ : ∃ wd, wd = wr.drewN nq := ⟨_, rfl⟩
        rw [← hwd] at HBQ ⊢
        have HBQ2 := Lib.hid (below_then HB5.out HBQ)
        have HBQ1 := Lib.hid HBQ
        have q2 := HRB.out _ HBQ2.out j y2 HYJ.out
        have q0 := HRA.out _ HBQ2.out k y HYY.out
        clear q1 hwd HBQ
        go_wp2
        go_quiet (fail)
        have HB8 := Lib.hid (below_then HBQ1.out (below_drewN wd _ nq))
        go_wp2
        go_roundw
        case rel => exact ⟨j + 1, n1, n2, by omega, by omega, by omega, by go_num, by go_num, by go_num, HN1', HN2', HB8⟩
        case measure => simp [intOf]; omega
     ·obtain rfl : j = n := by omega
      have hji : (j : Int) ≤ (j : Int) := Int.le_refl _
      have hcc : ((n1 : Int) != (n2 : Int)) = false := by
       have h1 := HN1.out
       have h2 := HN2.out
       rw [List.take_of_length_le (by rw [HZ.out.len]; exact Nat.le_refl _)] at h1
       rw [List.take_of_length_le (by rw [HOL.out]; exact Nat.le_refl _)] at h2
       rw [h1, h2, eqv_count HEV.out y]
       simp
      clear HN1 HN2
      go_wp2
      go_roundw
      case rel => exact ⟨k + 1, by omega, by go_num, HBX⟩
      case measure => simp [intOf]; omega
   ·have huz : ¬ cu = 0 := fun e => hz (HCY.out.trans (HP1.out.2 (HCU.out.symm.trans e)))
    have hzb : (cy == 0) = false := by simpa using hz
    have huzb : (cu == 0) = false := by simpa using huz
    clear hz huz
    go_upto_region 10 with fail
    refine wp_region_held_drew (S := fun w' => (w'.cell? ⟨b1, f1 + k, none⟩ = some (.int .i32 y) ∧ w'.cell? ⟨b2, f2 + k, none⟩ = some (.int .i32 u)) ∧ Below wo.heap.size wo w') (by kernel_rfl) (HMK.out _ (Drew.to ⟨1, rfl⟩)) (fun hH0 => ?_)
    refine wpAnyH_take (i := 0) (v := .pointer (some ⟨bp, 0, none⟩)) rfl (by kernel_rfl) (by kernel_rfl) (by kernel_rfl) (fun _ _ _ h => h) (Or.inl ⟨by kernel_rfl, ?_⟩) hH0 ?_
    ·intro w hSw
     (try dsimp only at hSw)
     go_simp
     all_goals try with_reducible rfl
    try simp only [List.getElem_toArray, List.getElem_cons_succ, List.getElem_cons_zero, Act.put, List.setIfInBounds_toArray, List.set_cons_zero, List.set_cons_succ]
    refine wpAnyH_take (i := 1) (v := .slice (some ⟨b1, f1, none⟩) n cp) rfl (by kernel_rfl) (by kernel_rfl) (by kernel_rfl) (fun _ _ _ h => h) (Or.inl ⟨by kernel_rfl, ?_⟩) hH0 ?_
    ·intro w hSw
     (try dsimp only at hSw)
     go_simp
     all_goals try with_reducible rfl
    try simp only [List.getElem_toArray, List.getElem_cons_succ, List.getElem_cons_zero, Act.put, List.setIfInBounds_toArray, List.set_cons_zero, List.set_cons_succ]
    refine wpAnyH_take (i := 2) (v := .int .i64 k) rfl (by kernel_rfl) (by kernel_rfl) (by kernel_rfl) (fun _ _ _ h => h) (Or.inl ⟨by kernel_rfl, ?_⟩) hH0 ?_
    ·intro w hSw
     (try dsimp only at hSw)
     go_simp
     all_goals try with_reducible rfl
    try simp only [List.getElem_toArray, List.getElem_cons_succ, List.getElem_cons_zero, Act.put, List.setIfInBounds_toArray, List.set_cons_zero, List.set_cons_succ]
    refine wpAnyH_take (i := 3) (v := .pointer (some ⟨b1, f1 + k, none⟩)) rfl (by kernel_rfl) (by kernel_rfl) (by kernel_rfl) (fun _ _ _ h => h) (Or.inl ⟨by kernel_rfl, ?_⟩) hH0 ?_
    ·intro w hSw
     (try dsimp only at hSw)
     go_simp
     all_goals try with_reducible rfl
    try simp only [List.getElem_toArray, List.getElem_cons_succ, List.getElem_cons_zero, Act.put, List.setIfInBounds_toArray, List.set_cons_zero, List.set_cons_succ]
    refine wpAnyH_take (i := 4) (v := .int .i32 y) rfl (by kernel_rfl) (by kernel_rfl) (by kernel_rfl) (fun _ _ _ h => h) (Or.inl ⟨by kernel_rfl, ?_⟩) hH0 ?_
    ·intro w hSw
     (try dsimp only at hSw)
     go_simp
     all_goals try with_reducible rfl
    try simp only [List.getElem_toArray, List.getElem_cons_succ, List.getElem_cons_zero, Act.put, List.setIfInBounds_toArray, List.set_cons_zero, List.set_cons_succ]
    refine wpAnyH_take (i := 7) (v := .pointer (some ⟨bp, 0, none⟩)) rfl (by kernel_rfl) (by kernel_rfl) (by kernel_rfl) (fun _ _ _ h => h) (Or.inl ⟨by kernel_rfl, ?_⟩) hH0 ?_
    ·intro w hSw
     (try dsimp only at hSw)
     go_simp
     all_goals try with_reducible rfl
    try simp only [List.getElem_toArray, List.getElem_cons_succ, List.getElem_cons_zero, Act.put, List.setIfInBounds_toArray, List.set_cons_zero, List.set_cons_succ]
    refine wpAnyH_take (i := 8) (v := .slice (some ⟨b2, f2, none⟩) n c1) rfl (by kernel_rfl) (by kernel_rfl) (by kernel_rfl) (fun _ _ _ h => h) (Or.inl ⟨by kernel_rfl, ?_⟩) hH0 ?_
    ·intro w hSw
     (try dsimp only at hSw)
     go_simp
     all_goals try with_reducible rfl
    try simp only [List.getElem_toArray, List.getElem_cons_succ, List.getElem_cons_zero, Act.put, List.setIfInBounds_toArray, List.set_cons_zero, List.set_cons_succ]
    refine wpAnyH_take (i := 9) (v := .int .i64 k) rfl (by kernel_rfl) (by kernel_rfl) (by kernel_rfl) (fun _ _ _ h => h) (Or.inl ⟨by kernel_rfl, ?_⟩) hH0 ?_
    ·intro w hSw
     (try dsimp only at hSw)
     go_simp
     all_goals try with_reducible rfl
    try simp only [List.getElem_toArray, List.getElem_cons_succ, List.getElem_cons_zero, Act.put, List.setIfInBounds_toArray, List.set_cons_zero, List.set_cons_succ]
    refine wpAnyH_take (i := 10) (v := .pointer (some ⟨b2, f2 + k, none⟩)) rfl (by kernel_rfl) (by kernel_rfl) (by kernel_rfl) (fun _ _ _ h => h) (Or.inl ⟨by kernel_rfl, ?_⟩) hH0 ?_
    ·intro w hSw
     (try dsimp only at hSw)
     go_simp
     all_goals try with_reducible rfl
    try simp only [List.getElem_toArray, List.getElem_cons_succ, List.getElem_cons_zero, Act.put, List.setIfInBounds_toArray, List.set_cons_zero, List.set_cons_succ]
    refine wpAnyH_take (i := 11) (v := .int .i32 u) rfl (by kernel_rfl) (by kernel_rfl) (by kernel_rfl) (fun _ _ _ h => h) (Or.inl ⟨by kernel_rfl, ?_⟩) hH0 ?_
    ·intro w hSw
     (try dsimp only at hSw)
     go_simp
     all_goals try with_reducible rfl
    try simp only [List.getElem_toArray, List.getElem_cons_succ, List.getElem_cons_zero, Act.put, List.setIfInBounds_toArray, List.set_cons_zero, List.set_cons_succ]
    refine wpAnyH_ready (rs := [5]) (by kernel_rfl) (by simp) ?_
    refine AllReadyH.cons rfl (fun K hK => ?_) AllReadyH.nil
    go_simp
    refine (CLY.out _ hH0.2).mono ?_
    rintro e w50 ⟨rfl, hb5⟩
    refine hK.out _ _ (HMK.out _ (below_then hH0.2 hb5)) (fun hH1 => ?_)
    clear hK K hH0
    try simp only [List.getElem_toArray, List.getElem_cons_succ, List.getElem_cons_zero, Act.put, List.setIfInBounds_toArray, List.set_cons_zero, List.set_cons_succ]
    refine wpAnyH_take (i := 6) (v := .bool false) rfl (by kernel_rfl) (by kernel_rfl) (by kernel_rfl) (fun _ _ _ h => h) (Or.inl ⟨by kernel_rfl, ?_⟩) hH1 ?_
    ·intro w hSw
     (try dsimp only at hSw)
     go_simp
     all_goals try with_reducible rfl
    try simp only [List.getElem_toArray, List.getElem_cons_succ, List.getElem_cons_zero, Act.put, List.setIfInBounds_toArray, List.set_cons_zero, List.set_cons_succ]
    refine wpAnyH_ready (rs := [12]) (by kernel_rfl) (by simp) ?_
    refine AllReadyH.cons rfl (fun K hK => ?_) AllReadyH.nil
    go_simp
    refine (CLU.out _ hH1.2).mono ?_
    rintro e w51 ⟨rfl, hb6⟩
    refine hK.out _ _ (HMK.out _ (below_then hH1.2 hb6)) (fun hH2 => ?_)
    clear hK K hH1
    try simp only [List.getElem_toArray, List.getElem_cons_succ, List.getElem_cons_zero, Act.put, List.setIfInBounds_toArray, List.set_cons_zero, List.set_cons_succ]
    refine wpAnyH_take (i := 13) (v := .bool false) rfl (by kernel_rfl) (by kernel_rfl) (by kernel_rfl) (fun _ _ _ h => h) (Or.inl ⟨by kernel_rfl, ?_⟩) hH2 ?_
    ·intro w hSw
     (try dsimp only at hSw)
     go_simp
     all_goals try with_reducible rfl
    try simp only [List.getElem_toArray, List.getElem_cons_succ, List.getElem_cons_zero, Act.put, List.setIfInBounds_toArray, List.set_cons_zero, List.set_cons_succ]
    refine wpAnyH_take (i := 14) (v := .bool false) rfl (by kernel_rfl) (by kernel_rfl) (by kernel_rfl) (fun _ _ _ h => h) (Or.inl ⟨by kernel_rfl, ?_⟩) hH2 ?_
    ·intro w hSw
     (try dsimp only at hSw)
     go_simp
     all_goals try with_reducible rfl
    try simp only [List.getElem_toArray, List.getElem_cons_succ, List.getElem_cons_zero, Act.put, List.setIfInBounds_toArray, List.set_cons_zero, List.set_cons_succ]
    refine wpAnyH_take (i := 15) (v := .bool false) rfl (by kernel_rfl) (by kernel_rfl) (by kernel_rfl) (fun _ _ _ h => h) (Or.inl ⟨by kernel_rfl, ?_⟩) hH2 ?_
    ·intro w hSw
     (try dsimp only at hSw)
     go_simp
     all_goals try with_reducible rfl
    try simp only [List.getElem_toArray, List.getElem_cons_succ, List.getElem_cons_zero, Act.put, List.setIfInBounds_toArray, List.set_cons_zero, List.set_cons_succ]
    refine wpAnyH_take (i := 16) (v := .pointer (some ⟨bp, 0, none⟩)) rfl (by kernel_rfl) (by kernel_rfl) (by kernel_rfl) (fun _ _ _ h => h) (Or.inl ⟨by kernel_rfl, ?_⟩) hH2 ?_
    ·intro w hSw
     (try dsimp only at hSw)
     go_simp
     all_goals try with_reducible rfl
    try simp only [List.getElem_toArray, List.getElem_cons_succ, List.getElem_cons_zero, Act.put, List.setIfInBounds_toArray, List.set_cons_zero, List.set_cons_succ]
    refine wpAnyH_take (i := 17) (v := .slice (some ⟨b1, f1, none⟩) n cp) rfl (by kernel_rfl) (by kernel_rfl) (by kernel_rfl) (fun _ _ _ h => h) (Or.inl ⟨by kernel_rfl, ?_⟩) hH2 ?_
    ·intro w hSw
     (try dsimp only at hSw)
     go_simp
     all_goals try with_reducible rfl
    try simp only [List.getElem_toArray, List.getElem_cons_succ, List.getElem_cons_zero, Act.put, List.setIfInBounds_toArray, List.set_cons_zero, List.set_cons_succ]
    refine wpAnyH_take (i := 18) (v := .int .i64 k) rfl (by kernel_rfl) (by kernel_rfl) (by kernel_rfl) (fun _ _ _ h => h) (Or.inl ⟨by kernel_rfl, ?_⟩) hH2 ?_
    ·intro w hSw
     (try dsimp only at hSw)
     go_simp
     all_goals try with_reducible rfl
    try simp only [List.getElem_toArray, List.getElem_cons_succ, List.getElem_cons_zero, Act.put, List.setIfInBounds_toArray, List.set_cons_zero, List.set_cons_succ]
    refine wpAnyH_take (i := 19) (v := .pointer (some ⟨b1, f1 + k, none⟩)) rfl (by kernel_rfl) (by kernel_rfl) (by kernel_rfl) (fun _ _ _ h => h) (Or.inl ⟨by kernel_rfl, ?_⟩) hH2 ?_
    ·intro w hSw
     (try dsimp only at hSw)
     go_simp
     all_goals try with_reducible rfl
    try simp only [List.getElem_toArray, List.getElem_cons_succ, List.getElem_cons_zero, Act.put, List.setIfInBounds_toArray, List.set_cons_zero, List.set_cons_succ]
    refine wpAnyH_take (i := 20) (v := .int .i32 y) rfl (by kernel_rfl) (by kernel_rfl) (by kernel_rfl) (fun _ _ _ h => h) (Or.inl ⟨by kernel_rfl, ?_⟩) hH2 ?_
    ·intro w hSw
     (try dsimp only at hSw)
     go_simp
     all_goals try with_reducible rfl
    try simp only [List.getElem_toArray, List.getElem_cons_succ, List.getElem_cons_zero, Act.put, List.setIfInBounds_toArray, List.set_cons_zero, List.set_cons_succ]
    refine wpAnyH_ready (rs := [21]) (by kernel_rfl) (by simp) ?_
    refine AllReadyH.cons rfl (fun K hK => ?_) AllReadyH.nil
    go_simp
    refine (CLY.out _ hH2.2).mono ?_
    rintro e w52 ⟨rfl, hb7⟩
    refine hK.out _ _ (HMK.out _ (below_then hH2.2 hb7)) (fun hH3 => ?_)
    clear hK K hH2
    try simp only [List.getElem_toArray, List.getElem_cons_succ, List.getElem_cons_zero, Act.put, List.setIfInBounds_toArray, List.set_cons_zero, List.set_cons_succ]
    refine wpAnyH_take (i := 22) (v := .bool false) rfl (by kernel_rfl) (by kernel_rfl) (by kernel_rfl) (fun _ _ _ h => h) (Or.inl ⟨by kernel_rfl, ?_⟩) hH3 ?_
    ·intro w hSw
     (try dsimp only at hSw)
     go_simp
     all_goals try with_reducible rfl
    try simp only [List.getElem_toArray, List.getElem_cons_succ, List.getElem_cons_zero, Act.put, List.setIfInBounds_toArray, List.set_cons_zero, List.set_cons_succ]
    refine wpAnyH_take (i := 23) (v := .bool false) rfl (by kernel_rfl) (by kernel_rfl) (by kernel_rfl) (fun _ _ _ h => h) (Or.inl ⟨by kernel_rfl, ?_⟩) hH3 ?_
    ·intro w hSw
     (try dsimp only at hSw)
     go_simp
     all_goals try with_reducible rfl
    try simp only [List.getElem_toArray, List.getElem_cons_succ, List.getElem_cons_zero, Act.put, List.setIfInBounds_toArray, List.set_cons_zero, List.set_cons_succ]
    refine wpAnyH_take (i := 24) (v := undef) rfl (by kernel_rfl) (by kernel_rfl) (by kernel_rfl) (fun _ _ _ h => h) (Or.inr ⟨by kernel_rfl, rfl⟩) hH3 ?_
    try simp only [List.getElem_toArray, List.getElem_cons_succ, List.getElem_cons_zero, Act.put, List.setIfInBounds_toArray, List.set_cons_zero, List.set_cons_succ]
    refine wpAnyH_take (i := 25) (v := undef) rfl (by kernel_rfl) (by kernel_rfl) (by kernel_rfl) (fun _ _ _ h => h) (Or.inr ⟨by kernel_rfl, rfl⟩) hH3 ?_
    try simp only [List.getElem_toArray, List.getElem_cons_succ, List.getElem_cons_zero, Act.put, List.setIfInBounds_toArray, List.set_cons_zero, List.set_cons_succ]
    refine wpAnyH_take (i := 26) (v := undef) rfl (by kernel_rfl) (by kernel_rfl) (by kernel_rfl) (fun _ _ _ h => h) (Or.inr ⟨by kernel_rfl, rfl⟩) hH3 ?_
    try simp only [List.getElem_toArray, List.getElem_cons_succ, List.getElem_cons_zero, Act.put, List.setIfInBounds_toArray, List.set_cons_zero, List.set_cons_succ]
    refine wpAnyH_take (i := 27) (v := undef) rfl (by kernel_rfl) (by kernel_rfl) (by kernel_rfl) (fun _ _ _ h => h) (Or.inr ⟨by kernel_rfl, rfl⟩) hH3 ?_
    try simp only [List.getElem_toArray, List.getElem_cons_succ, List.getElem_cons_zero, Act.put, List.setIfInBounds_toArray, List.set_cons_zero, List.set_cons_succ]
    refine wpAnyH_take (i := 28) (v := undef) rfl (by kernel_rfl) (by kernel_rfl) (by kernel_rfl) (fun _ _ _ h => h) (Or.inr ⟨by kernel_rfl, rfl⟩) hH3 ?_
    try simp only [List.getElem_toArray, List.getElem_cons_succ, List.getElem_cons_zero, Act.put, List.setIfInBounds_toArray, List.set_cons_zero, List.set_cons_succ]
    refine wpAnyH_take (i := 29) (v := undef) rfl (by kernel_rfl) (by kernel_rfl) (by kernel_rfl) (fun _ _ _ h => h) (Or.inr ⟨by kernel_rfl, rfl⟩) hH3 ?_
    try simp only [List.getElem_toArray, List.getElem_cons_succ, List.getElem_cons_zero, Act.put, List.setIfInBounds_toArray, List.set_cons_zero, List.set_cons_succ]
    refine wpAnyH_take (i := 30) (v := undef) rfl (by kernel_rfl) (by kernel_rfl) (by kernel_rfl) (fun _ _ _ h => h) (Or.inr ⟨by kernel_rfl, rfl⟩) hH3 ?_
    try simp only [List.getElem_toArray, List.getElem_cons_succ, List.getElem_cons_zero, Act.put, List.setIfInBounds_toArray, List.set_cons_zero, List.set_cons_succ]
    refine wpAnyH_take (i := 31) (v := undef) rfl (by kernel_rfl) (by kernel_rfl) (by kernel_rfl) (fun _ _ _ h => h) (Or.inr ⟨by kernel_rfl, rfl⟩) hH3 ?_
    try simp only [List.getElem_toArray, List.getElem_cons_succ, List.getElem_cons_zero, Act.put, List.setIfInBounds_toArray, List.set_cons_zero, List.set_cons_succ]
    refine wpAnyH_take (i := 32) (v := undef) rfl (by kernel_rfl) (by kernel_rfl) (by kernel_rfl) (fun _ _ _ h => h) (Or.inr ⟨by kernel_rfl, rfl⟩) hH3 ?_
    try simp only [List.getElem_toArray, List.getElem_cons_succ, List.getElem_cons_zero, Act.put, List.setIfInBounds_toArray, List.set_cons_zero, List.set_cons_succ]
    refine wpAnyH_take (i := 33) (v := .bool false) rfl (by kernel_rfl) (by kernel_rfl) (by kernel_rfl) (fun _ _ _ h => h) (Or.inl ⟨by kernel_rfl, ?_⟩) hH3 ?_
    ·intro w hSw
     (try dsimp only at hSw)
     go_simp
     all_goals try with_reducible rfl
    try simp only [List.getElem_toArray, List.getElem_cons_succ, List.getElem_cons_zero, Act.put, List.setIfInBounds_toArray, List.set_cons_zero, List.set_cons_succ]
    refine wpAnyH_take (i := 34) (v := .bool false) rfl (by kernel_rfl) (by kernel_rfl) (by kernel_rfl) (fun _ _ _ h => h) (Or.inl ⟨by kernel_rfl, ?_⟩) hH3 ?_
    ·intro w hSw
     (try dsimp only at hSw)
     go_simp
     all_goals try with_reducible rfl
    try simp only [List.getElem_toArray, List.getElem_cons_succ, List.getElem_cons_zero, Act.put, List.setIfInBounds_toArray, List.set_cons_zero, List.set_cons_succ]
    refine wpAnyH_done (by kernel_rfl) ?_ _
    have HB5 := Lib.hid (below_then HBW.out hH3.2)
    clear hH3
    obtain ⟨wq, hwq⟩ : ∃ wq, wq = w52 := ⟨_, rfl⟩
    have HI0 : Hid (Below w52.heap.size w52 w52) := Below.refl _ _
    go_wp2
    go_loopw [9, 10, 11] (fun s9 s10 i wi => ∃ (j n1 n2 : Nat), j ≤ n ∧ n1 ≤ j ∧ n2 ≤ j ∧ i = .int .i64 j ∧ s9 = .int .i64 n1 ∧ s10 = .int .i64 n2 ∧ Hid (n1 = (zs.take j).count y) ∧ Hid (n2 = (os.take j).count y) ∧ Hid (Below w52.heap.size w52 wi)) (fun _ _ i _ => n - (intOf i).toNat)
    case atStart => exact ⟨0, 0, 0, Nat.zero_le _, Nat.zero_le _, Nat.zero_le _, rfl, rfl, rfl, rfl, rfl, HI0⟩
    case round =>
     obtain ⟨j, n1, n2, hj, hn1j, hn2j, rfl, rfl, rfl, HN1, HN2, HBI⟩ := hrel
     have HBX := Lib.hid (below_then HB5.out HBI.out)
     by_cases hjt : j < n
     ·have hji : (j : Int) < (n : Int) := by omega
      obtain ⟨y1, hy1⟩ : ∃ y1, zs[j]? = some y1 := ⟨_, List.getElem?_eq_getElem (by rw [HZ.out.len]; exact hjt)⟩
      obtain ⟨y2, hy2⟩ : ∃ y2, os[j]? = some y2 := ⟨_, List.getElem?_eq_getElem (by rw [HOL.out]; exact hjt)⟩
      have q1 := HRA.out _ HBX.out j y1 hy1
      have q2 := HRB.out _ HBX.out j y2 hy2
      have q0 := HRA.out _ HBX.out k y HYY.out
      have HT1 := Lib.hid (count_take (x := y) hy1)
      have HT2 := Lib.hid (count_take (x := y) hy2)
      have HBN : Hid (∀ nq, Below w52.heap.size w52 (wr.drewN nq)) := fun nq => below_then HBI.out (below_drewN wr _ nq)
      have hw1 : IntKind.i64.wrap ((n1 : Int) + 1) = (n1 : Int) + 1 := IntWalk.i64_in _ (by omega)
      have hw2 : IntKind.i64.wrap ((n2 : Int) + 1) = (n2 : Int) + 1 := IntWalk.i64_in _ (by omega)
      have HYJ := Lib.hid hy2
      clear hy1 hy2
      by_cases h1 : y1 = y
      ·have h1b : (y1 == y) = true := by simpa using h1
       have HN1' : Hid (n1 + 1 = (zs.take (j + 1)).count y) := by show _ = _; rw [HT1.out, ← HN1.out, if_pos h1]
       clear h1
       by_cases h2 : y2 = y
       ·have h2b : (y2 == y) = true := by simpa using h2
        have HN2' : Hid (n2 + 1 = (os.take (j + 1)).count y) := by show _ = _; rw [HT2.out, ← HN2.out, if_pos h2]
        clear h2
        go_wp2
        go_quiet (fail)
        have HBQ := HBN.out nq
        obtain ⟨wd, hwd⟩ : ∃ wd, wd = wr.drewN nq := ⟨_, rfl⟩
        rw [← hwd] at HBQ ⊢
        have HBQ2 := Lib.hid (below_then HB5.out HBQ)
        have HBQ1 := Lib.hid HBQ
        have q2 := HRB.out _ HBQ2.out j y2 HYJ.out
        have q0 := HRA.out _ HBQ2.out k y HYY.out
        clear q1 hwd HBQ
        go_wp2
        go_quiet (fail)
        have HB8 := Lib.hid (below_then HBQ1.out (below_drewN wd _ nq))
        go_wp2
        go_roundw
        case rel => exact ⟨j + 1, n1 + 1, n2 + 1, by omega, by omega, by omega, by go_num, by go_num, by go_num, HN1', HN2', HB8⟩
        case measure => simp [intOf]; omega
       ·have h2b : (y2 == y) = false := by simpa using h2
        have HN2' : Hid (n2 = (os.take (j + 1)).count y) := by show _ = _; rw [HT2.out, ← HN2.out, if_neg h2, Nat.add_zero]
        clear h2
        go_wp2
        go_quiet (fail)
        have HBQ := HBN.out nq
        obtain ⟨wd, hwd⟩ : ∃ wd, wd = wr.drewN nq := ⟨_, rfl⟩
        rw [← hwd] at HBQ ⊢
        have HBQ2 := Lib.hid (below_then HB5.out HBQ)
        have HBQ1 := Lib.hid HBQ
        have q2 := HRB.out _ HBQ2.out j y2 HYJ.out
        have q0 := HRA.out _ HBQ2.out k y HYY.out
        clear q1 hwd HBQ
        go_wp2
        go_quiet (fail)
        have HB8 := Lib.hid (below_then HBQ1.out (below_drewN wd _ nq))
        go_wp2
        go_roundw
        case rel => exact ⟨j + 1, n1 + 1, n2, by omega, by omega, by omega, by go_num, by go_num, by go_num, HN1', HN2', HB8⟩
        case measure => simp [intOf]; omega
      ·have h1b : (y1 == y) = false := by simpa using h1
       have HN1' : Hid (n1 = (zs.take (j + 1)).count y) := by show _ = _; rw [HT1.out, ← HN1.out, if_neg h1, Nat.add_zero]
       clear h1
       by_cases h2 : y2 = y
       ·have h2b : (y2 == y) = true := by simpa using h2
        have HN2' : Hid (n2 + 1 = (os.take (j + 1)).count y) := by show _ = _; rw [HT2.out, ← HN2.out, if_pos h2]
        clear h2
        go_wp2
        go_quiet (fail)
        have HBQ := HBN.out nq
        obtain ⟨wd, hwd⟩ : ∃ wd, wd = wr.drewN nq := ⟨_, rfl⟩
        rw [← hwd] at HBQ ⊢
        have HBQ2 := Lib.hid (below_then HB5.out HBQ)
        have HBQ1 := Lib.hid HBQ
        have q2 := HRB.out _ HBQ2.out j y2 HYJ.out
        have q0 := HRA.out _ HBQ2.out k y HYY.out
        clear q1 hwd HBQ
        go_wp2
        go_quiet (fail)
        have HB8 := Lib.hid (below_then HBQ1.out (below_drewN wd _ nq))
        go_wp2
        go_roundw
        case rel => exact ⟨j + 1, n1, n2 + 1, by omega, by omega, by omega, by go_num, by go_num, by go_num, HN1', HN2', HB8⟩
        case measure => simp [intOf]; omega
       ·have h2b : (y2 == y) = false := by simpa using h2
        have HN2' : Hid (n2 = (os.take (j + 1)).count y) := by show _ = _; rw [HT2.out, ← HN2.out, if_neg h2, Nat.add_zero]
        clear h2
        go_wp2
        go_quiet (fail)
        have HBQ := HBN.out nq
        obtain ⟨wd, hwd⟩ : ∃ wd, wd = wr.drewN nq := ⟨_, rfl⟩
        rw [← hwd] at HBQ ⊢
        have HBQ2 := Lib.hid (below_then HB5.out HBQ)
        have HBQ1 := Lib.hid HBQ
        have q2 := HRB.out _ HBQ2.out j y2 HYJ.out
        have q0 := HRA.out _ HBQ2.out k y HYY.out
        clear q1 hwd HBQ
        go_wp2
        go_quiet (fail)
        have HB8 := Lib.hid (below_then HBQ1.out (below_drewN wd _ nq))
        go_wp2
        go_roundw
        case rel => exact ⟨j + 1, n1, n2, by omega, by omega, by omega, by go_num, by go_num, by go_num, HN1', HN2', HB8⟩
        case measure => simp [intOf]; omega
     ·obtain rfl : j = n := by omega
      have hji : (j : Int) ≤ (j : Int) := Int.le_refl _
      have hcc : ((n1 : Int) != (n2 : Int)) = false := by
       have h1 := HN1.out
       have h2 := HN2.out
       rw [List.take_of_length_le (by rw [HZ.out.len]; exact Nat.le_refl _)] at h1
       rw [List.take_of_length_le (by rw [HOL.out]; exact Nat.le_refl _)] at h2
       rw [h1, h2, eqv_count HEV.out y]
       simp
      clear HN1 HN2
      go_wp2
      go_roundw
      case rel => exact ⟨k + 1, by omega, by go_num, HBX⟩
      case measure => simp [intOf]; omega
  ·obtain rfl : k = n := by omega
   have hki : (k : Int) ≤ (k : Int) := Int.le_refl _
   replace ST := Lib.hid (ST.out.below HBW.out)
   replace HZ := Lib.hid (HZ.out.below HBW.out)
   replace Z1 := Lib.hid (Z1.out.below HBW.out)
   replace HW := Lib.hid (below_then HW.out HBW.out)
   clear HBW
   have C := classes_any ST.out.b A A1 k cp c1 zs os HZ.out.rd Z1.out.rd HZ.out.len HOL.out HZ.out.r HOR.out (by omega) (fun c => eqv_class HEV.out c)
   go_wp2_with fail
   refine C.mono ?_
   rintro e v15 ⟨rfl, hbn⟩
   clear C
   replace ST := Lib.hid (ST.out.below hbn)
   replace HW := Lib.hid (below_then HW.out hbn)
   clear hbn
   have AW := awake9_any _ ST.out.e ST.out.k
   go_wp2_with fail
   refine AW.mono ?_
   rintro e v16 ⟨rfl, hbn⟩
   have HW := Lib.hid (below_then HW.out hbn)
   clear AW hbn
   go_wp2
   go_returns
   exact ⟨rfl, HW.out⟩
end Go.Proofs.YtajkjaciooijjaaGreatDoor
end
