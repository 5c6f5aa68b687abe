/- DecompNil, DecompJoins: the laws. -/
import Derived.Test.YtajkjaciooijjaaGreatDoorH02
import Derived.Test.YtajkjaciooijjaaGreatDoorH05
import Derived.Test.YtajkjaciooijjaaGreatDoorH06
import Derived.Test.YtajkjaciooijjaaGreatDoorH09
import Derived.Test.YtajkjaciooijjaaGreatDoorH10
import Derived.Test.YtajkjaciooijjaaGreatDoorH04
import Derived.Test.YtajkjaciooijjaaGreatDoorH07
import Derived.Test.YtajkjaciooijjaaGreatDoorH12
import Derived.Test.YtajkjaciooijjaaGreatDoorH13
import Derived.Test.YtajkjaciooijjaaGreatDoorH14
import Derived.Test.YtajkjaciooijjaaGreatDoorH15
import Derived.Test.YtajkjaciooijjaaGreatDoorH18
import Derived.Test.YtajkjaciooijjaaGreatDoorH20
import Derived.Test.YtajkjaciooijjaaGreatDoorH08
import Derived.Test.YtajkjaciooijjaaGreatDoorH19
import Derived.Test.YtajkjaciooijjaaGreatDoorH22
import Derived.Test.YtajkjaciooijjaaGreatDoorH25
import Derived.Test.YtajkjaciooijjaaGreatDoorH27
import Derived.Test.YtajkjaciooijjaaGreatDoorH32
import Derived.Test.YtajkjaciooijjaaGreatDoorH35
import Derived.Test.YtajkjaciooijjaaGreatDoorH28
import Derived.Test.YtajkjaciooijjaaGreatDoorH38
import Derived.Test.YtajkjaciooijjaaGreatDoorH43
import Derived.Test.YtajkjaciooijjaaGreatDoorH39
import Derived.Test.YtajkjaciooijjaaGreatDoorH42
import Derived.Test.YtajkjaciooijjaaGreatDoorH44
import Derived.Test.YtajkjaciooijjaaGreatDoorH40
section
set_option linter.unusedSimpArgs false
set_option linter.unusedVariables false
namespace Go.Proofs.YtajkjaciooijjaaGreatDoor
open Go.RowKit Go.Lib
theorem nil_cls (r : Int) : nilB.cls r = 0 := rfl
theorem nil_srt : ∀ (k : Int) (l : List Int), nilB.srt k l = true
 | _, [] => rfl
 | k, x :: t => by
  have h := nil_srt (nilB.cls x) t
  unfold BaseF.srt
  rw [h, nil_cls]
  rfl
theorem nil_ord (l : List Int) : nilB.ord l = l := ord_srt (nil_srt 0 l)
theorem nil_runs (l : List Int) : (nilB.runs l).length = l.length := by
 induction l using snoc_ind with
 | h0 => rfl
 | h1 l r ih =>
  rw [runs_snoc]
  unfold BaseF.runStep
  rw [if_pos (.inr (nil_cls r)), List.length_append, List.length_append, ih]
  rfl
theorem flat_take_l {l : List (List Int)} {k : Nat} {q : List Int} (h : l[k]? = some q) : (l.take (k + 1)).flatten = (l.take k).flatten ++ q := by
 rw [List.take_add_one, h, List.flatten_append]
 simp
theorem flatMap_take_l {f : List Int → List Int} {l : List (List Int)} {k : Nat} {q : List Int} (h : l[k]? = some q) : (l.take (k + 1)).flatMap f = (l.take k).flatMap f ++ f q := by
 rw [List.take_add_one, h, List.flatMap_append]
 simp
theorem flat_leq : ∀ (l : List (List Int)) (k : Nat), (l.take k).flatten.length ≤ l.flatten.length
 | [], k => by simp
 | q :: l, 0 => by simp
 | q :: l, k + 1 => by
  have := flat_leq l k
  rw [List.take_succ_cons, List.flatten_cons, List.flatten_cons, List.length_append, List.length_append]
  omega
theorem runs_full {B : BaseF} {c : Bool} (l : List Int) (hi : ∀ x ∈ l, B.parts c x = []) {q : List Int} (hq : q ∈ B.runs l) : B.full c q = B.ord q := by
 unfold BaseF.full
 rw [B.all_irr]
 intro x hx
 refine hi x ?_
 rw [← (runs_ok (B := B) l).flat]
 exact List.mem_flatten.2 ⟨q, hq, hx⟩
set_option maxRecDepth 20000 in
set_option maxHeartbeats 4000000 in
theorem decompnil_yes (A : Option Addr) (n cp : Nat) (zs : List Int) (c : Bool) (w : World) (hE : Env w) (hk : Kinds w) (hz : ArgR w A n cp zs) :
  Calls Tryz.prog 9 #[.slice A n cp, .bool c] w fun e w' => e = .returned (.bool true) ∧ Below w.heap.size w w' := by
 have HZ := Lib.hid hz
 have HEE := Lib.hid hE
 have HKK := Lib.hid hk
 clear hz hE hk
 by_cases hn : n ≤ 60
 rotate_left
 ·have hn1 : (60 : Int) < (n : Int) := by omega
  clear hn
  have AW := awake9_any w HEE.out HKK.out
  go_enter Tryz.func9, Tryz.ntmps9
  go_wp2_with fail
  refine AW.mono ?_
  rintro e v1 ⟨rfl, hbn⟩
  have HW := Lib.hid hbn
  clear AW hbn
  go_wp2
  go_returns
  exact ⟨rfl, HW.out⟩
 have hn1 : ¬ (60 : Int) < (n : Int) := by omega
 obtain ⟨W0, hW0⟩ : ∃ W0, w.alloc (.cells #[.slice none 0 0, .slice none 0 0] 51) = W0 := ⟨_, rfl⟩
 have hB0 : Below w.heap.size w W0 := by rw [← hW0]; exact (Below.refl _ w).alloc (Nat.le_refl _) _
 have R : Hid (RefIs W0 (.pointer (some ⟨w.heap.size, 0, none⟩)) nilB) := ref_nil W0 w.heap.size (by rw [← hW0]; exact box_new _ _ _)
 have E := Lib.hid (HEE.out.below hB0)
 have K := Lib.hid (HKK.out.below' hB0)
 replace HZ := Lib.hid (HZ.out.below hB0)
 have HW := Lib.hid hB0
 obtain ⟨ys, hys⟩ : ∃ ys, ys = nilB.full c zs := ⟨_, rfl⟩
 have hly : ys.length ≤ 3240 := by rw [hys]; have h1 := full_len nil_bd c zs; rw [HZ.out.len] at h1; omega
 have HYS := Lib.hid hys
 clear hys hB0 HEE HKK
 have hone := one_R nil_bd
 have HONE := Lib.hid hone
 have HBD := Lib.hid nil_bd
 clear hone
 have F1 := full_any (BaseIs.nil W0) K.out HBD.out HONE.out c A n cp zs HZ.out.rd HZ.out.len HZ.out.r (by omega)
 rw [← HYS.out] at F1
 go_enter Tryz.func9, Tryz.ntmps9
 go_wp2_with fail
 try rw [hW0]
 refine F1.mono ?_
 intro e v0 hf
 obtain ⟨A1, c1, rfl, rd10, hbn⟩ := hf.rd
 clear F1 hf hW0
 replace R := Lib.hid (R.out.below hbn)
 replace E := Lib.hid (E.out.below hbn)
 replace K := Lib.hid (K.out.below' hbn)
 replace HZ := Lib.hid (HZ.out.below hbn)
 replace HW := Lib.hid (below_then HW.out hbn)
 clear hbn
 have RD1 := Lib.hid rd10
 clear rd10
 have C := rfull_any9 R.out HBD.out c A n cp zs HZ.out.rd HZ.out.len HZ.out.r (by omega)
 rw [← HYS.out] at C
 go_wp2_with fail
 refine C.mono ?_
 intro e v1 hf
 obtain ⟨A2, c2, rfl, rd20, hbn⟩ := hf.rd
 clear C hf
 replace R := Lib.hid (R.out.below hbn)
 replace E := Lib.hid (E.out.below hbn)
 replace K := Lib.hid (K.out.below' hbn)
 replace HZ := Lib.hid (HZ.out.below hbn)
 replace RD1 := Lib.hid (RD1.out.below hbn)
 replace HW := Lib.hid (below_then HW.out hbn)
 clear hbn
 have RD2 := Lib.hid rd20
 clear rd20
 have C := runes_same (ca := c1) (cb := c2) RD1.out RD2.out rfl (by omega) (by omega)
 go_wp2_with fail
 refine C.mono ?_
 rintro e v2 ⟨rfl, hbn⟩
 clear C
 replace R := Lib.hid (R.out.below hbn)
 replace E := Lib.hid (E.out.below hbn)
 replace K := Lib.hid (K.out.below' hbn)
 replace HZ := Lib.hid (HZ.out.below hbn)
 replace RD1 := Lib.hid (RD1.out.below hbn)
 replace RD2 := Lib.hid (RD2.out.below hbn)
 replace HW := Lib.hid (below_then HW.out hbn)
 clear hbn
 have C := Order_any (BaseIs.nil _) A n cp zs HZ.out.rd HZ.out.nil HZ.out.len HZ.out.r (by omega)
 rw [nil_ord] at C
 go_wp2_with fail
 refine C.mono ?_
 intro e v3 hf
 obtain ⟨A3, c3, rfl, rd30, hbn⟩ := hf.rd
 clear C hf
 replace R := Lib.hid (R.out.below hbn)
 replace E := Lib.hid (E.out.below hbn)
 replace K := Lib.hid (K.out.below' hbn)
 replace HZ := Lib.hid (HZ.out.below hbn)
 replace RD1 := Lib.hid (RD1.out.below hbn)
 replace RD2 := Lib.hid (RD2.out.below hbn)
 replace HW := Lib.hid (below_then HW.out hbn)
 clear hbn
 have RD3 := Lib.hid rd30
 clear rd30
 have hzl : zs.length ≤ 60 := by have := HZ.out.len; omega
 have C := runes_same (ca := c3) (cb := cp) RD3.out HZ.out.rd rfl (by omega) (by omega)
 go_wp2_with fail
 refine C.mono ?_
 rintro e v4 ⟨rfl, hbn⟩
 clear C
 replace R := Lib.hid (R.out.below hbn)
 replace E := Lib.hid (E.out.below hbn)
 replace K := Lib.hid (K.out.below' hbn)
 replace HZ := Lib.hid (HZ.out.below hbn)
 replace RD1 := Lib.hid (RD1.out.below hbn)
 replace RD2 := Lib.hid (RD2.out.below hbn)
 replace RD3 := Lib.hid (RD3.out.below hbn)
 replace HW := Lib.hid (below_then HW.out hbn)
 clear hbn
 have C := ordered_any (BaseIs.nil _) A n cp zs HZ.out.rd HZ.out.len HZ.out.r (by omega)
 rw [nil_srt] at C
 go_wp2_with fail
 refine C.mono ?_
 rintro e v5 ⟨rfl, hbn⟩
 clear C
 replace R := Lib.hid (R.out.below hbn)
 replace E := Lib.hid (E.out.below hbn)
 replace K := Lib.hid (K.out.below' hbn)
 replace HZ := Lib.hid (HZ.out.below hbn)
 replace RD1 := Lib.hid (RD1.out.below hbn)
 replace RD2 := Lib.hid (RD2.out.below hbn)
 replace RD3 := Lib.hid (RD3.out.below hbn)
 replace HW := Lib.hid (below_then HW.out hbn)
 clear hbn
 obtain ⟨yss, hyss⟩ : ∃ yss, yss = nilB.runs zs := ⟨_, rfl⟩
 have hyl : ((yss.length : Int) == (n : Int)) = true := by rw [hyss, nil_runs, HZ.out.len]; simp
 have HYSS := Lib.hid hyss
 clear hyss
 have C := runs_any (BaseIs.nil _) A n cp zs HZ.out.rd HZ.out.len HZ.out.cap HZ.out.r (by omega)
 rw [← HYSS.out] at C
 go_wp2_with fail
 refine C.mono ?_
 rintro e v6 ⟨os5, A5, c5, _, rfl, _, hbn⟩
 clear C
 replace R := Lib.hid (R.out.below hbn)
 replace E := Lib.hid (E.out.below hbn)
 replace K := Lib.hid (K.out.below' hbn)
 replace HZ := Lib.hid (HZ.out.below hbn)
 replace RD1 := Lib.hid (RD1.out.below hbn)
 replace RD2 := Lib.hid (RD2.out.below hbn)
 replace RD3 := Lib.hid (RD3.out.below hbn)
 replace HW := Lib.hid (below_then HW.out hbn)
 clear hbn
 have AW := awake9_any _ E.out K.out
 go_wp2_with fail
 refine AW.mono ?_
 rintro e v7 ⟨rfl, hbn⟩
 have HW := Lib.hid (below_then HW.out hbn)
 clear AW hbn
 go_wp2
 go_returns
 exact ⟨rfl, HW.out⟩
set_option maxRecDepth 20000 in
set_option maxHeartbeats 4000000 in
theorem decompjoins_yes (s o : ByteArray) (A : Option Addr) (n cp : Nat) (zs : List Int) (c : Bool) (w : World) (hE : Env w) (hk : Kinds w) (hz : ArgR w A n cp zs) :
  Calls Tryz.prog 4 #[.agg #[.string s, .string o], .slice A n cp, .bool c] w fun e w' => e = .returned (.bool true) ∧ Below w.heap.size w w' := by
 obtain ⟨W0, hW0⟩ : ∃ W0, w.alloc (.cells #[.string s, .string o] 23) = W0 := ⟨_, rfl⟩
 have hB0 : Below w.heap.size w W0 := by rw [← hW0]; exact (Below.refl _ w).alloc (Nat.le_refl _) _
 have bx1 : W0.heap[w.heap.size]? = some (.cells #[.string s, .string o] 23 (0, 0)) := by rw [← hW0]; exact box_new w _ _
 have hc0 := box_cell bx1 0 rfl
 have hc1 := box_cell bx1 1 rfl
 have BO := both_any s o W0 (hE.below hB0) (hk.below' hB0)
 have HEE := Lib.hid hE
 have HKK := Lib.hid hk
 have HZ := Lib.hid hz
 clear hE hk bx1 hz
 go_enter Tryz.func4, Tryz.ntmps4
 go_wp2_with fail
 refine BO.mono ?_
 rintro e v0 (⟨rfl, hb0⟩ | ⟨bp, x, B, rfl, hB, hR, hbd, hb0⟩)
 ·have HW := Lib.hid (below_then hB0 hb0)
  clear BO hc0 hc1 hW0 hB0 hb0
  have HE0 := HEE.out.below HW.out
  have HK0 := HKK.out.below' HW.out
  have AW := awake9_any _ HE0 HK0
  go_wp2_with fail
  refine AW.mono ?_
  rintro e v1 ⟨rfl, hbn⟩
  have HW := Lib.hid (below_then HW.out hbn)
  clear AW hbn
  go_wp2
  go_returns
  exact ⟨rfl, HW.out⟩
 have HW := Lib.hid (below_then hB0 hb0)
 have ST : Hid (LawSt v0 bp x B) := ⟨hB, hR, hbd, HEE.out.below HW.out, HKK.out.below' HW.out⟩
 replace HZ := Lib.hid (HZ.out.below HW.out)
 clear BO hc0 hc1 hW0 hB hR hbd hb0 hB0 HEE HKK
 by_cases hn : n ≤ 60
 rotate_left
 ·have hn1 : (60 : Int) < (n : Int) := by omega
  clear hn
  have AW := awake9_any _ ST.out.e ST.out.k
  go_wp2_with fail
  refine AW.mono ?_
  rintro e v1 ⟨rfl, hbn⟩
  have HW := Lib.hid (below_then HW.out hbn)
  clear AW hbn
  go_wp2
  go_returns
  exact ⟨rfl, HW.out⟩
 have hn1 : ¬ (60 : Int) < (n : Int) := by omega
 go_wp2
 have HB0 : Hid (Below v0.heap.size v0 v0) := Below.refl _ _
 go_loopw [9, 10] (fun s9 i wr => ∃ (k : Nat) (out : List Int) (A9 : Option Addr) (c9 : Nat), k ≤ n ∧ i = .int .i64 k ∧ s9 = .slice A9 out.length c9 ∧ Hid (out = (zs.take k).flatMap (B.one c)) ∧ Hid (wr.ownsRow v0.heap.size 21 1 (.slice A9 out.length c9) out.length (Rs out)) ∧ Hid (Below v0.heap.size v0 wr)) (fun _ i _ => n - (intOf i).toNat)
 case atStart => exact ⟨0, [], none, 0, Nat.zero_le _, rfl, rfl, rfl, World.ownsRow_nil _ _ _ _, HB0⟩
 case round =>
  obtain ⟨k, out, A9, c9, hk, rfl, rfl, HOUT, HOWN, HBW⟩ := hrel
  have hol : out.length ≤ 3240 := by
   have h1 := flat_bd (f := B.one c) (fun x => ST.out.bd.len c x) (zs.take k)
   rw [List.length_take] at h1
   rw [HOUT.out]
   omega
  by_cases hlt : k < n
  ·obtain ⟨y, hy⟩ : ∃ y, zs[k]? = some y := ⟨_, List.getElem?_eq_getElem (by rw [HZ.out.len]; exact hlt)⟩
   have STW := ST.out.below HBW.out
   have REC := one_any STW.b STW.k STW.bd c y (HZ.out.r y (List.mem_of_getElem? hy))
   have hly : (B.one c y).length ≤ 54 := ST.out.bd.len c y
   obtain ⟨b, off, rfl, _, hcx⟩ := (HZ.out.rd.below HBW.out).at_ (by omega)
   have c0 := hcx k (.int .i32 y) (by simp [Rs, hy])
   have hki : (k : Int) < (n : Int) := by omega
   have HFT := Lib.hid (flat_take (f := B.one c) hy)
   obtain ⟨ys, hys⟩ : ∃ ys, ys = B.one c y := ⟨_, rfl⟩
   rw [← hys] at REC hly
   have HYS := Lib.hid hys
   clear hy hcx hys STW
   go_wp2_with fail
   refine REC.mono ?_
   rintro e w2 ⟨A2, c2, rfl, hown2, hb2⟩
   obtain ⟨A3, c3, hv3, _, _, hrd2⟩ := Rd.of_own hown2
   injection hv3 with e1 _ e3
   subst e1 e3
   have hownD := own_below HOWN.out hb2
   have hbW := below_then HBW.out hb2
   have hbs := hbW.size
   have hone := Rs_one ys
   clear hown2 REC c0 hb2
   go_wp2_with (at_builtin; refine wpList_app runeElem _ rfl _ _ rfl v0.heap.size rfl hownD rfl hrd2 hone (by omega) (by omega) hbs ?_)
   intro A4 c4 w4 hown4 hg4 hat4
   have hb4 := below_app hbW hbs hownD hg4
   have HO : Hid (out ++ ys = (zs.take (k + 1)).flatMap (B.one c)) := by show _ = _; rw [HFT.out, HOUT.out, HYS.out]
   have hln : out.length + ys.length = (out ++ ys).length := by simp
   have HN2 : Hid (w4.ownsRow v0.heap.size 21 1 (.slice A4 (out ++ ys).length c4) (out ++ ys).length (Rs (out ++ ys))) := by
    show w4.ownsRow _ _ _ _ _ _
    rw [← hln]
    simpa [Rs] using hown4
   have HB4 := Lib.hid hb4
   rw [hln]
   obtain ⟨o2, ho2⟩ : ∃ o2, o2 = out ++ ys := ⟨_, rfl⟩
   rw [← ho2] at HO HN2 ⊢
   clear hown4 hg4 hat4 hownD hbW hrd2 hb4 hln hone ho2
   go_wp2
   go_roundw
   case rel => exact ⟨k + 1, o2, A4, c4, by omega, by go_num, rfl, HO, HN2, HB4⟩
   case measure => simp [intOf]; omega
  ·obtain rfl : k = n := by omega
   have hki : (k : Int) ≤ (k : Int) := Int.le_refl _
   have HAL : Hid (out = B.all c zs) := by
    have h1 := HOUT.out
    rw [List.take_of_length_le (by rw [HZ.out.len]; exact Nat.le_refl _)] at h1
    exact h1
   replace ST := Lib.hid (ST.out.below HBW.out)
   replace HZ := Lib.hid (HZ.out.below HBW.out)
   replace HW := Lib.hid (below_then HW.out HBW.out)
   obtain ⟨Ax, cx, hvx, hcx, _, hrdP⟩ := Rd.of_own HOWN.out
   injection hvx with e1 _ e3
   subst e1 e3
   have RDP := Lib.hid hrdP
   have HOR : Hid (∀ x ∈ out, R32 x) := fun x hx => by
    rw [HAL.out] at hx
    obtain ⟨r, hr, hxr⟩ := List.mem_flatMap.1 hx
    exact one_R ST.out.bd c r (HZ.out.r r hr) x hxr
   have HIR : Hid (∀ x ∈ out, B.parts c x = []) := fun x hx => by
    rw [HAL.out] at hx
    exact B.irr_all c zs x hx
   have HBX := Lib.hid HBW.out
   clear HBW HOUT hrdP HOWN
   obtain ⟨yss, hys⟩ : ∃ yss, yss = B.runs out := ⟨_, rfl⟩
   have hyl : yss.length ≤ 3240 := by rw [hys]; exact Nat.le_trans (runs_len _) hol
   have HYS := Lib.hid hys
   clear hys
   have C := runs_any ST.out.b A9 out.length c9 out RDP.out rfl hcx HOR.out (by omega)
   rw [← HYS.out] at C
   go_wp2_with fail
   refine C.mono ?_
   intro e v1 hf
   obtain ⟨os1, A1, c1, hm1, rfl, hr1, hbn⟩ := hf.rd
   clear C hf
   replace ST := Lib.hid (ST.out.below hbn)
   replace HZ := Lib.hid (HZ.out.below hbn)
   replace RDP := Lib.hid (RDP.out.below hbn)
   replace HW := Lib.hid (below_then HW.out hbn)
   clear hbn
   have RL1 := Lib.hid hr1
   have HM1 := Lib.hid hm1
   clear hr1 hm1
   obtain ⟨N, hN⟩ : ∃ N, N = yss.length := ⟨_, rfl⟩
   rw [← hN] at hyl ⊢
   have HN := Lib.hid hN
   clear hN
   have HRK : Hid (∀ q ∈ yss, q.length ≤ 3240 ∧ q ≠ [] ∧ (∀ x ∈ q, R32 x) ∧ (B.full c q).length = q.length) := fun q hq => by
    rw [HYS.out] at hq
    have h1 := runs_each out hq
    refine ⟨by omega, (runs_ok (B := B) out).ne q hq, fun x hx => HOR.out x ?_, by rw [runs_full out HIR.out hq, ord_len]⟩
    rw [← (runs_ok (B := B) out).flat]
    exact List.mem_flatten.2 ⟨q, hq, hx⟩
   have HHD : Hid (∀ k q x t, 0 < k → yss[k]? = some q → q = x :: t → B.cls x = 0) := by rw [HYS.out]; exact (runs_ok (B := B) out).head
   have HFL : Hid (yss.flatten = out) := by rw [HYS.out]; exact (runs_ok (B := B) out).flat
   have HFF : Hid (yss.flatMap (B.full c) = B.full c zs) := by rw [HYS.out, HAL.out]; exact full_runs c zs
   have HB1 : Hid (Below v1.heap.size v1 v1) := Below.refl _ _
   clear hol
   go_wp2
   go_loopw [12, 13, 14] (fun s12 s13 i wr => ∃ (k La Lw : Nat) (all who : List Int) (Aa Aw : Option Addr) (ca cw : Nat), k ≤ N ∧ La ≤ 3240 ∧ Lw ≤ 3240 ∧ i = .int .i64 k ∧ s12 = .slice Aa La ca ∧ s13 = .slice Aw Lw cw ∧ Hid (La = all.length) ∧ Hid (Lw = who.length) ∧ Hid (all = (yss.take k).flatMap (B.full c)) ∧ Hid (who = (yss.take k).flatten) ∧ Hid (TwoR v1.heap.size wr Aw cw who Aa ca all) ∧ Hid (Below v1.heap.size v1 wr)) (fun _ _ i _ => N - (intOf i).toNat)
   case atStart => exact ⟨0, 0, 0, [], [], none, none, 0, 0, Nat.zero_le _, Nat.zero_le _, Nat.zero_le _, rfl, rfl, rfl, rfl, rfl, rfl, rfl, TwoR.nil _ _, HB1⟩
   case round =>
    obtain ⟨k2, La, Lw, all, who, Aa, Aw, ca, cw, hk2, hla, hlw, rfl, rfl, rfl, HLA, HLW, HALL, HWHO, HTW, HBW⟩ := hrel
    by_cases hlt : k2 < N
    ·have hki2 : (k2 : Int) < (N : Int) := by omega
     obtain ⟨b1, f1, q, Aq, cq, rfl, hc1, hq1, hy1, _⟩ := (RL1.out.below HBW.out).at_ HM1.out (k := k2) (by have := HN.out; omega)
     have hqk := HRK.out q (List.mem_of_getElem? hy1)
     obtain ⟨M, hM⟩ : ∃ M, M = q.length := ⟨_, rfl⟩
     rw [← hM] at hc1 hqk
     have hM0 : 0 < M := by rw [hM]; exact List.length_pos_iff.2 hqk.2.1
     have hMz : ((M : Int) == 0) = false := by rw [beq_eq_false_iff_ne]; omega
     obtain ⟨x, t, hxt⟩ : ∃ x t, q = x :: t := by cases q with | nil => exact absurd rfl hqk.2.1 | cons x t => exact ⟨x, t, rfl⟩
     have hq1' := hq1
     rw [← hM] at hq1'
     have STW := ST.out.below HBW.out
     have CL : 0 < k2 → Calls Tryz.prog 16 #[.pointer (some ⟨bp, 0, none⟩), .int .i32 x] wr fun e w' => e = .returned (.int .i64 0) ∧ Below wr.heap.size wr w' := fun h0 => by
      have h := class_is STW.b x (hqk.2.2.1 x (by rw [hxt]; simp))
      rwa [HHD.out k2 q x t h0 hy1 hxt] at h
     have HFQ := Lib.hid hqk.2.2.2
     have hLa2 : La + M ≤ 3240 ∧ Lw + M ≤ 3240 := by
      have h1 := flat_leq yss (k2 + 1)
      rw [flat_take_l hy1, List.length_append, ← HWHO.out, ← HLW.out, ← hM, HFL.out] at h1
      have h3 : La = Lw := by
       rw [HLA.out, HLW.out, HALL.out, HWHO.out]
       have key : ∀ l : List (List Int), (∀ p ∈ l, p ∈ yss) → (l.flatMap (B.full c)).length = l.flatten.length := fun l => by
        induction l with
        | nil => intro _; rfl
        | cons p l ih => intro h; rw [List.flatMap_cons, List.flatten_cons, List.length_append, List.length_append, ih (fun z hz => h z (by simp [hz])), (HRK.out p (h p (by simp))).2.2.2]
       exact key _ fun p hp => List.mem_of_mem_take hp
      have h4 : out.length ≤ 3240 := by
       have h5 := flat_bd (f := B.one c) (fun x => ST.out.bd.len c x) zs
       have h6 := HZ.out.len
       have h7 : out.length = (zs.flatMap (B.one c)).length := congrArg List.length HAL.out
       omega
      omega
     have HY1 := Lib.hid hy1
     have HQR := Lib.hid hqk.2.2.1
     have HQ1 := Lib.hid hq1'
     have HM2 := Lib.hid hM
     obtain ⟨bq, fq, hAq, _, hcq⟩ := hq1'.at_ hM0
     have cq0 := hcq 0 (.int .i32 x) (by rw [hxt]; simp)
     rw [Nat.add_zero] at cq0
     subst hAq
     have hMp : (0 : Int) < (M : Int) := by omega
     have hMl : M ≤ 3240 := hqk.1
     have GO : Hid (∀ wz : World, Below wr.heap.size wr wz → True) := fun _ _ => trivial
     clear hq1 hq1' hqk hy1 hM hxt hcq STW
     have HLT : Hid (b1 < v1.heap.size ∧ Rd v1 (some ⟨bq, fq, none⟩) M (Rs q)) := by
      obtain ⟨b1', f1', q', Aq', cq', hA', hc1', hq1', hy1', hb1'⟩ := RL1.out.at_ HM1.out (k := k2) (by have := HN.out; omega)
      injection hA' with hA'
      injection hA' with hA1 hA2
      subst hA1 hA2
      have e := (HBW.out.cell (p := ⟨b1, f1 + k2, none⟩) hb1').trans hc1'
      rw [hc1] at e
      injection e with e
      injection e with e1 e2 e3
      rw [HY1.out] at hy1'
      injection hy1' with hy1'
      refine ⟨hb1', ?_⟩
      rw [e1, HM2.out, hy1']
      exact hq1'
     by_cases h0 : 0 < k2
     ·have h0i : (0 : Int) < (k2 : Int) := by omega
      have CL1 := CL h0
      clear CL
      go_wp2_with fail
      refine CL1.mono ?_
      rintro e wz ⟨rfl, hbn⟩
      clear CL1
      have hbz : Below v1.heap.size v1 wz := below_then HBW.out hbn
      have hTz := HTW.out.below hbn
      have hc1z : wz.cell? ⟨b1, f1 + k2, none⟩ = some (.slice (some ⟨bq, fq, none⟩) M cq) := (hbn.cell (p := ⟨b1, f1 + k2, none⟩) (World.block_lt_of_cell? wr _ hc1)).trans hc1
      have hrdz : Rd wz (some ⟨bq, fq, none⟩) M (Rs q) := HQ1.out.below hbn
      have ho1 := hTz.o1
      rw [← HLW.out] at ho1
      have hone := Rs_one q
      have hbsz := hbz.size
      go_wp2_with (at_builtin; refine wpList_app runeElem _ rfl _ _ rfl v1.heap.size rfl ho1 rfl hrdz hone (by omega) (by omega) hbsz ?_)
      intro A4 c4 w4 hown4 hg4 hat4
      have hT4 := hTz.app HLW.out HM2.out hown4 hg4 hat4
      have hb4 := below_app hbz hbsz ho1 hg4
      have STF := ST.out.below hb4
      have hc14 : w4.cell? ⟨b1, f1 + k2, none⟩ = some (.slice (some ⟨bq, fq, none⟩) M cq) := (hb4.cell (p := ⟨b1, f1 + k2, none⟩) HLT.out.1).trans (((hbz.cell (p := ⟨b1, f1 + k2, none⟩) HLT.out.1).symm).trans hc1z)
      have hrd4 : Rd w4 (some ⟨bq, fq, none⟩) M (Rs q) := HLT.out.2.below hb4
      have FU := full_any STF.b STF.k STF.bd (one_R STF.bd) c (some ⟨bq, fq, none⟩) M cq q hrd4 HM2.out.symm HQR.out (by omega)
      obtain ⟨fq2, hfq2⟩ : ∃ fq2, fq2 = B.full c q := ⟨_, rfl⟩
      rw [← hfq2] at FU
      have hfb : fq2.length ≤ 3240 ∧ La + fq2.length ≤ 3240 := by
       have e : fq2.length = M := by rw [hfq2, HFQ.out]
       omega
      have HFQ2 := Lib.hid hfq2
      have HT4 := Lib.hid hT4
      have HB4 := Lib.hid hb4
      clear hown4 hg4 hat4 hT4 hb4 STF hrd4 hone ho1 hrdz hTz hc1z hfq2 hbz
      go_wp2_with fail
      refine FU.mono ?_
      rintro e w5 ⟨A6, c6, rfl, hown6, hb6⟩
      obtain ⟨A7, c7, hv7, _, _, hrd6⟩ := Rd.of_own hown6
      injection hv7 with e1 _ e3
      subst e1 e3
      have hT5 := (HT4.out.below hb6).swap
      have hb5 := below_then HB4.out hb6
      have hbs5 := hb5.size
      have ho5 := hT5.o1
      rw [← HLA.out] at ho5
      have hone6 := Rs_one fq2
      clear FU hown6 hb6 hc14
      go_wp2_with (at_builtin; refine wpList_app runeElem _ rfl _ _ rfl v1.heap.size rfl ho5 rfl hrd6 hone6 (by omega) (by omega) hbs5 ?_)
      intro A8 c8 w8 hown8 hg8 hat8
      have HT8 := Lib.hid (hT5.app HLA.out rfl hown8 hg8 hat8).swap
      have HB8 := Lib.hid (below_app hb5 hbs5 ho5 hg8)
      have HLA8 : Hid (La + fq2.length = (all ++ fq2).length) := by show _ = _; rw [List.length_append, HLA.out]
      have HLW8 : Hid (Lw + M = (who ++ q).length) := by show _ = _; rw [List.length_append, HLW.out, HM2.out]
      have HALL8 : Hid (all ++ fq2 = (yss.take (k2 + 1)).flatMap (B.full c)) := by show _ = _; rw [flatMap_take_l HY1.out, ← HALL.out, HFQ2.out]
      have HWHO8 : Hid (who ++ q = (yss.take (k2 + 1)).flatten) := by show _ = _; rw [flat_take_l HY1.out, ← HWHO.out]
      clear hown8 hg8 hat8 hT5 ho5 hb5 hrd6 hone6
      go_wp2
      go_roundw
      case rel => exact ⟨k2 + 1, _, _, _, _, _, _, _, _, by omega, by omega, by omega, by go_num, rfl, rfl, HLA8, HLW8, HALL8, HWHO8, HT8, HB8⟩
      case measure => simp [intOf]; omega
     ·have h0i : ¬ (0 : Int) < (k2 : Int) := by omega
      clear CL
      obtain ⟨wz, hwz⟩ : ∃ wz, wz = wr := ⟨_, rfl⟩
      subst hwz
      have hbz : Below v1.heap.size v1 wz := HBW.out
      have hTz := HTW.out.below (Below.refl _ _)
      have hc1z : wz.cell? ⟨b1, f1 + k2, none⟩ = some (.slice (some ⟨bq, fq, none⟩) M cq) := hc1
      have hrdz : Rd wz (some ⟨bq, fq, none⟩) M (Rs q) := HQ1.out.below (Below.refl _ _)
      have ho1 := hTz.o1
      rw [← HLW.out] at ho1
      have hone := Rs_one q
      have hbsz := hbz.size
      go_wp2_with (at_builtin; refine wpList_app runeElem _ rfl _ _ rfl v1.heap.size rfl ho1 rfl hrdz hone (by omega) (by omega) hbsz ?_)
      intro A4 c4 w4 hown4 hg4 hat4
      have hT4 := hTz.app HLW.out HM2.out hown4 hg4 hat4
      have hb4 := below_app hbz hbsz ho1 hg4
      have STF := ST.out.below hb4
      have hc14 : w4.cell? ⟨b1, f1 + k2, none⟩ = some (.slice (some ⟨bq, fq, none⟩) M cq) := (hb4.cell (p := ⟨b1, f1 + k2, none⟩) HLT.out.1).trans (((hbz.cell (p := ⟨b1, f1 + k2, none⟩) HLT.out.1).symm).trans hc1z)
      have hrd4 : Rd w4 (some ⟨bq, fq, none⟩) M (Rs q) := HLT.out.2.below hb4
      have FU := full_any STF.b STF.k STF.bd (one_R STF.bd) c (some ⟨bq, fq, none⟩) M cq q hrd4 HM2.out.symm HQR.out (by omega)
      obtain ⟨fq2, hfq2⟩ : ∃ fq2, fq2 = B.full c q := ⟨_, rfl⟩
      rw [← hfq2] at FU
      have hfb : fq2.length ≤ 3240 ∧ La + fq2.length ≤ 3240 := by
       have e : fq2.length = M := by rw [hfq2, HFQ.out]
       omega
      have HFQ2 := Lib.hid hfq2
      have HT4 := Lib.hid hT4
      have HB4 := Lib.hid hb4
      clear hown4 hg4 hat4 hT4 hb4 STF hrd4 hone ho1 hrdz hTz hc1z hfq2 hbz
      go_wp2_with fail
      refine FU.mono ?_
      rintro e w5 ⟨A6, c6, rfl, hown6, hb6⟩
      obtain ⟨A7, c7, hv7, _, _, hrd6⟩ := Rd.of_own hown6
      injection hv7 with e1 _ e3
      subst e1 e3
      have hT5 := (HT4.out.below hb6).swap
      have hb5 := below_then HB4.out hb6
      have hbs5 := hb5.size
      have ho5 := hT5.o1
      rw [← HLA.out] at ho5
      have hone6 := Rs_one fq2
      clear FU hown6 hb6 hc14
      go_wp2_with (at_builtin; refine wpList_app runeElem _ rfl _ _ rfl v1.heap.size rfl ho5 rfl hrd6 hone6 (by omega) (by omega) hbs5 ?_)
      intro A8 c8 w8 hown8 hg8 hat8
      have HT8 := Lib.hid (hT5.app HLA.out rfl hown8 hg8 hat8).swap
      have HB8 := Lib.hid (below_app hb5 hbs5 ho5 hg8)
      have HLA8 : Hid (La + fq2.length = (all ++ fq2).length) := by show _ = _; rw [List.length_append, HLA.out]
      have HLW8 : Hid (Lw + M = (who ++ q).length) := by show _ = _; rw [List.length_append, HLW.out, HM2.out]
      have HALL8 : Hid (all ++ fq2 = (yss.take (k2 + 1)).flatMap (B.full c)) := by show _ = _; rw [flatMap_take_l HY1.out, ← HALL.out, HFQ2.out]
      have HWHO8 : Hid (who ++ q = (yss.take (k2 + 1)).flatten) := by show _ = _; rw [flat_take_l HY1.out, ← HWHO.out]
      clear hown8 hg8 hat8 hT5 ho5 hb5 hrd6 hone6
      go_wp2
      go_roundw
      case rel => exact ⟨k2 + 1, _, _, _, _, _, _, _, _, by omega, by omega, by omega, by go_num, rfl, rfl, HLA8, HLW8, HALL8, HWHO8, HT8, HB8⟩
      case measure => simp [intOf]; omega
    ·obtain rfl : k2 = N := by omega
     have hki2 : (k2 : Int) ≤ (k2 : Int) := Int.le_refl _
     have HA2 : Hid (all = B.full c zs) := by show _ = _; rw [HALL.out, List.take_of_length_le (by rw [HN.out]; exact Nat.le_refl _)]; exact HFF.out
     have HW2 : Hid (who = out) := by show _ = _; rw [HWHO.out, List.take_of_length_le (by rw [HN.out]; exact Nat.le_refl _)]; exact HFL.out
     obtain ⟨Ay, cy, hvy, _, _, hrdw⟩ := Rd.of_own HTW.out.o1
     injection hvy with e1 _ e3
     subst e1 e3
     obtain ⟨Az, cz, hvz, _, _, hrda⟩ := Rd.of_own HTW.out.o2
     injection hvz with e1 _ e3
     subst e1 e3
     rw [← HLW.out] at hrdw
     rw [← HLA.out] at hrda
     have RDW := Lib.hid hrdw
     have RDA := Lib.hid hrda
     clear hrdw hrda
     replace ST := Lib.hid (ST.out.below HBW.out)
     replace HZ := Lib.hid (HZ.out.below HBW.out)
     replace RDP := Lib.hid (RDP.out.below HBW.out)
     replace HW := Lib.hid (below_then HW.out HBW.out)
     have hol : out.length ≤ 3240 := by have := congrArg List.length HW2.out; have := HLW.out; omega
     clear HBW
     have C := runes_same (ca := cw) (cb := c9) RDW.out RDP.out HW2.out (by omega) (by omega)
     go_wp2_with fail
     refine C.mono ?_
     rintro e v10 ⟨rfl, hbn⟩
     clear C
     replace ST := Lib.hid (ST.out.below hbn)
     replace HZ := Lib.hid (HZ.out.below hbn)
     replace RDW := Lib.hid (RDW.out.below hbn)
     replace RDA := Lib.hid (RDA.out.below hbn)
     replace RDP := Lib.hid (RDP.out.below hbn)
     replace HW := Lib.hid (below_then HW.out hbn)
     clear hbn
     have hfz : (B.full c zs).length ≤ 3240 := by rw [← HA2.out, ← HLA.out]; exact hla
     obtain ⟨fz, hfz2⟩ : ∃ fz, fz = B.full c zs := ⟨_, rfl⟩
     rw [← hfz2] at hfz
     have HFZ := Lib.hid hfz2
     clear hfz2
     have C := full_any ST.out.b ST.out.k ST.out.bd (one_R ST.out.bd) c A k cp zs HZ.out.rd HZ.out.len HZ.out.r (by omega)
     rw [← HFZ.out] at C
     go_wp2_with fail
     refine C.mono ?_
     intro e v11 hf
     obtain ⟨A7, c7, rfl, rd70, hbn⟩ := hf.rd
     clear C hf
     replace ST := Lib.hid (ST.out.below hbn)
     replace HZ := Lib.hid (HZ.out.below hbn)
     replace RDW := Lib.hid (RDW.out.below hbn)
     replace RDA := Lib.hid (RDA.out.below hbn)
     replace RDP := Lib.hid (RDP.out.below hbn)
     replace HW := Lib.hid (below_then HW.out hbn)
     clear hbn
     have RD7 := Lib.hid rd70
     clear rd70
     have C := runes_same (ca := ca) (cb := c7) RDA.out RD7.out (HA2.out.trans HFZ.out.symm) (by omega) (by omega)
     go_wp2_with fail
     refine C.mono ?_
     rintro e v12 ⟨rfl, hbn⟩
     clear C
     replace ST := Lib.hid (ST.out.below hbn)
     replace HZ := Lib.hid (HZ.out.below hbn)
     replace RDW := Lib.hid (RDW.out.below hbn)
     replace RDA := Lib.hid (RDA.out.below hbn)
     replace RDP := Lib.hid (RDP.out.below hbn)
     replace RD7 := Lib.hid (RD7.out.below hbn)
     replace HW := Lib.hid (below_then HW.out hbn)
     clear hbn
     have AW := awake9_any _ ST.out.e ST.out.k
     go_wp2_with fail
     refine AW.mono ?_
     rintro e v13 ⟨rfl, hbn⟩
     have HW := Lib.hid (below_then HW.out hbn)
     clear AW hbn
     go_wp2
     go_returns
     exact ⟨rfl, HW.out⟩
end Go.Proofs.YtajkjaciooijjaaGreatDoor
end
