/- ComposeParts: the law. -/
import Derived.Test.YtobleaiecnpcoaaGreatDoorH02
import Derived.Test.YtobleaiecnpcoaaGreatDoorH05
import Derived.Test.YtobleaiecnpcoaaGreatDoorH06
import Derived.Test.YtobleaiecnpcoaaGreatDoorH09
import Derived.Test.YtobleaiecnpcoaaGreatDoorH10
import Derived.Test.YtobleaiecnpcoaaGreatDoorH04
import Derived.Test.YtobleaiecnpcoaaGreatDoorH07
import Derived.Test.YtobleaiecnpcoaaGreatDoorH12
import Derived.Test.YtobleaiecnpcoaaGreatDoorH13
import Derived.Test.YtobleaiecnpcoaaGreatDoorH14
import Derived.Test.YtobleaiecnpcoaaGreatDoorH15
import Derived.Test.YtobleaiecnpcoaaGreatDoorH18
import Derived.Test.YtobleaiecnpcoaaGreatDoorH08
import Derived.Test.YtobleaiecnpcoaaGreatDoorH19
import Derived.Test.YtobleaiecnpcoaaGreatDoorH22
import Derived.Test.YtobleaiecnpcoaaGreatDoorH27
import Derived.Test.YtobleaiecnpcoaaGreatDoorH31
import Derived.Test.YtobleaiecnpcoaaGreatDoorH34
import Derived.Test.YtobleaiecnpcoaaGreatDoorH28
import Derived.Test.YtobleaiecnpcoaaGreatDoorH37
import Derived.Test.YtobleaiecnpcoaaGreatDoorH40
import Derived.Test.YtobleaiecnpcoaaGreatDoorH39
set_option linter.unusedSimpArgs false
set_option linter.unusedVariables false
namespace Go.Proofs.YtobleaiecnpcoaaGreatDoor
open Go.RowKit Go.Lib
set_option maxRecDepth 20000 in
set_option maxHeartbeats 4000000 in
theorem composeparts_yes (s o : ByteArray) (A : Option Addr) (n cp : Nat) (zs : List Int) (Am : Option Addr) (m cm : Nat) (ms : List Int) (w : World) (hE : Env w) (hk : Kinds w) (hz : ArgR w A n cp zs) (hm : ArgR w Am m cm ms) :
  Calls Tryz.prog 6 #[.agg #[.string s, .string o], .slice A n cp, .slice Am m cm] w fun e w' => e = .returned (.bool true) ∧ Below w.heap.size w w' := by
 obtain ⟨W0, hW0⟩ : ∃ W0, w.alloc (.cells #[.string s, .string o] 23) = W0 := ⟨_, rfl⟩
 have hB0 : Below w.heap.size w W0 := by rw [← hW0]; exact (Below.refl _ w).alloc (Nat.le_refl _) _
 have bx1 : W0.heap[w.heap.size]? = some (.cells #[.string s, .string o] 23 (0, 0)) := by rw [← hW0]; exact box_new w _ _
 have hc0 := box_cell bx1 0 rfl
 have hc1 := box_cell bx1 1 rfl
 have BO := both_any s o W0 (hE.below hB0) (hk.below' hB0)
 have HEE := Lib.hid hE
 have HKK := Lib.hid hk
 have HZ := Lib.hid hz
 have HM := Lib.hid hm
 clear hE hk bx1 hz hm
 go_enter Tryz.func6, Tryz.ntmps6
 go_wp2_with fail
 refine BO.mono ?_
 rintro e v0 (⟨rfl, hb0⟩ | ⟨bp, x, B, rfl, hB, hR, hbd, hb0⟩)
 ·have HW := Lib.hid (below_then hB0 hb0)
  clear BO hc0 hc1 hW0 hB0 hb0
  have HE0 := HEE.out.below HW.out
  have HK0 := HKK.out.below' HW.out
  have AW := awakeA_any _ HE0 HK0
  go_wp2_with fail
  refine AW.mono ?_
  rintro e v1 ⟨rfl, hbn⟩
  have HW := Lib.hid (below_then HW.out hbn)
  clear AW hbn
  go_wp2
  go_returns
  exact ⟨rfl, HW.out⟩
 have HW := Lib.hid (below_then hB0 hb0)
 have ST : Hid (LawSt v0 bp x B) := ⟨hB, hR, hbd, HEE.out.below HW.out, HKK.out.below' HW.out⟩
 replace HZ := Lib.hid (HZ.out.below HW.out)
 replace HM := Lib.hid (HM.out.below HW.out)
 clear BO hc0 hc1 hW0 hB hR hbd hb0 hB0 HEE HKK
 by_cases hn : n ≤ 30
 rotate_left
 ·have hn1 : (30 : Int) < (n : Int) := by omega
  clear hn
  have AW := awakeA_any _ ST.out.e ST.out.k
  go_wp2_with fail
  refine AW.mono ?_
  rintro e v1 ⟨rfl, hbn⟩
  have HW := Lib.hid (below_then HW.out hbn)
  clear AW hbn
  go_wp2
  go_returns
  exact ⟨rfl, HW.out⟩
 have hn1 : ¬ (30 : Int) < (n : Int) := by omega
 by_cases hm1 : m ≤ 30
 rotate_left
 ·have hm2 : (30 : Int) < (m : Int) := by omega
  clear hm1
  have AW := awakeA_any _ ST.out.e ST.out.k
  go_wp2_with fail
  refine AW.mono ?_
  rintro e v1 ⟨rfl, hbn⟩
  have HW := Lib.hid (below_then HW.out hbn)
  clear AW hbn
  go_wp2
  go_returns
  exact ⟨rfl, HW.out⟩
 have hm2 : ¬ (30 : Int) < (m : Int) := by omega
 by_cases hm0 : m = 0
 ·have hmz : ((m : Int) == 0) = true := by simpa using hm0
  clear hm0
  have AW := awakeA_any _ ST.out.e ST.out.k
  go_wp2_with fail
  refine AW.mono ?_
  rintro e v1 ⟨rfl, hbn⟩
  have HW := Lib.hid (below_then HW.out hbn)
  clear AW hbn
  go_wp2
  go_returns
  exact ⟨rfl, HW.out⟩
 have hmz : ((m : Int) == 0) = false := by simpa using hm0
 obtain ⟨x, t, hxt⟩ : ∃ x t, ms = x :: t := by
  have := HM.out.len
  cases ms with
  | nil => simp at this; omega
  | cons x t => exact ⟨x, t, rfl⟩
 subst hxt
 obtain ⟨bm, fm, hAm, hbl, hcx⟩ := HM.out.rd.at_ (by omega)
 subst hAm
 have HCX : Hid (∀ W, Below v0.heap.size v0 W → W.cell? ⟨bm, fm, none⟩ = some (.int .i32 x)) := fun W h => (h.cell (p := ⟨bm, fm, none⟩) hbl).trans (by have := hcx 0 (.int .i32 x) (by simp); rwa [Nat.add_zero] at this)
 have c0 := HCX.out v0 (Below.refl _ _)
 have hxR : R32 x := HM.out.r x (by simp)
 have HXR := Lib.hid hxR
 have C1 := class_is ST.out.b x hxR
 obtain ⟨cl, hcl⟩ : ∃ cl, cl = B.cls x := ⟨_, rfl⟩
 rw [← hcl] at C1
 have HCL := Lib.hid hcl
 have hm3 : (0 : Int) < (m : Int) := by omega
 clear hcl hcx hbl hxR hm0
 go_wp2_with fail
 refine C1.mono ?_
 rintro e v1 ⟨rfl, hbn⟩
 clear C1 c0
 have c0 := HCX.out v1 hbn
 have HB01 := Lib.hid hbn
 replace ST := Lib.hid (ST.out.below hbn)
 replace HZ := Lib.hid (HZ.out.below hbn)
 replace HM := Lib.hid (HM.out.below hbn)
 replace HW := Lib.hid (below_then HW.out hbn)
 clear hbn
 by_cases h0 : cl = 0
 rotate_left
 ·have hcb : (cl != 0) = true := by rw [bne_iff_ne]; exact h0
  clear h0
  have AW := awakeA_any _ ST.out.e ST.out.k
  go_wp2_with fail
  refine AW.mono ?_
  rintro e v2 ⟨rfl, hbn⟩
  have HW := Lib.hid (below_then HW.out hbn)
  clear AW hbn
  go_wp2
  go_returns
  exact ⟨rfl, HW.out⟩
 have hcb : (cl != 0) = false := by rw [h0]; rfl
 have HX0 : Hid (B.cls x = 0) := by show _ = _; rw [← HCL.out]; exact h0
 have C2 := sec_is ST.out.b x HXR.out ST.out.k
 obtain ⟨sb, hsb⟩ : ∃ sb, sb = B.sec x := ⟨_, rfl⟩
 rw [← hsb] at C2
 have HSB := Lib.hid hsb
 clear hsb h0
 go_wp2_with fail
 refine C2.mono ?_
 rintro e v2 ⟨rfl, hbn⟩
 clear C2 c0
 replace ST := Lib.hid (ST.out.below hbn)
 replace HZ := Lib.hid (HZ.out.below hbn)
 replace HM := Lib.hid (HM.out.below hbn)
 replace HW := Lib.hid (below_then HW.out hbn)
 clear hbn
 cases sb with
 | true =>
  have AW := awakeA_any _ ST.out.e ST.out.k
  go_wp2_with fail
  refine AW.mono ?_
  rintro e v3 ⟨rfl, hbn⟩
  have HW := Lib.hid (below_then HW.out hbn)
  clear AW hbn
  go_wp2
  go_returns
  exact ⟨rfl, HW.out⟩
 | false =>
  have HJC : Hid (B.join (zs ++ x :: t) = B.join zs ++ B.join (x :: t)) := join_cut zs t HX0.out HSB.out.symm
  obtain ⟨M, hM⟩ : ∃ M, M = x :: t := ⟨_, rfl⟩
  rw [← hM] at HM HJC
  have HAR : Hid (∀ y ∈ zs ++ M, R32 y) := fun y hy => by rcases List.mem_append.1 hy with hy | hy; exact HZ.out.r y hy; exact HM.out.r y hy
  have HZL : Hid (zs.length = n) := HZ.out.len
  have HML : Hid (M.length = m) := HM.out.len
  clear hM HCX HB01 HCL
  have hone1 := Rs_one zs
  have hnil : v2.ownsRow v2.heap.size 21 1 (.slice none 0 0) 0 [] := World.ownsRow_nil _ _ _ _
  have hrz := HZ.out.rd
  go_wp2_with (at_builtin; refine wpList_app runeElem _ rfl _ _ rfl v2.heap.size rfl hnil rfl hrz hone1 (by omega) (by omega) (Nat.le_refl _) ?_)
  intro A3 c3 w3 hown3 hg3 hat3
  have hb3 := below_app (Below.refl v2.heap.size v2) (Nat.le_refl _) hnil hg3
  have hrm := HM.out.rd.below hb3
  have hone2 := Rs_one M
  have hbs3 := hb3.size
  clear hnil hg3 hat3 hrz hone1
  go_wp2_with (at_builtin; refine wpList_app runeElem _ rfl _ _ rfl v2.heap.size rfl hown3 rfl hrm hone2 (by omega) (by omega) hbs3 ?_)
  intro A4 c4 w4 hown4 hg4 hat4
  have hb4 := below_app hb3 hbs3 hown3 hg4
  obtain ⟨Ay, cy, hvy, hLc, hLm, hrd4⟩ := Rd.of_own hown4
  injection hvy with e1 _ e3
  subst e1 e3
  have Z4 : Hid (ArgR w4 A4 (n + m) c4 (zs ++ M)) := by
   refine ⟨by simpa [Rs] using hrd4, by rw [List.length_append, HZL.out, HML.out], HAR.out, hLc, hLm, fun hA => ?_⟩
   rcases hown4.2 with ⟨hv, _⟩ | ⟨g, cap, cur, hv, _⟩
   ·injection hv with _ h1 h2; exact ⟨h1, h2⟩
   ·injection hv with hv _ _; rw [hA] at hv; cases hv
  have hbn := hb4
  clear hown3 hg4 hat4 hown4 hrd4 hb4 hb3 hbs3 hrm hone2 hLc hLm
  replace ST := Lib.hid (ST.out.below hbn)
  replace HZ := Lib.hid (HZ.out.below hbn)
  replace HM := Lib.hid (HM.out.below hbn)
  replace HW := Lib.hid (below_then HW.out hbn)
  clear hbn
  obtain ⟨j1, hj1⟩ : ∃ j1, j1 = B.join zs := ⟨_, rfl⟩
  obtain ⟨j2, hj2⟩ : ∃ j2, j2 = B.join M := ⟨_, rfl⟩
  have hl1 : j1.length ≤ 30 := by rw [hj1]; have h1 := join_len (B := B) zs; rw [HZL.out] at h1; omega
  have hl2 : j2.length ≤ 30 := by rw [hj2]; have h1 := join_len (B := B) M; rw [HML.out] at h1; omega
  have HJ1 := Lib.hid hj1
  have HJ2 := Lib.hid hj2
  rw [← hj1, ← hj2] at HJC
  clear hj1 hj2
  have C := cjoin_any ST.out.b ST.out.k ST.out.bd A n cp zs HZ.out.rd HZ.out.len HZ.out.r (by omega)
  rw [← HJ1.out] at C
  go_wp2_with fail
  refine C.mono ?_
  intro e v5 hf
  obtain ⟨A5, c5, rfl, rd50, hbn⟩ := hf.rd
  clear C hf
  replace ST := Lib.hid (ST.out.below hbn)
  replace HZ := Lib.hid (HZ.out.below hbn)
  replace HM := Lib.hid (HM.out.below hbn)
  replace Z4 := Lib.hid (Z4.out.below hbn)
  replace HW := Lib.hid (below_then HW.out hbn)
  clear hbn
  have RD5 := Lib.hid rd50
  clear rd50
  have ST8 := ST
  have Z48 := Z4
  have HW8 := HW
  have hnil : v5.ownsRow v5.heap.size 21 1 (.slice none 0 0) 0 [] := World.ownsRow_nil _ _ _ _
  have hr5 := RD5.out
  have hone1 := Rs_one j1
  go_wp2_with (at_builtin; refine wpList_app runeElem _ rfl _ _ rfl v5.heap.size rfl hnil rfl hr5 hone1 (by omega) (by omega) (Nat.le_refl _) ?_)
  intro A6 c6 w6 hown6 hg6 hat6
  have hb6 := below_app (Below.refl v5.heap.size v5) (Nat.le_refl _) hnil hg6
  have HOW6 := Lib.hid hown6
  have HB6 := Lib.hid hb6
  have hbn := hb6
  clear hnil hg6 hat6 hr5 hone1 hown6 hb6
  replace ST := Lib.hid (ST.out.below hbn)
  replace HZ := Lib.hid (HZ.out.below hbn)
  replace HM := Lib.hid (HM.out.below hbn)
  replace Z4 := Lib.hid (Z4.out.below hbn)
  replace RD5 := Lib.hid (RD5.out.below hbn)
  replace HW := Lib.hid (below_then HW.out hbn)
  clear hbn
  have C := cjoin_any ST.out.b ST.out.k ST.out.bd (some ⟨bm, fm, none⟩) m cm M HM.out.rd HM.out.len HM.out.r (by omega)
  rw [← HJ2.out] at C
  go_wp2_with fail
  refine C.mono ?_
  intro e w7 hf
  obtain ⟨A7, c7, rfl, hr7, hbn⟩ := hf.rd
  clear C hf
  have hown7 := own_below HOW6.out hbn
  have HB7 := Lib.hid (below_then HB6.out hbn)
  have hbs7 := HB7.out.size
  replace ST := Lib.hid (ST.out.below hbn)
  replace HZ := Lib.hid (HZ.out.below hbn)
  replace HM := Lib.hid (HM.out.below hbn)
  replace Z4 := Lib.hid (Z4.out.below hbn)
  replace RD5 := Lib.hid (RD5.out.below hbn)
  replace HW := Lib.hid (below_then HW.out hbn)
  clear hbn
  have hone2 := Rs_one j2
  go_wp2_with (at_builtin; refine wpList_app runeElem _ rfl _ _ rfl v5.heap.size rfl hown7 rfl hr7 hone2 (by omega) (by omega) hbs7 ?_)
  intro A8 c8 w8 hown8 hg8 hat8
  have hbn : True := trivial
  obtain ⟨Ay, cy, hvy, _, _, hrd8⟩ := Rd.of_own hown8
  injection hvy with e1 _ e3
  subst e1 e3
  have RD8 : Hid (Rd w8 A8 (j1.length + j2.length) (Rs (j1 ++ j2))) := by show Rd _ _ _ _; simpa [Rs] using hrd8
  clear hbn
  have hb8 := below_app HB7.out hbs7 hown7 hg8
  have HB8 := Lib.hid hb8
  clear hown7 hown8 hg8 hat8 hrd8 hb8 hone2 hr7 hbs7
  replace ST := Lib.hid (ST8.out.below HB8.out)
  replace Z4 := Lib.hid (Z48.out.below HB8.out)
  replace HW := Lib.hid (below_then HW8.out HB8.out)
  obtain ⟨jj, hjj⟩ : ∃ jj, jj = j1 ++ j2 := ⟨_, rfl⟩
  rw [← hjj] at HJC RD8
  have hl9 : jj.length ≤ 60 := by rw [hjj, List.length_append]; omega
  clear hjj
  have C := cjoin_any ST.out.b ST.out.k ST.out.bd A4 (n + m) c4 (zs ++ M) Z4.out.rd Z4.out.len Z4.out.r (by omega)
  rw [HJC.out] at C
  go_wp2_with fail
  refine C.mono ?_
  intro e v9 hf
  obtain ⟨A9, c9, rfl, rd90, hbn⟩ := hf.rd
  clear C hf
  replace ST := Lib.hid (ST.out.below hbn)
  replace Z4 := Lib.hid (Z4.out.below hbn)
  replace RD8 := Lib.hid (RD8.out.below hbn)
  replace HW := Lib.hid (below_then HW.out hbn)
  clear hbn
  have RD9 := Lib.hid rd90
  clear rd90
  have C := runes_same (ca := c9) (cb := c8) RD9.out RD8.out rfl (by omega) (by omega)
  go_wp2_with fail
  refine C.mono ?_
  rintro e v10 ⟨rfl, hbn⟩
  clear C
  replace ST := Lib.hid (ST.out.below hbn)
  replace Z4 := Lib.hid (Z4.out.below hbn)
  replace RD8 := Lib.hid (RD8.out.below hbn)
  replace RD9 := Lib.hid (RD9.out.below hbn)
  replace HW := Lib.hid (below_then HW.out hbn)
  clear hbn
  have AW := awakeA_any _ ST.out.e ST.out.k
  go_wp2_with fail
  refine AW.mono ?_
  rintro e v11 ⟨rfl, hbn⟩
  have HW := Lib.hid (below_then HW.out hbn)
  clear AW hbn
  go_wp2
  go_returns
  exact ⟨rfl, HW.out⟩
end Go.Proofs.YtobleaiecnpcoaaGreatDoor
