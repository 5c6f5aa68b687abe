/- What a line tells, by itself: the document's answer. -/
import Derived.Test.YtajkjaciooijjaaGreatDoorH02
import Derived.Test.YtajkjaciooijjaaGreatDoorH01
import Derived.Test.YtajkjaciooijjaaGreatDoorH03
import Derived.Test.YtajkjaciooijjaaGreatDoorH06
import Derived.Test.YtajkjaciooijjaaGreatDoorH09
import Derived.Test.YtajkjaciooijjaaGreatDoorH10
import Derived.Test.YtajkjaciooijjaaGreatDoorH04
import Derived.Test.YtajkjaciooijjaaGreatDoorH33
import Derived.Test.YtajkjaciooijjaaGreatDoorH12
import Derived.Test.YtajkjaciooijjaaGreatDoorH11
section
set_option linter.unusedSimpArgs false
set_option linter.unusedVariables false
namespace Go.Proofs.YtajkjaciooijjaaGreatDoor
open Go.RowKit
set_option maxRecDepth 20000 in
theorem row_res {W : World} {B : Nat} {t : TypeId} {v0 v1 v2 v3 v4 v5 v6 e : Value} {tmps : Array Value} (h : W.heap[B]? = some (.cells #[v0, v1, v2, v3, v4, v5, v6] t (0, 0))) (h2 : tmps.getD 2 undef = .pointer (some ⟨B, 0, none⟩)) (h3 : tmps.getD 3 undef = e) :
  (results Tryz.f56 tmps).run Tryz.prog W = .ok (.tuple #[.agg #[v0, v1, v2, v3, v4, v5, v6], e]) W := by
 have c0 : W.cell? ⟨B, 0, none⟩ = some v0 := box_cell h 0 rfl
 have c1 : W.cell? ⟨B, 1, none⟩ = some v1 := box_cell h 1 rfl
 have c2 : W.cell? ⟨B, 2, none⟩ = some v2 := box_cell h 2 rfl
 have c3 : W.cell? ⟨B, 3, none⟩ = some v3 := box_cell h 3 rfl
 have c4 : W.cell? ⟨B, 4, none⟩ = some v4 := box_cell h 4 rfl
 have c5 : W.cell? ⟨B, 5, none⟩ = some v5 := box_cell h 5 rfl
 have c6 : W.cell? ⟨B, 6, none⟩ = some v6 := box_cell h 6 rfl
 have h2' : tmps[2]?.getD undef = .pointer (some ⟨B, 0, none⟩) := by simpa using h2
 have h3' : tmps[3]?.getD undef = e := by simpa using h3
 simp [results, Tryz.f56, go_sem, h2, h3, h2', h3', c0, c1, c2, c3, c4, c5, c6]
set_option maxRecDepth 20000 in
set_option maxHeartbeats 8000000 in
theorem rrow_any (s : ByteArray) (w : World) (hs : s.size ≤ 1073741824) :
  Calls Tryz.prog 56 #[.string s] w (FreshRow w (parseS (bs s))) := by
 have SP := fun w => rsplit_str s 59 w hs
 rw [show ((UInt8.toNat 59 : Nat) : Int) = 59 from rfl] at SP
 have hpart := cutL_part 59 (bs s)
 unfold parseS
 obtain ⟨L, hL⟩ : ∃ L, L = (cutL 59 (bs s)).map bareL := ⟨_, rfl⟩
 have hpl : ∀ x ∈ L, x.length ≤ s.size := by
  intro x hx
  rw [hL] at hx
  obtain ⟨y, hy, rfl⟩ := List.mem_map.1 hx
  have := hpart y hy
  have := bareL_len y
  rw [bs_length] at *
  omega
 rw [← hL] at SP
 rw [← hL]
 have HPL := Lib.hid hpl
 clear hL hpart hpl
 have hbx := box_new w #[.int .i32 0, .int .i32 0, .string ⟨#[]⟩, .string ⟨#[]⟩, .int .i64 0, .string ⟨#[]⟩, .slice none 0 0] 79
 have hb0 : Below w.heap.size w (w.alloc (.cells #[.int .i32 0, .int .i32 0, .string ⟨#[]⟩, .string ⟨#[]⟩, .int .i64 0, .string ⟨#[]⟩, .slice none 0 0] 79)) := (Below.refl _ _).alloc (Nat.le_refl _) _
 unfold parseF
 by_cases h6 : L.length < 6
 ·rw [if_pos h6]
  have h6i : (L.length : Int) < 6 := by omega
  clear h6
  go_enter Tryz.func56, Tryz.ntmps56
  go_wp2_with fail
  refine (SP _).mono ?_
  intro e w1 hF
  obtain ⟨A, c, rfl, hr, hb⟩ := hF.rd
  clear hF
  replace hbx := box_below hbx hb
  replace hb0 := below_then hb0 hb
  have c0 := box_cell hbx 0 rfl
  have c1 := box_cell hbx 1 rfl
  have c2 := box_cell hbx 2 rfl
  have c3 := box_cell hbx 3 rfl
  have c4 := box_cell hbx 4 rfl
  have c5 := box_cell hbx 5 rfl
  have c6 := box_cell hbx 6 rfl
  have f0 := box_frozen hbx 0
  have f1 := box_frozen hbx 1
  have f2 := box_frozen hbx 2
  have f3 := box_frozen hbx 3
  have f4 := box_frozen hbx 4
  have f5 := box_frozen hbx 5
  have f6 := box_frozen hbx 6
  clear SP
  go_wp2
  refine bodyPost_ret (row_res (set7_box hbx _ _ _ _ _ _ _) rfl rfl) rfl ?_
  exact ⟨none, 0, rfl, World.ownsRow_nil _ _ _ _, set7_below hb0 (Nat.le_refl _) _ _ _ _ _ _ _⟩
 ·rw [if_neg h6]
  have h6i : (6 : Int) ≤ (L.length : Int) := by omega
  have hg : ∀ j, j < 6 → ∃ l, L[j]? = some l ∧ L.getD j [] = l ∧ l.length ≤ 1073741824 := fun j hj => by
   have hj2 : j < L.length := by omega
   refine ⟨L[j], List.getElem?_eq_getElem hj2, by simp [List.getD, List.getElem?_eq_getElem hj2], ?_⟩
   have := HPL.out L[j] (List.getElem_mem hj2)
   omega
  obtain ⟨l0, g0, e0, z0⟩ := hg 0 (by omega)
  obtain ⟨l1, g1, e1, z1⟩ := hg 1 (by omega)
  obtain ⟨l2, g2, e2, z2⟩ := hg 2 (by omega)
  obtain ⟨l3, g3, e3, z3⟩ := hg 3 (by omega)
  obtain ⟨l5, g5, e5, z5⟩ := hg 5 (by omega)
  rw [e0, e1, e2, e3, e5]
  have HX := fun w => rhexM l0 w (by rw [mk8_size]; exact z0)
  have NM := fun w => rdec_any (mk8 l3) w (by rw [mk8_size]; omega)
  have IN := fun w => rinto_any (mk8 l5) w (by rw [mk8_size]; exact z5)
  rw [bs_mk8] at NM IN
  obtain ⟨⟨r, er⟩, hr0⟩ : ∃ z, z = hexS l0 := ⟨_, rfl⟩
  obtain ⟨⟨n, en⟩, hn0⟩ : ∃ z, z = decS l3 := ⟨_, rfl⟩
  obtain ⟨⟨kd, il, ei⟩, hi0⟩ : ∃ z, z = intoS l5 := ⟨_, rfl⟩
  rw [← hr0] at HX
  rw [← hn0] at NM
  rw [← hi0] at IN
  rw [← hr0, ← hn0, ← hi0]
  simp only [] at HX NM IN ⊢
  clear hr0 hn0 hi0 e0 e1 e2 e3 e5 z0 z1 z2 z3 z5 hg h6 HPL
  have HG : Hid (L[0]? = some l0 ∧ L[1]? = some l1 ∧ L[2]? = some l2 ∧ L[3]? = some l3 ∧ L[5]? = some l5) := ⟨g0, g1, g2, g3, g5⟩
  clear g0 g1 g2 g3 g5
  have hll : 6 ≤ L.length := by omega
  by_cases her : er = 0
  ·subst her
   rw [if_neg (show ¬ ((0 : Int) ≠ 0) by simp)]
   by_cases hen : en = 0
   ·subst hen
    rw [if_neg (show ¬ ((0 : Int) ≠ 0) by simp)]
    by_cases hn : 254 < n
    ·rw [if_pos hn]
     clear IN
     go_enter Tryz.func56, Tryz.ntmps56
     go_wp2_with fail
     refine (SP _).mono ?_
     intro e w1 hF
     obtain ⟨A, c, rfl, hown, hb⟩ := hF
     have hr := rd_own hown
     replace hbx := box_below hbx hb
     replace hb0 := below_then hb0 hb
     obtain ⟨b, off, rfl, hbl, hcx⟩ := hr.at_ (by omega)
     have d0 : w1.cell? ⟨b, off, none⟩ = some (.string (mk8 l0)) := hcx 0 (.string (mk8 l0)) (by simp [HG.out.1])
     have d1 := hcx 1 (.string (mk8 l1)) (by simp [HG.out.2.1])
     have d2 := hcx 2 (.string (mk8 l2)) (by simp [HG.out.2.2.1])
     have d3 := hcx 3 (.string (mk8 l3)) (by simp [HG.out.2.2.2.1])
     have d5 := hcx 5 (.string (mk8 l5)) (by simp [HG.out.2.2.2.2])
     clear hcx hr hown hb SP HG hll hbl
     go_wp2_with fail
     refine (HX _).mono ?_
     rintro e w2 ⟨rfl, rfl⟩
     clear d0 HX
     go_wp2_with fail
     refine (NM _).mono ?_
     rintro e w3 ⟨rfl, rfl⟩
     clear d3 NM
     have c0 := box_cell hbx 0 rfl
     have c1 := box_cell hbx 1 rfl
     have c2 := box_cell hbx 2 rfl
     have c3 := box_cell hbx 3 rfl
     have c4 := box_cell hbx 4 rfl
     have c5 := box_cell hbx 5 rfl
     have c6 := box_cell hbx 6 rfl
     have f0 := box_frozen hbx 0
     have f1 := box_frozen hbx 1
     have f2 := box_frozen hbx 2
     have f3 := box_frozen hbx 3
     have f4 := box_frozen hbx 4
     have f5 := box_frozen hbx 5
     have f6 := box_frozen hbx 6
     go_wp2
     refine bodyPost_ret (row_res (set7_box hbx _ _ _ _ _ _ _) rfl rfl) rfl ?_
     exact ⟨none, 0, rfl, World.ownsRow_nil _ _ _ _, set7_below hb0 (Nat.le_refl _) _ _ _ _ _ _ _⟩
    ·rw [if_neg hn]
     have hni : n ≤ 254 := by omega
     clear hn
     by_cases hei : ei = 0
     ·subst hei
      rw [if_neg (show ¬ ((0 : Int) ≠ 0) by simp)]
      go_enter Tryz.func56, Tryz.ntmps56
      go_wp2_with fail
      refine (SP _).mono ?_
      intro e w1 hF
      obtain ⟨A, c, rfl, hown, hb⟩ := hF
      have hr := rd_own hown
      replace hbx := box_below hbx hb
      replace hb0 := below_then hb0 hb
      obtain ⟨b, off, rfl, hbl, hcx⟩ := hr.at_ (by omega)
      have d0 : w1.cell? ⟨b, off, none⟩ = some (.string (mk8 l0)) := hcx 0 (.string (mk8 l0)) (by simp [HG.out.1])
      have d1 := hcx 1 (.string (mk8 l1)) (by simp [HG.out.2.1])
      have d2 := hcx 2 (.string (mk8 l2)) (by simp [HG.out.2.2.1])
      have d3 := hcx 3 (.string (mk8 l3)) (by simp [HG.out.2.2.2.1])
      have d5 := hcx 5 (.string (mk8 l5)) (by simp [HG.out.2.2.2.2])
      clear hcx hr hown hb SP HG hll hbl
      go_wp2_with fail
      refine (HX _).mono ?_
      rintro e w2 ⟨rfl, rfl⟩
      clear d0 HX
      go_wp2_with fail
      refine (NM _).mono ?_
      rintro e w3 ⟨rfl, rfl⟩
      clear d3 NM
      have hz3 := hb0.size
      have hz3' : w.heap.size < w1.heap.size := box_lt hbx
      go_wp2_with fail
      refine (IN _).mono ?_
      intro e w4 hF
      obtain ⟨A5, cp5, rfl, hown5, hb⟩ := hF
      simp only [] at hown5
      replace hbx := box_below hbx hb
      replace d1 := cell_belowU d1 hb
      replace d2 := cell_belowU d2 hb
      replace hb0 := below_then hb0 hb
      clear hb d5 IN
      have c0 := box_cell hbx 0 rfl
      have c1 := box_cell hbx 1 rfl
      have c2 := box_cell hbx 2 rfl
      have c3 := box_cell hbx 3 rfl
      have c4 := box_cell hbx 4 rfl
      have c5 := box_cell hbx 5 rfl
      have c6 := box_cell hbx 6 rfl
      have f0 := box_frozen hbx 0
      have f1 := box_frozen hbx 1
      have f2 := box_frozen hbx 2
      have f3 := box_frozen hbx 3
      have f4 := box_frozen hbx 4
      have f5 := box_frozen hbx 5
      have f6 := box_frozen hbx 6
      go_wp2_with fail
      go_region
      go_wp2
      refine bodyPost_ret (row_res (box_drew (set7_box hbx (.int .i32 r) (.int .i32 r) (.string (mk8 l1)) (.string (mk8 l2)) (.int .i64 n) (.string (mk8 kd)) (.slice A5 il.length cp5))) rfl rfl) rfl ?_
      exact ⟨A5, cp5, rfl, own_base (own_drewU (own_set7 hown5 hz3' (.int .i32 r) (.int .i32 r) (.string (mk8 l1)) (.string (mk8 l2)) (.int .i64 n) (.string (mk8 kd)) (.slice A5 il.length cp5))) (by omega), (set7_below hb0 (Nat.le_refl _) (.int .i32 r) (.int .i32 r) (.string (mk8 l1)) (.string (mk8 l2)) (.int .i64 n) (.string (mk8 kd)) (.slice A5 il.length cp5)).drew⟩
     ·rw [if_pos hei]
      have hne : (ei != 0) = true := by simpa using hei
      clear hei
      go_enter Tryz.func56, Tryz.ntmps56
      go_wp2_with fail
      refine (SP _).mono ?_
      intro e w1 hF
      obtain ⟨A, c, rfl, hown, hb⟩ := hF
      have hr := rd_own hown
      replace hbx := box_below hbx hb
      replace hb0 := below_then hb0 hb
      obtain ⟨b, off, rfl, hbl, hcx⟩ := hr.at_ (by omega)
      have d0 : w1.cell? ⟨b, off, none⟩ = some (.string (mk8 l0)) := hcx 0 (.string (mk8 l0)) (by simp [HG.out.1])
      have d1 := hcx 1 (.string (mk8 l1)) (by simp [HG.out.2.1])
      have d2 := hcx 2 (.string (mk8 l2)) (by simp [HG.out.2.2.1])
      have d3 := hcx 3 (.string (mk8 l3)) (by simp [HG.out.2.2.2.1])
      have d5 := hcx 5 (.string (mk8 l5)) (by simp [HG.out.2.2.2.2])
      clear hcx hr hown hb SP HG hll hbl
      go_wp2_with fail
      refine (HX _).mono ?_
      rintro e w2 ⟨rfl, rfl⟩
      clear d0 HX
      go_wp2_with fail
      refine (NM _).mono ?_
      rintro e w3 ⟨rfl, rfl⟩
      clear d3 NM
      have hz3 := hb0.size
      have hz3' : w.heap.size < w1.heap.size := box_lt hbx
      go_wp2_with fail
      refine (IN _).mono ?_
      intro e w4 hF
      obtain ⟨A5, cp5, rfl, hown5, hb⟩ := hF
      simp only [] at hown5
      replace hbx := box_below hbx hb
      replace d1 := cell_belowU d1 hb
      replace d2 := cell_belowU d2 hb
      replace hb0 := below_then hb0 hb
      clear hb d5 IN
      have c0 := box_cell hbx 0 rfl
      have c1 := box_cell hbx 1 rfl
      have c2 := box_cell hbx 2 rfl
      have c3 := box_cell hbx 3 rfl
      have c4 := box_cell hbx 4 rfl
      have c5 := box_cell hbx 5 rfl
      have c6 := box_cell hbx 6 rfl
      have f0 := box_frozen hbx 0
      have f1 := box_frozen hbx 1
      have f2 := box_frozen hbx 2
      have f3 := box_frozen hbx 3
      have f4 := box_frozen hbx 4
      have f5 := box_frozen hbx 5
      have f6 := box_frozen hbx 6
      go_wp2
      refine bodyPost_ret (row_res (set7_box hbx _ _ _ _ _ _ _) rfl rfl) rfl ?_
      exact ⟨none, 0, rfl, World.ownsRow_nil _ _ _ _, set7_below hb0 (Nat.le_refl _) _ _ _ _ _ _ _⟩
   ·rw [if_pos hen]
    have hne : (en != 0) = true := by simpa using hen
    clear hen IN
    go_enter Tryz.func56, Tryz.ntmps56
    go_wp2_with fail
    refine (SP _).mono ?_
    intro e w1 hF
    obtain ⟨A, c, rfl, hown, hb⟩ := hF
    have hr := rd_own hown
    replace hbx := box_below hbx hb
    replace hb0 := below_then hb0 hb
    obtain ⟨b, off, rfl, hbl, hcx⟩ := hr.at_ (by omega)
    have d0 : w1.cell? ⟨b, off, none⟩ = some (.string (mk8 l0)) := hcx 0 (.string (mk8 l0)) (by simp [HG.out.1])
    have d1 := hcx 1 (.string (mk8 l1)) (by simp [HG.out.2.1])
    have d2 := hcx 2 (.string (mk8 l2)) (by simp [HG.out.2.2.1])
    have d3 := hcx 3 (.string (mk8 l3)) (by simp [HG.out.2.2.2.1])
    have d5 := hcx 5 (.string (mk8 l5)) (by simp [HG.out.2.2.2.2])
    clear hcx hr hown hb SP HG hll hbl
    go_wp2_with fail
    refine (HX _).mono ?_
    rintro e w2 ⟨rfl, rfl⟩
    clear d0 HX
    go_wp2_with fail
    refine (NM _).mono ?_
    rintro e w3 ⟨rfl, rfl⟩
    clear d3 NM
    have c0 := box_cell hbx 0 rfl
    have c1 := box_cell hbx 1 rfl
    have c2 := box_cell hbx 2 rfl
    have c3 := box_cell hbx 3 rfl
    have c4 := box_cell hbx 4 rfl
    have c5 := box_cell hbx 5 rfl
    have c6 := box_cell hbx 6 rfl
    have f0 := box_frozen hbx 0
    have f1 := box_frozen hbx 1
    have f2 := box_frozen hbx 2
    have f3 := box_frozen hbx 3
    have f4 := box_frozen hbx 4
    have f5 := box_frozen hbx 5
    have f6 := box_frozen hbx 6
    go_wp2
    refine bodyPost_ret (row_res (set7_box hbx _ _ _ _ _ _ _) rfl rfl) rfl ?_
    exact ⟨none, 0, rfl, World.ownsRow_nil _ _ _ _, set7_below hb0 (Nat.le_refl _) _ _ _ _ _ _ _⟩
  ·rw [if_pos her]
   have hne : (er != 0) = true := by simpa using her
   clear her NM IN
   go_enter Tryz.func56, Tryz.ntmps56
   go_wp2_with fail
   refine (SP _).mono ?_
   intro e w1 hF
   obtain ⟨A, c, rfl, hown, hb⟩ := hF
   have hr := rd_own hown
   replace hbx := box_below hbx hb
   replace hb0 := below_then hb0 hb
   obtain ⟨b, off, rfl, hbl, hcx⟩ := hr.at_ (by omega)
   have d0 : w1.cell? ⟨b, off, none⟩ = some (.string (mk8 l0)) := hcx 0 (.string (mk8 l0)) (by simp [HG.out.1])
   have d1 := hcx 1 (.string (mk8 l1)) (by simp [HG.out.2.1])
   have d2 := hcx 2 (.string (mk8 l2)) (by simp [HG.out.2.2.1])
   have d3 := hcx 3 (.string (mk8 l3)) (by simp [HG.out.2.2.2.1])
   have d5 := hcx 5 (.string (mk8 l5)) (by simp [HG.out.2.2.2.2])
   clear hcx hr hown hb SP HG hll hbl
   go_wp2_with fail
   refine (HX _).mono ?_
   rintro e w2 ⟨rfl, rfl⟩
   clear d0 HX
   have c0 := box_cell hbx 0 rfl
   have c1 := box_cell hbx 1 rfl
   have c2 := box_cell hbx 2 rfl
   have c3 := box_cell hbx 3 rfl
   have c4 := box_cell hbx 4 rfl
   have c5 := box_cell hbx 5 rfl
   have c6 := box_cell hbx 6 rfl
   have f0 := box_frozen hbx 0
   have f1 := box_frozen hbx 1
   have f2 := box_frozen hbx 2
   have f3 := box_frozen hbx 3
   have f4 := box_frozen hbx 4
   have f5 := box_frozen hbx 5
   have f6 := box_frozen hbx 6
   go_wp2
   refine bodyPost_ret (row_res (set7_box hbx _ _ _ _ _ _ _) rfl rfl) rfl ?_
   exact ⟨none, 0, rfl, World.ownsRow_nil _ _ _ _, set7_below hb0 (Nat.le_refl _) _ _ _ _ _ _ _⟩
end Go.Proofs.YtajkjaciooijjaaGreatDoor
end
