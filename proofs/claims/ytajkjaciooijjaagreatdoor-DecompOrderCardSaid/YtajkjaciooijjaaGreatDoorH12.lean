/- What a line tells, by itself: the code. -/
import Derived.Test.YtajkjaciooijjaaGreatDoorH02
import Derived.Test.YtajkjaciooijjaaGreatDoorH01
import Derived.Test.YtajkjaciooijjaaGreatDoorH06
import Derived.Test.YtajkjaciooijjaaGreatDoorH09
import Derived.Test.YtajkjaciooijjaaGreatDoorH10
import Derived.Test.YtajkjaciooijjaaGreatDoorH04
import Derived.Test.YtajkjaciooijjaaGreatDoorH11
section
set_option linter.unusedSimpArgs false
set_option linter.unusedVariables false
namespace Go.Proofs.YtajkjaciooijjaaGreatDoor
open Go.RowKit
section
variable {w w' : World} {B : Nat} {cur : Array Value} {t : TypeId}
theorem box_cell (h : w.heap[B]? = some (.cells cur t (0, 0))) (j : Nat) {v : Value} (hj : cur[j]? = some v) : w.cell? ⟨B, j, none⟩ = some v := by
 rw [cell_of_row w B j cur t (0, 0) h]; exact hj
theorem box_frozen (h : w.heap[B]? = some (.cells cur t (0, 0))) (j : Nat) : w.frozen? ⟨B, j, none⟩ = false := by simp [World.frozen?, h]
theorem box_lt (h : w.heap[B]? = some (.cells cur t (0, 0))) : B < w.heap.size := (Array.getElem?_eq_some_iff.1 h).1
theorem box_below (h : w.heap[B]? = some (.cells cur t (0, 0))) (hb : Below w.heap.size w w') : w'.heap[B]? = some (.cells cur t (0, 0)) := (hb.block B (box_lt h)).trans h
theorem box_set (h : w.heap[B]? = some (.cells cur t (0, 0))) (j : Nat) (v : Value) : (w.setCell ⟨B, j, none⟩ v).heap[B]? = some (.cells (cur.setIfInBounds j v) t (0, 0)) := by
 have hb := box_lt h
 simp [World.setCell, Array.getElem?_modify, h]
theorem box_new (w : World) (cur : Array Value) (t : TypeId) : (w.alloc (.cells cur t)).heap[w.heap.size]? = some (.cells cur t (0, 0)) := by simp only [World.alloc, Array.getElem?_push_size]
end
theorem cell_belowU {w w' : World} {p : Addr} {u : Value} (h : w.cell? p = some u) (hb : Below w.heap.size w w') : w'.cell? p = some u := (hb.cell (World.block_lt_of_cell? w p h)).trans h
theorem cell_setU {w : World} {b o B j : Nat} {u v : Value} (h : w.cell? ⟨b, o, none⟩ = some u) (hne : ¬ (b = B)) : (w.setCell ⟨B, j, none⟩ v).cell? ⟨b, o, none⟩ = some u :=
 (World.cell?_of_block (Below.heap_setCell w ⟨B, j, none⟩ v b hne)).trans h
theorem own_setU {w : World} {base B j n : Nat} {e : TypeId} {u v : Value} {xs : List Value} (h : w.ownsRow base e 1 u n xs) (hB : B < base) : (w.setCell ⟨B, j, none⟩ v).ownsRow base e 1 u n xs := by
 refine ⟨h.1, ?_⟩
 rcases h.2 with hn | ⟨g, cap, cur, hv, hg, hh, rest⟩
 ·exact .inl hn
 ·exact .inr ⟨g, cap, cur, hv, hg, (Below.heap_setCell w ⟨B, j, none⟩ v g (by show g ≠ B; omega)).trans hh, rest⟩
def set7 (w : World) (B : Nat) (v0 v1 v2 v3 v4 v5 v6 : Value) : World := ((((((w.setCell ⟨B, 0, none⟩ v0).setCell ⟨B, 1, none⟩ v1).setCell ⟨B, 2, none⟩ v2).setCell ⟨B, 3, none⟩ v3).setCell ⟨B, 4, none⟩ v4).setCell ⟨B, 5, none⟩ v5).setCell ⟨B, 6, none⟩ v6
theorem set7_box {w : World} {B : Nat} {t : TypeId} {a0 a1 a2 a3 a4 a5 a6 : Value} (h : w.heap[B]? = some (.cells #[a0, a1, a2, a3, a4, a5, a6] t (0, 0))) (v0 v1 v2 v3 v4 v5 v6 : Value) :
  (set7 w B v0 v1 v2 v3 v4 v5 v6).heap[B]? = some (.cells #[v0, v1, v2, v3, v4, v5, v6] t (0, 0)) := by
 have h0 : (w.setCell ⟨B, 0, none⟩ v0).heap[B]? = some (.cells #[v0, a1, a2, a3, a4, a5, a6] t (0, 0)) := box_set h 0 v0
 have h1 : ((w.setCell ⟨B, 0, none⟩ v0).setCell ⟨B, 1, none⟩ v1).heap[B]? = some (.cells #[v0, v1, a2, a3, a4, a5, a6] t (0, 0)) := box_set h0 1 v1
 have h2 := box_set h1 2 v2
 have h3 := box_set h2 3 v3
 have h4 := box_set h3 4 v4
 have h5 := box_set h4 5 v5
 have h6 := box_set h5 6 v6
 simpa [set7] using h6
theorem set7_below {w0 w : World} {n B : Nat} (h : Below n w0 w) (hB : n ≤ B) (v0 v1 v2 v3 v4 v5 v6 : Value) : Below n w0 (set7 w B v0 v1 v2 v3 v4 v5 v6) :=
 ((((((h.setCell (p := ⟨B, 0, none⟩) hB v0).setCell (p := ⟨B, 1, none⟩) hB v1).setCell (p := ⟨B, 2, none⟩) hB v2).setCell (p := ⟨B, 3, none⟩) hB v3).setCell (p := ⟨B, 4, none⟩) hB v4).setCell (p := ⟨B, 5, none⟩) hB v5).setCell (p := ⟨B, 6, none⟩) hB v6
theorem own_set7 {w : World} {base B n : Nat} {e : TypeId} {u : Value} {xs : List Value} (h : w.ownsRow base e 1 u n xs) (hB : B < base) (v0 v1 v2 v3 v4 v5 v6 : Value) : (set7 w B v0 v1 v2 v3 v4 v5 v6).ownsRow base e 1 u n xs :=
 own_setU (own_setU (own_setU (own_setU (own_setU (own_setU (own_setU h hB) hB) hB) hB) hB) hB) hB
theorem own_drewU {w : World} {base n : Nat} {e : TypeId} {u : Value} {xs : List Value} (h : w.ownsRow base e 1 u n xs) : w.drew.ownsRow base e 1 u n xs := h
theorem box_drew {w : World} {B : Nat} {cur : Array Value} {t : TypeId} (h : w.heap[B]? = some (.cells cur t (0, 0))) : w.drew.heap[B]? = some (.cells cur t (0, 0)) := h
set_option maxRecDepth 20000 in
theorem parse_res {W : World} {B : Nat} {t : TypeId} {v0 v1 v2 v3 v4 v5 v6 e : Value} {tmps : Array Value} (h : W.heap[B]? = some (.cells #[v0, v1, v2, v3, v4, v5, v6] t (0, 0))) (h2 : tmps.getD 2 undef = .pointer (some ⟨B, 0, none⟩)) (h3 : tmps.getD 3 undef = e) :
  (results Tryz.f68 tmps).run Tryz.prog W = .ok (.tuple #[.agg #[v0, v1, v2, v3, v4, v5, v6], e]) W := by
 have c0 : W.cell? ⟨B, 0, none⟩ = some v0 := box_cell h 0 rfl
 have c1 : W.cell? ⟨B, 1, none⟩ = some v1 := box_cell h 1 rfl
 have c2 : W.cell? ⟨B, 2, none⟩ = some v2 := box_cell h 2 rfl
 have c3 : W.cell? ⟨B, 3, none⟩ = some v3 := box_cell h 3 rfl
 have c4 : W.cell? ⟨B, 4, none⟩ = some v4 := box_cell h 4 rfl
 have c5 : W.cell? ⟨B, 5, none⟩ = some v5 := box_cell h 5 rfl
 have c6 : W.cell? ⟨B, 6, none⟩ = some v6 := box_cell h 6 rfl
 have h2' : tmps[2]?.getD undef = .pointer (some ⟨B, 0, none⟩) := by simpa using h2
 have h3' : tmps[3]?.getD undef = e := by simpa using h3
 simp [results, Tryz.f68, go_sem, h2, h3, h2', h3', c0, c1, c2, c3, c4, c5, c6]
def rowV (r : RowS) (A : Option Addr) (c : Nat) : Value := .agg #[.int .i32 r.fr, .int .i32 r.up, .string (mk8 r.nm), .string (mk8 r.ct), .int .i64 r.cl, .string (mk8 r.kd), .slice A r.il.length c]
def FreshRow (w : World) (r : RowS × Int) (e : Ending) (w' : World) : Prop :=
 ∃ A c, e = .returned (.tuple #[rowV r.1 A c, .int .i64 r.2]) ∧ w'.ownsRow w.heap.size 21 1 (.slice A r.1.il.length c) r.1.il.length (Rs r.1.il) ∧ Below w.heap.size w w'
set_option maxRecDepth 20000 in
set_option maxHeartbeats 4000000 in
theorem parse_any (s : ByteArray) (w : World) (hE : Env w) (hs : s.size ≤ 1073741824) :
  Calls Tryz.prog 68 #[.string s] w (FreshRow w (parseS (bs s))) := by
 have SP := fun w h => split04_any s 59 w h hs
 rw [show ((UInt8.toNat 59 : Nat) : Int) = 59 from rfl] at SP
 have hpart := cutL_part 59 (bs s)
 unfold parseS
 obtain ⟨L, hL⟩ : ∃ L, L = (cutL 59 (bs s)).map bareL := ⟨_, rfl⟩
 have hpl : ∀ x ∈ L, x.length ≤ s.size := by
  intro x hx
  rw [hL] at hx
  obtain ⟨y, hy, rfl⟩ := List.mem_map.1 hx
  have := hpart y hy
  have := bareL_len y
  rw [bs_length] at *
  omega
 rw [← hL] at SP
 rw [← hL]
 have HPL := Lib.hid hpl
 clear hL hpart hpl
 have hbx := box_new w #[.int .i32 0, .int .i32 0, .string ⟨#[]⟩, .string ⟨#[]⟩, .int .i64 0, .string ⟨#[]⟩, .slice none 0 0] 129
 have hb0 : Below w.heap.size w (w.alloc (.cells #[.int .i32 0, .int .i32 0, .string ⟨#[]⟩, .string ⟨#[]⟩, .int .i64 0, .string ⟨#[]⟩, .slice none 0 0] 129)) := (Below.refl _ _).alloc (Nat.le_refl _) _
 unfold parseF
 by_cases h6 : L.length < 6
 ·rw [if_pos h6]
  have h6i : (L.length : Int) < 6 := by omega
  clear h6
  go_enter Tryz.func68, Tryz.ntmps68
  go_wp2_with fail
  refine (SP _ (hE.below hb0)).mono ?_
  intro e w1 hF
  obtain ⟨A, c, rfl, hr, hb⟩ := hF.rd
  clear hF
  replace hbx := box_below hbx hb
  have hsz := hb0.size
  replace hb0 := below_then hb0 hb
  have c0 := box_cell hbx 0 rfl
  have c1 := box_cell hbx 1 rfl
  have c2 := box_cell hbx 2 rfl
  have c3 := box_cell hbx 3 rfl
  have c4 := box_cell hbx 4 rfl
  have c5 := box_cell hbx 5 rfl
  have c6 := box_cell hbx 6 rfl
  have f0 := box_frozen hbx 0
  have f1 := box_frozen hbx 1
  have f2 := box_frozen hbx 2
  have f3 := box_frozen hbx 3
  have f4 := box_frozen hbx 4
  have f5 := box_frozen hbx 5
  have f6 := box_frozen hbx 6
  clear SP
  go_wp2
  refine bodyPost_ret (parse_res (set7_box hbx _ _ _ _ _ _ _) rfl rfl) rfl ?_
  exact ⟨none, 0, rfl, World.ownsRow_nil _ _ _ _, set7_below hb0 (Nat.le_refl _) _ _ _ _ _ _ _⟩
 ·rw [if_neg h6]
  have h6i : (6 : Int) ≤ (L.length : Int) := by omega
  have hg : ∀ j, j < 6 → ∃ l, L[j]? = some l ∧ L.getD j [] = l ∧ l.length ≤ 1073741824 := fun j hj => by
   have hj2 : j < L.length := by omega
   refine ⟨L[j], List.getElem?_eq_getElem hj2, by simp [List.getD, List.getElem?_eq_getElem hj2], ?_⟩
   have := HPL.out L[j] (List.getElem_mem hj2)
   omega
  obtain ⟨l0, g0, e0, z0⟩ := hg 0 (by omega)
  obtain ⟨l1, g1, e1, z1⟩ := hg 1 (by omega)
  obtain ⟨l2, g2, e2, z2⟩ := hg 2 (by omega)
  obtain ⟨l3, g3, e3, z3⟩ := hg 3 (by omega)
  obtain ⟨l5, g5, e5, z5⟩ := hg 5 (by omega)
  rw [e0, e1, e2, e3, e5]
  have HX := fun w => hexM l0 w (by rw [mk8_size]; exact z0)
  have NM := fun w => dec_any (mk8 l3) w (by rw [mk8_size]; omega)
  have IN := fun w h => into_any (mk8 l5) w h (by rw [mk8_size]; exact z5)
  rw [bs_mk8] at NM IN
  have hhx := hexS_bd l0
  obtain ⟨⟨r, er⟩, hr0⟩ : ∃ z, z = hexS l0 := ⟨_, rfl⟩
  obtain ⟨⟨n, en⟩, hn0⟩ : ∃ z, z = decS l3 := ⟨_, rfl⟩
  obtain ⟨⟨kd, il, ei⟩, hi0⟩ : ∃ z, z = intoS l5 := ⟨_, rfl⟩
  rw [← hr0] at HX hhx
  rw [← hn0] at NM
  rw [← hi0] at IN
  rw [← hr0, ← hn0, ← hi0]
  simp only [] at HX NM IN hhx ⊢
  clear hr0 hn0 hi0 e0 e1 e2 e3 e5 z0 z1 z2 z3 z5 hg h6 HPL
  have HG : Hid (L[0]? = some l0 ∧ L[1]? = some l1 ∧ L[2]? = some l2 ∧ L[3]? = some l3 ∧ L[5]? = some l5) := ⟨g0, g1, g2, g3, g5⟩
  clear g0 g1 g2 g3 g5
  have hll : 6 ≤ L.length := by omega
  by_cases her : er = 0
  ·subst her
   rw [if_neg (show ¬ ((0 : Int) ≠ 0) by simp)]
   by_cases hen : en = 0
   ·subst hen
    rw [if_neg (show ¬ ((0 : Int) ≠ 0) by simp)]
    by_cases hn : 254 < n
    ·rw [if_pos hn]
     clear IN
     go_enter Tryz.func68, Tryz.ntmps68
     go_wp2_with fail
     refine (SP _ (hE.below hb0)).mono ?_
     intro e w1 hF
     obtain ⟨A, c, rfl, hown, hb⟩ := hF
     have hgt := own_gt hown
     have hr := rd_own hown
     replace hbx := box_below hbx hb
     have hsz : w.heap.size < (w.alloc (.cells #[.int .i32 0, .int .i32 0, .string ⟨#[]⟩, .string ⟨#[]⟩, .int .i64 0, .string ⟨#[]⟩, .slice none 0 0] 129)).heap.size := by simp
     replace hb0 := below_then hb0 hb
     obtain ⟨b, off, rfl, hbl, hcx⟩ := hr.at_ (by omega)
     have hbB : w.heap.size < b := by have := (hgt _ rfl).1; simp only [] at this; omega
     have hbne : ¬ (b = w.heap.size) := by omega
     have hbne2 : ¬ (w.heap.size = b) := by omega
     have d0 : w1.cell? ⟨b, off, none⟩ = some (.string (mk8 l0)) := hcx 0 (.string (mk8 l0)) (by simp [HG.out.1])
     have d1 := hcx 1 (.string (mk8 l1)) (by simp [HG.out.2.1])
     have d2 := hcx 2 (.string (mk8 l2)) (by simp [HG.out.2.2.1])
     have d3 := hcx 3 (.string (mk8 l3)) (by simp [HG.out.2.2.2.1])
     have d5 := hcx 5 (.string (mk8 l5)) (by simp [HG.out.2.2.2.2])
     clear hcx hr hown hgt hb SP HG hsz hll hbl
     go_wp2_with fail
     refine (HX _).mono ?_
     rintro e w2 ⟨rfl, hb⟩
     replace hbx := box_below hbx hb
     replace d1 := cell_belowU d1 hb
     replace d2 := cell_belowU d2 hb
     replace d3 := cell_belowU d3 hb
     replace d5 := cell_belowU d5 hb
     replace hb0 := below_then hb0 hb
     clear hb d0 HX
     have c0 := box_cell hbx 0 rfl
     have c1 := box_cell hbx 1 rfl
     have c2 := box_cell hbx 2 rfl
     have c3 := box_cell hbx 3 rfl
     have c4 := box_cell hbx 4 rfl
     have c5 := box_cell hbx 5 rfl
     have c6 := box_cell hbx 6 rfl
     have f0 := box_frozen hbx 0
     have f1 := box_frozen hbx 1
     have f2 := box_frozen hbx 2
     have f3 := box_frozen hbx 3
     have f4 := box_frozen hbx 4
     have f5 := box_frozen hbx 5
     have f6 := box_frozen hbx 6
     go_wp2_with fail
     refine (NM _).mono ?_
     rintro e w3 ⟨rfl, hb⟩
     replace hbx : w3.heap[w.heap.size]? = some (.cells #[.int .i32 r, .int .i32 0, .string ⟨#[]⟩, .string ⟨#[]⟩, .int .i64 0, .string ⟨#[]⟩, .slice none 0 0] 129 (0, 0)) := box_below (box_set hbx 0 (.int .i32 r)) hb
     replace d1 := cell_belowU (cell_setU d1 hbne) hb
     replace d2 := cell_belowU (cell_setU d2 hbne) hb
     replace d5 := cell_belowU (cell_setU d5 hbne) hb
     replace hb0 := below_then (hb0.setCell (p := ⟨w.heap.size, 0, none⟩) (Nat.le_refl _) _) hb
     clear c0 c1 c2 c3 c4 c5 c6 f0 f1 f2 f3 f4 f5 f6
     clear hb d3 NM
     have c0 := box_cell hbx 0 rfl
     have c1 := box_cell hbx 1 rfl
     have c2 := box_cell hbx 2 rfl
     have c3 := box_cell hbx 3 rfl
     have c4 := box_cell hbx 4 rfl
     have c5 := box_cell hbx 5 rfl
     have c6 := box_cell hbx 6 rfl
     have f0 := box_frozen hbx 0
     have f1 := box_frozen hbx 1
     have f2 := box_frozen hbx 2
     have f3 := box_frozen hbx 3
     have f4 := box_frozen hbx 4
     have f5 := box_frozen hbx 5
     have f6 := box_frozen hbx 6
     go_wp2
     have hbx2 : (w3.setCell ⟨w.heap.size, 4, none⟩ (.int .i64 n)).heap[w.heap.size]? = some (.cells #[.int .i32 r, .int .i32 0, .string ⟨#[]⟩, .string ⟨#[]⟩, .int .i64 n, .string ⟨#[]⟩, .slice none 0 0] 129 (0, 0)) := (box_set hbx 4 (.int .i64 n))
     refine bodyPost_ret (parse_res (set7_box hbx2 _ _ _ _ _ _ _) rfl rfl) rfl ?_
     exact ⟨none, 0, rfl, World.ownsRow_nil _ _ _ _, set7_below (hb0.setCell (p := ⟨w.heap.size, 4, none⟩) (Nat.le_refl _) (.int .i64 n)) (Nat.le_refl _) _ _ _ _ _ _ _⟩
    ·rw [if_neg hn]
     have hni : n ≤ 254 := by omega
     clear hn
     by_cases hei : ei = 0
     ·subst hei
      rw [if_neg (show ¬ ((0 : Int) ≠ 0) by simp)]
      go_enter Tryz.func68, Tryz.ntmps68
      go_wp2_with fail
      refine (SP _ (hE.below hb0)).mono ?_
      intro e w1 hF
      obtain ⟨A, c, rfl, hown, hb⟩ := hF
      have hgt := own_gt hown
      have hr := rd_own hown
      replace hbx := box_below hbx hb
      have hsz : w.heap.size < (w.alloc (.cells #[.int .i32 0, .int .i32 0, .string ⟨#[]⟩, .string ⟨#[]⟩, .int .i64 0, .string ⟨#[]⟩, .slice none 0 0] 129)).heap.size := by simp
      replace hb0 := below_then hb0 hb
      obtain ⟨b, off, rfl, hbl, hcx⟩ := hr.at_ (by omega)
      have hbB : w.heap.size < b := by have := (hgt _ rfl).1; simp only [] at this; omega
      have hbne : ¬ (b = w.heap.size) := by omega
      have hbne2 : ¬ (w.heap.size = b) := by omega
      have d0 : w1.cell? ⟨b, off, none⟩ = some (.string (mk8 l0)) := hcx 0 (.string (mk8 l0)) (by simp [HG.out.1])
      have d1 := hcx 1 (.string (mk8 l1)) (by simp [HG.out.2.1])
      have d2 := hcx 2 (.string (mk8 l2)) (by simp [HG.out.2.2.1])
      have d3 := hcx 3 (.string (mk8 l3)) (by simp [HG.out.2.2.2.1])
      have d5 := hcx 5 (.string (mk8 l5)) (by simp [HG.out.2.2.2.2])
      clear hcx hr hown hgt hb SP HG hsz hll hbl
      go_wp2_with fail
      refine (HX _).mono ?_
      rintro e w2 ⟨rfl, hb⟩
      replace hbx := box_below hbx hb
      replace d1 := cell_belowU d1 hb
      replace d2 := cell_belowU d2 hb
      replace d3 := cell_belowU d3 hb
      replace d5 := cell_belowU d5 hb
      replace hb0 := below_then hb0 hb
      clear hb d0 HX
      have c0 := box_cell hbx 0 rfl
      have c1 := box_cell hbx 1 rfl
      have c2 := box_cell hbx 2 rfl
      have c3 := box_cell hbx 3 rfl
      have c4 := box_cell hbx 4 rfl
      have c5 := box_cell hbx 5 rfl
      have c6 := box_cell hbx 6 rfl
      have f0 := box_frozen hbx 0
      have f1 := box_frozen hbx 1
      have f2 := box_frozen hbx 2
      have f3 := box_frozen hbx 3
      have f4 := box_frozen hbx 4
      have f5 := box_frozen hbx 5
      have f6 := box_frozen hbx 6
      go_wp2_with fail
      refine (NM _).mono ?_
      rintro e w3 ⟨rfl, hb⟩
      replace hbx : w3.heap[w.heap.size]? = some (.cells #[.int .i32 r, .int .i32 0, .string ⟨#[]⟩, .string ⟨#[]⟩, .int .i64 0, .string ⟨#[]⟩, .slice none 0 0] 129 (0, 0)) := box_below (box_set hbx 0 (.int .i32 r)) hb
      replace d1 := cell_belowU (cell_setU d1 hbne) hb
      replace d2 := cell_belowU (cell_setU d2 hbne) hb
      replace d5 := cell_belowU (cell_setU d5 hbne) hb
      replace hb0 := below_then (hb0.setCell (p := ⟨w.heap.size, 0, none⟩) (Nat.le_refl _) _) hb
      clear c0 c1 c2 c3 c4 c5 c6 f0 f1 f2 f3 f4 f5 f6
      clear hb d3 NM
      have c0 := box_cell hbx 0 rfl
      have c1 := box_cell hbx 1 rfl
      have c2 := box_cell hbx 2 rfl
      have c3 := box_cell hbx 3 rfl
      have c4 := box_cell hbx 4 rfl
      have c5 := box_cell hbx 5 rfl
      have c6 := box_cell hbx 6 rfl
      have f0 := box_frozen hbx 0
      have f1 := box_frozen hbx 1
      have f2 := box_frozen hbx 2
      have f3 := box_frozen hbx 3
      have f4 := box_frozen hbx 4
      have f5 := box_frozen hbx 5
      have f6 := box_frozen hbx 6
      have hz3 := hb0.size
      have hz3' : w.heap.size < w3.heap.size := box_lt hbx
      go_wp2_with fail
      refine (IN _ (hE.below (hb0.setCell (p := ⟨w.heap.size, 4, none⟩) (Nat.le_refl _) _))).mono ?_
      intro e w4 hF
      obtain ⟨A5, cp5, rfl, hown5, hb⟩ := hF
      simp only [] at hown5
      replace hbx : w4.heap[w.heap.size]? = some (.cells #[.int .i32 r, .int .i32 0, .string ⟨#[]⟩, .string ⟨#[]⟩, .int .i64 n, .string ⟨#[]⟩, .slice none 0 0] 129 (0, 0)) := box_below (box_set hbx 4 (.int .i64 n)) hb
      replace d1 := cell_belowU (cell_setU d1 hbne) hb
      replace d2 := cell_belowU (cell_setU d2 hbne) hb
      replace hb0 := below_then (hb0.setCell (p := ⟨w.heap.size, 4, none⟩) (Nat.le_refl _) _) hb
      clear c0 c1 c2 c3 c4 c5 c6 f0 f1 f2 f3 f4 f5 f6
      clear hb d5 IN
      have c0 := box_cell hbx 0 rfl
      have c1 := box_cell hbx 1 rfl
      have c2 := box_cell hbx 2 rfl
      have c3 := box_cell hbx 3 rfl
      have c4 := box_cell hbx 4 rfl
      have c5 := box_cell hbx 5 rfl
      have c6 := box_cell hbx 6 rfl
      have f0 := box_frozen hbx 0
      have f1 := box_frozen hbx 1
      have f2 := box_frozen hbx 2
      have f3 := box_frozen hbx 3
      have f4 := box_frozen hbx 4
      have f5 := box_frozen hbx 5
      have f6 := box_frozen hbx 6
      go_upto_region 15 with fail
      clear c0 c1 c2 c3 c4 c5 c6 f0 f1 f2 f3 f4 f5 f6
      have hbx5 : ((w4.setCell ⟨w.heap.size, 5, none⟩ (.string (mk8 kd))).setCell ⟨w.heap.size, 6, none⟩ (.slice A5 il.length cp5)).heap[w.heap.size]? = some (.cells #[.int .i32 r, .int .i32 0, .string ⟨#[]⟩, .string ⟨#[]⟩, .int .i64 n, .string (mk8 kd), .slice A5 il.length cp5] 129 (0, 0)) := box_set (box_set hbx 5 (.string (mk8 kd))) 6 (.slice A5 il.length cp5)
      have d1' := cell_setU (j := 6) (v := .slice A5 il.length cp5) (cell_setU (j := 5) (v := .string (mk8 kd)) d1 hbne) hbne
      have d2' := cell_setU (j := 6) (v := .slice A5 il.length cp5) (cell_setU (j := 5) (v := .string (mk8 kd)) d2 hbne) hbne
      have hb5 := (hb0.setCell (p := ⟨w.heap.size, 5, none⟩) (Nat.le_refl _) (.string (mk8 kd))).setCell (p := ⟨w.heap.size, 6, none⟩) (Nat.le_refl _) (.slice A5 il.length cp5)
      have ho5 := own_setU (j := 6) (v := .slice A5 il.length cp5) (own_setU (j := 5) (v := .string (mk8 kd)) hown5 (by simp; exact hz3')) (by simp; exact hz3')
      clear hbx d1 d2 hb0 hown5
      obtain ⟨W5, hW5⟩ : ∃ W5, (w4.setCell ⟨w.heap.size, 5, none⟩ (.string (mk8 kd))).setCell ⟨w.heap.size, 6, none⟩ (.slice A5 il.length cp5) = W5 := ⟨_, rfl⟩
      rw [hW5] at hbx5 d1' d2' hb5 ho5
      rw [hW5]
      clear hW5
      have c0 := box_cell hbx5 0 rfl
      have c1 := box_cell hbx5 1 rfl
      have c2 := box_cell hbx5 2 rfl
      have c3 := box_cell hbx5 3 rfl
      have c4 := box_cell hbx5 4 rfl
      have c5 := box_cell hbx5 5 rfl
      have c6 := box_cell hbx5 6 rfl
      have f0 := box_frozen hbx5 0
      have f1 := box_frozen hbx5 1
      have f2 := box_frozen hbx5 2
      have f3 := box_frozen hbx5 3
      have f4 := box_frozen hbx5 4
      have f5 := box_frozen hbx5 5
      have f6 := box_frozen hbx5 6
      go_region
      go_wp2
      have hbx6 : (((W5.setCell ⟨w.heap.size, 1, none⟩ (.int .i32 r)).setCell ⟨w.heap.size, 2, none⟩ (.string (mk8 l1))).setCell ⟨w.heap.size, 3, none⟩ (.string (mk8 l2))).heap[w.heap.size]? = some (.cells #[.int .i32 r, .int .i32 r, .string (mk8 l1), .string (mk8 l2), .int .i64 n, .string (mk8 kd), .slice A5 il.length cp5] 129 (0, 0)) := box_set (box_set (box_set hbx5 1 (.int .i32 r)) 2 (.string (mk8 l1))) 3 (.string (mk8 l2))
      have hb6 := ((hb5.setCell (p := ⟨w.heap.size, 1, none⟩) (Nat.le_refl _) (.int .i32 r)).setCell (p := ⟨w.heap.size, 2, none⟩) (Nat.le_refl _) (.string (mk8 l1))).setCell (p := ⟨w.heap.size, 3, none⟩) (Nat.le_refl _) (.string (mk8 l2))
      have ho6 := own_setU (j := 3) (v := .string (mk8 l2)) (own_setU (j := 2) (v := .string (mk8 l1)) (own_setU (j := 1) (v := .int .i32 r) ho5 (by simp; exact hz3')) (by simp; exact hz3')) (by simp; exact hz3')
      have hbx7 := set7_box hbx6 (.int .i32 r) (.int .i32 r) (.string (mk8 l1)) (.string (mk8 l2)) (.int .i64 n) (.string (mk8 kd)) (.slice A5 il.length cp5)
      have hb7 := set7_below hb6 (Nat.le_refl _) (.int .i32 r) (.int .i32 r) (.string (mk8 l1)) (.string (mk8 l2)) (.int .i64 n) (.string (mk8 kd)) (.slice A5 il.length cp5)
      have ho7 := own_set7 ho6 (by simp; exact hz3') (.int .i32 r) (.int .i32 r) (.string (mk8 l1)) (.string (mk8 l2)) (.int .i64 n) (.string (mk8 kd)) (.slice A5 il.length cp5)
      refine bodyPost_ret (parse_res (box_drew hbx7) rfl rfl) rfl ?_
      exact ⟨A5, cp5, rfl, own_base (own_drewU ho7) (by simp; omega), hb7.drew⟩
     ·rw [if_pos hei]
      have hne : (ei != 0) = true := by simpa using hei
      clear hei
      go_enter Tryz.func68, Tryz.ntmps68
      go_wp2_with fail
      refine (SP _ (hE.below hb0)).mono ?_
      intro e w1 hF
      obtain ⟨A, c, rfl, hown, hb⟩ := hF
      have hgt := own_gt hown
      have hr := rd_own hown
      replace hbx := box_below hbx hb
      have hsz : w.heap.size < (w.alloc (.cells #[.int .i32 0, .int .i32 0, .string ⟨#[]⟩, .string ⟨#[]⟩, .int .i64 0, .string ⟨#[]⟩, .slice none 0 0] 129)).heap.size := by simp
      replace hb0 := below_then hb0 hb
      obtain ⟨b, off, rfl, hbl, hcx⟩ := hr.at_ (by omega)
      have hbB : w.heap.size < b := by have := (hgt _ rfl).1; simp only [] at this; omega
      have hbne : ¬ (b = w.heap.size) := by omega
      have hbne2 : ¬ (w.heap.size = b) := by omega
      have d0 : w1.cell? ⟨b, off, none⟩ = some (.string (mk8 l0)) := hcx 0 (.string (mk8 l0)) (by simp [HG.out.1])
      have d1 := hcx 1 (.string (mk8 l1)) (by simp [HG.out.2.1])
      have d2 := hcx 2 (.string (mk8 l2)) (by simp [HG.out.2.2.1])
      have d3 := hcx 3 (.string (mk8 l3)) (by simp [HG.out.2.2.2.1])
      have d5 := hcx 5 (.string (mk8 l5)) (by simp [HG.out.2.2.2.2])
      clear hcx hr hown hgt hb SP HG hsz hll hbl
      go_wp2_with fail
      refine (HX _).mono ?_
      rintro e w2 ⟨rfl, hb⟩
      replace hbx := box_below hbx hb
      replace d1 := cell_belowU d1 hb
      replace d2 := cell_belowU d2 hb
      replace d3 := cell_belowU d3 hb
      replace d5 := cell_belowU d5 hb
      replace hb0 := below_then hb0 hb
      clear hb d0 HX
      have c0 := box_cell hbx 0 rfl
      have c1 := box_cell hbx 1 rfl
      have c2 := box_cell hbx 2 rfl
      have c3 := box_cell hbx 3 rfl
      have c4 := box_cell hbx 4 rfl
      have c5 := box_cell hbx 5 rfl
      have c6 := box_cell hbx 6 rfl
      have f0 := box_frozen hbx 0
      have f1 := box_frozen hbx 1
      have f2 := box_frozen hbx 2
      have f3 := box_frozen hbx 3
      have f4 := box_frozen hbx 4
      have f5 := box_frozen hbx 5
      have f6 := box_frozen hbx 6
      go_wp2_with fail
      refine (NM _).mono ?_
      rintro e w3 ⟨rfl, hb⟩
      replace hbx : w3.heap[w.heap.size]? = some (.cells #[.int .i32 r, .int .i32 0, .string ⟨#[]⟩, .string ⟨#[]⟩, .int .i64 0, .string ⟨#[]⟩, .slice none 0 0] 129 (0, 0)) := box_below (box_set hbx 0 (.int .i32 r)) hb
      replace d1 := cell_belowU (cell_setU d1 hbne) hb
      replace d2 := cell_belowU (cell_setU d2 hbne) hb
      replace d5 := cell_belowU (cell_setU d5 hbne) hb
      replace hb0 := below_then (hb0.setCell (p := ⟨w.heap.size, 0, none⟩) (Nat.le_refl _) _) hb
      clear c0 c1 c2 c3 c4 c5 c6 f0 f1 f2 f3 f4 f5 f6
      clear hb d3 NM
      have c0 := box_cell hbx 0 rfl
      have c1 := box_cell hbx 1 rfl
      have c2 := box_cell hbx 2 rfl
      have c3 := box_cell hbx 3 rfl
      have c4 := box_cell hbx 4 rfl
      have c5 := box_cell hbx 5 rfl
      have c6 := box_cell hbx 6 rfl
      have f0 := box_frozen hbx 0
      have f1 := box_frozen hbx 1
      have f2 := box_frozen hbx 2
      have f3 := box_frozen hbx 3
      have f4 := box_frozen hbx 4
      have f5 := box_frozen hbx 5
      have f6 := box_frozen hbx 6
      have hz3 := hb0.size
      have hz3' : w.heap.size < w3.heap.size := box_lt hbx
      go_wp2_with fail
      refine (IN _ (hE.below (hb0.setCell (p := ⟨w.heap.size, 4, none⟩) (Nat.le_refl _) _))).mono ?_
      intro e w4 hF
      obtain ⟨A5, cp5, rfl, hown5, hb⟩ := hF
      simp only [] at hown5
      replace hbx : w4.heap[w.heap.size]? = some (.cells #[.int .i32 r, .int .i32 0, .string ⟨#[]⟩, .string ⟨#[]⟩, .int .i64 n, .string ⟨#[]⟩, .slice none 0 0] 129 (0, 0)) := box_below (box_set hbx 4 (.int .i64 n)) hb
      replace d1 := cell_belowU (cell_setU d1 hbne) hb
      replace d2 := cell_belowU (cell_setU d2 hbne) hb
      replace hb0 := below_then (hb0.setCell (p := ⟨w.heap.size, 4, none⟩) (Nat.le_refl _) _) hb
      clear c0 c1 c2 c3 c4 c5 c6 f0 f1 f2 f3 f4 f5 f6
      clear hb d5 IN
      have c0 := box_cell hbx 0 rfl
      have c1 := box_cell hbx 1 rfl
      have c2 := box_cell hbx 2 rfl
      have c3 := box_cell hbx 3 rfl
      have c4 := box_cell hbx 4 rfl
      have c5 := box_cell hbx 5 rfl
      have c6 := box_cell hbx 6 rfl
      have f0 := box_frozen hbx 0
      have f1 := box_frozen hbx 1
      have f2 := box_frozen hbx 2
      have f3 := box_frozen hbx 3
      have f4 := box_frozen hbx 4
      have f5 := box_frozen hbx 5
      have f6 := box_frozen hbx 6
      go_wp2
      have hbx2 : ((w4.setCell ⟨w.heap.size, 5, none⟩ (.string (mk8 kd))).setCell ⟨w.heap.size, 6, none⟩ (.slice A5 il.length cp5)).heap[w.heap.size]? = some (.cells #[.int .i32 r, .int .i32 0, .string ⟨#[]⟩, .string ⟨#[]⟩, .int .i64 n, .string (mk8 kd), .slice A5 il.length cp5] 129 (0, 0)) := (box_set (box_set hbx 5 (.string (mk8 kd))) 6 (.slice A5 il.length cp5))
      refine bodyPost_ret (parse_res (set7_box hbx2 _ _ _ _ _ _ _) rfl rfl) rfl ?_
      exact ⟨none, 0, rfl, World.ownsRow_nil _ _ _ _, set7_below ((hb0.setCell (p := ⟨w.heap.size, 5, none⟩) (Nat.le_refl _) (.string (mk8 kd))).setCell (p := ⟨w.heap.size, 6, none⟩) (Nat.le_refl _) (.slice A5 il.length cp5)) (Nat.le_refl _) _ _ _ _ _ _ _⟩
   ·rw [if_pos hen]
    have hne : (en != 0) = true := by simpa using hen
    clear hen IN
    go_enter Tryz.func68, Tryz.ntmps68
    go_wp2_with fail
    refine (SP _ (hE.below hb0)).mono ?_
    intro e w1 hF
    obtain ⟨A, c, rfl, hown, hb⟩ := hF
    have hgt := own_gt hown
    have hr := rd_own hown
    replace hbx := box_below hbx hb
    have hsz : w.heap.size < (w.alloc (.cells #[.int .i32 0, .int .i32 0, .string ⟨#[]⟩, .string ⟨#[]⟩, .int .i64 0, .string ⟨#[]⟩, .slice none 0 0] 129)).heap.size := by simp
    replace hb0 := below_then hb0 hb
    obtain ⟨b, off, rfl, hbl, hcx⟩ := hr.at_ (by omega)
    have hbB : w.heap.size < b := by have := (hgt _ rfl).1; simp only [] at this; omega
    have hbne : ¬ (b = w.heap.size) := by omega
    have hbne2 : ¬ (w.heap.size = b) := by omega
    have d0 : w1.cell? ⟨b, off, none⟩ = some (.string (mk8 l0)) := hcx 0 (.string (mk8 l0)) (by simp [HG.out.1])
    have d1 := hcx 1 (.string (mk8 l1)) (by simp [HG.out.2.1])
    have d2 := hcx 2 (.string (mk8 l2)) (by simp [HG.out.2.2.1])
    have d3 := hcx 3 (.string (mk8 l3)) (by simp [HG.out.2.2.2.1])
    have d5 := hcx 5 (.string (mk8 l5)) (by simp [HG.out.2.2.2.2])
    clear hcx hr hown hgt hb SP HG hsz hll hbl
    go_wp2_with fail
    refine (HX _).mono ?_
    rintro e w2 ⟨rfl, hb⟩
    replace hbx := box_below hbx hb
    replace d1 := cell_belowU d1 hb
    replace d2 := cell_belowU d2 hb
    replace d3 := cell_belowU d3 hb
    replace d5 := cell_belowU d5 hb
    replace hb0 := below_then hb0 hb
    clear hb d0 HX
    have c0 := box_cell hbx 0 rfl
    have c1 := box_cell hbx 1 rfl
    have c2 := box_cell hbx 2 rfl
    have c3 := box_cell hbx 3 rfl
    have c4 := box_cell hbx 4 rfl
    have c5 := box_cell hbx 5 rfl
    have c6 := box_cell hbx 6 rfl
    have f0 := box_frozen hbx 0
    have f1 := box_frozen hbx 1
    have f2 := box_frozen hbx 2
    have f3 := box_frozen hbx 3
    have f4 := box_frozen hbx 4
    have f5 := box_frozen hbx 5
    have f6 := box_frozen hbx 6
    go_wp2_with fail
    refine (NM _).mono ?_
    rintro e w3 ⟨rfl, hb⟩
    replace hbx : w3.heap[w.heap.size]? = some (.cells #[.int .i32 r, .int .i32 0, .string ⟨#[]⟩, .string ⟨#[]⟩, .int .i64 0, .string ⟨#[]⟩, .slice none 0 0] 129 (0, 0)) := box_below (box_set hbx 0 (.int .i32 r)) hb
    replace d1 := cell_belowU (cell_setU d1 hbne) hb
    replace d2 := cell_belowU (cell_setU d2 hbne) hb
    replace d5 := cell_belowU (cell_setU d5 hbne) hb
    replace hb0 := below_then (hb0.setCell (p := ⟨w.heap.size, 0, none⟩) (Nat.le_refl _) _) hb
    clear c0 c1 c2 c3 c4 c5 c6 f0 f1 f2 f3 f4 f5 f6
    clear hb d3 NM
    have c0 := box_cell hbx 0 rfl
    have c1 := box_cell hbx 1 rfl
    have c2 := box_cell hbx 2 rfl
    have c3 := box_cell hbx 3 rfl
    have c4 := box_cell hbx 4 rfl
    have c5 := box_cell hbx 5 rfl
    have c6 := box_cell hbx 6 rfl
    have f0 := box_frozen hbx 0
    have f1 := box_frozen hbx 1
    have f2 := box_frozen hbx 2
    have f3 := box_frozen hbx 3
    have f4 := box_frozen hbx 4
    have f5 := box_frozen hbx 5
    have f6 := box_frozen hbx 6
    go_wp2
    have hbx2 : (w3.setCell ⟨w.heap.size, 4, none⟩ (.int .i64 n)).heap[w.heap.size]? = some (.cells #[.int .i32 r, .int .i32 0, .string ⟨#[]⟩, .string ⟨#[]⟩, .int .i64 n, .string ⟨#[]⟩, .slice none 0 0] 129 (0, 0)) := (box_set hbx 4 (.int .i64 n))
    refine bodyPost_ret (parse_res (set7_box hbx2 _ _ _ _ _ _ _) rfl rfl) rfl ?_
    exact ⟨none, 0, rfl, World.ownsRow_nil _ _ _ _, set7_below (hb0.setCell (p := ⟨w.heap.size, 4, none⟩) (Nat.le_refl _) (.int .i64 n)) (Nat.le_refl _) _ _ _ _ _ _ _⟩
  ·rw [if_pos her]
   have hne : (er != 0) = true := by simpa using her
   clear her NM IN
   go_enter Tryz.func68, Tryz.ntmps68
   go_wp2_with fail
   refine (SP _ (hE.below hb0)).mono ?_
   intro e w1 hF
   obtain ⟨A, c, rfl, hown, hb⟩ := hF
   have hgt := own_gt hown
   have hr := rd_own hown
   replace hbx := box_below hbx hb
   have hsz : w.heap.size < (w.alloc (.cells #[.int .i32 0, .int .i32 0, .string ⟨#[]⟩, .string ⟨#[]⟩, .int .i64 0, .string ⟨#[]⟩, .slice none 0 0] 129)).heap.size := by simp
   replace hb0 := below_then hb0 hb
   obtain ⟨b, off, rfl, hbl, hcx⟩ := hr.at_ (by omega)
   have hbB : w.heap.size < b := by have := (hgt _ rfl).1; simp only [] at this; omega
   have hbne : ¬ (b = w.heap.size) := by omega
   have hbne2 : ¬ (w.heap.size = b) := by omega
   have d0 : w1.cell? ⟨b, off, none⟩ = some (.string (mk8 l0)) := hcx 0 (.string (mk8 l0)) (by simp [HG.out.1])
   have d1 := hcx 1 (.string (mk8 l1)) (by simp [HG.out.2.1])
   have d2 := hcx 2 (.string (mk8 l2)) (by simp [HG.out.2.2.1])
   have d3 := hcx 3 (.string (mk8 l3)) (by simp [HG.out.2.2.2.1])
   have d5 := hcx 5 (.string (mk8 l5)) (by simp [HG.out.2.2.2.2])
   clear hcx hr hown hgt hb SP HG hsz hll hbl
   go_wp2_with fail
   refine (HX _).mono ?_
   rintro e w2 ⟨rfl, hb⟩
   replace hbx := box_below hbx hb
   replace d1 := cell_belowU d1 hb
   replace d2 := cell_belowU d2 hb
   replace d3 := cell_belowU d3 hb
   replace d5 := cell_belowU d5 hb
   replace hb0 := below_then hb0 hb
   clear hb d0 HX
   have c0 := box_cell hbx 0 rfl
   have c1 := box_cell hbx 1 rfl
   have c2 := box_cell hbx 2 rfl
   have c3 := box_cell hbx 3 rfl
   have c4 := box_cell hbx 4 rfl
   have c5 := box_cell hbx 5 rfl
   have c6 := box_cell hbx 6 rfl
   have f0 := box_frozen hbx 0
   have f1 := box_frozen hbx 1
   have f2 := box_frozen hbx 2
   have f3 := box_frozen hbx 3
   have f4 := box_frozen hbx 4
   have f5 := box_frozen hbx 5
   have f6 := box_frozen hbx 6
   go_wp2
   have hbx2 : (w2.setCell ⟨w.heap.size, 0, none⟩ (.int .i32 r)).heap[w.heap.size]? = some (.cells #[.int .i32 r, .int .i32 0, .string ⟨#[]⟩, .string ⟨#[]⟩, .int .i64 0, .string ⟨#[]⟩, .slice none 0 0] 129 (0, 0)) := (box_set hbx 0 (.int .i32 r))
   refine bodyPost_ret (parse_res (set7_box hbx2 _ _ _ _ _ _ _) rfl rfl) rfl ?_
   exact ⟨none, 0, rfl, World.ownsRow_nil _ _ _ _, set7_below (hb0.setCell (p := ⟨w.heap.size, 0, none⟩) (Nat.le_refl _) (.int .i32 r)) (Nat.le_refl _) _ _ _ _ _ _ _⟩
end Go.Proofs.YtajkjaciooijjaaGreatDoor
end
