/- A range's last line: the code's inner function. A line of a file: the code's inner function that takes it. -/
import Derived.Deep.RegionHeld3
import Derived.Test.YtajkjaciooijjaaGreatDoorH02
import Derived.Test.YtajkjaciooijjaaGreatDoorH01
import Derived.Test.YtajkjaciooijjaaGreatDoorH09
import Derived.Test.YtajkjaciooijjaaGreatDoorH06
import Derived.Test.YtajkjaciooijjaaGreatDoorH10
import Derived.Test.YtajkjaciooijjaaGreatDoorH04
import Derived.Test.YtajkjaciooijjaaGreatDoorH11
import Derived.Test.YtajkjaciooijjaaGreatDoorH12
import Derived.Test.YtajkjaciooijjaaGreatDoorH13
section
set_option linter.unusedSimpArgs false
set_option linter.unusedVariables false
namespace Go.Proofs.YtajkjaciooijjaaGreatDoor
open Go.RowKit
theorem tl_ne {a b : List UInt8} (h : ¬ a = b) : ((mk8 a).toList == (mk8 b).toList) = false := by
 rw [beq_eq_false_iff_ne]
 intro hh
 rw [toList_bs, toList_bs, bs_mk8, bs_mk8] at hh
 exact h hh
theorem tl_ne2 {a b : List UInt8} (h : ¬ a = b) : ¬ ((mk8 a).toList = (mk8 b).toList) := by
 intro hh
 rw [toList_bs, toList_bs, bs_mk8, bs_mk8] at hh
 exact h hh
theorem cell_allocU {w : World} {p : Addr} {u : Value} (h : w.cell? p = some u) (o : Obj) : (w.alloc o).cell? p = some u :=
 (((Below.refl w.heap.size w).alloc (Nat.le_refl _) o).cell (World.block_lt_of_cell? w _ h)).trans h
section
variable {w w' : World} {b1 : Nat} {a2 a3 a4 a5 a6 : Addr} {u2 u3 u4 u5 u6 : Value}
theorem keepC_mk (h2 : w.cell? a2 = some u2) (h3 : w.cell? a3 = some u3) (h4 : w.cell? a4 = some u4) (h5 : w.cell? a5 = some u5) (h6 : w.cell? a6 = some u6) (hf : w.frozen? ⟨b1, 0, none⟩ = false) :
  w.drew.cell? a2 = some u2 ∧ w.drew.cell? a3 = some u3 ∧ w.drew.cell? a4 = some u4 ∧ w.drew.cell? a5 = some u5 ∧ w.drew.cell? a6 = some u6 ∧ w.drew.frozen? ⟨b1, 0, none⟩ = false := ⟨h2, h3, h4, h5, h6, hf⟩
theorem keepC_alloc (h : w.cell? a2 = some u2 ∧ w.cell? a3 = some u3 ∧ w.cell? a4 = some u4 ∧ w.cell? a5 = some u5 ∧ w.cell? a6 = some u6 ∧ w.frozen? ⟨b1, 0, none⟩ = false) (hle : b1 ≤ a2.block) (o : Obj) :
  (w.alloc o).cell? a2 = some u2 ∧ (w.alloc o).cell? a3 = some u3 ∧ (w.alloc o).cell? a4 = some u4 ∧ (w.alloc o).cell? a5 = some u5 ∧ (w.alloc o).cell? a6 = some u6 ∧ (w.alloc o).frozen? ⟨b1, 0, none⟩ = false :=
 ⟨cell_allocU h.1 o, cell_allocU h.2.1 o, cell_allocU h.2.2.1 o, cell_allocU h.2.2.2.1 o, cell_allocU h.2.2.2.2.1 o, (((Below.refl w.heap.size w).alloc (Nat.le_refl _) o).frozen (p := ⟨b1, 0, none⟩) (Nat.lt_of_le_of_lt hle (World.block_lt_of_cell? w _ h.1))).trans h.2.2.2.2.2⟩
theorem keepC_grown {row : Option Nat} (h : w.cell? a2 = some u2 ∧ w.cell? a3 = some u3 ∧ w.cell? a4 = some u4 ∧ w.cell? a5 = some u5 ∧ w.cell? a6 = some u6 ∧ w.frozen? ⟨b1, 0, none⟩ = false) (hle : b1 ≤ a2.block) (hg : w.grownBy w' row)
  (n1 : row ≠ some b1) (n2 : row ≠ some a2.block) (n3 : row ≠ some a3.block) (n4 : row ≠ some a4.block) (n5 : row ≠ some a5.block) (n6 : row ≠ some a6.block) :
  w'.cell? a2 = some u2 ∧ w'.cell? a3 = some u3 ∧ w'.cell? a4 = some u4 ∧ w'.cell? a5 = some u5 ∧ w'.cell? a6 = some u6 ∧ w'.frozen? ⟨b1, 0, none⟩ = false :=
 ⟨hg.cell h.1 (Ne.symm n2), hg.cell h.2.1 (Ne.symm n3), hg.cell h.2.2.1 (Ne.symm n4), hg.cell h.2.2.2.1 (Ne.symm n5), hg.cell h.2.2.2.2.1 (Ne.symm n6), (hg.frozen_far ⟨b1, 0, none⟩ (Nat.lt_of_le_of_lt hle (World.block_lt_of_cell? w _ h.1)) (Ne.symm n1)).trans h.2.2.2.2.2⟩
theorem cell_setB {w : World} {a p : Addr} {u v : Value} (h : w.cell? a = some u) (hne : a.block ≠ p.block) : (w.setCell p v).cell? a = some u := (World.cell?_of_block (Below.heap_setCell w p v a.block hne)).trans h
theorem keepC_set {v : Value} (h : w.cell? a2 = some u2 ∧ w.cell? a3 = some u3 ∧ w.cell? a4 = some u4 ∧ w.cell? a5 = some u5 ∧ w.cell? a6 = some u6 ∧ w.frozen? ⟨b1, 0, none⟩ = false) (p : Addr)
  (n2 : a2.block ≠ p.block) (n3 : a3.block ≠ p.block) (n4 : a4.block ≠ p.block) (n5 : a5.block ≠ p.block) (n6 : a6.block ≠ p.block) :
  (w.setCell p v).cell? a2 = some u2 ∧ (w.setCell p v).cell? a3 = some u3 ∧ (w.setCell p v).cell? a4 = some u4 ∧ (w.setCell p v).cell? a5 = some u5 ∧ (w.setCell p v).cell? a6 = some u6 ∧ (w.setCell p v).frozen? ⟨b1, 0, none⟩ = false :=
 ⟨cell_setB h.1 n2, cell_setB h.2.1 n3, cell_setB h.2.2.1 n4, cell_setB h.2.2.2.1 n5, cell_setB h.2.2.2.2.1 n6, by rw [World.frozen?_setCell]; exact h.2.2.2.2.2⟩
end
theorem innerF (l : List UInt8) (w : World) (hs : l.length ≤ 1073741824) :
  Calls Tryz.prog 66 #[.string (mk8 l), .string ⟨#[44, 32, 70, 105, 114, 115, 116, 62]⟩] w fun e w' => e = .returned (.tuple #[.string (mk8 (innerS l FSTB).1), .bool (innerS l FSTB).2]) ∧ w = w' := by
 have := inner_any (mk8 l) ⟨#[44, 32, 70, 105, 114, 115, 116, 62]⟩ w (by rw [mk8_size]; omega)
 rw [bs_mk8] at this
 exact this
theorem innerL (l : List UInt8) (w : World) (hs : l.length ≤ 1073741824) :
  Calls Tryz.prog 66 #[.string (mk8 l), .string ⟨#[44, 32, 76, 97, 115, 116, 62]⟩] w fun e w' => e = .returned (.tuple #[.string (mk8 (innerS l LSTB).1), .bool (innerS l LSTB).2]) ∧ w = w' := by
 have := inner_any (mk8 l) ⟨#[44, 32, 76, 97, 115, 116, 62]⟩ w (by rw [mk8_size]; omega)
 rw [bs_mk8] at this
 exact this
theorem app_fin {p : Nat} {w W2 W3 w4 : World} {os : List RA} {A A4 q : Option Addr} {c c4 : Nat} {x : RA} {u z : Value} (hpw : p + 3 < w.heap.size) (hB2 : Below w.heap.size w W2) (hB3 : Below W2.heap.size W2 W3)
  (r3 : RowsAt 129 (p + 4) W2 os A c) (b2 : W2.heap[p]? = some (.cells #[.slice A os.length c] 85 (0, 0))) (b4 : W2.heap[p + 1]? = some (.cells #[.pointer q] 128 (0, 0)))
  (b7 : W2.heap[p + 2]? = some (.cells #[u] 21 (0, 0))) (b8 : W2.heap[p + 3]? = some (.cells #[closV p] 130 (0, 0))) (hx : IntoAt (p + 4) W2 x)
  (hown4 : w4.ownsRow (p + 4) 129 7 (.slice A4 (os.length + 1) c4) (os.length + 1) (Vs os ++ rowC x)) (hg : W3.grownBy w4 (Value.slice A os.length c).ownBlock) :
  ∃ W6, W6 = (w4.setCell ⟨p, 0, none⟩ (.slice A4 (os.length + 1) c4)).setCell ⟨p + 2, 0, none⟩ z ∧ W6.heap[p]? = some (.cells #[.slice A4 (os.length + 1) c4] 85 (0, 0)) ∧ RowsAt 129 (p + 4) W6 (os ++ [x]) A4 c4 ∧
   W6.heap[p + 1]? = some (.cells #[.pointer q] 128 (0, 0)) ∧ W6.heap[p + 2]? = some (.cells #[z] 21 (0, 0)) ∧ W6.heap[p + 3]? = some (.cells #[closV p] 130 (0, 0)) ∧ Below p w W6 := by
 have hlt : ∀ k, (Value.slice A os.length c).ownBlock = some k → p + 4 ≤ k ∧ k < W2.heap.size := r3.own.lt
 have hN : ∀ j, j < p + 4 → (Value.slice A os.length c).ownBlock ≠ some j := fun j hj h => by have := hlt _ h; omega
 have rA := RowsAt.app (r3.below hB3) (own_same hx (fun g _ hg => hB3.block g hg)) (by decide) hown4 hg
 have d2 := box_grown (box_below b2 hB3) hg (hN p (by omega))
 have d4 := box_grown (box_below b4 hB3) hg (hN (p + 1) (by omega))
 have d7 := box_grown (box_below b7 hB3) hg (hN (p + 2) (by omega))
 have d8 := box_grown (box_below b8 hB3) hg (hN (p + 3) (by omega))
 refine ⟨_, rfl, ?_, (rA.setCell (by simp)).setCell (by simp), ?_, ?_, ?_, ?_⟩
 ·exact box_setU (box_set d2 0 (.slice A4 (os.length + 1) c4)) (by omega)
 ·exact box_setU (box_setU d4 (by omega)) (by omega)
 ·exact box_set (box_setU d7 (by omega)) 0 z
 ·exact box_setU (box_setU d8 (by omega)) (by omega)
 ·have h1 : Below p w W3 := (hB2.mono (by omega)).trans (hB3.mono (by have := hB2.size; omega))
  exact ((h1.grown hg (by have := h1.size; omega) (fun k hk => by have := hlt k hk; omega)).setCell (p := ⟨p, 0, none⟩) (Nat.le_refl _) _).setCell (p := ⟨p + 2, 0, none⟩) (by simp) _
set_option maxRecDepth 20000 in
set_option maxHeartbeats 4000000 in
theorem closes_any (p : Nat) (st : StU) (f x : RowS) (Ax : Option Addr) (cx : Nat) (w : World) (hst : st.op = some f) (hh : HoldsU p st w) (hf : RowOk 1073741824 f) (hx : RowOk 1073741824 x) (hol : st.out.length ≤ 100000) :
  Calls Tryz.prog 65 #[rowV x Ax cx, .pointer (some ⟨p + 1, 0, none⟩), .pointer (some ⟨p, 0, none⟩), .pointer (some ⟨p + 2, 0, none⟩)] w (fun e w' => e = .returned (.int .i64 (closeS st f x).2) ∧ HoldsU p (closeS st f x).1 w' ∧ Below p w w' ∧ ((closeS st f x).2 ≠ 0 → Below w.heap.size w w')) := by
 have HH := Lib.hid hh
 obtain ⟨os, A, c, q, h1, h2, h3, h4, _, h6, h7, h8⟩ := hh
 obtain ⟨b, Af, cf, hbp, rfl, hbf, hap⟩ := h6 f hst
 have IF := fun w => innerF f.nm w hf.1
 have IL := fun w => innerL x.nm w hx.1
 have hil : x.il.length + f.il.length ≤ 36 := by have := hf.2; have := hx.2; omega
 have hol2 : os.length ≤ 100000 := by rw [← h1, List.length_map] at hol; exact hol
 clear h6
 obtain ⟨⟨an, ai⟩, ha⟩ : ∃ a, a = innerS f.nm FSTB := ⟨_, rfl⟩
 obtain ⟨⟨bn, bi⟩, hb⟩ : ∃ a, a = innerS x.nm LSTB := ⟨_, rfl⟩
 rw [← ha] at IF
 rw [← hb] at IL
 have hpw : p < w.heap.size := box_lt h2
 have HB : closeB f x ↔ (bn ≠ an ∨ x.ct ≠ f.ct ∨ x.cl ≠ f.cl ∨ 0 < x.il.length + f.il.length ∨ x.fr < f.fr) := by unfold closeB; rw [← ha, ← hb]
 have HYES : closeB f x → closeS st f x = (st, 10) := fun h => if_pos h
 have HNO : ¬ closeB f x → closeS st f x = (⟨st.out ++ [⟨f.fr, x.fr, an, x.ct, x.cl, [], []⟩], none, x.fr⟩, 0) := fun h => by unfold closeS; rw [if_neg h]; unfold rangeR; rw [← ha]
 rw [HB] at HYES HNO
 obtain ⟨R, hR⟩ : ∃ R, R = closeS st f x := ⟨_, rfl⟩
 rw [← hR] at HYES HNO ⊢
 simp only [] at IF IL
 clear ha hb hf hx hR HB
 obtain ⟨ff, fu, fn, fct, fcl, fk, fil⟩ := f
 obtain ⟨xf, xu, xn, xct, xcl, xk, xil⟩ := x
 simp only [rowC, rowV] at hbf hil IF IL HYES HNO ⊢
 have hbx := box_new w #[.int .i32 xf, .int .i32 xu, .string (mk8 xn), .string (mk8 xct), .int .i64 xcl, .string (mk8 xk), .slice Ax xil.length cx] 129
 have hb0 : Below w.heap.size w (w.alloc (.cells #[.int .i32 xf, .int .i32 xu, .string (mk8 xn), .string (mk8 xct), .int .i64 xcl, .string (mk8 xk), .slice Ax xil.length cx] 129)) := (Below.refl _ _).alloc (Nat.le_refl _) _
 have c1 := box_cell (box_below h4 hb0) 0 rfl
 have e0 := box_cell (box_below hbf hb0) 0 rfl
 have e2 := box_cell (box_below hbf hb0) 2 rfl
 have e3 := box_cell (box_below hbf hb0) 3 rfl
 have e4 := box_cell (box_below hbf hb0) 4 rfl
 have e6 := box_cell (box_below hbf hb0) 6 rfl
 have d0 := box_cell hbx 0 rfl
 have d2 := box_cell hbx 2 rfl
 have d3 := box_cell hbx 3 rfl
 have d4 := box_cell hbx 4 rfl
 have d6 := box_cell hbx 6 rfl
 have HB0 := Lib.hid hb0
 have HBX := Lib.hid hbx
 have HST := Lib.hid hst
 have HF := Lib.hid (And.intro hbf (And.intro h4 (And.intro h7 (And.intro h8 (And.intro h1 (And.intro h2 (And.intro h3 hap)))))))
 clear hb0 hbx hst hbf h4 h7 h8 h1 h2 h3 hap hol
 by_cases hab : bn = an
 ·subst hab
  by_cases hab : xct = fct
  ·subst hab
   by_cases hab : xcl = fcl
   ·subst hab
    by_cases hab : 0 < xil.length + fil.length
    ·replace HYES := Lib.hid (HYES (.inr (.inr (.inr (.inl hab)))))
     clear HNO
     have hsum : IntKind.i64.wrap ((xil.length : Int) + (fil.length : Int)) = (xil.length : Int) + (fil.length : Int) := by rw [IntWalk.i64_in] <;> omega
     have hpos : (0 : Int) < (xil.length : Int) + (fil.length : Int) := by omega
     clear hab
     go_enter Tryz.func65, Tryz.ntmps65
     go_wp2_with fail
     generalize w.alloc _ = W at *
     refine (IF _).mono ?_
     rintro e w1 ⟨rfl, rfl⟩
     go_wp2_with fail
     refine (IL _).mono ?_
     rintro e w1 ⟨rfl, rfl⟩
     clear IF IL
     go_wp2
     go_quiet (fail)
     go_wp2
     go_returns
     rw [HYES.out]
     exact ⟨rfl, HH.out.below (below_drew' HB0.out _), (below_drew' HB0.out _).mono (by omega), fun _ => below_drew' HB0.out _⟩
    ·have hx0 : xil = [] := List.eq_nil_of_length_eq_zero (by omega)
     have hf0 : fil = [] := List.eq_nil_of_length_eq_zero (by omega)
     subst hx0
     subst hf0
     simp only [List.length_nil] at *
     clear hab
     by_cases hab : xf < ff
     ·replace HYES := Lib.hid (HYES (.inr (.inr (.inr (.inr hab)))))
      clear HNO
      have hsum : IntKind.i64.wrap (0 : Int) = 0 := by decide
      go_enter Tryz.func65, Tryz.ntmps65
      go_wp2_with fail
      generalize w.alloc _ = W at *
      refine (IF _).mono ?_
      rintro e w1 ⟨rfl, rfl⟩
      go_wp2_with fail
      refine (IL _).mono ?_
      rintro e w1 ⟨rfl, rfl⟩
      clear IF IL
      go_wp2
      go_quiet (fail)
      go_wp2
      go_returns
      rw [HYES.out]
      exact ⟨rfl, HH.out.below (below_drew' HB0.out _), (below_drew' HB0.out _).mono (by omega), fun _ => below_drew' HB0.out _⟩
     ·replace HNO := Lib.hid (HNO (by simp; omega))
      clear HYES
      have hsum : IntKind.i64.wrap (0 : Int) = 0 := by decide
      have hle : ff ≤ xf := by omega
      have hnlt : decide (xf < ff) = false := by simpa using hle
      clear hab
      go_enter Tryz.func65, Tryz.ntmps65
      go_wp2_with fail
      generalize w.alloc _ = W at *
      refine (IF _).mono ?_
      rintro e w1 ⟨rfl, rfl⟩
      go_wp2_with fail
      refine (IL _).mono ?_
      rintro e w1 ⟨rfl, rfl⟩
      clear IF IL
      go_wp2
      go_quiet (fail)
      go_wp2
      clear c1 d0 d2 d3 d4 d6 e0 e2 e3 e4 e6 hnlt hsum hil
      generalize hW2 : W.drewN nq = W2
      have hB2 : Below w.heap.size w W2 := by rw [← hW2]; exact below_drew' HB0.out _
      have hbx2 : W2.heap[w.heap.size]? = some (.cells #[.int .i32 xf, .int .i32 xu, .string (mk8 xn), .string (mk8 xct), .int .i64 xcl, .string (mk8 xk), .slice Ax 0 cx] 129 (0, 0)) := by rw [← hW2]; exact HBX.out
      clear hW2 HB0 HBX
      clear W
      obtain ⟨hbf, h4, h7, h8, h1, h2, h3, hap⟩ := HF.out
      have hz2 : w.heap.size < W2.heap.size := box_lt hbx2
      have r3 := h3.below hB2
      have b2 := box_below h2 hB2
      have b4 := box_below h4 hB2
      have b7 := box_below h7 hB2
      have b8 := box_below h8 hB2
      have bf := box_below hbf hB2
      have hlt : ∀ k, (Value.slice A os.length c).ownBlock = some k → p + 4 ≤ k ∧ k < w.heap.size := h3.own.lt
      have hC1 : W2.drew.cell? ⟨p, 0, none⟩ = some (.slice A os.length c) := box_cell b2 0 rfl
      have hC2 : (W2.drew.alloc (.cells (rowC (⟨ff, xf, bn, xct, xcl, [], []⟩, none, 0)).toArray 129)).cell? ⟨p, 0, none⟩ = some (.slice A os.length c) := cell_allocU hC1 _
      have hC3 : (W2.alloc (.cells (rowC (⟨ff, xf, bn, xct, xcl, [], []⟩, none, 0)).toArray 129)).cell? ⟨p, 0, none⟩ = some (.slice A os.length c) := hC2
      have HS : W2.drew.cell? ⟨p + 1, 0, none⟩ = some (.pointer (some ⟨b, 0, none⟩)) ∧ W2.drew.cell? ⟨b, 0, none⟩ = some (.int .i32 ff) ∧ W2.drew.cell? ⟨w.heap.size, 0, none⟩ = some (.int .i32 xf) ∧ W2.drew.cell? ⟨w.heap.size, 3, none⟩ = some (.string (mk8 xct)) ∧ W2.drew.cell? ⟨w.heap.size, 4, none⟩ = some (.int .i64 xcl) ∧ W2.drew.frozen? ⟨p, 0, none⟩ = false := keepC_mk (box_cell b4 0 rfl) (box_cell bf 0 rfl) (box_cell hbx2 0 rfl) (box_cell hbx2 3 rfl) (box_cell hbx2 4 rfl) (box_frozen b2 0)
      have hrow : rowC (⟨ff, xf, bn, xct, xcl, [], []⟩, none, 0) = [.int .i32 ff, .int .i32 xf, .string (mk8 bn), .string (mk8 xct), .int .i64 xcl, .string ⟨#[]⟩, .slice none 0 0] := rfl
      have hbA : Below W2.heap.size W2 (W2.drew.alloc (.cells (rowC (⟨ff, xf, bn, xct, xcl, [], []⟩, none, 0)).toArray 129)) := (Below.refl _ _).drew.alloc (Nat.le_refl _) _
      have hownA := (r3.below hbA).own
      have hrdA := RdK.new (k := 7) W2.drew 129 1 (rowC (⟨ff, xf, bn, xct, xcl, [], []⟩, none, 0)) rfl
      have honeA := rowC_one (⟨ff, xf, bn, xct, xcl, [], []⟩, none, 0)
      have h63A : os.length + 1 ≤ 1099511627776 := by omega
      have hbyA : 88 ≤ 128 := by omega
      have hbsA : p + 4 ≤ (W2.drew.alloc (.cells (rowC (⟨ff, xf, bn, xct, xcl, [], []⟩, none, 0)).toArray 129)).heap.size := by have := box_lt b8; have := hbA.size; omega
      rw [hrow] at hownA hrdA honeA hbsA hC2 hC3
      have hpw3 : p + 3 < w.heap.size := box_lt h8
      have HI := Lib.hid (And.intro hB2 (And.intro hbx2 (And.intro h1 (And.intro r3 (And.intro b2 (And.intro b4 (And.intro b7 (And.intro b8 (And.intro bf hbA)))))))))
      clear hB2 hbx2 h1 r3 b2 b4 b7 b8 bf hbA hbf h4 h7 h8 h2 h3 HF HH hrow
      have N1 : (Value.slice A os.length c).ownBlock ≠ some p := fun h => by have := hlt _ h; omega
      have N2 : (Value.slice A os.length c).ownBlock ≠ some (p + 1) := fun h => by have := hlt _ h; omega
      have N3 : (Value.slice A os.length c).ownBlock ≠ some (p + 2) := fun h => by have := hlt _ h; omega
      have N4 : (Value.slice A os.length c).ownBlock ≠ some w.heap.size := fun h => by have := hlt _ h; omega
      have HLT := Lib.hid hlt
      have M2 : p + 1 ≠ p := by omega
      have M3 : b ≠ p := by omega
      have M4 : w.heap.size ≠ p := by omega
      clear hlt
      refine wp_region_held_drew (S := fun w' => w'.cell? ⟨p + 1, 0, none⟩ = some (.pointer (some ⟨b, 0, none⟩)) ∧ w'.cell? ⟨b, 0, none⟩ = some (.int .i32 ff) ∧ w'.cell? ⟨w.heap.size, 0, none⟩ = some (.int .i32 xf) ∧ w'.cell? ⟨w.heap.size, 3, none⟩ = some (.string (mk8 xct)) ∧ w'.cell? ⟨w.heap.size, 4, none⟩ = some (.int .i64 xcl) ∧ w'.frozen? ⟨p, 0, none⟩ = false) (by kernel_rfl) HS (fun hHeld => ?_)
      refine wpAnyH_take (i := 1) (v := .pointer (some ⟨b, 0, none⟩)) rfl (by kernel_rfl) (by kernel_rfl) (by kernel_rfl) (fun _ _ _ h => h) (Or.inl ⟨by rfl, by (intro w hSw; (try dsimp only at hSw); go_simp)⟩) hHeld ?_
      try simp only [Act.put, List.setIfInBounds_toArray, List.set_cons_zero, List.set_cons_succ]
      refine wpAnyH_take (i := 2) (v := .pointer (some ⟨b, 0, none⟩)) rfl (by kernel_rfl) (by kernel_rfl) (by kernel_rfl) (fun _ _ _ h => h) (Or.inl ⟨by rfl, by (intro w hSw; (try dsimp only at hSw); go_simp)⟩) hHeld ?_
      try simp only [Act.put, List.setIfInBounds_toArray, List.set_cons_zero, List.set_cons_succ]
      refine wpAnyH_take (i := 3) (v := .pointer (some ⟨b, 0, none⟩)) rfl (by kernel_rfl) (by kernel_rfl) (by kernel_rfl) (fun _ _ _ h => h) (Or.inl ⟨by rfl, by (intro w hSw; (try dsimp only at hSw); go_simp)⟩) hHeld ?_
      try simp only [Act.put, List.setIfInBounds_toArray, List.set_cons_zero, List.set_cons_succ]
      refine wpAnyH_take (i := 4) (v := .int .i32 ff) rfl (by kernel_rfl) (by kernel_rfl) (by kernel_rfl) (fun _ _ _ h => h) (Or.inl ⟨by rfl, by (intro w hSw; (try dsimp only at hSw); go_simp)⟩) hHeld ?_
      try simp only [Act.put, List.setIfInBounds_toArray, List.set_cons_zero, List.set_cons_succ]
      refine wpAnyH_take (i := 5) (v := .pointer (some ⟨w.heap.size, 0, none⟩)) rfl (by kernel_rfl) (by kernel_rfl) (by kernel_rfl) (fun _ _ _ h => h) (Or.inl ⟨by rfl, by (intro w hSw; (try dsimp only at hSw); go_simp)⟩) hHeld ?_
      try simp only [Act.put, List.setIfInBounds_toArray, List.set_cons_zero, List.set_cons_succ]
      refine wpAnyH_take (i := 6) (v := .int .i32 xf) rfl (by kernel_rfl) (by kernel_rfl) (by kernel_rfl) (fun _ _ _ h => h) (Or.inl ⟨by rfl, by (intro w hSw; (try dsimp only at hSw); go_simp)⟩) hHeld ?_
      try simp only [Act.put, List.setIfInBounds_toArray, List.set_cons_zero, List.set_cons_succ]
      refine wpAnyH_take (i := 7) (v := .string (mk8 bn)) rfl (by kernel_rfl) (by kernel_rfl) (by kernel_rfl) (fun _ _ _ h => h) (Or.inl ⟨by rfl, by (intro w hSw; (try dsimp only at hSw); go_simp)⟩) hHeld ?_
      try simp only [Act.put, List.setIfInBounds_toArray, List.set_cons_zero, List.set_cons_succ]
      refine wpAnyH_take (i := 8) (v := .pointer (some ⟨w.heap.size, 3, none⟩)) rfl (by kernel_rfl) (by kernel_rfl) (by kernel_rfl) (fun _ _ _ h => h) (Or.inl ⟨by rfl, by (intro w hSw; (try dsimp only at hSw); go_simp)⟩) hHeld ?_
      try simp only [Act.put, List.setIfInBounds_toArray, List.set_cons_zero, List.set_cons_succ]
      refine wpAnyH_take (i := 9) (v := .string (mk8 xct)) rfl (by kernel_rfl) (by kernel_rfl) (by kernel_rfl) (fun _ _ _ h => h) (Or.inl ⟨by rfl, by (intro w hSw; (try dsimp only at hSw); go_simp)⟩) hHeld ?_
      try simp only [Act.put, List.setIfInBounds_toArray, List.set_cons_zero, List.set_cons_succ]
      refine wpAnyH_take (i := 10) (v := .pointer (some ⟨w.heap.size, 4, none⟩)) rfl (by kernel_rfl) (by kernel_rfl) (by kernel_rfl) (fun _ _ _ h => h) (Or.inl ⟨by rfl, by (intro w hSw; (try dsimp only at hSw); go_simp)⟩) hHeld ?_
      try simp only [Act.put, List.setIfInBounds_toArray, List.set_cons_zero, List.set_cons_succ]
      refine wpAnyH_take (i := 11) (v := .int .i64 xcl) rfl (by kernel_rfl) (by kernel_rfl) (by kernel_rfl) (fun _ _ _ h => h) (Or.inl ⟨by rfl, by (intro w hSw; (try dsimp only at hSw); go_simp)⟩) hHeld ?_
      try simp only [Act.put, List.setIfInBounds_toArray, List.set_cons_zero, List.set_cons_succ]
      refine wpAnyH_take (i := 12) (v := .agg #[.int .i32 ff, .int .i32 xf, .string (mk8 bn), .string (mk8 xct), .int .i64 xcl, .string ⟨#[]⟩, .slice none 0 0]) rfl (by kernel_rfl) (by kernel_rfl) (by kernel_rfl) (fun _ _ _ h => h) (Or.inl ⟨by rfl, by (intro w hSw; (try dsimp only at hSw); go_simp)⟩) hHeld ?_
      try simp only [Act.put, List.setIfInBounds_toArray, List.set_cons_zero, List.set_cons_succ]
      refine wpAnyH_ready (rs := [0, 13]) (by kernel_rfl) (by simp) (AllReadyH.cons rfl (fun K hK => ?_) (AllReadyH.cons rfl (fun K hK => ?_) AllReadyH.nil))
      ·go_simp
       refine hK.out _ _ hHeld (fun _ => ?_)
       clear hK K
       try simp only [Act.put, List.setIfInBounds_toArray, List.set_cons_zero, List.set_cons_succ]
       refine wpAnyH_ready (rs := [13]) (by kernel_rfl) (by simp) (AllReadyH.cons rfl (fun K hK => ?_) AllReadyH.nil)
       go_simp
       refine hK.out _ _ (keepC_alloc hHeld (Nat.le_succ p) _) (fun hHeld2 => ?_)
       clear hK K
       try simp only [Act.put, List.setIfInBounds_toArray, List.set_cons_zero, List.set_cons_succ]
       refine wpAnyH_ready (rs := [14]) (by kernel_rfl) (by simp) (AllReadyH.cons rfl (fun K hK => ?_) AllReadyH.nil)
       refine step_appR rowElem _ rfl (.tmp 66) (.tmp 79) rfl (p + 4) rfl hownA rfl hrdA honeA h63A hbyA hbsA ?_
       intro A4 c4 w4 hown4 hg4
       refine hK.out _ _ (keepC_grown hHeld2 (Nat.le_succ p) hg4 N1 N2 hap N4 N4 N4) (fun hHeld3 => ?_)
       clear hK K
       try simp only [Act.put, List.setIfInBounds_toArray, List.set_cons_zero, List.set_cons_succ]
       have hC4 := hg4.cell hC2 (Ne.symm N1)
       have hF4 := hHeld3.2.2.2.2.2
       refine wpAnyH_ready (rs := [15]) (by kernel_rfl) (by simp) (AllReadyH.cons rfl (fun K hK => ?_) AllReadyH.nil)
       go_simp
       refine hK.out _ _ (keepC_set hHeld3 _ M2 M3 M4 M4 M4) (fun _ => ?_)
       clear hK K
       refine wpAnyH_done (by kernel_rfl) ?_ _
       obtain ⟨hB2, hbx2, h1, r3, b2, b4, b7, b8, bf, hbA⟩ := HI.out
       have hg5 : (W2.alloc (.cells (rowC (⟨ff, xf, bn, xct, xcl, [], []⟩, none, 0)).toArray 129)).drew.grownBy w4 (Value.slice A os.length c).ownBlock := hg4
       obtain ⟨W6, hW6, k2, kr, k4, k7, k8, kb⟩ := app_fin (z := .int .i32 xf) (x := (⟨ff, xf, bn, xct, xcl, [], []⟩, none, 0)) hpw3 hB2 hbA r3 b2 b4 b7 b8 (World.ownsRow_nil _ _ _ _) hown4 hg5
       have d1 := box_grown (box_below hbx2 hbA) hg5 N4
       have e1 : (w4.setCell ⟨p, 0, none⟩ (.slice A4 (os.length + 1) c4)).cell? ⟨w.heap.size, 0, none⟩ = some (.int .i32 xf) := box_cell (box_setU d1 M4) 0 rfl
       have e7 := box_grown (box_below b7 hbA) hg5 N3
       have e2 : (w4.setCell ⟨p, 0, none⟩ (.slice A4 (os.length + 1) c4)).cell? ⟨p + 2, 0, none⟩ = some (.int .i32 st.was) := box_cell (box_setU e7 (by omega)) 0 rfl
       have e3 : (w4.setCell ⟨p, 0, none⟩ (.slice A4 (os.length + 1) c4)).frozen? ⟨p + 2, 0, none⟩ = false := box_frozen (box_setU e7 (by omega)) 0
       have e4 : W6.cell? ⟨p + 1, 0, none⟩ = some (.pointer (some ⟨b, 0, none⟩)) := box_cell k4 0 rfl
       have e5 : W6.frozen? ⟨p + 1, 0, none⟩ = false := box_frozen k4 0
       have HK := Lib.hid (And.intro k2 (And.intro kr (And.intro k4 (And.intro k7 (And.intro k8 (And.intro kb h1))))))
       clear k2 kr k4 k7 k8 kb e7 d1 hg5 HI hC4 hF4 hHeld hHeld2 hHeld3 hg4 hown4 HS hC1 hC2 hC3 hownA hrdA honeA h63A hbyA hbsA hB2 hbx2 h1 r3 b2 b4 b7 b8 bf hbA
       generalize w4.setCell ⟨p, 0, none⟩ (.slice A4 (os.length + 1) c4) = W5 at *
       rw [hW6] at e4 e5
       go_wp2
       go_returns
       rw [← hW6, HNO.out]
       obtain ⟨k2, kr, k4, k7, k8, kb, h1⟩ := HK.out
       refine ⟨rfl, ⟨os ++ [(⟨ff, xf, bn, xct, xcl, [], []⟩, none, 0)], A4, c4, none, ?_⟩, kb.setCell (p := ⟨p + 1, 0, none⟩) (by simp) _, fun h => absurd rfl h⟩
       refine ⟨by simp [h1], ?_, kr.setCell (by simp), box_set k4 0 (.pointer none), fun _ => rfl, fun f hf => absurd hf (by simp), box_setU k7 (by omega), box_setU k8 (by omega)⟩
       rw [List.length_append, List.length_singleton]
       exact box_setU k2 (by omega)
      ·go_simp
       refine hK.out _ _ (keepC_alloc hHeld (Nat.le_succ p) _) (fun hHeld2 => ?_)
       clear hK K
       try simp only [Act.put, List.setIfInBounds_toArray, List.set_cons_zero, List.set_cons_succ]
       refine wpAnyH_ready (rs := [0]) (by kernel_rfl) (by simp) (AllReadyH.cons rfl (fun K hK => ?_) AllReadyH.nil)
       go_simp
       refine hK.out _ _ hHeld2 (fun _ => ?_)
       clear hK K
       try simp only [Act.put, List.setIfInBounds_toArray, List.set_cons_zero, List.set_cons_succ]
       refine wpAnyH_ready (rs := [14]) (by kernel_rfl) (by simp) (AllReadyH.cons rfl (fun K hK => ?_) AllReadyH.nil)
       refine step_appR rowElem _ rfl (.tmp 66) (.tmp 79) rfl (p + 4) rfl hownA rfl hrdA honeA h63A hbyA hbsA ?_
       intro A4 c4 w4 hown4 hg4
       refine hK.out _ _ (keepC_grown hHeld2 (Nat.le_succ p) hg4 N1 N2 hap N4 N4 N4) (fun hHeld3 => ?_)
       clear hK K
       try simp only [Act.put, List.setIfInBounds_toArray, List.set_cons_zero, List.set_cons_succ]
       have hC4 := hg4.cell hC2 (Ne.symm N1)
       have hF4 := hHeld3.2.2.2.2.2
       refine wpAnyH_ready (rs := [15]) (by kernel_rfl) (by simp) (AllReadyH.cons rfl (fun K hK => ?_) AllReadyH.nil)
       go_simp
       refine hK.out _ _ (keepC_set hHeld3 _ M2 M3 M4 M4 M4) (fun _ => ?_)
       clear hK K
       refine wpAnyH_done (by kernel_rfl) ?_ _
       obtain ⟨hB2, hbx2, h1, r3, b2, b4, b7, b8, bf, hbA⟩ := HI.out
       have hg5 : (W2.alloc (.cells (rowC (⟨ff, xf, bn, xct, xcl, [], []⟩, none, 0)).toArray 129)).drew.grownBy w4 (Value.slice A os.length c).ownBlock := hg4
       obtain ⟨W6, hW6, k2, kr, k4, k7, k8, kb⟩ := app_fin (z := .int .i32 xf) (x := (⟨ff, xf, bn, xct, xcl, [], []⟩, none, 0)) hpw3 hB2 hbA r3 b2 b4 b7 b8 (World.ownsRow_nil _ _ _ _) hown4 hg5
       have d1 := box_grown (box_below hbx2 hbA) hg5 N4
       have e1 : (w4.setCell ⟨p, 0, none⟩ (.slice A4 (os.length + 1) c4)).cell? ⟨w.heap.size, 0, none⟩ = some (.int .i32 xf) := box_cell (box_setU d1 M4) 0 rfl
       have e7 := box_grown (box_below b7 hbA) hg5 N3
       have e2 : (w4.setCell ⟨p, 0, none⟩ (.slice A4 (os.length + 1) c4)).cell? ⟨p + 2, 0, none⟩ = some (.int .i32 st.was) := box_cell (box_setU e7 (by omega)) 0 rfl
       have e3 : (w4.setCell ⟨p, 0, none⟩ (.slice A4 (os.length + 1) c4)).frozen? ⟨p + 2, 0, none⟩ = false := box_frozen (box_setU e7 (by omega)) 0
       have e4 : W6.cell? ⟨p + 1, 0, none⟩ = some (.pointer (some ⟨b, 0, none⟩)) := box_cell k4 0 rfl
       have e5 : W6.frozen? ⟨p + 1, 0, none⟩ = false := box_frozen k4 0
       have HK := Lib.hid (And.intro k2 (And.intro kr (And.intro k4 (And.intro k7 (And.intro k8 (And.intro kb h1))))))
       clear k2 kr k4 k7 k8 kb e7 d1 hg5 HI hC4 hF4 hHeld hHeld2 hHeld3 hg4 hown4 HS hC1 hC2 hC3 hownA hrdA honeA h63A hbyA hbsA hB2 hbx2 h1 r3 b2 b4 b7 b8 bf hbA
       generalize w4.setCell ⟨p, 0, none⟩ (.slice A4 (os.length + 1) c4) = W5 at *
       rw [hW6] at e4 e5
       go_wp2
       go_returns
       rw [← hW6, HNO.out]
       obtain ⟨k2, kr, k4, k7, k8, kb, h1⟩ := HK.out
       refine ⟨rfl, ⟨os ++ [(⟨ff, xf, bn, xct, xcl, [], []⟩, none, 0)], A4, c4, none, ?_⟩, kb.setCell (p := ⟨p + 1, 0, none⟩) (by simp) _, fun h => absurd rfl h⟩
       refine ⟨by simp [h1], ?_, kr.setCell (by simp), box_set k4 0 (.pointer none), fun _ => rfl, fun f hf => absurd hf (by simp), box_setU k7 (by omega), box_setU k8 (by omega)⟩
       rw [List.length_append, List.length_singleton]
       exact box_setU k2 (by omega)
   ·replace HYES := Lib.hid (HYES (.inr (.inr (.inl hab))))
    clear HNO
    have hne : (xcl != fcl) = true := by simpa using hab
    clear hab
    go_enter Tryz.func65, Tryz.ntmps65
    go_wp2_with fail
    generalize w.alloc _ = W at *
    refine (IF _).mono ?_
    rintro e w1 ⟨rfl, rfl⟩
    go_wp2_with fail
    refine (IL _).mono ?_
    rintro e w1 ⟨rfl, rfl⟩
    clear IF IL
    go_wp2
    go_quiet (fail)
    go_wp2
    go_returns
    rw [HYES.out]
    exact ⟨rfl, HH.out.below (below_drew' HB0.out _), (below_drew' HB0.out _).mono (by omega), fun _ => below_drew' HB0.out _⟩
  ·replace HYES := Lib.hid (HYES (.inr (.inl hab)))
   clear HNO
   have hne := tl_ne hab
   clear hab
   go_enter Tryz.func65, Tryz.ntmps65
   go_wp2_with fail
   generalize w.alloc _ = W at *
   refine (IF _).mono ?_
   rintro e w1 ⟨rfl, rfl⟩
   go_wp2_with fail
   refine (IL _).mono ?_
   rintro e w1 ⟨rfl, rfl⟩
   clear IF IL
   go_wp2
   go_quiet (fail)
   go_wp2
   go_returns
   rw [HYES.out]
   exact ⟨rfl, HH.out.below (below_drew' HB0.out _), (below_drew' HB0.out _).mono (by omega), fun _ => below_drew' HB0.out _⟩
 ·replace HYES := Lib.hid (HYES (.inl hab))
  clear HNO
  have hne := tl_ne hab
  clear hab
  go_enter Tryz.func65, Tryz.ntmps65
  go_wp2_with fail
  generalize w.alloc _ = W at *
  refine (IF _).mono ?_
  rintro e w1 ⟨rfl, rfl⟩
  go_wp2_with fail
  refine (IL _).mono ?_
  rintro e w1 ⟨rfl, rfl⟩
  clear IF IL
  go_wp2
  go_quiet (fail)
  go_wp2
  go_returns
  rw [HYES.out]
  exact ⟨rfl, HH.out.below (below_drew' HB0.out _), (below_drew' HB0.out _).mono (by omega), fun _ => below_drew' HB0.out _⟩
end Go.Proofs.YtajkjaciooijjaaGreatDoor
end

section
set_option linter.unusedSimpArgs false
set_option linter.unusedVariables false
namespace Go.Proofs.YtajkjaciooijjaaGreatDoor
open Go.RowKit
theorem parseZ (l : List UInt8) (w : World) (hE : Env w) (hs : l.length ≤ 1073741824) :
  Calls Tryz.prog 68 #[.string (mk8 l)] w (FreshRow w (parseS l)) := by
 have := parse_any (mk8 l) w hE (by rw [mk8_size]; exact hs)
 rw [bs_mk8] at this
 exact this
theorem take_mem {p : Nat} {st : StU} {w w1 : World} {xf xu xcl : Int} {xn xct xk : List UInt8} {xil : List Int} {A : Option Addr} {c : Nat} (hh : HoldsU p st w) (hpw : p + 3 < w.heap.size)
  (hown : w1.ownsRow w.heap.size 21 1 (.slice A xil.length c) xil.length (Rs xil)) (hb : Below w.heap.size w w1) :
  HoldsU p st (w1.alloc (.cells #[.int .i32 xf, .int .i32 xu, .string (mk8 xn), .string (mk8 xct), .int .i64 xcl, .string (mk8 xk), .slice A xil.length c] 129)) ∧
  (w1.alloc (.cells #[.int .i32 xf, .int .i32 xu, .string (mk8 xn), .string (mk8 xct), .int .i64 xcl, .string (mk8 xk), .slice A xil.length c] 129)).heap[w1.heap.size]? = some (.cells #[.int .i32 xf, .int .i32 xu, .string (mk8 xn), .string (mk8 xct), .int .i64 xcl, .string (mk8 xk), .slice A xil.length c] 129 (0, 0)) ∧
  IntoAt (p + 4) (w1.alloc (.cells #[.int .i32 xf, .int .i32 xu, .string (mk8 xn), .string (mk8 xct), .int .i64 xcl, .string (mk8 xk), .slice A xil.length c] 129)) (⟨xf, xu, xn, xct, xcl, xk, xil⟩, A, c) ∧
  Below w.heap.size w (w1.alloc (.cells #[.int .i32 xf, .int .i32 xu, .string (mk8 xn), .string (mk8 xct), .int .i64 xcl, .string (mk8 xk), .slice A xil.length c] 129)) ∧ w.heap.size ≤ w1.heap.size := by
 have hz := hb.size
 have hb2 : Below w.heap.size w (w1.alloc (.cells #[.int .i32 xf, .int .i32 xu, .string (mk8 xn), .string (mk8 xct), .int .i64 xcl, .string (mk8 xk), .slice A xil.length c] 129)) := hb.alloc hz _
 refine ⟨hh.below hb2, box_new _ _ _, ?_, hb2, hz⟩
 exact own_baseK (own_belowK hown ((Below.refl _ _).alloc (Nat.le_refl _) _)) (by omega)
theorem HoldsAt.below {p : Nat} {st : StU} {w w' : World} {os : List RA} {A q : Option Addr} {c : Nat} (h : HoldsAt p st w os A c q) (hb : Below w.heap.size w w') : HoldsAt p st w' os A c q := by
 obtain ⟨h1, h2, h3, h4, h5, h6, h7, h8⟩ := h
 refine ⟨h1, box_below h2 hb, h3.below hb, box_below h4 hb, h5, ?_, box_below h7 hb, box_below h8 hb⟩
 intro f hf
 obtain ⟨b, A', c', hbp, hq, hh, hn⟩ := h6 f hf
 exact ⟨b, A', c', hbp, hq, box_below hh hb, hn⟩
section
variable {w w' : World} {B : Nat} {u0 u1 u2 u3 u4 u5 u6 : Value}
theorem keep7 (h : w.cell? ⟨B, 0, none⟩ = some u0 ∧ w.cell? ⟨B, 1, none⟩ = some u1 ∧ w.cell? ⟨B, 2, none⟩ = some u2 ∧ w.cell? ⟨B, 3, none⟩ = some u3 ∧ w.cell? ⟨B, 4, none⟩ = some u4 ∧ w.cell? ⟨B, 5, none⟩ = some u5 ∧ w.cell? ⟨B, 6, none⟩ = some u6)
  (hk : w'.heap[B]? = w.heap[B]?) :
  w'.cell? ⟨B, 0, none⟩ = some u0 ∧ w'.cell? ⟨B, 1, none⟩ = some u1 ∧ w'.cell? ⟨B, 2, none⟩ = some u2 ∧ w'.cell? ⟨B, 3, none⟩ = some u3 ∧ w'.cell? ⟨B, 4, none⟩ = some u4 ∧ w'.cell? ⟨B, 5, none⟩ = some u5 ∧ w'.cell? ⟨B, 6, none⟩ = some u6 :=
 have k : ∀ j, w'.cell? ⟨B, j, none⟩ = w.cell? ⟨B, j, none⟩ := fun j => World.cell?_of_block (a := ⟨B, j, none⟩) hk
 ⟨(k 0).trans h.1, (k 1).trans h.2.1, (k 2).trans h.2.2.1, (k 3).trans h.2.2.2.1, (k 4).trans h.2.2.2.2.1, (k 5).trans h.2.2.2.2.2.1, (k 6).trans h.2.2.2.2.2.2⟩
end
set_option maxRecDepth 20000 in
set_option maxHeartbeats 4000000 in
theorem takes_any (p : Nat) (st : StU) (l : List UInt8) (w : World) (hE : Env w) (hs : l.length ≤ 1073741824) (hh : HoldsU p st w) (hop : ∀ f, st.op = some f → RowOk 1073741824 f) (hol : st.out.length ≤ 100000) :
  Calls Tryz.prog 67 #[.string (mk8 l), .pointer (some ⟨p + 1, 0, none⟩), .pointer (some ⟨p + 3, 0, none⟩), .pointer (some ⟨p + 2, 0, none⟩), .pointer (some ⟨p, 0, none⟩)] w (fun e w' => e = .returned (.int .i64 (takeS st l).2) ∧ HoldsU p (takeS st l).1 w' ∧ Below p w w' ∧ ((takeS st l).2 ≠ 0 → Below w.heap.size w w')) := by
 have PA := parseZ l w hE hs
 have hpo := parse_ok l
 unfold takeS
 obtain ⟨⟨x, e0⟩, hx⟩ : ∃ z, z = parseS l := ⟨_, rfl⟩
 rw [← hx] at PA hpo ⊢
 simp only [] at hpo ⊢
 have hxo : RowOk 1073741824 x := ⟨Nat.le_trans hpo.1 hs, hpo.2⟩
 clear hx hpo
 have HH := Lib.hid hh
 have hpw : p + 3 < w.heap.size := by obtain ⟨os, A, c, q, h⟩ := hh; exact box_lt h.clo
 clear hh
 have IF := fun w => innerF x.nm w hxo.1
 have IL := fun w => innerL x.nm w hxo.1
 have hR : takeR st x = (match st.op with | some f => if (innerS x.nm LSTB).2 = false then (st, 10) else closeS st f x | none => if (innerS x.nm LSTB).2 = true then (st, 10) else freeS st x) := rfl
 unfold freeS at hR
 obtain ⟨⟨an, ai⟩, ha⟩ : ∃ a, a = innerS x.nm FSTB := ⟨_, rfl⟩
 obtain ⟨⟨bn, bi⟩, hbb⟩ : ∃ a, a = innerS x.nm LSTB := ⟨_, rfl⟩
 rw [← ha] at IF hR
 rw [← hbb] at IL hR
 clear ha hbb
 obtain ⟨R, hRR⟩ : ∃ R, R = takeR st x := ⟨_, rfl⟩
 rw [← hRR] at hR ⊢
 clear hRR
 simp only [] at hR IF IL
 have HOP := Lib.hid hop
 have HXO := Lib.hid hxo
 clear hop hxo
 by_cases he : e0 = 0
 ·subst he
  rw [if_neg (show ¬ ((0 : Int) ≠ 0) by simp)]
  cases hst : st.op with
  | some f =>
   rw [hst] at hR
   simp only [] at hR
   have HST := Lib.hid hst
   clear hst
   obtain ⟨xf, xu, xn, xct, xcl, xk, xil⟩ := x
   cases hbi : bi
   ·subst hbi
    rw [if_pos rfl] at hR
    have HR := Lib.hid hR
    clear hR
    go_enter Tryz.func67, Tryz.ntmps67
    go_wp2_with fail
    refine PA.mono ?_
    rintro e w1 ⟨A, c, rfl, hown, hb⟩
    simp only [rowV]
    simp only [] at hown
    obtain ⟨hh2, hbx, hin, hb2, hz⟩ := take_mem (xf := xf) (xu := xu) (xn := xn) (xct := xct) (xcl := xcl) (xk := xk) HH.out hpw hown hb
    have HM := Lib.hid (And.intro hh2 (And.intro hbx (And.intro hin hb2)))
    clear hh2 hbx hin hb2 hown hb
    go_wp2_with fail
    generalize hWW : w1.alloc _ = W at *
    clear hWW
    refine (IL _).mono ?_
    rintro e w2 ⟨rfl, rfl⟩
    have hbx := HM.out.2.1
    have d0 : W.cell? ⟨w1.heap.size, 0, none⟩ = some (.int .i32 xf) := box_cell hbx 0 rfl
    have d1 : W.cell? ⟨w1.heap.size, 1, none⟩ = some (.int .i32 xu) := box_cell hbx 1 rfl
    have d2 : W.cell? ⟨w1.heap.size, 2, none⟩ = some (.string (mk8 xn)) := box_cell hbx 2 rfl
    have d3 : W.cell? ⟨w1.heap.size, 3, none⟩ = some (.string (mk8 xct)) := box_cell hbx 3 rfl
    have d4 : W.cell? ⟨w1.heap.size, 4, none⟩ = some (.int .i64 xcl) := box_cell hbx 4 rfl
    have d5 : W.cell? ⟨w1.heap.size, 5, none⟩ = some (.string (mk8 xk)) := box_cell hbx 5 rfl
    have d6 : W.cell? ⟨w1.heap.size, 6, none⟩ = some (.slice A xil.length c) := box_cell hbx 6 rfl
    obtain ⟨os, Ao, co, q, hH0⟩ := HH.out
    have hAP : (Value.slice Ao os.length co).ownBlock ≠ some w1.heap.size := fun h => by have := hH0.rows.own.lt _ h; omega
    have hH := hH0.below HM.out.2.2.2
    clear hH0
    have cq : W.cell? ⟨p + 1, 0, none⟩ = some (.pointer q) := box_cell hH.first 0 rfl
    have fq : W.frozen? ⟨p + 1, 0, none⟩ = false := box_frozen hH.first 0
    have cw : W.cell? ⟨p + 2, 0, none⟩ = some (.int .i32 st.was) := box_cell hH.was 0 rfl
    have co1 : W.cell? ⟨p, 0, none⟩ = some (.slice Ao os.length co) := box_cell hH.out 0 rfl
    have cc : W.cell? ⟨p + 3, 0, none⟩ = some (.func (.func 65) #[] #[.pointer (some ⟨p + 1, 0, none⟩), .pointer (some ⟨p, 0, none⟩), .pointer (some ⟨p + 2, 0, none⟩)]) := box_cell hH.clo 0 rfl
    obtain ⟨b, Af, cf, hbp, hq0, hbf, hap⟩ := hH.opens _ HST.out
    subst hq0
    have HAP := Lib.hid (And.intro hbf hap)
    clear hbf hap
    have HHH := Lib.hid hH
    clear hH hbx
    go_wp2_with fail
    refine (IF _).mono ?_
    rintro e w2 ⟨rfl, rfl⟩
    go_wp2
    go_returns
    rw [HR.out]
    exact ⟨rfl, HM.out.1, HM.out.2.2.2.mono (by omega), fun _ => HM.out.2.2.2⟩
   ·subst hbi
    rw [if_neg (by simp)] at hR
    have HR := Lib.hid hR
    clear hR
    go_enter Tryz.func67, Tryz.ntmps67
    go_wp2_with fail
    refine PA.mono ?_
    rintro e w1 ⟨A, c, rfl, hown, hb⟩
    simp only [rowV]
    simp only [] at hown
    obtain ⟨hh2, hbx, hin, hb2, hz⟩ := take_mem (xf := xf) (xu := xu) (xn := xn) (xct := xct) (xcl := xcl) (xk := xk) HH.out hpw hown hb
    have HM := Lib.hid (And.intro hh2 (And.intro hbx (And.intro hin hb2)))
    clear hh2 hbx hin hb2 hown hb
    go_wp2_with fail
    generalize hWW : w1.alloc _ = W at *
    clear hWW
    refine (IL _).mono ?_
    rintro e w2 ⟨rfl, rfl⟩
    have hbx := HM.out.2.1
    have d0 : W.cell? ⟨w1.heap.size, 0, none⟩ = some (.int .i32 xf) := box_cell hbx 0 rfl
    have d1 : W.cell? ⟨w1.heap.size, 1, none⟩ = some (.int .i32 xu) := box_cell hbx 1 rfl
    have d2 : W.cell? ⟨w1.heap.size, 2, none⟩ = some (.string (mk8 xn)) := box_cell hbx 2 rfl
    have d3 : W.cell? ⟨w1.heap.size, 3, none⟩ = some (.string (mk8 xct)) := box_cell hbx 3 rfl
    have d4 : W.cell? ⟨w1.heap.size, 4, none⟩ = some (.int .i64 xcl) := box_cell hbx 4 rfl
    have d5 : W.cell? ⟨w1.heap.size, 5, none⟩ = some (.string (mk8 xk)) := box_cell hbx 5 rfl
    have d6 : W.cell? ⟨w1.heap.size, 6, none⟩ = some (.slice A xil.length c) := box_cell hbx 6 rfl
    obtain ⟨os, Ao, co, q, hH0⟩ := HH.out
    have hAP : (Value.slice Ao os.length co).ownBlock ≠ some w1.heap.size := fun h => by have := hH0.rows.own.lt _ h; omega
    have hH := hH0.below HM.out.2.2.2
    clear hH0
    have cq : W.cell? ⟨p + 1, 0, none⟩ = some (.pointer q) := box_cell hH.first 0 rfl
    have fq : W.frozen? ⟨p + 1, 0, none⟩ = false := box_frozen hH.first 0
    have cw : W.cell? ⟨p + 2, 0, none⟩ = some (.int .i32 st.was) := box_cell hH.was 0 rfl
    have co1 : W.cell? ⟨p, 0, none⟩ = some (.slice Ao os.length co) := box_cell hH.out 0 rfl
    have cc : W.cell? ⟨p + 3, 0, none⟩ = some (.func (.func 65) #[] #[.pointer (some ⟨p + 1, 0, none⟩), .pointer (some ⟨p, 0, none⟩), .pointer (some ⟨p + 2, 0, none⟩)]) := box_cell hH.clo 0 rfl
    obtain ⟨b, Af, cf, hbp, hq0, hbf, hap⟩ := hH.opens _ HST.out
    subst hq0
    have HAP := Lib.hid (And.intro hbf hap)
    clear hbf hap
    have HHH := Lib.hid hH
    clear hH hbx
    go_wp2_with fail
    refine (IF _).mono ?_
    rintro e w2 ⟨rfl, rfl⟩
    have CLO := closes_any p st f ⟨xf, xu, xn, xct, xcl, xk, xil⟩ A c W HST.out HM.out.1 (HOP.out _ HST.out) HXO.out hol
    go_wp2_with fail
    refine CLO.mono ?_
    rintro e w3 ⟨rfl, hh3, hb3, hb4⟩
    go_wp2
    go_returns
    rw [HR.out]
    exact ⟨rfl, hh3, (HM.out.2.2.2.mono (by omega)).trans hb3, fun h => below_then HM.out.2.2.2 (hb4 h)⟩
  | none =>
   rw [hst] at hR
   simp only [] at hR
   have HST := Lib.hid hst
   clear hst
   obtain ⟨xf, xu, xn, xct, xcl, xk, xil⟩ := x
   cases hbi : bi
   ·subst hbi
    rw [if_neg (by simp)] at hR
    by_cases hw : xf ≤ st.was
    ·rw [if_pos hw] at hR
     have HR := Lib.hid hR
     clear hR
     go_enter Tryz.func67, Tryz.ntmps67
     go_wp2_with fail
     refine PA.mono ?_
     rintro e w1 ⟨A, c, rfl, hown, hb⟩
     simp only [rowV]
     simp only [] at hown
     obtain ⟨hh2, hbx, hin, hb2, hz⟩ := take_mem (xf := xf) (xu := xu) (xn := xn) (xct := xct) (xcl := xcl) (xk := xk) HH.out hpw hown hb
     have HM := Lib.hid (And.intro hh2 (And.intro hbx (And.intro hin hb2)))
     clear hh2 hbx hin hb2 hown hb
     go_wp2_with fail
     generalize hWW : w1.alloc _ = W at *
     clear hWW
     refine (IL _).mono ?_
     rintro e w2 ⟨rfl, rfl⟩
     have hbx := HM.out.2.1
     have d0 : W.cell? ⟨w1.heap.size, 0, none⟩ = some (.int .i32 xf) := box_cell hbx 0 rfl
     have d1 : W.cell? ⟨w1.heap.size, 1, none⟩ = some (.int .i32 xu) := box_cell hbx 1 rfl
     have d2 : W.cell? ⟨w1.heap.size, 2, none⟩ = some (.string (mk8 xn)) := box_cell hbx 2 rfl
     have d3 : W.cell? ⟨w1.heap.size, 3, none⟩ = some (.string (mk8 xct)) := box_cell hbx 3 rfl
     have d4 : W.cell? ⟨w1.heap.size, 4, none⟩ = some (.int .i64 xcl) := box_cell hbx 4 rfl
     have d5 : W.cell? ⟨w1.heap.size, 5, none⟩ = some (.string (mk8 xk)) := box_cell hbx 5 rfl
     have d6 : W.cell? ⟨w1.heap.size, 6, none⟩ = some (.slice A xil.length c) := box_cell hbx 6 rfl
     obtain ⟨os, Ao, co, q, hH0⟩ := HH.out
     have hAP : (Value.slice Ao os.length co).ownBlock ≠ some w1.heap.size := fun h => by have := hH0.rows.own.lt _ h; omega
     have hH := hH0.below HM.out.2.2.2
     clear hH0
     have cq : W.cell? ⟨p + 1, 0, none⟩ = some (.pointer q) := box_cell hH.first 0 rfl
     have fq : W.frozen? ⟨p + 1, 0, none⟩ = false := box_frozen hH.first 0
     have cw : W.cell? ⟨p + 2, 0, none⟩ = some (.int .i32 st.was) := box_cell hH.was 0 rfl
     have co1 : W.cell? ⟨p, 0, none⟩ = some (.slice Ao os.length co) := box_cell hH.out 0 rfl
     have cc : W.cell? ⟨p + 3, 0, none⟩ = some (.func (.func 65) #[] #[.pointer (some ⟨p + 1, 0, none⟩), .pointer (some ⟨p, 0, none⟩), .pointer (some ⟨p + 2, 0, none⟩)]) := box_cell hH.clo 0 rfl
     have hq0 := hH.shut HST.out
     subst hq0
     have HHH := Lib.hid hH
     clear hH hbx
     go_wp2_with fail
     refine (IF _).mono ?_
     rintro e w2 ⟨rfl, rfl⟩
     go_wp2
     go_returns
     rw [HR.out]
     exact ⟨rfl, HM.out.1, HM.out.2.2.2.mono (by omega), fun _ => HM.out.2.2.2⟩
    ·rw [if_neg hw] at hR
     have hw2 : st.was < xf := by omega
     clear hw
     cases hai : ai
     ·subst hai
      rw [if_neg (by simp)] at hR
      have HR := Lib.hid hR
      clear hR
      go_enter Tryz.func67, Tryz.ntmps67
      go_wp2_with fail
      refine PA.mono ?_
      rintro e w1 ⟨A, c, rfl, hown, hb⟩
      simp only [rowV]
      simp only [] at hown
      obtain ⟨hh2, hbx, hin, hb2, hz⟩ := take_mem (xf := xf) (xu := xu) (xn := xn) (xct := xct) (xcl := xcl) (xk := xk) HH.out hpw hown hb
      have HM := Lib.hid (And.intro hh2 (And.intro hbx (And.intro hin hb2)))
      clear hh2 hbx hin hb2 hown hb
      go_wp2_with fail
      generalize hWW : w1.alloc _ = W at *
      clear hWW
      refine (IL _).mono ?_
      rintro e w2 ⟨rfl, rfl⟩
      have hbx := HM.out.2.1
      have d0 : W.cell? ⟨w1.heap.size, 0, none⟩ = some (.int .i32 xf) := box_cell hbx 0 rfl
      have d1 : W.cell? ⟨w1.heap.size, 1, none⟩ = some (.int .i32 xu) := box_cell hbx 1 rfl
      have d2 : W.cell? ⟨w1.heap.size, 2, none⟩ = some (.string (mk8 xn)) := box_cell hbx 2 rfl
      have d3 : W.cell? ⟨w1.heap.size, 3, none⟩ = some (.string (mk8 xct)) := box_cell hbx 3 rfl
      have d4 : W.cell? ⟨w1.heap.size, 4, none⟩ = some (.int .i64 xcl) := box_cell hbx 4 rfl
      have d5 : W.cell? ⟨w1.heap.size, 5, none⟩ = some (.string (mk8 xk)) := box_cell hbx 5 rfl
      have d6 : W.cell? ⟨w1.heap.size, 6, none⟩ = some (.slice A xil.length c) := box_cell hbx 6 rfl
      obtain ⟨os, Ao, co, q, hH0⟩ := HH.out
      have hAP : (Value.slice Ao os.length co).ownBlock ≠ some w1.heap.size := fun h => by have := hH0.rows.own.lt _ h; omega
      have hH := hH0.below HM.out.2.2.2
      clear hH0
      have cq : W.cell? ⟨p + 1, 0, none⟩ = some (.pointer q) := box_cell hH.first 0 rfl
      have fq : W.frozen? ⟨p + 1, 0, none⟩ = false := box_frozen hH.first 0
      have cw : W.cell? ⟨p + 2, 0, none⟩ = some (.int .i32 st.was) := box_cell hH.was 0 rfl
      have co1 : W.cell? ⟨p, 0, none⟩ = some (.slice Ao os.length co) := box_cell hH.out 0 rfl
      have cc : W.cell? ⟨p + 3, 0, none⟩ = some (.func (.func 65) #[] #[.pointer (some ⟨p + 1, 0, none⟩), .pointer (some ⟨p, 0, none⟩), .pointer (some ⟨p + 2, 0, none⟩)]) := box_cell hH.clo 0 rfl
      have hq0 := hH.shut HST.out
      subst hq0
      have HHH := Lib.hid hH
      clear hH hbx
      go_wp2_with fail
      refine (IF _).mono ?_
      rintro e w2 ⟨rfl, rfl⟩
      go_wp2
      have hH := HHH.out
      have hbx := HM.out.2.1
      have hlt : ∀ k, (Value.slice Ao os.length co).ownBlock = some k → p + 4 ≤ k ∧ k < W.heap.size := hH.rows.own.lt
      have HS : W.drew.cell? ⟨w1.heap.size, 0, none⟩ = some (.int .i32 xf) ∧ W.drew.cell? ⟨w1.heap.size, 1, none⟩ = some (.int .i32 xu) ∧ W.drew.cell? ⟨w1.heap.size, 2, none⟩ = some (.string (mk8 xn)) ∧ W.drew.cell? ⟨w1.heap.size, 3, none⟩ = some (.string (mk8 xct)) ∧ W.drew.cell? ⟨w1.heap.size, 4, none⟩ = some (.int .i64 xcl) ∧ W.drew.cell? ⟨w1.heap.size, 5, none⟩ = some (.string (mk8 xk)) ∧ W.drew.cell? ⟨w1.heap.size, 6, none⟩ = some (.slice A xil.length c) := ⟨d0, d1, d2, d3, d4, d5, d6⟩
      have hrow : rowC (⟨xf, xu, xn, xct, xcl, xk, xil⟩, A, c) = [.int .i32 xf, .int .i32 xu, .string (mk8 xn), .string (mk8 xct), .int .i64 xcl, .string (mk8 xk), .slice A xil.length c] := rfl
      have hbA : Below W.heap.size W (W.drew.alloc (.cells (rowC (⟨xf, xu, xn, xct, xcl, xk, xil⟩, A, c)).toArray 129)) := (Below.refl _ _).drew.alloc (Nat.le_refl _) _
      have hownA := (hH.rows.below hbA).own
      have hrdA := RdK.new (k := 7) W.drew 129 1 (rowC (⟨xf, xu, xn, xct, xcl, xk, xil⟩, A, c)) rfl
      have honeA := rowC_one (⟨xf, xu, xn, xct, xcl, xk, xil⟩, A, c)
      have hol2 : os.length ≤ 100000 := by rw [← hH.outs, List.length_map] at hol; exact hol
      have h63A : os.length + 1 ≤ 1099511627776 := by omega
      have hbyA : 88 ≤ 128 := by omega
      have hwz : p + 3 < W.heap.size := box_lt hH.clo
      have hxz : w1.heap.size < W.heap.size := box_lt hbx
      have hbsA : p + 4 ≤ (W.drew.alloc (.cells (rowC (⟨xf, xu, xn, xct, xcl, xk, xil⟩, A, c)).toArray 129)).heap.size := by have := hbA.size; omega
      have hC1 : W.drew.cell? ⟨p, 0, none⟩ = some (.slice Ao os.length co) := co1
      have hC2 : (W.drew.alloc (.cells (rowC (⟨xf, xu, xn, xct, xcl, xk, xil⟩, A, c)).toArray 129)).cell? ⟨p, 0, none⟩ = some (.slice Ao os.length co) := cell_allocU hC1 _
      have hC3 : (W.alloc (.cells (rowC (⟨xf, xu, xn, xct, xcl, xk, xil⟩, A, c)).toArray 129)).cell? ⟨p, 0, none⟩ = some (.slice Ao os.length co) := hC2
      have hKA : (W.drew.alloc (.cells (rowC (⟨xf, xu, xn, xct, xcl, xk, xil⟩, A, c)).toArray 129)).heap[w1.heap.size]? = W.drew.heap[w1.heap.size]? := hbA.block _ hxz
      rw [hrow] at hownA hrdA honeA hbsA hC2 hC3 hKA
      have N1 : (Value.slice Ao os.length co).ownBlock ≠ some p := fun h => by have := hlt _ h; omega
      have N3 : (Value.slice Ao os.length co).ownBlock ≠ some (p + 2) := fun h => by have := hlt _ h; omega
      have M4 : w1.heap.size ≠ p := by omega
      have M5 : w1.heap.size ≠ p + 2 := by omega
      have HI := Lib.hid (And.intro hH (And.intro hbx (And.intro hbA hxz)))
      clear hlt hH hbx hbA hrow hxz cq fq cw co1 cc d0 d1 d2 d3 d4 d5 d6 PA IF IL hE hol
      refine wp_region_held_drew (S := fun w' => w'.cell? ⟨w1.heap.size, 0, none⟩ = some (.int .i32 xf) ∧ w'.cell? ⟨w1.heap.size, 1, none⟩ = some (.int .i32 xu) ∧ w'.cell? ⟨w1.heap.size, 2, none⟩ = some (.string (mk8 xn)) ∧ w'.cell? ⟨w1.heap.size, 3, none⟩ = some (.string (mk8 xct)) ∧ w'.cell? ⟨w1.heap.size, 4, none⟩ = some (.int .i64 xcl) ∧ w'.cell? ⟨w1.heap.size, 5, none⟩ = some (.string (mk8 xk)) ∧ w'.cell? ⟨w1.heap.size, 6, none⟩ = some (.slice A xil.length c)) (by kernel_rfl) HS (fun hHeld => ?_)
      refine wpAnyH_take (i := 1) (v := .agg #[.int .i32 xf, .int .i32 xu, .string (mk8 xn), .string (mk8 xct), .int .i64 xcl, .string (mk8 xk), .slice A xil.length c]) rfl (by kernel_rfl) (by kernel_rfl) (by kernel_rfl) (fun _ _ _ h => h) (Or.inl ⟨by rfl, by (intro w hSw; (try dsimp only at hSw); go_simp)⟩) hHeld ?_
      try simp only [Act.put, List.setIfInBounds_toArray, List.set_cons_zero, List.set_cons_succ]
      refine wpAnyH_take (i := 4) (v := .pointer (some ⟨w1.heap.size, 0, none⟩)) rfl (by kernel_rfl) (by kernel_rfl) (by kernel_rfl) (fun _ _ _ h => h) (Or.inl ⟨by rfl, by (intro w hSw; (try dsimp only at hSw); go_simp)⟩) hHeld ?_
      try simp only [Act.put, List.setIfInBounds_toArray, List.set_cons_zero, List.set_cons_succ]
      refine wpAnyH_take (i := 5) (v := .int .i32 xf) rfl (by kernel_rfl) (by kernel_rfl) (by kernel_rfl) (fun _ _ _ h => h) (Or.inl ⟨by rfl, by (intro w hSw; (try dsimp only at hSw); go_simp)⟩) hHeld ?_
      try simp only [Act.put, List.setIfInBounds_toArray, List.set_cons_zero, List.set_cons_succ]
      refine wpAnyH_ready (rs := [0, 2]) (by kernel_rfl) (by simp) (AllReadyH.cons rfl (fun K hK => ?_) (AllReadyH.cons rfl (fun K hK => ?_) AllReadyH.nil))
      ·go_simp
       refine hK.out _ _ hHeld (fun _ => ?_)
       clear hK K
       try simp only [Act.put, List.setIfInBounds_toArray, List.set_cons_zero, List.set_cons_succ]
       refine wpAnyH_ready (rs := [2]) (by kernel_rfl) (by simp) (AllReadyH.cons rfl (fun K hK => ?_) AllReadyH.nil)
       go_simp
       refine hK.out _ _ (keep7 hHeld hKA) (fun hHeld2 => ?_)
       clear hK K
       try simp only [Act.put, List.setIfInBounds_toArray, List.set_cons_zero, List.set_cons_succ]
       refine wpAnyH_ready (rs := [3]) (by kernel_rfl) (by simp) (AllReadyH.cons rfl (fun K hK => ?_) AllReadyH.nil)
       refine step_appR rowElem _ rfl (.tmp 50) (.tmp 52) rfl (p + 4) rfl hownA rfl hrdA honeA h63A hbyA hbsA ?_
       intro A4 c4 w4 hown4 hg4
       obtain ⟨hH, hbx, hbA, hxz⟩ := HI.out
       have hg5 : (W.alloc (.cells (rowC (⟨xf, xu, xn, xct, xcl, xk, xil⟩, A, c)).toArray 129)).drew.grownBy w4 (Value.slice Ao os.length co).ownBlock := hg4
       clear hg4
       have hbx4 := box_grown (box_below hbx hbA) hg5 hAP
       have b24 := box_grown (box_below hH.out hbA) hg5 N1
       have b74 := box_grown (box_below hH.was hbA) hg5 N3
       have hK4 : w4.heap[w1.heap.size]? = (W.alloc (.cells (rowC (⟨xf, xu, xn, xct, xcl, xk, xil⟩, A, c)).toArray 129)).drew.heap[w1.heap.size]? := hbx4.trans (box_below hbx hbA).symm
       refine hK.out _ _ (keep7 hHeld2 hK4) (fun hHeld3 => ?_)
       clear hK K
       try simp only [Act.put, List.setIfInBounds_toArray, List.set_cons_zero, List.set_cons_succ]
       have hC4 : w4.cell? ⟨p, 0, none⟩ = some (.slice Ao os.length co) := box_cell b24 0 rfl
       have hF4 : w4.frozen? ⟨p, 0, none⟩ = false := box_frozen b24 0
       obtain ⟨W6, hW6, k2, kr, k4, k7, k8, kb⟩ := app_fin (z := .int .i32 xf) (x := (⟨xf, xu, xn, xct, xcl, xk, xil⟩, A, c)) hpw HM.out.2.2.2 hbA hH.rows hH.out hH.first hH.was hH.clo HM.out.2.2.1 hown4 hg5
       have HK := Lib.hid (And.intro k2 (And.intro kr (And.intro k4 (And.intro k7 (And.intro k8 (And.intro kb hH.outs))))))
       have e2 : (w4.setCell ⟨p, 0, none⟩ (.slice A4 (os.length + 1) c4)).cell? ⟨p + 2, 0, none⟩ = some (.int .i32 st.was) := box_cell (box_setU b74 (by omega)) 0 rfl
       have e3 : (w4.setCell ⟨p, 0, none⟩ (.slice A4 (os.length + 1) c4)).frozen? ⟨p + 2, 0, none⟩ = false := box_frozen (box_setU b74 (by omega)) 0
       have q1 : (w4.setCell ⟨p, 0, none⟩ (.slice A4 (os.length + 1) c4)).heap[w1.heap.size]? = w4.heap[w1.heap.size]? := Below.heap_setCell _ _ _ _ M4
       have q2 : ((w4.setCell ⟨p, 0, none⟩ (.slice A4 (os.length + 1) c4)).setCell ⟨p + 2, 0, none⟩ (.int .i32 xf)).heap[w1.heap.size]? = (w4.setCell ⟨p, 0, none⟩ (.slice A4 (os.length + 1) c4)).heap[w1.heap.size]? := Below.heap_setCell _ _ _ _ M5
       clear k2 kr k4 k7 k8 kb hg5 b24 b74 hbx4 hK4 hH hbx hbA hxz hown4 HS hC1 hC2 hC3 hownA hrdA honeA h63A hbyA hbsA hHeld hHeld2
       refine wpAnyH_ready (rs := [6]) (by kernel_rfl) (by simp) (AllReadyH.cons rfl (fun K hK => ?_) AllReadyH.nil)
       go_simp
       refine hK.out _ _ (keep7 hHeld3 q1) (fun hHeld4 => ?_)
       clear hK K hC4 hF4
       try simp only [Act.put, List.setIfInBounds_toArray, List.set_cons_zero, List.set_cons_succ]
       refine wpAnyH_ready (rs := [7]) (by kernel_rfl) (by simp) (AllReadyH.cons rfl (fun K hK => ?_) AllReadyH.nil)
       go_simp
       refine hK.out _ _ (keep7 hHeld4 q2) (fun _ => ?_)
       clear hK K hHeld3 hHeld4 e2 e3 q1 q2
       refine wpAnyH_done (by kernel_rfl) ?_ _
       go_wp2
       go_returns
       rw [← hW6, HR.out]
       obtain ⟨k2, kr, k4, k7, k8, kb, h1⟩ := HK.out
       refine ⟨rfl, ⟨os ++ [(⟨xf, xu, xn, xct, xcl, xk, xil⟩, A, c)], A4, c4, none, ?_⟩, kb, fun h => absurd rfl h⟩
       refine ⟨by simp [h1], ?_, kr, k4, fun _ => rfl, fun f hf => absurd hf (by simp), k7, k8⟩
       rw [List.length_append, List.length_singleton]
       exact k2
      ·go_simp
       refine hK.out _ _ (keep7 hHeld hKA) (fun hHeld2 => ?_)
       clear hK K
       try simp only [Act.put, List.setIfInBounds_toArray, List.set_cons_zero, List.set_cons_succ]
       refine wpAnyH_ready (rs := [0]) (by kernel_rfl) (by simp) (AllReadyH.cons rfl (fun K hK => ?_) AllReadyH.nil)
       go_simp
       refine hK.out _ _ hHeld2 (fun _ => ?_)
       clear hK K
       try simp only [Act.put, List.setIfInBounds_toArray, List.set_cons_zero, List.set_cons_succ]
       refine wpAnyH_ready (rs := [3]) (by kernel_rfl) (by simp) (AllReadyH.cons rfl (fun K hK => ?_) AllReadyH.nil)
       refine step_appR rowElem _ rfl (.tmp 50) (.tmp 52) rfl (p + 4) rfl hownA rfl hrdA honeA h63A hbyA hbsA ?_
       intro A4 c4 w4 hown4 hg4
       obtain ⟨hH, hbx, hbA, hxz⟩ := HI.out
       have hg5 : (W.alloc (.cells (rowC (⟨xf, xu, xn, xct, xcl, xk, xil⟩, A, c)).toArray 129)).drew.grownBy w4 (Value.slice Ao os.length co).ownBlock := hg4
       clear hg4
       have hbx4 := box_grown (box_below hbx hbA) hg5 hAP
       have b24 := box_grown (box_below hH.out hbA) hg5 N1
       have b74 := box_grown (box_below hH.was hbA) hg5 N3
       have hK4 : w4.heap[w1.heap.size]? = (W.alloc (.cells (rowC (⟨xf, xu, xn, xct, xcl, xk, xil⟩, A, c)).toArray 129)).drew.heap[w1.heap.size]? := hbx4.trans (box_below hbx hbA).symm
       refine hK.out _ _ (keep7 hHeld2 hK4) (fun hHeld3 => ?_)
       clear hK K
       try simp only [Act.put, List.setIfInBounds_toArray, List.set_cons_zero, List.set_cons_succ]
       have hC4 : w4.cell? ⟨p, 0, none⟩ = some (.slice Ao os.length co) := box_cell b24 0 rfl
       have hF4 : w4.frozen? ⟨p, 0, none⟩ = false := box_frozen b24 0
       obtain ⟨W6, hW6, k2, kr, k4, k7, k8, kb⟩ := app_fin (z := .int .i32 xf) (x := (⟨xf, xu, xn, xct, xcl, xk, xil⟩, A, c)) hpw HM.out.2.2.2 hbA hH.rows hH.out hH.first hH.was hH.clo HM.out.2.2.1 hown4 hg5
       have HK := Lib.hid (And.intro k2 (And.intro kr (And.intro k4 (And.intro k7 (And.intro k8 (And.intro kb hH.outs))))))
       have e2 : (w4.setCell ⟨p, 0, none⟩ (.slice A4 (os.length + 1) c4)).cell? ⟨p + 2, 0, none⟩ = some (.int .i32 st.was) := box_cell (box_setU b74 (by omega)) 0 rfl
       have e3 : (w4.setCell ⟨p, 0, none⟩ (.slice A4 (os.length + 1) c4)).frozen? ⟨p + 2, 0, none⟩ = false := box_frozen (box_setU b74 (by omega)) 0
       have q1 : (w4.setCell ⟨p, 0, none⟩ (.slice A4 (os.length + 1) c4)).heap[w1.heap.size]? = w4.heap[w1.heap.size]? := Below.heap_setCell _ _ _ _ M4
       have q2 : ((w4.setCell ⟨p, 0, none⟩ (.slice A4 (os.length + 1) c4)).setCell ⟨p + 2, 0, none⟩ (.int .i32 xf)).heap[w1.heap.size]? = (w4.setCell ⟨p, 0, none⟩ (.slice A4 (os.length + 1) c4)).heap[w1.heap.size]? := Below.heap_setCell _ _ _ _ M5
       clear k2 kr k4 k7 k8 kb hg5 b24 b74 hbx4 hK4 hH hbx hbA hxz hown4 HS hC1 hC2 hC3 hownA hrdA honeA h63A hbyA hbsA hHeld hHeld2
       refine wpAnyH_ready (rs := [6]) (by kernel_rfl) (by simp) (AllReadyH.cons rfl (fun K hK => ?_) AllReadyH.nil)
       go_simp
       refine hK.out _ _ (keep7 hHeld3 q1) (fun hHeld4 => ?_)
       clear hK K hC4 hF4
       try simp only [Act.put, List.setIfInBounds_toArray, List.set_cons_zero, List.set_cons_succ]
       refine wpAnyH_ready (rs := [7]) (by kernel_rfl) (by simp) (AllReadyH.cons rfl (fun K hK => ?_) AllReadyH.nil)
       go_simp
       refine hK.out _ _ (keep7 hHeld4 q2) (fun _ => ?_)
       clear hK K hHeld3 hHeld4 e2 e3 q1 q2
       refine wpAnyH_done (by kernel_rfl) ?_ _
       go_wp2
       go_returns
       rw [← hW6, HR.out]
       obtain ⟨k2, kr, k4, k7, k8, kb, h1⟩ := HK.out
       refine ⟨rfl, ⟨os ++ [(⟨xf, xu, xn, xct, xcl, xk, xil⟩, A, c)], A4, c4, none, ?_⟩, kb, fun h => absurd rfl h⟩
       refine ⟨by simp [h1], ?_, kr, k4, fun _ => rfl, fun f hf => absurd hf (by simp), k7, k8⟩
       rw [List.length_append, List.length_singleton]
       exact k2
     ·subst hai
      rw [if_pos rfl] at hR
      have HR := Lib.hid hR
      clear hR
      go_enter Tryz.func67, Tryz.ntmps67
      go_wp2_with fail
      refine PA.mono ?_
      rintro e w1 ⟨A, c, rfl, hown, hb⟩
      simp only [rowV]
      simp only [] at hown
      obtain ⟨hh2, hbx, hin, hb2, hz⟩ := take_mem (xf := xf) (xu := xu) (xn := xn) (xct := xct) (xcl := xcl) (xk := xk) HH.out hpw hown hb
      have HM := Lib.hid (And.intro hh2 (And.intro hbx (And.intro hin hb2)))
      clear hh2 hbx hin hb2 hown hb
      go_wp2_with fail
      generalize hWW : w1.alloc _ = W at *
      clear hWW
      refine (IL _).mono ?_
      rintro e w2 ⟨rfl, rfl⟩
      have hbx := HM.out.2.1
      have d0 : W.cell? ⟨w1.heap.size, 0, none⟩ = some (.int .i32 xf) := box_cell hbx 0 rfl
      have d1 : W.cell? ⟨w1.heap.size, 1, none⟩ = some (.int .i32 xu) := box_cell hbx 1 rfl
      have d2 : W.cell? ⟨w1.heap.size, 2, none⟩ = some (.string (mk8 xn)) := box_cell hbx 2 rfl
      have d3 : W.cell? ⟨w1.heap.size, 3, none⟩ = some (.string (mk8 xct)) := box_cell hbx 3 rfl
      have d4 : W.cell? ⟨w1.heap.size, 4, none⟩ = some (.int .i64 xcl) := box_cell hbx 4 rfl
      have d5 : W.cell? ⟨w1.heap.size, 5, none⟩ = some (.string (mk8 xk)) := box_cell hbx 5 rfl
      have d6 : W.cell? ⟨w1.heap.size, 6, none⟩ = some (.slice A xil.length c) := box_cell hbx 6 rfl
      obtain ⟨os, Ao, co, q, hH0⟩ := HH.out
      have hAP : (Value.slice Ao os.length co).ownBlock ≠ some w1.heap.size := fun h => by have := hH0.rows.own.lt _ h; omega
      have hH := hH0.below HM.out.2.2.2
      clear hH0
      have cq : W.cell? ⟨p + 1, 0, none⟩ = some (.pointer q) := box_cell hH.first 0 rfl
      have fq : W.frozen? ⟨p + 1, 0, none⟩ = false := box_frozen hH.first 0
      have cw : W.cell? ⟨p + 2, 0, none⟩ = some (.int .i32 st.was) := box_cell hH.was 0 rfl
      have co1 : W.cell? ⟨p, 0, none⟩ = some (.slice Ao os.length co) := box_cell hH.out 0 rfl
      have cc : W.cell? ⟨p + 3, 0, none⟩ = some (.func (.func 65) #[] #[.pointer (some ⟨p + 1, 0, none⟩), .pointer (some ⟨p, 0, none⟩), .pointer (some ⟨p + 2, 0, none⟩)]) := box_cell hH.clo 0 rfl
      have hq0 := hH.shut HST.out
      subst hq0
      have HHH := Lib.hid hH
      clear hH hbx
      go_wp2_with fail
      refine (IF _).mono ?_
      rintro e w2 ⟨rfl, rfl⟩
      go_wp2
      go_returns
      rw [HR.out]
      refine ⟨rfl, ?_, (HM.out.2.2.2.mono (show p ≤ w.heap.size by omega)).setCell (p := ⟨p + 1, 0, none⟩) (by simp) _, fun h => absurd rfl h⟩
      have hH := HHH.out
      have hbx := HM.out.2.1
      refine ⟨os, Ao, co, some ⟨w1.heap.size, 0, none⟩, hH.outs, box_setU hH.out (by omega), hH.rows.setCell (by simp), box_set hH.first 0 _, fun h => absurd h (by simp), ?_, box_setU hH.was (by omega), box_setU hH.clo (by omega)⟩
      intro f hf
      injection hf with hf
      subst hf
      refine ⟨w1.heap.size, A, c, by omega, rfl, box_setU hbx (by omega), hAP⟩
   ·subst hbi
    rw [if_pos rfl] at hR
    have HR := Lib.hid hR
    clear hR
    go_enter Tryz.func67, Tryz.ntmps67
    go_wp2_with fail
    refine PA.mono ?_
    rintro e w1 ⟨A, c, rfl, hown, hb⟩
    simp only [rowV]
    simp only [] at hown
    obtain ⟨hh2, hbx, hin, hb2, hz⟩ := take_mem (xf := xf) (xu := xu) (xn := xn) (xct := xct) (xcl := xcl) (xk := xk) HH.out hpw hown hb
    have HM := Lib.hid (And.intro hh2 (And.intro hbx (And.intro hin hb2)))
    clear hh2 hbx hin hb2 hown hb
    go_wp2_with fail
    generalize hWW : w1.alloc _ = W at *
    clear hWW
    refine (IL _).mono ?_
    rintro e w2 ⟨rfl, rfl⟩
    have hbx := HM.out.2.1
    have d0 : W.cell? ⟨w1.heap.size, 0, none⟩ = some (.int .i32 xf) := box_cell hbx 0 rfl
    have d1 : W.cell? ⟨w1.heap.size, 1, none⟩ = some (.int .i32 xu) := box_cell hbx 1 rfl
    have d2 : W.cell? ⟨w1.heap.size, 2, none⟩ = some (.string (mk8 xn)) := box_cell hbx 2 rfl
    have d3 : W.cell? ⟨w1.heap.size, 3, none⟩ = some (.string (mk8 xct)) := box_cell hbx 3 rfl
    have d4 : W.cell? ⟨w1.heap.size, 4, none⟩ = some (.int .i64 xcl) := box_cell hbx 4 rfl
    have d5 : W.cell? ⟨w1.heap.size, 5, none⟩ = some (.string (mk8 xk)) := box_cell hbx 5 rfl
    have d6 : W.cell? ⟨w1.heap.size, 6, none⟩ = some (.slice A xil.length c) := box_cell hbx 6 rfl
    obtain ⟨os, Ao, co, q, hH0⟩ := HH.out
    have hAP : (Value.slice Ao os.length co).ownBlock ≠ some w1.heap.size := fun h => by have := hH0.rows.own.lt _ h; omega
    have hH := hH0.below HM.out.2.2.2
    clear hH0
    have cq : W.cell? ⟨p + 1, 0, none⟩ = some (.pointer q) := box_cell hH.first 0 rfl
    have fq : W.frozen? ⟨p + 1, 0, none⟩ = false := box_frozen hH.first 0
    have cw : W.cell? ⟨p + 2, 0, none⟩ = some (.int .i32 st.was) := box_cell hH.was 0 rfl
    have co1 : W.cell? ⟨p, 0, none⟩ = some (.slice Ao os.length co) := box_cell hH.out 0 rfl
    have cc : W.cell? ⟨p + 3, 0, none⟩ = some (.func (.func 65) #[] #[.pointer (some ⟨p + 1, 0, none⟩), .pointer (some ⟨p, 0, none⟩), .pointer (some ⟨p + 2, 0, none⟩)]) := box_cell hH.clo 0 rfl
    have hq0 := hH.shut HST.out
    subst hq0
    have HHH := Lib.hid hH
    clear hH hbx
    go_wp2_with fail
    refine (IF _).mono ?_
    rintro e w2 ⟨rfl, rfl⟩
    go_wp2
    go_returns
    rw [HR.out]
    exact ⟨rfl, HM.out.1, HM.out.2.2.2.mono (by omega), fun _ => HM.out.2.2.2⟩
 ·rw [if_pos he]
  have hne : (e0 != 0) = true := by simpa using he
  clear he hR IF IL
  obtain ⟨xf, xu, xn, xct, xcl, xk, xil⟩ := x
  go_enter Tryz.func67, Tryz.ntmps67
  go_wp2_with fail
  refine PA.mono ?_
  rintro e w1 ⟨A, c, rfl, hown, hb⟩
  simp only [rowV]
  obtain ⟨hh2, hbx, hin, hb2, hz⟩ := take_mem (xf := xf) (xu := xu) (xn := xn) (xct := xct) (xcl := xcl) (xk := xk) HH.out hpw hown hb
  have HM := Lib.hid (And.intro hh2 hb2)
  clear hh2 hbx hin hb2 hown hb
  go_wp2
  go_returns
  exact ⟨rfl, HM.out.1, HM.out.2.mono (by omega), fun _ => HM.out.2⟩
end Go.Proofs.YtajkjaciooijjaaGreatDoor
end
