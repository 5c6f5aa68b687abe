/- Rows of a file: the document's answer. -/
import Derived.Test.YtajkjaciooijjaaGreatDoorH02
import Derived.Test.YtajkjaciooijjaaGreatDoorH01
import Derived.Test.YtajkjaciooijjaaGreatDoorH06
import Derived.Test.YtajkjaciooijjaaGreatDoorH09
import Derived.Test.YtajkjaciooijjaaGreatDoorH10
import Derived.Test.YtajkjaciooijjaaGreatDoorH04
import Derived.Test.YtajkjaciooijjaaGreatDoorH12
import Derived.Test.YtajkjaciooijjaaGreatDoorH13
import Derived.Test.YtajkjaciooijjaaGreatDoorH14
import Derived.Test.YtajkjaciooijjaaGreatDoorH20
import Derived.Test.YtajkjaciooijjaaGreatDoorH34
section
set_option linter.unusedSimpArgs false
set_option linter.unusedVariables false
namespace Go.Proofs.YtajkjaciooijjaaGreatDoor
open Go.RowKit
theorem rinnerF (l : List UInt8) (w : World) (hs : l.length ≤ 1073741824) :
  Calls Tryz.prog 57 #[.string (mk8 l), .string ⟨#[44, 32, 70, 105, 114, 115, 116, 62]⟩] w fun e w' => e = .returned (.tuple #[.string (mk8 (rinnerS l FSTB).1), .bool (rinnerS l FSTB).2]) ∧ w = w' := by
 have := rinner_any (mk8 l) ⟨#[44, 32, 70, 105, 114, 115, 116, 62]⟩ w (by rw [mk8_size]; exact hs) (by decide)
 rw [bs_mk8] at this
 exact this
theorem rinnerL (l : List UInt8) (w : World) (hs : l.length ≤ 1073741824) :
  Calls Tryz.prog 57 #[.string (mk8 l), .string ⟨#[44, 32, 76, 97, 115, 116, 62]⟩] w fun e w' => e = .returned (.tuple #[.string (mk8 (rinnerS l LSTB).1), .bool (rinnerS l LSTB).2]) ∧ w = w' := by
 have := rinner_any (mk8 l) ⟨#[44, 32, 76, 97, 115, 116, 62]⟩ w (by rw [mk8_size]; exact hs) (by decide)
 rw [bs_mk8] at this
 exact this
theorem rowZ (l : List UInt8) (w : World) (hs : l.length ≤ 512) :
  Calls Tryz.prog 56 #[.string (mk8 l)] w (FreshRow w (parseS l)) := by
 have := rrow_any (mk8 l) w (by rw [mk8_size]; omega)
 rw [bs_mk8] at this
 exact this
theorem rinnerS_yes {l en a : List UInt8} (h : (a, true) = innerS l en) : rinnerS l en = (a, true) := by unfold rinnerS; rw [← h]; rfl
theorem rinnerS_no {l en a : List UInt8} (h : (a, false) = innerS l en) : rinnerS l en = ([], false) := by unfold rinnerS; rw [← h]; rfl
structure RInv (L : List (Int × List UInt8)) (w1 wr : World) (k : Nat) (st : StU) (os : List RA) (A : Option Addr) (c : Nat) (g : RA) : Prop where
 outs : os.map (·.1) = st.out
 rows : RowsAt 79 (w1.heap.size + 1) wr os A c
 box : wr.heap[w1.heap.size]? = some (.cells (rowC g).toArray 79 (0, 0))
 op : ∀ f, st.op = some f → g.1 = f ∧ (innerS f.nm FSTB).2 = true ∧ RowOk 512 f
 len : st.out.length ≤ k
 zero : k = 0 → st.op = none
 word : rowsW ⟨[], none, -1⟩ L = rowsW st (L.drop k)
 bel : Below w1.heap.size w1 wr
section
variable {w w' : World} {T : TypeId} {B : Nat} {os : List RA} {A : Option Addr} {c : Nat}
theorem RowsAt.set7 {p : Nat} (h : RowsAt T B w os A c) (hp : p < B) (v0 v1 v2 v3 v4 v5 v6 : Value) : RowsAt T B (set7 w p v0 v1 v2 v3 v4 v5 v6) os A c :=
 (((((((h.setCell (p := ⟨p, 0, none⟩) hp).setCell (p := ⟨p, 1, none⟩) hp).setCell (p := ⟨p, 2, none⟩) hp).setCell (p := ⟨p, 3, none⟩) hp).setCell (p := ⟨p, 4, none⟩) hp).setCell (p := ⟨p, 5, none⟩) hp).setCell (p := ⟨p, 6, none⟩) hp)
end
theorem rapp_fin {w1 wr W w4 : World} {L : List (Int × List UInt8)} {k : Nat} {st : StU} {os : List RA} {A A4 : Option Addr} {c c4 : Nat} {g x : RA} {z : Int} {o : Obj} (h : RInv L w1 wr k st os A c g) (hb2 : Below wr.heap.size wr W)
  (hx : IntoAt (w1.heap.size + 1) W x) (hw : rowsW ⟨[], none, -1⟩ L = rowsW ⟨st.out ++ [x.1], none, z⟩ (L.drop (k + 1)))
  (hown4 : w4.ownsRow (w1.heap.size + 1) 79 7 (.slice A4 (os.length + 1) c4) (os.length + 1) (Vs os ++ rowC x)) (hg : (W.alloc o).grownBy w4 (Value.slice A os.length c).ownBlock) :
  RInv L w1 w4 (k + 1) ⟨st.out ++ [x.1], none, z⟩ (os ++ [x]) A4 c4 g := by
 have hbA : Below W.heap.size W (W.alloc o) := (Below.refl _ _).alloc (Nat.le_refl _) _
 have hbB := below_then hb2 hbA
 have rA := RowsAt.app (h.rows.below hbB) (own_same hx (fun g _ hg => hbA.block g hg)) (by decide) hown4 hg
 have hlt : ∀ k, (Value.slice A os.length c).ownBlock = some k → w1.heap.size + 1 ≤ k ∧ k < wr.heap.size := h.rows.own.lt
 have hz := h.bel.size
 have hz2 := hbB.size
 refine ⟨by rw [List.map_append, h.outs]; rfl, rA, box_grown (box_below h.box hbB) hg (fun hh => by have := hlt _ hh; omega), fun f hf => absurd hf (by simp), ?_, fun hh => absurd hh (by omega), hw, ?_⟩
 ·have := h.len
  show (st.out ++ [x.1]).length ≤ k + 1
  rw [List.length_append, List.length_singleton]
  omega
 ·exact (h.bel.trans (hbB.mono hz)).grown hg (by omega) (fun j hj => by have := hlt j hj; omega)
theorem own_mem {w1 wr w2 : World} {xf xu xcl : Int} {xn xct xk : List UInt8} {xil : List Int} {A : Option Addr} {c : Nat} (hz : w1.heap.size + 1 ≤ wr.heap.size)
  (hown : w2.ownsRow wr.heap.size 21 1 (.slice A xil.length c) xil.length (Rs xil)) (hb : Below wr.heap.size wr w2) :
  (w2.alloc (.cells #[.int .i32 xf, .int .i32 xu, .string (mk8 xn), .string (mk8 xct), .int .i64 xcl, .string (mk8 xk), .slice A xil.length c] 79)).heap[w2.heap.size]? = some (.cells #[.int .i32 xf, .int .i32 xu, .string (mk8 xn), .string (mk8 xct), .int .i64 xcl, .string (mk8 xk), .slice A xil.length c] 79 (0, 0)) ∧
  IntoAt (w1.heap.size + 1) (w2.alloc (.cells #[.int .i32 xf, .int .i32 xu, .string (mk8 xn), .string (mk8 xct), .int .i64 xcl, .string (mk8 xk), .slice A xil.length c] 79)) (⟨xf, xu, xn, xct, xcl, xk, xil⟩, A, c) ∧
  Below wr.heap.size wr (w2.alloc (.cells #[.int .i32 xf, .int .i32 xu, .string (mk8 xn), .string (mk8 xct), .int .i64 xcl, .string (mk8 xk), .slice A xil.length c] 79)) ∧ wr.heap.size ≤ w2.heap.size := by
 have hz2 := hb.size
 exact ⟨box_new _ _ _, own_baseK (own_belowK hown ((Below.refl _ _).alloc (Nat.le_refl _) _)) (by omega), hb.alloc hz2 _, hz2⟩
set_option maxRecDepth 20000 in
set_option maxHeartbeats 8000000 in
theorem rrows_any (s : ByteArray) (w : World) (hs : s.size ≤ 1073741824) :
  Calls Tryz.prog 36 #[.string s] w (FreshRows 79 w (rowsS (bs s))) := by
 have LN := rlines_any s w hs
 have hlo := linesS_ok (bs s)
 unfold rowsS
 obtain ⟨⟨L, e0⟩, hL⟩ : ∃ z, z = linesS (bs s) := ⟨_, rfl⟩
 rw [← hL] at LN hlo ⊢
 simp only [] at hlo ⊢
 clear hL
 by_cases he : e0 = 0
 ·subst he
  rw [if_neg (show ¬ ((0 : Int) ≠ 0) by simp)]
  have HLO := Lib.hid hlo
  have hll := hlo.2
  clear hlo
  obtain ⟨R, hR⟩ : ∃ R, R = endU L (rowsW ⟨[], none, -1⟩ L) := ⟨_, rfl⟩
  rw [← hR]
  have HR := Lib.hid hR
  clear hR
  go_enter Tryz.func36, Tryz.ntmps36
  go_wp2_with fail
  refine LN.mono ?_
  intro e w1 hF
  obtain ⟨A, c, rfl, hr, hb1⟩ := hF.rd
  clear hF LN
  have hI0 : Hid (RInv L w1 (w1.alloc (.cells #[.int .i32 0, .int .i32 0, .string ⟨#[]⟩, .string ⟨#[]⟩, .int .i64 0, .string ⟨#[]⟩, .slice none 0 0] 79)) 0 ⟨[], none, -1⟩ [] none 0 (RowS.none, none, 0)) :=
   ⟨rfl, RowsAt.nil _ _ _, box_new _ _ _, fun f hf => absurd hf (by simp), Nat.zero_le _, fun _ => rfl, rfl, (Below.refl _ _).alloc (Nat.le_refl _) _⟩
  go_wp2
  go_loopw [7, 8, 10, 11] (fun o b ws i wr => ∃ (k : Nat) (st : StU) (os : List RA) (A' : Option Addr) (c' : Nat) (g : RA), k ≤ L.length ∧ i = .int .i64 k ∧ b = .bool st.op.isSome ∧ ws = .int .i32 st.was ∧ o = .slice A' os.length c' ∧ Hid (RInv L w1 wr k st os A' c' g)) (fun _ _ _ i _ => L.length - (intOf i).toNat)
  case atStart => exact ⟨0, ⟨[], none, -1⟩, [], none, 0, (RowS.none, none, 0), Nat.zero_le _, rfl, rfl, rfl, rfl, hI0⟩
  case round =>
   obtain ⟨k, st, os, A', c', g, hk, rfl, rfl, rfl, rfl, HI⟩ := hrel
   clear hI0
   by_cases hin : k < L.length
   ·have hi : (k : Int) < (L.length : Int) := by omega
    obtain ⟨l, hl⟩ : ∃ l, L[k]? = some l := ⟨_, List.getElem?_eq_getElem hin⟩
    have hz := HLO.out.1 l (List.mem_of_getElem? hl)
    have hd := drop_get hl
    obtain ⟨b, off, rfl, hbl, hcx⟩ := (hr.below (by omega) HI.out.bel).at_ (by omega) (by omega)
    have cx1 := hcx _ _ (Ls_at L k l hl).1
    have cx2 := hcx _ _ (Ls_at L k l hl).2
    rw [← Nat.add_assoc] at cx2
    clear hcx
    have hpo := parse_ok l.2
    obtain ⟨l1, l2⟩ := l
    simp only [] at cx1 cx2 hz hpo
    have hto := takeS_ok (N := 512) st l2 hz (fun f hf => (HI.out.op f hf).2.2)
    have hT : takeS st l2 = if (parseS l2).2 ≠ 0 then (st, (parseS l2).2) else takeR st (parseS l2).1 := rfl
    have HRB : (takeS st l2).2 ≠ 0 → R = ([], l1, (takeS st l2).2) := fun h => by
     rw [HR.out, HI.out.word, hd, rowsW_bad h]; unfold endU; rw [if_pos h]
    have HRG : (takeS st l2).2 = 0 → rowsW ⟨[], none, -1⟩ L = rowsW (takeS st l2).1 (L.drop (k + 1)) := fun h => by
     rw [HI.out.word, hd, rowsW_good h]
    have RW := fun w => rowZ l2 w hz
    obtain ⟨⟨x, e0⟩, hx⟩ : ∃ z, z = parseS l2 := ⟨_, rfl⟩
    rw [← hx] at RW hpo hT
    simp only [] at hpo hT
    have hxo : RowOk 512 x := ⟨Nat.le_trans hpo.1 hz, hpo.2⟩
    obtain ⟨T, hTT⟩ : ∃ T, T = takeS st l2 := ⟨_, rfl⟩
    rw [← hTT] at hT HRB HRG hto
    clear hTT hx hpo hd hl hz
    have RL := fun w => rinnerL x.nm w (by have := hxo.1; omega)
    have RF := fun w => rinnerF x.nm w (by have := hxo.1; omega)
    have HB := Lib.hid (box_lt HI.out.box)
    by_cases he : e0 = 0
    ·subst he
     rw [if_neg (show ¬ ((0 : Int) ≠ 0) by simp)] at hT
     cases hst : st.op with
     | some f =>
      obtain ⟨hg1, hfi, hfo⟩ := HI.out.op f hst
      have hT2 : T = if (innerS x.nm LSTB).2 = false then (st, 10) else closeS st f x := by rw [hT]; unfold takeR; rw [hst]
      clear hT
      have hso : st.op.isSome = true := by rw [hst]; rfl
      obtain ⟨g, Ag, cg⟩ := g
      simp only [] at hg1
      subst hg1
      obtain ⟨⟨bn, bi⟩, hbb⟩ : ∃ a, a = innerS x.nm LSTB := ⟨_, rfl⟩
      rw [← hbb] at hT2
      simp only [] at hT2
      clear RF
      cases hbi : bi
      ·subst hbi
       rw [if_pos rfl] at hT2
       rw [rinnerS_no hbb] at RL
       rw [hT2] at HRB HRG hto
       clear hbb hst hT2 hfi
       obtain ⟨xf, xu, xn, xct, xcl, xk, xil⟩ := x
       have HR2 := Lib.hid (HRB (by simp))
       clear HRB HRG hto
       go_wp2_with fail
       refine (RW _).mono ?_
       rintro e w2 ⟨A2, c2, rfl, hown2, hb2⟩
       simp only [rowV]
       simp only [] at hown2
       obtain ⟨hbx, hin2, hbW, hz2⟩ := own_mem (w1 := w1) (xf := xf) (xu := xu) (xn := xn) (xct := xct) (xcl := xcl) (xk := xk) HB.out hown2 hb2
       have HM := Lib.hid (And.intro hbx (And.intro hin2 hbW))
       clear hbx hin2 hbW hown2 hb2 RW
       go_wp2_with fail
       generalize hWW : w2.alloc _ = W at *
       clear hWW
       refine (RL _).mono ?_
       rintro e w3 ⟨rfl, rfl⟩
       clear RL
       have hbx := HM.out.1
       have d0 : W.cell? ⟨w2.heap.size, 0, none⟩ = some (.int .i32 xf) := box_cell hbx 0 rfl
       have d1 : W.cell? ⟨w2.heap.size, 1, none⟩ = some (.int .i32 xu) := box_cell hbx 1 rfl
       have d2 : W.cell? ⟨w2.heap.size, 2, none⟩ = some (.string (mk8 xn)) := box_cell hbx 2 rfl
       have d3 : W.cell? ⟨w2.heap.size, 3, none⟩ = some (.string (mk8 xct)) := box_cell hbx 3 rfl
       have d4 : W.cell? ⟨w2.heap.size, 4, none⟩ = some (.int .i64 xcl) := box_cell hbx 4 rfl
       have d5 : W.cell? ⟨w2.heap.size, 5, none⟩ = some (.string (mk8 xk)) := box_cell hbx 5 rfl
       have d6 : W.cell? ⟨w2.heap.size, 6, none⟩ = some (.slice A2 xil.length c2) := box_cell hbx 6 rfl
       clear hbx
       go_wp2
       go_returns
       rw [HR2.out]
       exact ⟨[], none, 0, rfl, rfl, RowsAt.nil _ _ _, below_then hb1 (HI.out.bel.trans (HM.out.2.2.mono HI.out.bel.size))⟩
      ·subst hbi
       rw [if_neg (by simp)] at hT2
       rw [rinnerS_yes hbb] at RL
       obtain ⟨⟨an, ai⟩, haa⟩ : ∃ a, a = innerS g.nm FSTB := ⟨_, rfl⟩
       rw [← haa] at hfi
       simp only [] at hfi
       subst hfi
       have RG := fun w => rinnerF g.nm w (by have := hfo.1; omega)
       rw [rinnerS_yes haa] at RG
       have HB1 : closeB g x ↔ (bn ≠ an ∨ x.ct ≠ g.ct ∨ x.cl ≠ g.cl ∨ 0 < x.il.length + g.il.length ∨ x.fr < g.fr) := by unfold closeB; rw [← haa, ← hbb]
       have HYES : closeB g x → T = (st, 10) := fun h => by rw [hT2]; exact if_pos h
       have HNO : ¬ closeB g x → T = (⟨st.out ++ [⟨g.fr, x.fr, an, x.ct, x.cl, [], []⟩], none, x.fr⟩, 0) := fun h => by rw [hT2]; unfold closeS; rw [if_neg h]; unfold rangeR; rw [← haa]
       rw [HB1] at HYES HNO
       have hil : x.il.length + g.il.length ≤ 36 := by have := hfo.2; have := hxo.2; omega
       have HTO := Lib.hid hto
       clear hto hT2 HB1 hbb haa hst hfo hxo
       obtain ⟨xf, xu, xn, xct, xcl, xk, xil⟩ := x
       obtain ⟨ff, fu, fn, fct, fcl, fk, fil⟩ := g
       simp only [] at HYES HNO RL RG hil
       by_cases hab : bn = an
       ·subst hab
        by_cases hab : xct = fct
        ·subst hab
         by_cases hab : xcl = fcl
         ·subst hab
          by_cases hab : 0 < xil.length + fil.length
          ·have hTT := HYES (.inr (.inr (.inr (.inl hab))))
           rw [hTT] at HRB HRG
           have HR2 := Lib.hid (HRB (by simp))
           clear HRB HRG HTO HYES HNO hTT
           have hsum : IntKind.i64.wrap ((xil.length : Int) + (fil.length : Int)) = (xil.length : Int) + (fil.length : Int) := by rw [IntWalk.i64_in] <;> omega
           have hpos : (0 : Int) < (xil.length : Int) + (fil.length : Int) := by omega
           clear hab
           go_wp2_with fail
           refine (RW _).mono ?_
           rintro e w2 ⟨A2, c2, rfl, hown2, hb2⟩
           simp only [rowV]
           simp only [] at hown2
           obtain ⟨hbx, hin2, hbW, hz2⟩ := own_mem (w1 := w1) (xf := xf) (xu := xu) (xn := xn) (xct := xct) (xcl := xcl) (xk := xk) HB.out hown2 hb2
           have HM := Lib.hid (And.intro hbx (And.intro hin2 hbW))
           clear hbx hin2 hbW hown2 hb2 RW
           go_wp2_with fail
           generalize hWW : w2.alloc _ = W at *
           clear hWW
           refine (RL _).mono ?_
           rintro e w3 ⟨rfl, rfl⟩
           clear RL
           have hbx := HM.out.1
           have d0 : W.cell? ⟨w2.heap.size, 0, none⟩ = some (.int .i32 xf) := box_cell hbx 0 rfl
           have d1 : W.cell? ⟨w2.heap.size, 1, none⟩ = some (.int .i32 xu) := box_cell hbx 1 rfl
           have d2 : W.cell? ⟨w2.heap.size, 2, none⟩ = some (.string (mk8 xn)) := box_cell hbx 2 rfl
           have d3 : W.cell? ⟨w2.heap.size, 3, none⟩ = some (.string (mk8 xct)) := box_cell hbx 3 rfl
           have d4 : W.cell? ⟨w2.heap.size, 4, none⟩ = some (.int .i64 xcl) := box_cell hbx 4 rfl
           have d5 : W.cell? ⟨w2.heap.size, 5, none⟩ = some (.string (mk8 xk)) := box_cell hbx 5 rfl
           have d6 : W.cell? ⟨w2.heap.size, 6, none⟩ = some (.slice A2 xil.length c2) := box_cell hbx 6 rfl
           clear hbx
           have hbf := box_below HI.out.box HM.out.2.2
           have c0 : W.cell? ⟨w1.heap.size, 0, none⟩ = some (.int .i32 ff) := box_cell hbf 0 rfl
           have c2' : W.cell? ⟨w1.heap.size, 2, none⟩ = some (.string (mk8 fn)) := box_cell hbf 2 rfl
           have c3 : W.cell? ⟨w1.heap.size, 3, none⟩ = some (.string (mk8 xct)) := box_cell hbf 3 rfl
           have c4' : W.cell? ⟨w1.heap.size, 4, none⟩ = some (.int .i64 xcl) := box_cell hbf 4 rfl
           have c6 : W.cell? ⟨w1.heap.size, 6, none⟩ = some (.slice Ag fil.length cg) := box_cell hbf 6 rfl
           clear hbf
           go_wp2_with fail
           refine (RG _).mono ?_
           rintro e w3 ⟨rfl, rfl⟩
           clear RG
           go_wp2
           go_returns
           rw [HR2.out]
           exact ⟨[], none, 0, rfl, rfl, RowsAt.nil _ _ _, below_then hb1 (HI.out.bel.trans (HM.out.2.2.mono HI.out.bel.size))⟩
          ·have hx0 : xil = [] := List.eq_nil_of_length_eq_zero (by omega)
           have hf0 : fil = [] := List.eq_nil_of_length_eq_zero (by omega)
           subst hx0
           subst hf0
           simp only [List.length_nil] at *
           clear hab
           by_cases hab : xf < ff
           ·have hTT := HYES (.inr (.inr (.inr (.inr hab))))
            rw [hTT] at HRB HRG
            have HR2 := Lib.hid (HRB (by simp))
            clear HRB HRG HTO HYES HNO hTT
            have hsum : IntKind.i64.wrap (0 : Int) = 0 := by decide
            have hlt2 : xf < ff := hab
            clear hab
            go_wp2_with fail
            refine (RW _).mono ?_
            rintro e w2 ⟨A2, c2, rfl, hown2, hb2⟩
            simp only [rowV]
            simp only [] at hown2
            obtain ⟨hbx, hin2, hbW, hz2⟩ := own_mem (w1 := w1) (xf := xf) (xu := xu) (xn := xn) (xct := xct) (xcl := xcl) (xk := xk) HB.out hown2 hb2
            have HM := Lib.hid (And.intro hbx (And.intro hin2 hbW))
            clear hbx hin2 hbW hown2 hb2 RW
            go_wp2_with fail
            generalize hWW : w2.alloc _ = W at *
            clear hWW
            refine (RL _).mono ?_
            rintro e w3 ⟨rfl, rfl⟩
            clear RL
            have hbx := HM.out.1
            have d0 : W.cell? ⟨w2.heap.size, 0, none⟩ = some (.int .i32 xf) := box_cell hbx 0 rfl
            have d1 : W.cell? ⟨w2.heap.size, 1, none⟩ = some (.int .i32 xu) := box_cell hbx 1 rfl
            have d2 : W.cell? ⟨w2.heap.size, 2, none⟩ = some (.string (mk8 xn)) := box_cell hbx 2 rfl
            have d3 : W.cell? ⟨w2.heap.size, 3, none⟩ = some (.string (mk8 xct)) := box_cell hbx 3 rfl
            have d4 : W.cell? ⟨w2.heap.size, 4, none⟩ = some (.int .i64 xcl) := box_cell hbx 4 rfl
            have d5 : W.cell? ⟨w2.heap.size, 5, none⟩ = some (.string (mk8 xk)) := box_cell hbx 5 rfl
            have d6 : W.cell? ⟨w2.heap.size, 6, none⟩ = some (.slice A2 0 c2) := box_cell hbx 6 rfl
            clear hbx
            have hbf := box_below HI.out.box HM.out.2.2
            have c0 : W.cell? ⟨w1.heap.size, 0, none⟩ = some (.int .i32 ff) := box_cell hbf 0 rfl
            have c2' : W.cell? ⟨w1.heap.size, 2, none⟩ = some (.string (mk8 fn)) := box_cell hbf 2 rfl
            have c3 : W.cell? ⟨w1.heap.size, 3, none⟩ = some (.string (mk8 xct)) := box_cell hbf 3 rfl
            have c4' : W.cell? ⟨w1.heap.size, 4, none⟩ = some (.int .i64 xcl) := box_cell hbf 4 rfl
            have c6 : W.cell? ⟨w1.heap.size, 6, none⟩ = some (.slice Ag 0 cg) := box_cell hbf 6 rfl
            clear hbf
            go_wp2_with fail
            refine (RG _).mono ?_
            rintro e w3 ⟨rfl, rfl⟩
            clear RG
            go_wp2
            go_returns
            rw [HR2.out]
            exact ⟨[], none, 0, rfl, rfl, RowsAt.nil _ _ _, below_then hb1 (HI.out.bel.trans (HM.out.2.2.mono HI.out.bel.size))⟩
           ·have hTT := HNO (by simp; omega)
            rw [hTT] at HRB HRG
            have HS2 := Lib.hid (HRG rfl)
            clear HRB HRG HTO HYES HNO hTT
            have hsum : IntKind.i64.wrap (0 : Int) = 0 := by decide
            have hle : ff ≤ xf := by omega
            clear hab
            go_wp2_with fail
            refine (RW _).mono ?_
            rintro e w2 ⟨A2, c2, rfl, hown2, hb2⟩
            simp only [rowV]
            simp only [] at hown2
            obtain ⟨hbx, hin2, hbW, hz2⟩ := own_mem (w1 := w1) (xf := xf) (xu := xu) (xn := xn) (xct := xct) (xcl := xcl) (xk := xk) HB.out hown2 hb2
            have HM := Lib.hid (And.intro hbx (And.intro hin2 hbW))
            clear hbx hin2 hbW hown2 hb2 RW
            go_wp2_with fail
            generalize hWW : w2.alloc _ = W at *
            clear hWW
            refine (RL _).mono ?_
            rintro e w3 ⟨rfl, rfl⟩
            clear RL
            have hbx := HM.out.1
            have d0 : W.cell? ⟨w2.heap.size, 0, none⟩ = some (.int .i32 xf) := box_cell hbx 0 rfl
            have d1 : W.cell? ⟨w2.heap.size, 1, none⟩ = some (.int .i32 xu) := box_cell hbx 1 rfl
            have d2 : W.cell? ⟨w2.heap.size, 2, none⟩ = some (.string (mk8 xn)) := box_cell hbx 2 rfl
            have d3 : W.cell? ⟨w2.heap.size, 3, none⟩ = some (.string (mk8 xct)) := box_cell hbx 3 rfl
            have d4 : W.cell? ⟨w2.heap.size, 4, none⟩ = some (.int .i64 xcl) := box_cell hbx 4 rfl
            have d5 : W.cell? ⟨w2.heap.size, 5, none⟩ = some (.string (mk8 xk)) := box_cell hbx 5 rfl
            have d6 : W.cell? ⟨w2.heap.size, 6, none⟩ = some (.slice A2 0 c2) := box_cell hbx 6 rfl
            clear hbx
            have hbf := box_below HI.out.box HM.out.2.2
            have c0 : W.cell? ⟨w1.heap.size, 0, none⟩ = some (.int .i32 ff) := box_cell hbf 0 rfl
            have c2' : W.cell? ⟨w1.heap.size, 2, none⟩ = some (.string (mk8 fn)) := box_cell hbf 2 rfl
            have c3 : W.cell? ⟨w1.heap.size, 3, none⟩ = some (.string (mk8 xct)) := box_cell hbf 3 rfl
            have c4' : W.cell? ⟨w1.heap.size, 4, none⟩ = some (.int .i64 xcl) := box_cell hbf 4 rfl
            have c6 : W.cell? ⟨w1.heap.size, 6, none⟩ = some (.slice Ag 0 cg) := box_cell hbf 6 rfl
            clear hbf
            go_wp2_with fail
            refine (RG _).mono ?_
            rintro e w3 ⟨rfl, rfl⟩
            clear RG
            have hrow : rowC ((⟨ff, xf, bn, xct, xcl, [], []⟩ : RowS), none, 0) = [.int .i32 ff, .int .i32 xf, .string (mk8 bn), .string (mk8 xct), .int .i64 xcl, .string ⟨#[]⟩, .slice none 0 0] := rfl
            have hbA : Below W.heap.size W (W.alloc (.cells (rowC ((⟨ff, xf, bn, xct, xcl, [], []⟩ : RowS), none, 0)).toArray 79)) := (Below.refl _ _).alloc (Nat.le_refl _) _
            have hownA := (HI.out.rows.below (below_then HM.out.2.2 hbA)).own
            have hrdA := RdK.new (k := 7) W 79 1 (rowC ((⟨ff, xf, bn, xct, xcl, [], []⟩ : RowS), none, 0)) rfl
            have honeA := rowC_one ((⟨ff, xf, bn, xct, xcl, [], []⟩ : RowS), none, 0)
            have hol2 : os.length ≤ 100000 := by have := HI.out.len; rw [← HI.out.outs, List.length_map] at this; omega
            have h63A : os.length + 1 ≤ 1099511627776 := by omega
            have hbyA : 88 ≤ 128 := by omega
            have hbsA : w1.heap.size + 1 ≤ (W.alloc (.cells (rowC ((⟨ff, xf, bn, xct, xcl, [], []⟩ : RowS), none, 0)).toArray 79)).heap.size := by have := hbA.size; have := HM.out.2.2.size; have := HB.out; omega
            rw [hrow] at hownA hrdA honeA hbsA
            clear hbA hrow
            go_wp2_with (at_builtin; refine wpList_appR rrowElem _ rfl _ _ rfl (w1.heap.size + 1) rfl hownA rfl hrdA honeA h63A hbyA hbsA ?_)
            intro A4 c4 w4 hown4 hg4
            have hg5 : (W.alloc (.cells (rowC ((⟨ff, xf, bn, xct, xcl, [], []⟩ : RowS), none, 0)).toArray 79)).grownBy w4 (Value.slice A' os.length c').ownBlock := hg4
            clear hg4
            have hN : (Value.slice A' os.length c').ownBlock ≠ some w2.heap.size := fun h => by have := HI.out.rows.own.lt _ h; omega
            have e1 : w4.cell? ⟨w2.heap.size, 0, none⟩ = some (.int .i32 xf) := box_cell (box_grown (box_alloc _ HM.out.1) hg5 hN) 0 rfl
            have HIN := Lib.hid (rapp_fin HI.out HM.out.2.2 (x := ((⟨ff, xf, bn, xct, xcl, [], []⟩ : RowS), none, 0)) (World.ownsRow_nil _ _ _ _) HS2.out hown4 hg5)
            clear hownA hrdA honeA h63A hbyA hbsA hg5 hown4 hN
            go_wp2
            go_roundw
            case rel => exact ⟨k + 1, _, _, A4, c4, _, by omega, by go_num, rfl, rfl, by simp, HIN⟩
            case measure => simp [intOf]; omega
         ·have hTT := HYES (.inr (.inr (.inl hab)))
          rw [hTT] at HRB HRG
          have HR2 := Lib.hid (HRB (by simp))
          clear HRB HRG HTO HYES HNO hTT
          have hne : (xcl != fcl) = true := by simpa using hab
          have hne2 : (xcl == fcl) = false := by simpa using hab
          have hne3 : ¬ (xcl = fcl) := hab
          clear hab
          go_wp2_with fail
          refine (RW _).mono ?_
          rintro e w2 ⟨A2, c2, rfl, hown2, hb2⟩
          simp only [rowV]
          simp only [] at hown2
          obtain ⟨hbx, hin2, hbW, hz2⟩ := own_mem (w1 := w1) (xf := xf) (xu := xu) (xn := xn) (xct := xct) (xcl := xcl) (xk := xk) HB.out hown2 hb2
          have HM := Lib.hid (And.intro hbx (And.intro hin2 hbW))
          clear hbx hin2 hbW hown2 hb2 RW
          go_wp2_with fail
          generalize hWW : w2.alloc _ = W at *
          clear hWW
          refine (RL _).mono ?_
          rintro e w3 ⟨rfl, rfl⟩
          clear RL
          have hbx := HM.out.1
          have d0 : W.cell? ⟨w2.heap.size, 0, none⟩ = some (.int .i32 xf) := box_cell hbx 0 rfl
          have d1 : W.cell? ⟨w2.heap.size, 1, none⟩ = some (.int .i32 xu) := box_cell hbx 1 rfl
          have d2 : W.cell? ⟨w2.heap.size, 2, none⟩ = some (.string (mk8 xn)) := box_cell hbx 2 rfl
          have d3 : W.cell? ⟨w2.heap.size, 3, none⟩ = some (.string (mk8 xct)) := box_cell hbx 3 rfl
          have d4 : W.cell? ⟨w2.heap.size, 4, none⟩ = some (.int .i64 xcl) := box_cell hbx 4 rfl
          have d5 : W.cell? ⟨w2.heap.size, 5, none⟩ = some (.string (mk8 xk)) := box_cell hbx 5 rfl
          have d6 : W.cell? ⟨w2.heap.size, 6, none⟩ = some (.slice A2 xil.length c2) := box_cell hbx 6 rfl
          clear hbx
          have hbf := box_below HI.out.box HM.out.2.2
          have c0 : W.cell? ⟨w1.heap.size, 0, none⟩ = some (.int .i32 ff) := box_cell hbf 0 rfl
          have c2' : W.cell? ⟨w1.heap.size, 2, none⟩ = some (.string (mk8 fn)) := box_cell hbf 2 rfl
          have c3 : W.cell? ⟨w1.heap.size, 3, none⟩ = some (.string (mk8 xct)) := box_cell hbf 3 rfl
          have c4' : W.cell? ⟨w1.heap.size, 4, none⟩ = some (.int .i64 fcl) := box_cell hbf 4 rfl
          have c6 : W.cell? ⟨w1.heap.size, 6, none⟩ = some (.slice Ag fil.length cg) := box_cell hbf 6 rfl
          clear hbf
          go_wp2_with fail
          refine (RG _).mono ?_
          rintro e w3 ⟨rfl, rfl⟩
          clear RG
          go_wp2
          go_returns
          rw [HR2.out]
          exact ⟨[], none, 0, rfl, rfl, RowsAt.nil _ _ _, below_then hb1 (HI.out.bel.trans (HM.out.2.2.mono HI.out.bel.size))⟩
        ·have hTT := HYES (.inr (.inl hab))
         rw [hTT] at HRB HRG
         have HR2 := Lib.hid (HRB (by simp))
         clear HRB HRG HTO HYES HNO hTT
         have hne := tl_ne hab
         have hne2 := tl_ne2 hab
         clear hab
         go_wp2_with fail
         refine (RW _).mono ?_
         rintro e w2 ⟨A2, c2, rfl, hown2, hb2⟩
         simp only [rowV]
         simp only [] at hown2
         obtain ⟨hbx, hin2, hbW, hz2⟩ := own_mem (w1 := w1) (xf := xf) (xu := xu) (xn := xn) (xct := xct) (xcl := xcl) (xk := xk) HB.out hown2 hb2
         have HM := Lib.hid (And.intro hbx (And.intro hin2 hbW))
         clear hbx hin2 hbW hown2 hb2 RW
         go_wp2_with fail
         generalize hWW : w2.alloc _ = W at *
         clear hWW
         refine (RL _).mono ?_
         rintro e w3 ⟨rfl, rfl⟩
         clear RL
         have hbx := HM.out.1
         have d0 : W.cell? ⟨w2.heap.size, 0, none⟩ = some (.int .i32 xf) := box_cell hbx 0 rfl
         have d1 : W.cell? ⟨w2.heap.size, 1, none⟩ = some (.int .i32 xu) := box_cell hbx 1 rfl
         have d2 : W.cell? ⟨w2.heap.size, 2, none⟩ = some (.string (mk8 xn)) := box_cell hbx 2 rfl
         have d3 : W.cell? ⟨w2.heap.size, 3, none⟩ = some (.string (mk8 xct)) := box_cell hbx 3 rfl
         have d4 : W.cell? ⟨w2.heap.size, 4, none⟩ = some (.int .i64 xcl) := box_cell hbx 4 rfl
         have d5 : W.cell? ⟨w2.heap.size, 5, none⟩ = some (.string (mk8 xk)) := box_cell hbx 5 rfl
         have d6 : W.cell? ⟨w2.heap.size, 6, none⟩ = some (.slice A2 xil.length c2) := box_cell hbx 6 rfl
         clear hbx
         have hbf := box_below HI.out.box HM.out.2.2
         have c0 : W.cell? ⟨w1.heap.size, 0, none⟩ = some (.int .i32 ff) := box_cell hbf 0 rfl
         have c2' : W.cell? ⟨w1.heap.size, 2, none⟩ = some (.string (mk8 fn)) := box_cell hbf 2 rfl
         have c3 : W.cell? ⟨w1.heap.size, 3, none⟩ = some (.string (mk8 fct)) := box_cell hbf 3 rfl
         have c4' : W.cell? ⟨w1.heap.size, 4, none⟩ = some (.int .i64 fcl) := box_cell hbf 4 rfl
         have c6 : W.cell? ⟨w1.heap.size, 6, none⟩ = some (.slice Ag fil.length cg) := box_cell hbf 6 rfl
         clear hbf
         go_wp2_with fail
         refine (RG _).mono ?_
         rintro e w3 ⟨rfl, rfl⟩
         clear RG
         go_wp2
         go_returns
         rw [HR2.out]
         exact ⟨[], none, 0, rfl, rfl, RowsAt.nil _ _ _, below_then hb1 (HI.out.bel.trans (HM.out.2.2.mono HI.out.bel.size))⟩
       ·have hTT := HYES (.inl hab)
        rw [hTT] at HRB HRG
        have HR2 := Lib.hid (HRB (by simp))
        clear HRB HRG HTO HYES HNO hTT
        have hne := tl_ne hab
        have hne2 := tl_ne2 hab
        clear hab
        go_wp2_with fail
        refine (RW _).mono ?_
        rintro e w2 ⟨A2, c2, rfl, hown2, hb2⟩
        simp only [rowV]
        simp only [] at hown2
        obtain ⟨hbx, hin2, hbW, hz2⟩ := own_mem (w1 := w1) (xf := xf) (xu := xu) (xn := xn) (xct := xct) (xcl := xcl) (xk := xk) HB.out hown2 hb2
        have HM := Lib.hid (And.intro hbx (And.intro hin2 hbW))
        clear hbx hin2 hbW hown2 hb2 RW
        go_wp2_with fail
        generalize hWW : w2.alloc _ = W at *
        clear hWW
        refine (RL _).mono ?_
        rintro e w3 ⟨rfl, rfl⟩
        clear RL
        have hbx := HM.out.1
        have d0 : W.cell? ⟨w2.heap.size, 0, none⟩ = some (.int .i32 xf) := box_cell hbx 0 rfl
        have d1 : W.cell? ⟨w2.heap.size, 1, none⟩ = some (.int .i32 xu) := box_cell hbx 1 rfl
        have d2 : W.cell? ⟨w2.heap.size, 2, none⟩ = some (.string (mk8 xn)) := box_cell hbx 2 rfl
        have d3 : W.cell? ⟨w2.heap.size, 3, none⟩ = some (.string (mk8 xct)) := box_cell hbx 3 rfl
        have d4 : W.cell? ⟨w2.heap.size, 4, none⟩ = some (.int .i64 xcl) := box_cell hbx 4 rfl
        have d5 : W.cell? ⟨w2.heap.size, 5, none⟩ = some (.string (mk8 xk)) := box_cell hbx 5 rfl
        have d6 : W.cell? ⟨w2.heap.size, 6, none⟩ = some (.slice A2 xil.length c2) := box_cell hbx 6 rfl
        clear hbx
        have hbf := box_below HI.out.box HM.out.2.2
        have c0 : W.cell? ⟨w1.heap.size, 0, none⟩ = some (.int .i32 ff) := box_cell hbf 0 rfl
        have c2' : W.cell? ⟨w1.heap.size, 2, none⟩ = some (.string (mk8 fn)) := box_cell hbf 2 rfl
        have c3 : W.cell? ⟨w1.heap.size, 3, none⟩ = some (.string (mk8 fct)) := box_cell hbf 3 rfl
        have c4' : W.cell? ⟨w1.heap.size, 4, none⟩ = some (.int .i64 fcl) := box_cell hbf 4 rfl
        have c6 : W.cell? ⟨w1.heap.size, 6, none⟩ = some (.slice Ag fil.length cg) := box_cell hbf 6 rfl
        clear hbf
        go_wp2_with fail
        refine (RG _).mono ?_
        rintro e w3 ⟨rfl, rfl⟩
        clear RG
        go_wp2
        go_returns
        rw [HR2.out]
        exact ⟨[], none, 0, rfl, rfl, RowsAt.nil _ _ _, below_then hb1 (HI.out.bel.trans (HM.out.2.2.mono HI.out.bel.size))⟩
     | none =>
      have hT2 : T = if (innerS x.nm LSTB).2 = true then (st, 10) else freeS st x := by rw [hT]; unfold takeR; rw [hst]
      clear hT
      unfold freeS at hT2
      have hso : st.op.isSome = false := by rw [hst]; rfl
      obtain ⟨⟨bn, bi⟩, hbb⟩ : ∃ a, a = innerS x.nm LSTB := ⟨_, rfl⟩
      rw [← hbb] at hT2
      simp only [] at hT2
      cases hbi : bi
      ·subst hbi
       rw [if_neg (by simp)] at hT2
       rw [rinnerS_no hbb] at RL
       clear hbb hst
       by_cases hw : x.fr ≤ st.was
       ·rw [if_pos hw] at hT2
        rw [hT2] at HRB HRG hto
        clear hT2 RF
        obtain ⟨xf, xu, xn, xct, xcl, xk, xil⟩ := x
        simp only [] at hw
        have HR2 := Lib.hid (HRB (by simp))
        clear HRB HRG hto
        go_wp2_with fail
        refine (RW _).mono ?_
        rintro e w2 ⟨A2, c2, rfl, hown2, hb2⟩
        simp only [rowV]
        simp only [] at hown2
        obtain ⟨hbx, hin2, hbW, hz2⟩ := own_mem (w1 := w1) (xf := xf) (xu := xu) (xn := xn) (xct := xct) (xcl := xcl) (xk := xk) HB.out hown2 hb2
        have HM := Lib.hid (And.intro hbx (And.intro hin2 hbW))
        clear hbx hin2 hbW hown2 hb2 RW
        go_wp2_with fail
        generalize hWW : w2.alloc _ = W at *
        clear hWW
        refine (RL _).mono ?_
        rintro e w3 ⟨rfl, rfl⟩
        clear RL
        have hbx := HM.out.1
        have d0 : W.cell? ⟨w2.heap.size, 0, none⟩ = some (.int .i32 xf) := box_cell hbx 0 rfl
        have d1 : W.cell? ⟨w2.heap.size, 1, none⟩ = some (.int .i32 xu) := box_cell hbx 1 rfl
        have d2 : W.cell? ⟨w2.heap.size, 2, none⟩ = some (.string (mk8 xn)) := box_cell hbx 2 rfl
        have d3 : W.cell? ⟨w2.heap.size, 3, none⟩ = some (.string (mk8 xct)) := box_cell hbx 3 rfl
        have d4 : W.cell? ⟨w2.heap.size, 4, none⟩ = some (.int .i64 xcl) := box_cell hbx 4 rfl
        have d5 : W.cell? ⟨w2.heap.size, 5, none⟩ = some (.string (mk8 xk)) := box_cell hbx 5 rfl
        have d6 : W.cell? ⟨w2.heap.size, 6, none⟩ = some (.slice A2 xil.length c2) := box_cell hbx 6 rfl
        clear hbx
        go_wp2
        go_returns
        rw [HR2.out]
        exact ⟨[], none, 0, rfl, rfl, RowsAt.nil _ _ _, below_then hb1 (HI.out.bel.trans (HM.out.2.2.mono HI.out.bel.size))⟩
       ·rw [if_neg hw] at hT2
        obtain ⟨⟨an, ai⟩, haa⟩ : ∃ a, a = innerS x.nm FSTB := ⟨_, rfl⟩
        rw [← haa] at hT2
        simp only [] at hT2
        cases hai : ai
        ·subst hai
         rw [if_neg (by simp)] at hT2
         rw [rinnerS_no haa] at RF
         rw [hT2] at HRB HRG hto
         clear haa hT2
         obtain ⟨xf, xu, xn, xct, xcl, xk, xil⟩ := x
         simp only [] at hw HRG
         have hw2 : st.was < xf := by omega
         have HS2 := Lib.hid (HRG trivial)
         clear HRB HRG hw hto
         go_wp2_with fail
         refine (RW _).mono ?_
         rintro e w2 ⟨A2, c2, rfl, hown2, hb2⟩
         simp only [rowV]
         simp only [] at hown2
         obtain ⟨hbx, hin2, hbW, hz2⟩ := own_mem (w1 := w1) (xf := xf) (xu := xu) (xn := xn) (xct := xct) (xcl := xcl) (xk := xk) HB.out hown2 hb2
         have HM := Lib.hid (And.intro hbx (And.intro hin2 hbW))
         clear hbx hin2 hbW hown2 hb2 RW
         go_wp2_with fail
         generalize hWW : w2.alloc _ = W at *
         clear hWW
         refine (RL _).mono ?_
         rintro e w3 ⟨rfl, rfl⟩
         clear RL
         have hbx := HM.out.1
         have d0 : W.cell? ⟨w2.heap.size, 0, none⟩ = some (.int .i32 xf) := box_cell hbx 0 rfl
         have d1 : W.cell? ⟨w2.heap.size, 1, none⟩ = some (.int .i32 xu) := box_cell hbx 1 rfl
         have d2 : W.cell? ⟨w2.heap.size, 2, none⟩ = some (.string (mk8 xn)) := box_cell hbx 2 rfl
         have d3 : W.cell? ⟨w2.heap.size, 3, none⟩ = some (.string (mk8 xct)) := box_cell hbx 3 rfl
         have d4 : W.cell? ⟨w2.heap.size, 4, none⟩ = some (.int .i64 xcl) := box_cell hbx 4 rfl
         have d5 : W.cell? ⟨w2.heap.size, 5, none⟩ = some (.string (mk8 xk)) := box_cell hbx 5 rfl
         have d6 : W.cell? ⟨w2.heap.size, 6, none⟩ = some (.slice A2 xil.length c2) := box_cell hbx 6 rfl
         clear hbx
         go_wp2_with fail
         refine (RF _).mono ?_
         rintro e w3 ⟨rfl, rfl⟩
         clear RF
         have hrow : rowC ((⟨xf, xu, xn, xct, xcl, xk, xil⟩ : RowS), A2, c2) = [.int .i32 xf, .int .i32 xu, .string (mk8 xn), .string (mk8 xct), .int .i64 xcl, .string (mk8 xk), .slice A2 xil.length c2] := rfl
         have hbA : Below W.heap.size W (W.alloc (.cells (rowC ((⟨xf, xu, xn, xct, xcl, xk, xil⟩ : RowS), A2, c2)).toArray 79)) := (Below.refl _ _).alloc (Nat.le_refl _) _
         have hownA := (HI.out.rows.below (below_then HM.out.2.2 hbA)).own
         have hrdA := RdK.new (k := 7) W 79 1 (rowC ((⟨xf, xu, xn, xct, xcl, xk, xil⟩ : RowS), A2, c2)) rfl
         have honeA := rowC_one ((⟨xf, xu, xn, xct, xcl, xk, xil⟩ : RowS), A2, c2)
         have hol2 : os.length ≤ 100000 := by have := HI.out.len; rw [← HI.out.outs, List.length_map] at this; omega
         have h63A : os.length + 1 ≤ 1099511627776 := by omega
         have hbyA : 88 ≤ 128 := by omega
         have hbsA : w1.heap.size + 1 ≤ (W.alloc (.cells (rowC ((⟨xf, xu, xn, xct, xcl, xk, xil⟩ : RowS), A2, c2)).toArray 79)).heap.size := by have := hbA.size; have := HM.out.2.2.size; have := HB.out; omega
         rw [hrow] at hownA hrdA honeA hbsA
         clear hbA hrow
         go_wp2_with (at_builtin; refine wpList_appR rrowElem _ rfl _ _ rfl (w1.heap.size + 1) rfl hownA rfl hrdA honeA h63A hbyA hbsA ?_)
         intro A4 c4 w4 hown4 hg4
         have hg5 : (W.alloc (.cells (rowC ((⟨xf, xu, xn, xct, xcl, xk, xil⟩ : RowS), A2, c2)).toArray 79)).grownBy w4 (Value.slice A' os.length c').ownBlock := hg4
         clear hg4
         have hN : (Value.slice A' os.length c').ownBlock ≠ some w2.heap.size := fun h => by have := HI.out.rows.own.lt _ h; omega
         have e1 : w4.cell? ⟨w2.heap.size, 0, none⟩ = some (.int .i32 xf) := box_cell (box_grown (box_alloc _ HM.out.1) hg5 hN) 0 rfl
         have HIN := Lib.hid (rapp_fin HI.out HM.out.2.2 (x := ((⟨xf, xu, xn, xct, xcl, xk, xil⟩ : RowS), A2, c2)) HM.out.2.1 HS2.out hown4 hg5)
         clear hownA hrdA honeA h63A hbyA hbsA hg5 hown4 hN
         go_wp2
         go_roundw
         case rel => exact ⟨k + 1, _, _, A4, c4, _, by omega, by go_num, rfl, rfl, by simp, HIN⟩
         case measure => simp [intOf]; omega
        ·subst hai
         rw [if_pos rfl] at hT2
         rw [rinnerS_yes haa] at RF
         rw [hT2] at HRB HRG hto
         have hxi : (innerS x.nm FSTB).2 = true := by rw [← haa]
         clear haa hT2
         obtain ⟨xf, xu, xn, xct, xcl, xk, xil⟩ := x
         simp only [] at hw HRG hxi
         have hw2 : st.was < xf := by omega
         have HS2 := Lib.hid (HRG trivial)
         have HXI := Lib.hid (And.intro hxi hxo)
         clear HRB HRG hw hto hxi hxo
         go_wp2_with fail
         refine (RW _).mono ?_
         rintro e w2 ⟨A2, c2, rfl, hown2, hb2⟩
         simp only [rowV]
         simp only [] at hown2
         obtain ⟨hbx, hin2, hbW, hz2⟩ := own_mem (w1 := w1) (xf := xf) (xu := xu) (xn := xn) (xct := xct) (xcl := xcl) (xk := xk) HB.out hown2 hb2
         have HM := Lib.hid (And.intro hbx (And.intro hin2 hbW))
         clear hbx hin2 hbW hown2 hb2 RW
         go_wp2_with fail
         generalize hWW : w2.alloc _ = W at *
         clear hWW
         refine (RL _).mono ?_
         rintro e w3 ⟨rfl, rfl⟩
         clear RL
         have hbx := HM.out.1
         have d0 : W.cell? ⟨w2.heap.size, 0, none⟩ = some (.int .i32 xf) := box_cell hbx 0 rfl
         have d1 : W.cell? ⟨w2.heap.size, 1, none⟩ = some (.int .i32 xu) := box_cell hbx 1 rfl
         have d2 : W.cell? ⟨w2.heap.size, 2, none⟩ = some (.string (mk8 xn)) := box_cell hbx 2 rfl
         have d3 : W.cell? ⟨w2.heap.size, 3, none⟩ = some (.string (mk8 xct)) := box_cell hbx 3 rfl
         have d4 : W.cell? ⟨w2.heap.size, 4, none⟩ = some (.int .i64 xcl) := box_cell hbx 4 rfl
         have d5 : W.cell? ⟨w2.heap.size, 5, none⟩ = some (.string (mk8 xk)) := box_cell hbx 5 rfl
         have d6 : W.cell? ⟨w2.heap.size, 6, none⟩ = some (.slice A2 xil.length c2) := box_cell hbx 6 rfl
         clear hbx
         obtain ⟨⟨gf, gu, gn, gct, gcl, gk, gil⟩, Ag, cg⟩ := g
         have hbf := box_below HI.out.box HM.out.2.2
         have c0 : W.cell? ⟨w1.heap.size, 0, none⟩ = some (.int .i32 gf) := box_cell hbf 0 rfl
         have c1 : W.cell? ⟨w1.heap.size, 1, none⟩ = some (.int .i32 gu) := box_cell hbf 1 rfl
         have c2' : W.cell? ⟨w1.heap.size, 2, none⟩ = some (.string (mk8 gn)) := box_cell hbf 2 rfl
         have c3 : W.cell? ⟨w1.heap.size, 3, none⟩ = some (.string (mk8 gct)) := box_cell hbf 3 rfl
         have c4' : W.cell? ⟨w1.heap.size, 4, none⟩ = some (.int .i64 gcl) := box_cell hbf 4 rfl
         have c5 : W.cell? ⟨w1.heap.size, 5, none⟩ = some (.string (mk8 gk)) := box_cell hbf 5 rfl
         have c6 : W.cell? ⟨w1.heap.size, 6, none⟩ = some (.slice Ag gil.length cg) := box_cell hbf 6 rfl
         have f0 := box_frozen hbf 0
         have f1 := box_frozen hbf 1
         have f2 := box_frozen hbf 2
         have f3 := box_frozen hbf 3
         have f4 := box_frozen hbf 4
         have f5 := box_frozen hbf 5
         have f6 := box_frozen hbf 6
         have HBF := Lib.hid hbf
         clear hbf
         go_wp2_with fail
         refine (RF _).mono ?_
         rintro e w3 ⟨rfl, rfl⟩
         clear RF
         go_wp2
         go_roundw
         case rel =>
          refine ⟨k + 1, ⟨st.out, some ⟨xf, xu, xn, xct, xcl, xk, xil⟩, st.was⟩, os, A', c', (⟨xf, xu, xn, xct, xcl, xk, xil⟩, A2, c2), by omega, by go_num, rfl, rfl, rfl, ?_⟩
          have hb2 := HI.out.rows.below HM.out.2.2
          have hz3 := HI.out.bel.size
          refine ⟨HI.out.outs, hb2.set7 (Nat.lt_succ_self _) _ _ _ _ _ _ _, set7_box HBF.out _ _ _ _ _ _ _, ?_, Nat.le_succ_of_le HI.out.len, fun h => absurd h (by omega), HS2.out, set7_below (HI.out.bel.trans (HM.out.2.2.mono hz3)) (Nat.le_refl _) _ _ _ _ _ _ _⟩
          intro f hf
          injection hf with hf
          subst hf
          exact ⟨rfl, HXI.out.1, HXI.out.2⟩
         case measure => simp [intOf]; omega
      ·subst hbi
       rw [if_pos rfl] at hT2
       rw [rinnerS_yes hbb] at RL
       rw [hT2] at HRB HRG hto
       clear hbb hst hT2 RF
       obtain ⟨xf, xu, xn, xct, xcl, xk, xil⟩ := x
       have HR2 := Lib.hid (HRB (by simp))
       clear HRB HRG hto
       go_wp2_with fail
       refine (RW _).mono ?_
       rintro e w2 ⟨A2, c2, rfl, hown2, hb2⟩
       simp only [rowV]
       simp only [] at hown2
       obtain ⟨hbx, hin2, hbW, hz2⟩ := own_mem (w1 := w1) (xf := xf) (xu := xu) (xn := xn) (xct := xct) (xcl := xcl) (xk := xk) HB.out hown2 hb2
       have HM := Lib.hid (And.intro hbx (And.intro hin2 hbW))
       clear hbx hin2 hbW hown2 hb2 RW
       go_wp2_with fail
       generalize hWW : w2.alloc _ = W at *
       clear hWW
       refine (RL _).mono ?_
       rintro e w3 ⟨rfl, rfl⟩
       clear RL
       have hbx := HM.out.1
       have d0 : W.cell? ⟨w2.heap.size, 0, none⟩ = some (.int .i32 xf) := box_cell hbx 0 rfl
       have d1 : W.cell? ⟨w2.heap.size, 1, none⟩ = some (.int .i32 xu) := box_cell hbx 1 rfl
       have d2 : W.cell? ⟨w2.heap.size, 2, none⟩ = some (.string (mk8 xn)) := box_cell hbx 2 rfl
       have d3 : W.cell? ⟨w2.heap.size, 3, none⟩ = some (.string (mk8 xct)) := box_cell hbx 3 rfl
       have d4 : W.cell? ⟨w2.heap.size, 4, none⟩ = some (.int .i64 xcl) := box_cell hbx 4 rfl
       have d5 : W.cell? ⟨w2.heap.size, 5, none⟩ = some (.string (mk8 xk)) := box_cell hbx 5 rfl
       have d6 : W.cell? ⟨w2.heap.size, 6, none⟩ = some (.slice A2 xil.length c2) := box_cell hbx 6 rfl
       clear hbx
       go_wp2
       go_returns
       rw [HR2.out]
       exact ⟨[], none, 0, rfl, rfl, RowsAt.nil _ _ _, below_then hb1 (HI.out.bel.trans (HM.out.2.2.mono HI.out.bel.size))⟩
    ·rw [if_pos he] at hT
     rw [hT] at HRB
     have HR2 := Lib.hid (HRB he)
     have hne : (e0 != 0) = true := by simpa using he
     clear he hT HRB HRG RL RF hto
     obtain ⟨xf, xu, xn, xct, xcl, xk, xil⟩ := x
     go_wp2_with fail
     refine (RW _).mono ?_
     rintro e w2 ⟨A2, c2, rfl, hown2, hb2⟩
     simp only [rowV]
     have HW := Lib.hid (below_then hb1 (HI.out.bel.trans (hb2.mono (HI.out.bel.size))))
     have hz2 := Nat.le_trans hb1.size (Nat.le_trans HI.out.bel.size hb2.size)
     clear hown2 hb2 RW
     go_wp2
     go_returns
     rw [HR2.out]
     exact ⟨[], none, 0, rfl, rfl, RowsAt.nil _ _ _, HW.out.alloc hz2 _⟩
   ·have hi : (L.length : Int) ≤ (k : Int) := by omega
    have hres : rowsW ⟨[], none, -1⟩ L = (st, 0, 0) := by rw [HI.out.word, List.drop_of_length_le (by omega)]; rfl
    have hR : R = endU L (st, 0, 0) := by rw [HR.out, hres]
    cases hst : st.op with
    | none =>
     have hR2 : R = (st.out, 0, 0) := by rw [hR]; unfold endU; rw [if_neg (by simp), hst]; rfl
     have HR2 := Lib.hid hR2
     clear hres hR hR2
     go_wp2
     go_returns
     rw [HR2.out]
     have hz := hb1.size
     exact ⟨os, A', c', HI.out.outs, rfl, HI.out.rows.base (by omega), below_then hb1 HI.out.bel⟩
    | some f =>
     have hR2 : R = ([], lastNo L, 10) := by rw [hR]; unfold endU; rw [if_neg (by simp), hst]; rfl
     have hk1 : k ≠ 0 := fun h => by have := HI.out.zero h; rw [hst] at this; cases this
     obtain ⟨l, hl⟩ : ∃ l, L[L.length - 1]? = some l := ⟨_, List.getElem?_eq_getElem (by omega)⟩
     rw [lastNo_get hl] at hR2
     obtain ⟨b, off, rfl, hbl, hcx⟩ := (hr.below (by omega) HI.out.bel).at_ (by omega) (by omega)
     have cx1 := hcx _ _ (Ls_at L _ l hl).1
     have hw1 : IntKind.i64.wrap ((L.length : Int) - 1) = ((L.length - 1 : Nat) : Int) := by rw [IntWalk.i64_in _ (by omega)]; omega
     have hlt : ((L.length - 1 : Nat) : Int) < (L.length : Int) := by omega
     have HR2 := Lib.hid hR2
     clear hres hR hR2 hcx
     go_wp2
     go_quiet (fail)
     go_wp2
     go_returns
     rw [HR2.out]
     exact ⟨[], none, 0, rfl, rfl, RowsAt.nil _ _ _, below_then hb1 (below_drew' HI.out.bel _)⟩
 ·rw [if_pos he]
  have hne : (e0 != 0) = true := by simpa using he
  clear he hlo
  go_enter Tryz.func36, Tryz.ntmps36
  go_wp2_with fail
  refine LN.mono ?_
  rintro e w1 ⟨A, c, rfl, hown, hb⟩
  go_wp2
  go_returns
  exact ⟨[], none, 0, rfl, rfl, RowsAt.nil _ _ _, hb⟩
end Go.Proofs.YtajkjaciooijjaaGreatDoor
end
