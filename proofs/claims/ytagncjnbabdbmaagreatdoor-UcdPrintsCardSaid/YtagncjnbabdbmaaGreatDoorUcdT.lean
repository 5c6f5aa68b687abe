/- A line of a file: the code's inner function that takes it. -/
import Derived.Test.YtagncjnbabdbmaaGreatDoorUcdC
set_option linter.unusedSimpArgs false
set_option linter.unusedVariables false
namespace Go.Proofs.YtagncjnbabdbmaaGreatDoor
open Go.RowKit

theorem parseZ (l : List UInt8) (w : World) (hE : Env w) (hs : l.length ≤ 1073741824) :
    Calls Tryz.prog 29 #[.string (mk8 l)] w (FreshRow w (parseS l)) := by
  have := parse_any (mk8 l) w hE (by rw [mk8_size]; exact hs)
  rw [bs_mk8] at this
  exact this
/-- What lies in memory behind a line that is read, and kept in a variable. -/
theorem take_mem {p : Nat} {st : StU} {w w1 : World} {xf xu xcl : Int} {xn xct xk : List UInt8} {xil : List Int} {A : Option Addr} {c : Nat} (hh : HoldsU p st w) (hpw : p + 3 < w.heap.size)
    (hown : w1.ownsRow w.heap.size 21 1 (.slice A xil.length c) xil.length (Rs xil)) (hb : Below w.heap.size w w1) :
    HoldsU p st (w1.alloc (.cells #[.int .i32 xf, .int .i32 xu, .string (mk8 xn), .string (mk8 xct), .int .i64 xcl, .string (mk8 xk), .slice A xil.length c] 27)) ∧
    (w1.alloc (.cells #[.int .i32 xf, .int .i32 xu, .string (mk8 xn), .string (mk8 xct), .int .i64 xcl, .string (mk8 xk), .slice A xil.length c] 27)).heap[w1.heap.size]? = some (.cells #[.int .i32 xf, .int .i32 xu, .string (mk8 xn), .string (mk8 xct), .int .i64 xcl, .string (mk8 xk), .slice A xil.length c] 27 (0, 0)) ∧
    IntoAt (p + 4) (w1.alloc (.cells #[.int .i32 xf, .int .i32 xu, .string (mk8 xn), .string (mk8 xct), .int .i64 xcl, .string (mk8 xk), .slice A xil.length c] 27)) (⟨xf, xu, xn, xct, xcl, xk, xil⟩, A, c) ∧
    Below w.heap.size w (w1.alloc (.cells #[.int .i32 xf, .int .i32 xu, .string (mk8 xn), .string (mk8 xct), .int .i64 xcl, .string (mk8 xk), .slice A xil.length c] 27)) ∧ w.heap.size ≤ w1.heap.size := by
  have hz := hb.size
  have hb2 : Below w.heap.size w (w1.alloc (.cells #[.int .i32 xf, .int .i32 xu, .string (mk8 xn), .string (mk8 xct), .int .i64 xcl, .string (mk8 xk), .slice A xil.length c] 27)) := hb.alloc hz _
  refine ⟨hh.below hb2, box_new _ _ _, ?_, hb2, hz⟩
  exact own_baseK (own_belowK hown ((Below.refl _ _).alloc (Nat.le_refl _) _)) (by omega)
theorem HoldsAt.below {p : Nat} {st : StU} {w w' : World} {os : List RA} {A q : Option Addr} {c : Nat} (h : HoldsAt p st w os A c q) (hb : Below w.heap.size w w') : HoldsAt p st w' os A c q := by
  obtain ⟨h1, h2, h3, h4, h5, h6, h7, h8⟩ := h
  refine ⟨h1, box_below h2 hb, h3.below hb, box_below h4 hb, h5, ?_, box_below h7 hb, box_below h8 hb⟩
  intro f hf
  obtain ⟨b, A', c', hbp, hq, hh, hn⟩ := h6 f hf
  exact ⟨b, A', c', hbp, hq, box_below hh hb, hn⟩
section
variable {w w' : World} {B : Nat} {u0 u1 u2 u3 u4 u5 u6 : Value}
theorem keep7 (h : w.cell? ⟨B, 0, none⟩ = some u0 ∧ w.cell? ⟨B, 1, none⟩ = some u1 ∧ w.cell? ⟨B, 2, none⟩ = some u2 ∧ w.cell? ⟨B, 3, none⟩ = some u3 ∧ w.cell? ⟨B, 4, none⟩ = some u4 ∧ w.cell? ⟨B, 5, none⟩ = some u5 ∧ w.cell? ⟨B, 6, none⟩ = some u6)
    (hk : w'.heap[B]? = w.heap[B]?) :
    w'.cell? ⟨B, 0, none⟩ = some u0 ∧ w'.cell? ⟨B, 1, none⟩ = some u1 ∧ w'.cell? ⟨B, 2, none⟩ = some u2 ∧ w'.cell? ⟨B, 3, none⟩ = some u3 ∧ w'.cell? ⟨B, 4, none⟩ = some u4 ∧ w'.cell? ⟨B, 5, none⟩ = some u5 ∧ w'.cell? ⟨B, 6, none⟩ = some u6 :=
  have k : ∀ j, w'.cell? ⟨B, j, none⟩ = w.cell? ⟨B, j, none⟩ := fun j => World.cell?_of_block (a := ⟨B, j, none⟩) hk
  ⟨(k 0).trans h.1, (k 1).trans h.2.1, (k 2).trans h.2.2.1, (k 3).trans h.2.2.2.1, (k 4).trans h.2.2.2.2.1, (k 5).trans h.2.2.2.2.2.1, (k 6).trans h.2.2.2.2.2.2⟩
end
set_option maxRecDepth 20000 in
set_option maxHeartbeats 4000000 in
theorem takes_any (p : Nat) (st : StU) (l : List UInt8) (w : World) (hE : Env w) (hs : l.length ≤ 1073741824) (hh : HoldsU p st w) (hop : ∀ f, st.op = some f → RowOk 1073741824 f) (hol : st.out.length ≤ 100000) :
    Calls Tryz.prog 28 #[.string (mk8 l), .pointer (some ⟨p + 1, 0, none⟩), .pointer (some ⟨p + 3, 0, none⟩), .pointer (some ⟨p + 2, 0, none⟩), .pointer (some ⟨p, 0, none⟩)] w (fun e w' => e = .returned (.int .i64 (takeS st l).2) ∧ HoldsU p (takeS st l).1 w' ∧ Below p w w' ∧ ((takeS st l).2 ≠ 0 → Below w.heap.size w w')) := by
  have PA := parseZ l w hE hs
  have hpo := parse_ok l
  unfold takeS
  obtain ⟨⟨x, e0⟩, hx⟩ : ∃ z, z = parseS l := ⟨_, rfl⟩
  rw [← hx] at PA hpo ⊢
  simp only [] at hpo ⊢
  have hxo : RowOk 1073741824 x := ⟨Nat.le_trans hpo.1 hs, hpo.2⟩
  clear hx hpo
  have HH := Lib.hid hh
  have hpw : p + 3 < w.heap.size := by obtain ⟨os, A, c, q, h⟩ := hh; exact box_lt h.clo
  clear hh
  have IF := fun w => innerF x.nm w hxo.1
  have IL := fun w => innerL x.nm w hxo.1
  have hR : takeR st x = (match st.op with | some f => if (innerS x.nm LSTB).2 = false then (st, 10) else closeS st f x | none => if (innerS x.nm LSTB).2 = true then (st, 10) else freeS st x) := rfl
  unfold freeS at hR
  obtain ⟨⟨an, ai⟩, ha⟩ : ∃ a, a = innerS x.nm FSTB := ⟨_, rfl⟩
  obtain ⟨⟨bn, bi⟩, hbb⟩ : ∃ a, a = innerS x.nm LSTB := ⟨_, rfl⟩
  rw [← ha] at IF hR
  rw [← hbb] at IL hR
  clear ha hbb
  obtain ⟨R, hRR⟩ : ∃ R, R = takeR st x := ⟨_, rfl⟩
  rw [← hRR] at hR ⊢
  clear hRR
  simp only [] at hR IF IL
  have HOP := Lib.hid hop
  have HXO := Lib.hid hxo
  clear hop hxo
  by_cases he : e0 = 0
  · subst he
    rw [if_neg (show ¬ ((0 : Int) ≠ 0) by simp)]
    cases hst : st.op with
    | some f =>
      rw [hst] at hR
      simp only [] at hR
      have HST := Lib.hid hst
      clear hst
      obtain ⟨xf, xu, xn, xct, xcl, xk, xil⟩ := x
      cases hbi : bi
      · subst hbi
        rw [if_pos rfl] at hR
        have HR := Lib.hid hR
        clear hR
        go_enter Tryz.func28, Tryz.ntmps28
        go_wp2_with fail
        refine PA.mono ?_
        rintro e w1 ⟨A, c, rfl, hown, hb⟩
        simp only [rowV]
        simp only [] at hown
        obtain ⟨hh2, hbx, hin, hb2, hz⟩ := take_mem (xf := xf) (xu := xu) (xn := xn) (xct := xct) (xcl := xcl) (xk := xk) HH.out hpw hown hb
        have HM := Lib.hid (And.intro hh2 (And.intro hbx (And.intro hin hb2)))
        clear hh2 hbx hin hb2 hown hb
        go_wp2_with fail
        generalize hWW : w1.alloc _ = W at *
        clear hWW
        refine (IL _).mono ?_
        rintro e w2 ⟨rfl, rfl⟩
        have hbx := HM.out.2.1
        have d0 : W.cell? ⟨w1.heap.size, 0, none⟩ = some (.int .i32 xf) := box_cell hbx 0 rfl
        have d1 : W.cell? ⟨w1.heap.size, 1, none⟩ = some (.int .i32 xu) := box_cell hbx 1 rfl
        have d2 : W.cell? ⟨w1.heap.size, 2, none⟩ = some (.string (mk8 xn)) := box_cell hbx 2 rfl
        have d3 : W.cell? ⟨w1.heap.size, 3, none⟩ = some (.string (mk8 xct)) := box_cell hbx 3 rfl
        have d4 : W.cell? ⟨w1.heap.size, 4, none⟩ = some (.int .i64 xcl) := box_cell hbx 4 rfl
        have d5 : W.cell? ⟨w1.heap.size, 5, none⟩ = some (.string (mk8 xk)) := box_cell hbx 5 rfl
        have d6 : W.cell? ⟨w1.heap.size, 6, none⟩ = some (.slice A xil.length c) := box_cell hbx 6 rfl
        obtain ⟨os, Ao, co, q, hH0⟩ := HH.out
        have hAP : (Value.slice Ao os.length co).ownBlock ≠ some w1.heap.size := fun h => by have := hH0.rows.own.lt _ h; omega
        have hH := hH0.below HM.out.2.2.2
        clear hH0
        have cq : W.cell? ⟨p + 1, 0, none⟩ = some (.pointer q) := box_cell hH.first 0 rfl
        have fq : W.frozen? ⟨p + 1, 0, none⟩ = false := box_frozen hH.first 0
        have cw : W.cell? ⟨p + 2, 0, none⟩ = some (.int .i32 st.was) := box_cell hH.was 0 rfl
        have co1 : W.cell? ⟨p, 0, none⟩ = some (.slice Ao os.length co) := box_cell hH.out 0 rfl
        have cc : W.cell? ⟨p + 3, 0, none⟩ = some (.func (.func 27) #[] #[.pointer (some ⟨p + 1, 0, none⟩), .pointer (some ⟨p, 0, none⟩), .pointer (some ⟨p + 2, 0, none⟩)]) := box_cell hH.clo 0 rfl
        obtain ⟨b, Af, cf, hbp, hq0, hbf, hap⟩ := hH.opens _ HST.out
        subst hq0
        have HAP := Lib.hid (And.intro hbf hap)
        clear hbf hap
        have HHH := Lib.hid hH
        clear hH hbx
        go_wp2_with fail
        refine (IF _).mono ?_
        rintro e w2 ⟨rfl, rfl⟩
        go_wp2
        go_returns
        rw [HR.out]
        exact ⟨rfl, HM.out.1, HM.out.2.2.2.mono (by omega), fun _ => HM.out.2.2.2⟩
      · subst hbi
        rw [if_neg (by simp)] at hR
        have HR := Lib.hid hR
        clear hR
        go_enter Tryz.func28, Tryz.ntmps28
        go_wp2_with fail
        refine PA.mono ?_
        rintro e w1 ⟨A, c, rfl, hown, hb⟩
        simp only [rowV]
        simp only [] at hown
        obtain ⟨hh2, hbx, hin, hb2, hz⟩ := take_mem (xf := xf) (xu := xu) (xn := xn) (xct := xct) (xcl := xcl) (xk := xk) HH.out hpw hown hb
        have HM := Lib.hid (And.intro hh2 (And.intro hbx (And.intro hin hb2)))
        clear hh2 hbx hin hb2 hown hb
        go_wp2_with fail
        generalize hWW : w1.alloc _ = W at *
        clear hWW
        refine (IL _).mono ?_
        rintro e w2 ⟨rfl, rfl⟩
        have hbx := HM.out.2.1
        have d0 : W.cell? ⟨w1.heap.size, 0, none⟩ = some (.int .i32 xf) := box_cell hbx 0 rfl
        have d1 : W.cell? ⟨w1.heap.size, 1, none⟩ = some (.int .i32 xu) := box_cell hbx 1 rfl
        have d2 : W.cell? ⟨w1.heap.size, 2, none⟩ = some (.string (mk8 xn)) := box_cell hbx 2 rfl
        have d3 : W.cell? ⟨w1.heap.size, 3, none⟩ = some (.string (mk8 xct)) := box_cell hbx 3 rfl
        have d4 : W.cell? ⟨w1.heap.size, 4, none⟩ = some (.int .i64 xcl) := box_cell hbx 4 rfl
        have d5 : W.cell? ⟨w1.heap.size, 5, none⟩ = some (.string (mk8 xk)) := box_cell hbx 5 rfl
        have d6 : W.cell? ⟨w1.heap.size, 6, none⟩ = some (.slice A xil.length c) := box_cell hbx 6 rfl
        obtain ⟨os, Ao, co, q, hH0⟩ := HH.out
        have hAP : (Value.slice Ao os.length co).ownBlock ≠ some w1.heap.size := fun h => by have := hH0.rows.own.lt _ h; omega
        have hH := hH0.below HM.out.2.2.2
        clear hH0
        have cq : W.cell? ⟨p + 1, 0, none⟩ = some (.pointer q) := box_cell hH.first 0 rfl
        have fq : W.frozen? ⟨p + 1, 0, none⟩ = false := box_frozen hH.first 0
        have cw : W.cell? ⟨p + 2, 0, none⟩ = some (.int .i32 st.was) := box_cell hH.was 0 rfl
        have co1 : W.cell? ⟨p, 0, none⟩ = some (.slice Ao os.length co) := box_cell hH.out 0 rfl
        have cc : W.cell? ⟨p + 3, 0, none⟩ = some (.func (.func 27) #[] #[.pointer (some ⟨p + 1, 0, none⟩), .pointer (some ⟨p, 0, none⟩), .pointer (some ⟨p + 2, 0, none⟩)]) := box_cell hH.clo 0 rfl
        obtain ⟨b, Af, cf, hbp, hq0, hbf, hap⟩ := hH.opens _ HST.out
        subst hq0
        have HAP := Lib.hid (And.intro hbf hap)
        clear hbf hap
        have HHH := Lib.hid hH
        clear hH hbx
        go_wp2_with fail
        refine (IF _).mono ?_
        rintro e w2 ⟨rfl, rfl⟩
        have CLO := closes_any p st f ⟨xf, xu, xn, xct, xcl, xk, xil⟩ A c W HST.out HM.out.1 (HOP.out _ HST.out) HXO.out hol
        go_wp2_with fail
        refine CLO.mono ?_
        rintro e w3 ⟨rfl, hh3, hb3, hb4⟩
        go_wp2
        go_returns
        rw [HR.out]
        exact ⟨rfl, hh3, (HM.out.2.2.2.mono (by omega)).trans hb3, fun h => below_then HM.out.2.2.2 (hb4 h)⟩
    | none =>
      rw [hst] at hR
      simp only [] at hR
      have HST := Lib.hid hst
      clear hst
      obtain ⟨xf, xu, xn, xct, xcl, xk, xil⟩ := x
      cases hbi : bi
      · subst hbi
        rw [if_neg (by simp)] at hR
        by_cases hw : xf ≤ st.was
        · rw [if_pos hw] at hR
          have HR := Lib.hid hR
          clear hR
          go_enter Tryz.func28, Tryz.ntmps28
          go_wp2_with fail
          refine PA.mono ?_
          rintro e w1 ⟨A, c, rfl, hown, hb⟩
          simp only [rowV]
          simp only [] at hown
          obtain ⟨hh2, hbx, hin, hb2, hz⟩ := take_mem (xf := xf) (xu := xu) (xn := xn) (xct := xct) (xcl := xcl) (xk := xk) HH.out hpw hown hb
          have HM := Lib.hid (And.intro hh2 (And.intro hbx (And.intro hin hb2)))
          clear hh2 hbx hin hb2 hown hb
          go_wp2_with fail
          generalize hWW : w1.alloc _ = W at *
          clear hWW
          refine (IL _).mono ?_
          rintro e w2 ⟨rfl, rfl⟩
          have hbx := HM.out.2.1
          have d0 : W.cell? ⟨w1.heap.size, 0, none⟩ = some (.int .i32 xf) := box_cell hbx 0 rfl
          have d1 : W.cell? ⟨w1.heap.size, 1, none⟩ = some (.int .i32 xu) := box_cell hbx 1 rfl
          have d2 : W.cell? ⟨w1.heap.size, 2, none⟩ = some (.string (mk8 xn)) := box_cell hbx 2 rfl
          have d3 : W.cell? ⟨w1.heap.size, 3, none⟩ = some (.string (mk8 xct)) := box_cell hbx 3 rfl
          have d4 : W.cell? ⟨w1.heap.size, 4, none⟩ = some (.int .i64 xcl) := box_cell hbx 4 rfl
          have d5 : W.cell? ⟨w1.heap.size, 5, none⟩ = some (.string (mk8 xk)) := box_cell hbx 5 rfl
          have d6 : W.cell? ⟨w1.heap.size, 6, none⟩ = some (.slice A xil.length c) := box_cell hbx 6 rfl
          obtain ⟨os, Ao, co, q, hH0⟩ := HH.out
          have hAP : (Value.slice Ao os.length co).ownBlock ≠ some w1.heap.size := fun h => by have := hH0.rows.own.lt _ h; omega
          have hH := hH0.below HM.out.2.2.2
          clear hH0
          have cq : W.cell? ⟨p + 1, 0, none⟩ = some (.pointer q) := box_cell hH.first 0 rfl
          have fq : W.frozen? ⟨p + 1, 0, none⟩ = false := box_frozen hH.first 0
          have cw : W.cell? ⟨p + 2, 0, none⟩ = some (.int .i32 st.was) := box_cell hH.was 0 rfl
          have co1 : W.cell? ⟨p, 0, none⟩ = some (.slice Ao os.length co) := box_cell hH.out 0 rfl
          have cc : W.cell? ⟨p + 3, 0, none⟩ = some (.func (.func 27) #[] #[.pointer (some ⟨p + 1, 0, none⟩), .pointer (some ⟨p, 0, none⟩), .pointer (some ⟨p + 2, 0, none⟩)]) := box_cell hH.clo 0 rfl
          have hq0 := hH.shut HST.out
          subst hq0
          have HHH := Lib.hid hH
          clear hH hbx
          go_wp2_with fail
          refine (IF _).mono ?_
          rintro e w2 ⟨rfl, rfl⟩
          go_wp2
          go_returns
          rw [HR.out]
          exact ⟨rfl, HM.out.1, HM.out.2.2.2.mono (by omega), fun _ => HM.out.2.2.2⟩
        · rw [if_neg hw] at hR
          have hw2 : st.was < xf := by omega
          clear hw
          cases hai : ai
          · subst hai
            rw [if_neg (by simp)] at hR
            have HR := Lib.hid hR
            clear hR
            go_enter Tryz.func28, Tryz.ntmps28
            go_wp2_with fail
            refine PA.mono ?_
            rintro e w1 ⟨A, c, rfl, hown, hb⟩
            simp only [rowV]
            simp only [] at hown
            obtain ⟨hh2, hbx, hin, hb2, hz⟩ := take_mem (xf := xf) (xu := xu) (xn := xn) (xct := xct) (xcl := xcl) (xk := xk) HH.out hpw hown hb
            have HM := Lib.hid (And.intro hh2 (And.intro hbx (And.intro hin hb2)))
            clear hh2 hbx hin hb2 hown hb
            go_wp2_with fail
            generalize hWW : w1.alloc _ = W at *
            clear hWW
            refine (IL _).mono ?_
            rintro e w2 ⟨rfl, rfl⟩
            have hbx := HM.out.2.1
            have d0 : W.cell? ⟨w1.heap.size, 0, none⟩ = some (.int .i32 xf) := box_cell hbx 0 rfl
            have d1 : W.cell? ⟨w1.heap.size, 1, none⟩ = some (.int .i32 xu) := box_cell hbx 1 rfl
            have d2 : W.cell? ⟨w1.heap.size, 2, none⟩ = some (.string (mk8 xn)) := box_cell hbx 2 rfl
            have d3 : W.cell? ⟨w1.heap.size, 3, none⟩ = some (.string (mk8 xct)) := box_cell hbx 3 rfl
            have d4 : W.cell? ⟨w1.heap.size, 4, none⟩ = some (.int .i64 xcl) := box_cell hbx 4 rfl
            have d5 : W.cell? ⟨w1.heap.size, 5, none⟩ = some (.string (mk8 xk)) := box_cell hbx 5 rfl
            have d6 : W.cell? ⟨w1.heap.size, 6, none⟩ = some (.slice A xil.length c) := box_cell hbx 6 rfl
            obtain ⟨os, Ao, co, q, hH0⟩ := HH.out
            have hAP : (Value.slice Ao os.length co).ownBlock ≠ some w1.heap.size := fun h => by have := hH0.rows.own.lt _ h; omega
            have hH := hH0.below HM.out.2.2.2
            clear hH0
            have cq : W.cell? ⟨p + 1, 0, none⟩ = some (.pointer q) := box_cell hH.first 0 rfl
            have fq : W.frozen? ⟨p + 1, 0, none⟩ = false := box_frozen hH.first 0
            have cw : W.cell? ⟨p + 2, 0, none⟩ = some (.int .i32 st.was) := box_cell hH.was 0 rfl
            have co1 : W.cell? ⟨p, 0, none⟩ = some (.slice Ao os.length co) := box_cell hH.out 0 rfl
            have cc : W.cell? ⟨p + 3, 0, none⟩ = some (.func (.func 27) #[] #[.pointer (some ⟨p + 1, 0, none⟩), .pointer (some ⟨p, 0, none⟩), .pointer (some ⟨p + 2, 0, none⟩)]) := box_cell hH.clo 0 rfl
            have hq0 := hH.shut HST.out
            subst hq0
            have HHH := Lib.hid hH
            clear hH hbx
            go_wp2_with fail
            refine (IF _).mono ?_
            rintro e w2 ⟨rfl, rfl⟩
            go_wp2
            have hH := HHH.out
            have hbx := HM.out.2.1
            have hlt : ∀ k, (Value.slice Ao os.length co).ownBlock = some k → p + 4 ≤ k ∧ k < W.heap.size := hH.rows.own.lt
            have HS : W.drew.cell? ⟨w1.heap.size, 0, none⟩ = some (.int .i32 xf) ∧ W.drew.cell? ⟨w1.heap.size, 1, none⟩ = some (.int .i32 xu) ∧ W.drew.cell? ⟨w1.heap.size, 2, none⟩ = some (.string (mk8 xn)) ∧ W.drew.cell? ⟨w1.heap.size, 3, none⟩ = some (.string (mk8 xct)) ∧ W.drew.cell? ⟨w1.heap.size, 4, none⟩ = some (.int .i64 xcl) ∧ W.drew.cell? ⟨w1.heap.size, 5, none⟩ = some (.string (mk8 xk)) ∧ W.drew.cell? ⟨w1.heap.size, 6, none⟩ = some (.slice A xil.length c) := ⟨d0, d1, d2, d3, d4, d5, d6⟩
            have hrow : rowC (⟨xf, xu, xn, xct, xcl, xk, xil⟩, A, c) = [.int .i32 xf, .int .i32 xu, .string (mk8 xn), .string (mk8 xct), .int .i64 xcl, .string (mk8 xk), .slice A xil.length c] := rfl
            have hbA : Below W.heap.size W (W.drew.alloc (.cells (rowC (⟨xf, xu, xn, xct, xcl, xk, xil⟩, A, c)).toArray 27)) := (Below.refl _ _).drew.alloc (Nat.le_refl _) _
            have hownA := (hH.rows.below hbA).own
            have hrdA := RdK.new (k := 7) W.drew 27 1 (rowC (⟨xf, xu, xn, xct, xcl, xk, xil⟩, A, c)) rfl
            have honeA := rowC_one (⟨xf, xu, xn, xct, xcl, xk, xil⟩, A, c)
            have hol2 : os.length ≤ 100000 := by rw [← hH.outs, List.length_map] at hol; exact hol
            have h63A : os.length + 1 ≤ 1099511627776 := by omega
            have hbyA : 88 ≤ 128 := by omega
            have hwz : p + 3 < W.heap.size := box_lt hH.clo
            have hxz : w1.heap.size < W.heap.size := box_lt hbx
            have hbsA : p + 4 ≤ (W.drew.alloc (.cells (rowC (⟨xf, xu, xn, xct, xcl, xk, xil⟩, A, c)).toArray 27)).heap.size := by have := hbA.size; omega
            have hC1 : W.drew.cell? ⟨p, 0, none⟩ = some (.slice Ao os.length co) := co1
            have hC2 : (W.drew.alloc (.cells (rowC (⟨xf, xu, xn, xct, xcl, xk, xil⟩, A, c)).toArray 27)).cell? ⟨p, 0, none⟩ = some (.slice Ao os.length co) := cell_allocU hC1 _
            have hC3 : (W.alloc (.cells (rowC (⟨xf, xu, xn, xct, xcl, xk, xil⟩, A, c)).toArray 27)).cell? ⟨p, 0, none⟩ = some (.slice Ao os.length co) := hC2
            have hKA : (W.drew.alloc (.cells (rowC (⟨xf, xu, xn, xct, xcl, xk, xil⟩, A, c)).toArray 27)).heap[w1.heap.size]? = W.drew.heap[w1.heap.size]? := hbA.block _ hxz
            rw [hrow] at hownA hrdA honeA hbsA hC2 hC3 hKA
            have N1 : (Value.slice Ao os.length co).ownBlock ≠ some p := fun h => by have := hlt _ h; omega
            have N3 : (Value.slice Ao os.length co).ownBlock ≠ some (p + 2) := fun h => by have := hlt _ h; omega
            have M4 : w1.heap.size ≠ p := by omega
            have M5 : w1.heap.size ≠ p + 2 := by omega
            have HI := Lib.hid (And.intro hH (And.intro hbx (And.intro hbA hxz)))
            clear hlt hH hbx hbA hrow hxz cq fq cw co1 cc d0 d1 d2 d3 d4 d5 d6 PA IF IL hE hol
            refine wp_region_held_drew (S := fun w' => w'.cell? ⟨w1.heap.size, 0, none⟩ = some (.int .i32 xf) ∧ w'.cell? ⟨w1.heap.size, 1, none⟩ = some (.int .i32 xu) ∧ w'.cell? ⟨w1.heap.size, 2, none⟩ = some (.string (mk8 xn)) ∧ w'.cell? ⟨w1.heap.size, 3, none⟩ = some (.string (mk8 xct)) ∧ w'.cell? ⟨w1.heap.size, 4, none⟩ = some (.int .i64 xcl) ∧ w'.cell? ⟨w1.heap.size, 5, none⟩ = some (.string (mk8 xk)) ∧ w'.cell? ⟨w1.heap.size, 6, none⟩ = some (.slice A xil.length c)) (by kernel_rfl) HS (fun hHeld => ?_)
            refine wpAnyH_take (i := 1) (v := .agg #[.int .i32 xf, .int .i32 xu, .string (mk8 xn), .string (mk8 xct), .int .i64 xcl, .string (mk8 xk), .slice A xil.length c]) rfl (by kernel_rfl) (by kernel_rfl) (by kernel_rfl) (fun _ _ _ h => h) (Or.inl ⟨by rfl, by (intro w hSw; (try dsimp only at hSw); go_simp)⟩) hHeld ?_
            try simp only [Act.put, List.setIfInBounds_toArray, List.set_cons_zero, List.set_cons_succ]
            refine wpAnyH_take (i := 4) (v := .pointer (some ⟨w1.heap.size, 0, none⟩)) rfl (by kernel_rfl) (by kernel_rfl) (by kernel_rfl) (fun _ _ _ h => h) (Or.inl ⟨by rfl, by (intro w hSw; (try dsimp only at hSw); go_simp)⟩) hHeld ?_
            try simp only [Act.put, List.setIfInBounds_toArray, List.set_cons_zero, List.set_cons_succ]
            refine wpAnyH_take (i := 5) (v := .int .i32 xf) rfl (by kernel_rfl) (by kernel_rfl) (by kernel_rfl) (fun _ _ _ h => h) (Or.inl ⟨by rfl, by (intro w hSw; (try dsimp only at hSw); go_simp)⟩) hHeld ?_
            try simp only [Act.put, List.setIfInBounds_toArray, List.set_cons_zero, List.set_cons_succ]
            refine wpAnyH_ready (rs := [0, 2]) (by kernel_rfl) (by simp) (AllReadyH.cons rfl (fun K hK => ?_) (AllReadyH.cons rfl (fun K hK => ?_) AllReadyH.nil))
            · go_simp
              refine hK.out _ _ hHeld (fun _ => ?_)
              clear hK K
              try simp only [Act.put, List.setIfInBounds_toArray, List.set_cons_zero, List.set_cons_succ]
              refine wpAnyH_ready (rs := [2]) (by kernel_rfl) (by simp) (AllReadyH.cons rfl (fun K hK => ?_) AllReadyH.nil)
              go_simp
              refine hK.out _ _ (keep7 hHeld hKA) (fun hHeld2 => ?_)
              clear hK K
              try simp only [Act.put, List.setIfInBounds_toArray, List.set_cons_zero, List.set_cons_succ]
              refine wpAnyH_ready (rs := [3]) (by kernel_rfl) (by simp) (AllReadyH.cons rfl (fun K hK => ?_) AllReadyH.nil)
              refine step_appR rowElem _ rfl (.tmp 50) (.tmp 52) rfl (p + 4) rfl hownA rfl hrdA honeA h63A hbyA hbsA ?_
              intro A4 c4 w4 hown4 hg4
              obtain ⟨hH, hbx, hbA, hxz⟩ := HI.out
              have hg5 : (W.alloc (.cells (rowC (⟨xf, xu, xn, xct, xcl, xk, xil⟩, A, c)).toArray 27)).drew.grownBy w4 (Value.slice Ao os.length co).ownBlock := hg4
              clear hg4
              have hbx4 := box_grown (box_below hbx hbA) hg5 hAP
              have b24 := box_grown (box_below hH.out hbA) hg5 N1
              have b74 := box_grown (box_below hH.was hbA) hg5 N3
              have hK4 : w4.heap[w1.heap.size]? = (W.alloc (.cells (rowC (⟨xf, xu, xn, xct, xcl, xk, xil⟩, A, c)).toArray 27)).drew.heap[w1.heap.size]? := hbx4.trans (box_below hbx hbA).symm
              refine hK.out _ _ (keep7 hHeld2 hK4) (fun hHeld3 => ?_)
              clear hK K
              try simp only [Act.put, List.setIfInBounds_toArray, List.set_cons_zero, List.set_cons_succ]
              have hC4 : w4.cell? ⟨p, 0, none⟩ = some (.slice Ao os.length co) := box_cell b24 0 rfl
              have hF4 : w4.frozen? ⟨p, 0, none⟩ = false := box_frozen b24 0
              obtain ⟨W6, hW6, k2, kr, k4, k7, k8, kb⟩ := app_fin (z := .int .i32 xf) (x := (⟨xf, xu, xn, xct, xcl, xk, xil⟩, A, c)) hpw HM.out.2.2.2 hbA hH.rows hH.out hH.first hH.was hH.clo HM.out.2.2.1 hown4 hg5
              have HK := Lib.hid (And.intro k2 (And.intro kr (And.intro k4 (And.intro k7 (And.intro k8 (And.intro kb hH.outs))))))
              have e2 : (w4.setCell ⟨p, 0, none⟩ (.slice A4 (os.length + 1) c4)).cell? ⟨p + 2, 0, none⟩ = some (.int .i32 st.was) := box_cell (box_setU b74 (by omega)) 0 rfl
              have e3 : (w4.setCell ⟨p, 0, none⟩ (.slice A4 (os.length + 1) c4)).frozen? ⟨p + 2, 0, none⟩ = false := box_frozen (box_setU b74 (by omega)) 0
              have q1 : (w4.setCell ⟨p, 0, none⟩ (.slice A4 (os.length + 1) c4)).heap[w1.heap.size]? = w4.heap[w1.heap.size]? := Below.heap_setCell _ _ _ _ M4
              have q2 : ((w4.setCell ⟨p, 0, none⟩ (.slice A4 (os.length + 1) c4)).setCell ⟨p + 2, 0, none⟩ (.int .i32 xf)).heap[w1.heap.size]? = (w4.setCell ⟨p, 0, none⟩ (.slice A4 (os.length + 1) c4)).heap[w1.heap.size]? := Below.heap_setCell _ _ _ _ M5
              clear k2 kr k4 k7 k8 kb hg5 b24 b74 hbx4 hK4 hH hbx hbA hxz hown4 HS hC1 hC2 hC3 hownA hrdA honeA h63A hbyA hbsA hHeld hHeld2
              refine wpAnyH_ready (rs := [6]) (by kernel_rfl) (by simp) (AllReadyH.cons rfl (fun K hK => ?_) AllReadyH.nil)
              go_simp
              refine hK.out _ _ (keep7 hHeld3 q1) (fun hHeld4 => ?_)
              clear hK K hC4 hF4
              try simp only [Act.put, List.setIfInBounds_toArray, List.set_cons_zero, List.set_cons_succ]
              refine wpAnyH_ready (rs := [7]) (by kernel_rfl) (by simp) (AllReadyH.cons rfl (fun K hK => ?_) AllReadyH.nil)
              go_simp
              refine hK.out _ _ (keep7 hHeld4 q2) (fun _ => ?_)
              clear hK K hHeld3 hHeld4 e2 e3 q1 q2
              refine wpAnyH_done (by kernel_rfl) ?_ _
              go_wp2
              go_returns
              rw [← hW6, HR.out]
              obtain ⟨k2, kr, k4, k7, k8, kb, h1⟩ := HK.out
              refine ⟨rfl, ⟨os ++ [(⟨xf, xu, xn, xct, xcl, xk, xil⟩, A, c)], A4, c4, none, ?_⟩, kb, fun h => absurd rfl h⟩
              refine ⟨by simp [h1], ?_, kr, k4, fun _ => rfl, fun f hf => absurd hf (by simp), k7, k8⟩
              rw [List.length_append, List.length_singleton]
              exact k2
            · go_simp
              refine hK.out _ _ (keep7 hHeld hKA) (fun hHeld2 => ?_)
              clear hK K
              try simp only [Act.put, List.setIfInBounds_toArray, List.set_cons_zero, List.set_cons_succ]
              refine wpAnyH_ready (rs := [0]) (by kernel_rfl) (by simp) (AllReadyH.cons rfl (fun K hK => ?_) AllReadyH.nil)
              go_simp
              refine hK.out _ _ hHeld2 (fun _ => ?_)
              clear hK K
              try simp only [Act.put, List.setIfInBounds_toArray, List.set_cons_zero, List.set_cons_succ]
              refine wpAnyH_ready (rs := [3]) (by kernel_rfl) (by simp) (AllReadyH.cons rfl (fun K hK => ?_) AllReadyH.nil)
              refine step_appR rowElem _ rfl (.tmp 50) (.tmp 52) rfl (p + 4) rfl hownA rfl hrdA honeA h63A hbyA hbsA ?_
              intro A4 c4 w4 hown4 hg4
              obtain ⟨hH, hbx, hbA, hxz⟩ := HI.out
              have hg5 : (W.alloc (.cells (rowC (⟨xf, xu, xn, xct, xcl, xk, xil⟩, A, c)).toArray 27)).drew.grownBy w4 (Value.slice Ao os.length co).ownBlock := hg4
              clear hg4
              have hbx4 := box_grown (box_below hbx hbA) hg5 hAP
              have b24 := box_grown (box_below hH.out hbA) hg5 N1
              have b74 := box_grown (box_below hH.was hbA) hg5 N3
              have hK4 : w4.heap[w1.heap.size]? = (W.alloc (.cells (rowC (⟨xf, xu, xn, xct, xcl, xk, xil⟩, A, c)).toArray 27)).drew.heap[w1.heap.size]? := hbx4.trans (box_below hbx hbA).symm
              refine hK.out _ _ (keep7 hHeld2 hK4) (fun hHeld3 => ?_)
              clear hK K
              try simp only [Act.put, List.setIfInBounds_toArray, List.set_cons_zero, List.set_cons_succ]
              have hC4 : w4.cell? ⟨p, 0, none⟩ = some (.slice Ao os.length co) := box_cell b24 0 rfl
              have hF4 : w4.frozen? ⟨p, 0, none⟩ = false := box_frozen b24 0
              obtain ⟨W6, hW6, k2, kr, k4, k7, k8, kb⟩ := app_fin (z := .int .i32 xf) (x := (⟨xf, xu, xn, xct, xcl, xk, xil⟩, A, c)) hpw HM.out.2.2.2 hbA hH.rows hH.out hH.first hH.was hH.clo HM.out.2.2.1 hown4 hg5
              have HK := Lib.hid (And.intro k2 (And.intro kr (And.intro k4 (And.intro k7 (And.intro k8 (And.intro kb hH.outs))))))
              have e2 : (w4.setCell ⟨p, 0, none⟩ (.slice A4 (os.length + 1) c4)).cell? ⟨p + 2, 0, none⟩ = some (.int .i32 st.was) := box_cell (box_setU b74 (by omega)) 0 rfl
              have e3 : (w4.setCell ⟨p, 0, none⟩ (.slice A4 (os.length + 1) c4)).frozen? ⟨p + 2, 0, none⟩ = false := box_frozen (box_setU b74 (by omega)) 0
              have q1 : (w4.setCell ⟨p, 0, none⟩ (.slice A4 (os.length + 1) c4)).heap[w1.heap.size]? = w4.heap[w1.heap.size]? := Below.heap_setCell _ _ _ _ M4
              have q2 : ((w4.setCell ⟨p, 0, none⟩ (.slice A4 (os.length + 1) c4)).setCell ⟨p + 2, 0, none⟩ (.int .i32 xf)).heap[w1.heap.size]? = (w4.setCell ⟨p, 0, none⟩ (.slice A4 (os.length + 1) c4)).heap[w1.heap.size]? := Below.heap_setCell _ _ _ _ M5
              clear k2 kr k4 k7 k8 kb hg5 b24 b74 hbx4 hK4 hH hbx hbA hxz hown4 HS hC1 hC2 hC3 hownA hrdA honeA h63A hbyA hbsA hHeld hHeld2
              refine wpAnyH_ready (rs := [6]) (by kernel_rfl) (by simp) (AllReadyH.cons rfl (fun K hK => ?_) AllReadyH.nil)
              go_simp
              refine hK.out _ _ (keep7 hHeld3 q1) (fun hHeld4 => ?_)
              clear hK K hC4 hF4
              try simp only [Act.put, List.setIfInBounds_toArray, List.set_cons_zero, List.set_cons_succ]
              refine wpAnyH_ready (rs := [7]) (by kernel_rfl) (by simp) (AllReadyH.cons rfl (fun K hK => ?_) AllReadyH.nil)
              go_simp
              refine hK.out _ _ (keep7 hHeld4 q2) (fun _ => ?_)
              clear hK K hHeld3 hHeld4 e2 e3 q1 q2
              refine wpAnyH_done (by kernel_rfl) ?_ _
              go_wp2
              go_returns
              rw [← hW6, HR.out]
              obtain ⟨k2, kr, k4, k7, k8, kb, h1⟩ := HK.out
              refine ⟨rfl, ⟨os ++ [(⟨xf, xu, xn, xct, xcl, xk, xil⟩, A, c)], A4, c4, none, ?_⟩, kb, fun h => absurd rfl h⟩
              refine ⟨by simp [h1], ?_, kr, k4, fun _ => rfl, fun f hf => absurd hf (by simp), k7, k8⟩
              rw [List.length_append, List.length_singleton]
              exact k2
          · subst hai
            rw [if_pos rfl] at hR
            have HR := Lib.hid hR
            clear hR
            go_enter Tryz.func28, Tryz.ntmps28
            go_wp2_with fail
            refine PA.mono ?_
            rintro e w1 ⟨A, c, rfl, hown, hb⟩
            simp only [rowV]
            simp only [] at hown
            obtain ⟨hh2, hbx, hin, hb2, hz⟩ := take_mem (xf := xf) (xu := xu) (xn := xn) (xct := xct) (xcl := xcl) (xk := xk) HH.out hpw hown hb
            have HM := Lib.hid (And.intro hh2 (And.intro hbx (And.intro hin hb2)))
            clear hh2 hbx hin hb2 hown hb
            go_wp2_with fail
            generalize hWW : w1.alloc _ = W at *
            clear hWW
            refine (IL _).mono ?_
            rintro e w2 ⟨rfl, rfl⟩
            have hbx := HM.out.2.1
            have d0 : W.cell? ⟨w1.heap.size, 0, none⟩ = some (.int .i32 xf) := box_cell hbx 0 rfl
            have d1 : W.cell? ⟨w1.heap.size, 1, none⟩ = some (.int .i32 xu) := box_cell hbx 1 rfl
            have d2 : W.cell? ⟨w1.heap.size, 2, none⟩ = some (.string (mk8 xn)) := box_cell hbx 2 rfl
            have d3 : W.cell? ⟨w1.heap.size, 3, none⟩ = some (.string (mk8 xct)) := box_cell hbx 3 rfl
            have d4 : W.cell? ⟨w1.heap.size, 4, none⟩ = some (.int .i64 xcl) := box_cell hbx 4 rfl
            have d5 : W.cell? ⟨w1.heap.size, 5, none⟩ = some (.string (mk8 xk)) := box_cell hbx 5 rfl
            have d6 : W.cell? ⟨w1.heap.size, 6, none⟩ = some (.slice A xil.length c) := box_cell hbx 6 rfl
            obtain ⟨os, Ao, co, q, hH0⟩ := HH.out
            have hAP : (Value.slice Ao os.length co).ownBlock ≠ some w1.heap.size := fun h => by have := hH0.rows.own.lt _ h; omega
            have hH := hH0.below HM.out.2.2.2
            clear hH0
            have cq : W.cell? ⟨p + 1, 0, none⟩ = some (.pointer q) := box_cell hH.first 0 rfl
            have fq : W.frozen? ⟨p + 1, 0, none⟩ = false := box_frozen hH.first 0
            have cw : W.cell? ⟨p + 2, 0, none⟩ = some (.int .i32 st.was) := box_cell hH.was 0 rfl
            have co1 : W.cell? ⟨p, 0, none⟩ = some (.slice Ao os.length co) := box_cell hH.out 0 rfl
            have cc : W.cell? ⟨p + 3, 0, none⟩ = some (.func (.func 27) #[] #[.pointer (some ⟨p + 1, 0, none⟩), .pointer (some ⟨p, 0, none⟩), .pointer (some ⟨p + 2, 0, none⟩)]) := box_cell hH.clo 0 rfl
            have hq0 := hH.shut HST.out
            subst hq0
            have HHH := Lib.hid hH
            clear hH hbx
            go_wp2_with fail
            refine (IF _).mono ?_
            rintro e w2 ⟨rfl, rfl⟩
            go_wp2
            go_returns
            rw [HR.out]
            refine ⟨rfl, ?_, (HM.out.2.2.2.mono (show p ≤ w.heap.size by omega)).setCell (p := ⟨p + 1, 0, none⟩) (by simp) _, fun h => absurd rfl h⟩
            have hH := HHH.out
            have hbx := HM.out.2.1
            refine ⟨os, Ao, co, some ⟨w1.heap.size, 0, none⟩, hH.outs, box_setU hH.out (by omega), hH.rows.setCell (by simp), box_set hH.first 0 _, fun h => absurd h (by simp), ?_, box_setU hH.was (by omega), box_setU hH.clo (by omega)⟩
            intro f hf
            injection hf with hf
            subst hf
            refine ⟨w1.heap.size, A, c, by omega, rfl, box_setU hbx (by omega), hAP⟩
      · subst hbi
        rw [if_pos rfl] at hR
        have HR := Lib.hid hR
        clear hR
        go_enter Tryz.func28, Tryz.ntmps28
        go_wp2_with fail
        refine PA.mono ?_
        rintro e w1 ⟨A, c, rfl, hown, hb⟩
        simp only [rowV]
        simp only [] at hown
        obtain ⟨hh2, hbx, hin, hb2, hz⟩ := take_mem (xf := xf) (xu := xu) (xn := xn) (xct := xct) (xcl := xcl) (xk := xk) HH.out hpw hown hb
        have HM := Lib.hid (And.intro hh2 (And.intro hbx (And.intro hin hb2)))
        clear hh2 hbx hin hb2 hown hb
        go_wp2_with fail
        generalize hWW : w1.alloc _ = W at *
        clear hWW
        refine (IL _).mono ?_
        rintro e w2 ⟨rfl, rfl⟩
        have hbx := HM.out.2.1
        have d0 : W.cell? ⟨w1.heap.size, 0, none⟩ = some (.int .i32 xf) := box_cell hbx 0 rfl
        have d1 : W.cell? ⟨w1.heap.size, 1, none⟩ = some (.int .i32 xu) := box_cell hbx 1 rfl
        have d2 : W.cell? ⟨w1.heap.size, 2, none⟩ = some (.string (mk8 xn)) := box_cell hbx 2 rfl
        have d3 : W.cell? ⟨w1.heap.size, 3, none⟩ = some (.string (mk8 xct)) := box_cell hbx 3 rfl
        have d4 : W.cell? ⟨w1.heap.size, 4, none⟩ = some (.int .i64 xcl) := box_cell hbx 4 rfl
        have d5 : W.cell? ⟨w1.heap.size, 5, none⟩ = some (.string (mk8 xk)) := box_cell hbx 5 rfl
        have d6 : W.cell? ⟨w1.heap.size, 6, none⟩ = some (.slice A xil.length c) := box_cell hbx 6 rfl
        obtain ⟨os, Ao, co, q, hH0⟩ := HH.out
        have hAP : (Value.slice Ao os.length co).ownBlock ≠ some w1.heap.size := fun h => by have := hH0.rows.own.lt _ h; omega
        have hH := hH0.below HM.out.2.2.2
        clear hH0
        have cq : W.cell? ⟨p + 1, 0, none⟩ = some (.pointer q) := box_cell hH.first 0 rfl
        have fq : W.frozen? ⟨p + 1, 0, none⟩ = false := box_frozen hH.first 0
        have cw : W.cell? ⟨p + 2, 0, none⟩ = some (.int .i32 st.was) := box_cell hH.was 0 rfl
        have co1 : W.cell? ⟨p, 0, none⟩ = some (.slice Ao os.length co) := box_cell hH.out 0 rfl
        have cc : W.cell? ⟨p + 3, 0, none⟩ = some (.func (.func 27) #[] #[.pointer (some ⟨p + 1, 0, none⟩), .pointer (some ⟨p, 0, none⟩), .pointer (some ⟨p + 2, 0, none⟩)]) := box_cell hH.clo 0 rfl
        have hq0 := hH.shut HST.out
        subst hq0
        have HHH := Lib.hid hH
        clear hH hbx
        go_wp2_with fail
        refine (IF _).mono ?_
        rintro e w2 ⟨rfl, rfl⟩
        go_wp2
        go_returns
        rw [HR.out]
        exact ⟨rfl, HM.out.1, HM.out.2.2.2.mono (by omega), fun _ => HM.out.2.2.2⟩
  · rw [if_pos he]
    have hne : (e0 != 0) = true := by simpa using he
    clear he hR IF IL
    obtain ⟨xf, xu, xn, xct, xcl, xk, xil⟩ := x
    go_enter Tryz.func28, Tryz.ntmps28
    go_wp2_with fail
    refine PA.mono ?_
    rintro e w1 ⟨A, c, rfl, hown, hb⟩
    simp only [rowV]
    obtain ⟨hh2, hbx, hin, hb2, hz⟩ := take_mem (xf := xf) (xu := xu) (xn := xn) (xct := xct) (xcl := xcl) (xk := xk) HH.out hpw hown hb
    have HM := Lib.hid (And.intro hh2 hb2)
    clear hh2 hbx hin hb2 hown hb
    go_wp2
    go_returns
    exact ⟨rfl, HM.out.1, HM.out.2.mono (by omega), fun _ => HM.out.2⟩
end Go.Proofs.YtagncjnbabdbmaaGreatDoor
