/- BaseNil's law: a nil base is the document's base without rows. -/
import Derived.Test.YtggichcfklbjiaaGreatDoorG45
import Derived.Test.YtggichcfklbjiaaGreatDoorG42
import Derived.Test.YtggichcfklbjiaaGreatDoorG35
section
set_option linter.unusedSimpArgs false
set_option linter.unusedVariables false
namespace Go.Proofs.YtggichcfklbjiaaGreatDoor
open Go.RowKit Go.Lib Go.Maps Go.Sort Go.Shelf
attribute [local go_sem] Oper.semAt_some

theorem refm_nil {w : World} {rp : Nat} (h : w.heap[rp]? = some (.cells #[.slice none 0 0, .slice none 0 0] 50 (0, 0))) : RefM w rp [] [] none none 0 0 :=
  ⟨h, ⟨⟨rfl, fun h => absurd h (Nat.lt_irrefl _)⟩, fun x hx => by cases hx⟩, Rd.nil _ _, Nat.zero_le _, Nat.zero_le _⟩
theorem rows_g_nil : RowsG (([] : List RA).map (·.1)) := ⟨fun x hx => (by cases hx), fun i a b ha => (by simp at ha)⟩
set_option maxRecDepth 100000 in
set_option maxHeartbeats 4000000 in
theorem basenil_yes (x y : Int) (w : World) (hE : Env w) (hk : Kinds w) (hx1 : -2147483648 ≤ x) (hx2 : x < 2147483648) (hy1 : -2147483648 ≤ y) (hy2 : y < 2147483648) :
    Calls Tryz.prog 6 #[.int .i32 x, .int .i32 y] w fun e w' => e = .returned (.bool true) ∧ Below w.heap.size w w' := by
  have hx : R32 x := ⟨hx1, hx2⟩
  have hy : R32 y := ⟨hy1, hy2⟩
  clear hx1 hx2 hy1 hy2
  refine (callsIn_wide (n := 9)).1 ?_
  have hro : Fence.wide.round = none := rfl
  have h1 : 1 ≤ 9 := by omega
  refine callsIn_of_wp_marks Tryz.func6 rfl trivial ?_ hro
  simp only [Tryz.ntmps6, List.size_toArray, List.length_cons, List.length_nil, Nat.reduceAdd, Nat.reduceSub, Array.replicate_succ, Array.replicate_zero, List.push_toArray, List.append_toArray, List.nil_append, List.cons_append]
  have hnf : ∀ (f : Fn) (a c : Array Value) (w : World), Sem.run Tryz.prog (binOp BinOp.eql 39 (Value.func f a c) Value.nilFunc) w = .ok (.bool false) w := fun f a c w => by kernel_rfl
  have hnf2 : ∀ (f : Fn) (a c : Array Value) (w : World), Sem.run Tryz.prog (binOp BinOp.eql 31 (Value.func f a c) Value.nilFunc) w = .ok (.bool false) w := fun f a c w => by kernel_rfl
  have hb0 : Below w.heap.size w (w.alloc (.cells #[.slice none 0 0, .slice none 0 0] 50)) := (Below.refl _ _).alloc (Nat.le_refl _) _
  have M0 := refm_nil (box_new w #[.slice none 0 0, .slice none 0 0] 50)
  have D1 := decomp_none x (w.alloc (.cells #[.slice none 0 0, .slice none 0 0] 50)) (hk.below' hb0)
  obtain ⟨il, hil⟩ : ∃ il, decH (fun _ => none) x = ([], il) := ⟨(decH (fun _ => none) x).2, by unfold decH; split <;> rfl⟩
  have hil2 : decH (prtL (([] : List RA).map (·.1))) x = ([], il) := hil
  obtain ⟨pz, pb, hpz⟩ : ∃ pz pb, pairOf (pairH (fun _ => none) x y) = .tuple #[.int .i32 pz, .bool pb] := ⟨_, _, rfl⟩
  have hpz2 : pairOf (pairH (prL (([] : List RA).map (·.1)) []) x y) = .tuple #[.int .i32 pz, .bool pb] := hpz
  obtain ⟨sb, hsb⟩ : ∃ sb, sb = secH (fun _ => none) x := ⟨_, rfl⟩
  have hlen : il.length ≤ 2 := by
    have : il = (decH (fun _ => none) x).2 := by rw [hil]
    rw [this]
    unfold decH
    split <;> simp
  rw [hil] at D1
  have HIL2 := Lib.hid hil2
  have HPZ := Lib.hid hpz
  have HPZ2 := Lib.hid hpz2
  have HSB := Lib.hid hsb
  have HLEN := Lib.hid hlen
  clear hil hil2 hpz hpz2 hsb hlen
  gi_wp2
  refine ⟨trivial, (callsIn_wide.2 D1).mono ?_⟩
  rintro e w1 ⟨A, c, rfl, hown, hb1⟩
  obtain ⟨A1, c1, hv1, _, _, hrd1⟩ := Rd.of_own hown
  injection hv1 with e1 _ e3
  subst e1 e3
  have hb01 := below_then hb0 hb1
  have M1 := M0.below hb1
  have D2 := rdecomp_any M1 (Below.refl _ _) rows_g_nil x hx
  rw [HIL2.out] at D2
  clear D1 hown
  gi_wp2
  refine ⟨trivial, (callsIn_wide.2 D2).mono ?_⟩
  rintro e w2 ⟨A2, c2, rfl, hrd2, hb2, _⟩
  have hb02 := below_then hb01 hb2
  have M2 := M1.below hb2
  have P1 := pair_none x y w2 hx hy (hk.below' hb02)
  rw [HPZ.out] at P1
  have r1 := hrd1.below hb2
  clear D2 hrd1 M0 M1 hb01 hb1
  gi_wp2
  refine ⟨trivial, (callsIn_wide.2 P1).mono ?_⟩
  rintro e w3 ⟨rfl, hb3⟩
  have hb03 := below_then hb02 hb3
  have M3 := M2.below hb3
  have P2 := rpair_any M3 rows_g_nil x y hx hy
  rw [HPZ2.out] at P2
  have r2 := hrd2.below hb3
  have r1 := r1.below hb3
  clear P1 M2 hrd2 hb02 hb2
  gi_wp2
  refine ⟨trivial, (callsIn_wide.2 P2).mono ?_⟩
  rintro e w4 ⟨rfl, hb4⟩
  have hb04 := below_then hb03 hb4
  have M4 := M3.below hb4
  have r2 := r2.below hb4
  have r1 := r1.below hb4
  have PA := pairs_any none w4
  clear P2 M3 hb03 hb3
  gi_wp2
  refine ⟨trivial, (callsIn_wide.2 PA).mono ?_⟩
  rintro e w5 ⟨rfl, hw5⟩
  have hb5 : Below w4.heap.size w4 w5 := by rw [hw5]; exact (Below.refl _ _).alloc (Nat.le_refl _) _
  have bp5 : w5.cell? ⟨w4.heap.size, 0, none⟩ = some (.pointer none) := by rw [hw5]; exact box_cell (box_new w4 _ _) 0 rfl
  have hb05 := below_then hb04 hb5
  have KN := known_nil w5
  clear PA hw5
  gi_wp2
  refine ⟨trivial, (callsIn_wide.2 KN).mono ?_⟩
  rintro e w6 ⟨g, Bs, ks, rfl, hIt, _, hkl, _, _, hg, hb6⟩
  obtain rfl : ks = [] := List.length_eq_zero_iff.1 (by omega)
  have hb06 := below_then hb05 hb6
  have bp6 : w6.cell? ⟨w4.heap.size, 0, none⟩ = some (.pointer none) := (hb6.cell (p := ⟨w4.heap.size, 0, none⟩) (World.block_lt_of_cell? w5 _ bp5)).trans bp5
  have b7 := Boxed.new w6 3 (.int .i64 0)
  have hb7 : Below w6.heap.size w6 (w6.alloc (.cells #[.int .i64 0] 3)) := (Below.refl _ _).alloc (Nat.le_refl _) _
  clear KN bp5 hkl
  gi_wp2
  refine wpIn_rangeFunc_ownH hro h1 (gf := 34) (lb := #[.pointer (some ⟨w4.heap.size, 0, none⟩)]) rfl trivial (enters_of Tryz.func34 (by kernel_rfl) rfl)
    (pairs_stops_nil (9 - 1) w4.heap.size (fun _ _ => True) w6 bp6) (fun _ _ => trivial) (fun _ _ _ _ _ _ _ _ => trivial) hb7 (fun _ => rfl)
    (fun _ W => Below (w6.heap.size + 1) (w6.alloc (.cells #[.int .i64 0] 3)) W) (fun _ (_ : List (Int × (Int × Int))) _ => False)
    (ownFrom_below (by simp) (by simp)) (fun _ _ _ _ _ hs _ _ => hs) (Below.refl _ _) (fun _ _ _ => True) (fun _ _ _ _ _ _ _ _ _ => trivial) ?assign ?body ?done ?stop
  case assign =>
    intro l pre x W K hi hK
    gi_wp2
    exact hK _ _ (KeepsFrom.refl _ _) trivial hi trivial
  case body =>
    intro l pre x a' W _ _ _ _ hlt
    exact absurd hlt (Nat.not_lt_zero _)
  case stop =>
    rintro D c pre W _ h
    exact h.elim
  case done =>
    rintro D1 ys W hD rfl hW hK
    have hwD : w.heap.size ≤ D1 := by have := hb06.size; have := hb7.size; omega
    have HW := Lib.hid hW
    have HK := Lib.hid hK
    have HBP := Lib.hid bp6
    clear hW hK bp6
    gi_wp2
    have hb6W : Below w6.heap.size w6 W := hb7.trans (HW.out.mono (by omega))
    have hItW := hIt.below hb6W
    have hgW : g < W.heap.size := by have := hb6W.size; omega
    refine wpIn_rangeFunc_ownH hro h1 (gf := 57) (lb := #[.pointer (some ⟨Bs, 0, none⟩)]) rfl trivial (enters_of Tryz.func57 (by kernel_rfl) rfl)
      (values_stops Fence.wide (9 - 1) trivial hro (by omega) g Bs [] (by simp) W hItW) (fun h k => h.trans k) (KpV.put hgW) (Below.refl _ _) (fun _ => rfl)
      (fun _ V => Below W.heap.size W V) (fun _ (_ : List Int) _ => False)
      (ownFrom_below (Nat.le_refl _) (Nat.le_refl _)) (fun _ _ _ _ _ hs _ _ => hs) (Below.refl _ _) (fun _ _ _ => True) (fun _ _ _ _ _ _ _ _ _ => trivial) ?assign2 ?body2 ?done2 ?stop2
    case assign2 =>
      intro l pre x W K hi hK
      gi_wp2
      exact hK _ _ (KeepsFrom.refl _ _) (KpV.refl _ _) hi trivial
    case body2 =>
      intro l pre x a' W _ _ _ _ hlt
      exact absurd hlt (Nat.not_lt_zero _)
    case stop2 =>
      rintro D c pre W _ _ h
      exact h.elim
    case done2 =>
      rintro D2 ys V hD2 rfl hV hK
      have hd1 := (hV.block D1 (Array.getElem?_eq_some_iff.1 HK.out).1).trans HK.out
      have hne : D1 ≠ D2 := by
        have := (Array.getElem?_eq_some_iff.1 HK.out).1
        omega
      have hb6V : Below w6.heap.size w6 V := hb6W.trans (hV.mono hb6W.size)
      have hbV := below_then hb06 hb6V
      have hs7 : w6.heap.size + 1 ≤ W.heap.size := by have := HW.out.size; simpa using this
      have b8 := boxed_below b7 (by rw [World.size_alloc]; exact HW.out.trans (hV.mono hs7))
      have M8 := M4.below (below_then hb5 (below_then hb6 hb6V))
      have r1 := r1.below (below_then hb5 (below_then hb6 hb6V))
      have r2 := r2.below (below_then hb5 (below_then hb6 hb6V))
      have RN := runes_any A A2 il.length il.length c c2 il il V r1 r2 (by have := HLEN.out; omega) (by have := HLEN.out; omega)
      rw [decide_eq_true (rfl : il = il)] at RN
      have hte : (mk8 ([] : List UInt8)).toList.isEmpty = true := by rw [toList_bs, bs_mk8]; rfl
      have HD1 := Lib.hid hd1
      have HD2 := Lib.hid hK
      have HBV := Lib.hid hbV
      have HM := Lib.hid M8
      have HB8 := Lib.hid b8
      have hdl1 := (Array.getElem?_eq_some_iff.1 hd1).1
      have hdl2 := (Array.getElem?_eq_some_iff.1 hK).1
      have hlt8 := World.block_lt_of_cell? V _ b8.cell
      clear hd1 hK hV hb6V hbV M8 b8 r1 r2 hItW hb6W hIt hgW M4 hb4 hb5 hb6 hb7 b7 hb06 hb05 hb04
      --CUT
      gi_wp2
      --CUT
      refine ⟨trivial, (callsIn_wide.2 RN).mono ?_⟩
      rintro e v1 ⟨rfl, hd⟩
      have hb1 := hd.below V.heap.size
      have C1 := class_nil x v1
      clear RN hd
      gi_wp2
      refine ⟨trivial, (callsIn_wide.2 C1).mono ?_⟩
      rintro e v2 ⟨rfl, hb2⟩
      have hb12 := below_then hb1 hb2
      have S1 := sec_none x v2 hx (hk.below' (below_then HBV.out hb12))
      rw [← HSB.out] at S1
      clear C1 hb1 hb2
      --CUT
      gi_wp2
      refine ⟨trivial, (callsIn_wide.2 S1).mono ?_⟩
      rintro e v3 ⟨rfl, hb3⟩
      have hb13 := below_then hb12 hb3
      have S2 := rsec_nil v3 _ (HM.out.below hb13).box x
      rw [← HSB.out] at S2
      clear S1 hb12 hb3
      gi_wp2
      refine ⟨trivial, (callsIn_wide.2 S2).mono ?_⟩
      rintro e v4 ⟨rfl, rfl⟩
      have cn := (boxed_below HB8.out (hb13.mono (by omega))).cell
      have AW := awake8_any v3 (hE.below (below_then HBV.out hb13)) (hk.below' (below_then HBV.out hb13))
      clear S2
      --CUT
      gi_wp2
      refine ⟨trivial, (callsIn_wide.2 AW).mono ?_⟩
      rintro e v5 ⟨rfl, hb5⟩
      have hb15 := below_then hb13 hb5
      clear AW cn hb13 hb5
      --CUT
      gi_wp2
      have e1 := (hb15.block D1 hdl1).trans HD1.out
      have e2 := (hb15.block D2 hdl2).trans HD2.out
      have hs15 := hb15.size
      have hwV : w.heap.size ≤ D1 ∧ w.heap.size ≤ D2 := ⟨hwD, by have := (Array.getElem?_eq_some_iff.1 HK.out).1; omega⟩
      have hbG : Below w.heap.size w ((v5.putObj D2 (.deferred none)).putObj D1 (.deferred none)) := ((below_then HBV.out hb15).trans (belowK_b (w := w) (Nat.le_refl _) _ D2 _ _ hwV.2 e2 rfl rfl)).trans (belowK_b (w := w) (Nat.le_refl _) _ D1 _ _ hwV.1 ((World.putObj_heap_other hne).trans e1) rfl rfl)
      refine leave2 e1 e2 hne ⟨.bool true, ?_, rfl, hbG⟩
      simp [results, Tryz.f6, go_sem]
end Go.Proofs.YtggichcfklbjiaaGreatDoor
end
