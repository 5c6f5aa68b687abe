/- Which characters are made of two: the document's code. Whether a character leads back to itself: plain words, and the document's code. -/
import Derived.Test.YtobleaiecnpcoaaGreatDoorH02
import Derived.Test.YtobleaiecnpcoaaGreatDoorH05
import Derived.Test.YtobleaiecnpcoaaGreatDoorH01
import Derived.Test.YtobleaiecnpcoaaGreatDoorH06
import Derived.Test.YtobleaiecnpcoaaGreatDoorH09
import Derived.Test.YtobleaiecnpcoaaGreatDoorH10
import Derived.Test.YtobleaiecnpcoaaGreatDoorH04
import Derived.Test.YtobleaiecnpcoaaGreatDoorH19
import Derived.Test.YtobleaiecnpcoaaGreatDoorH07
import Derived.Test.YtobleaiecnpcoaaGreatDoorH12
import Derived.Test.YtobleaiecnpcoaaGreatDoorH13
import Derived.Test.YtobleaiecnpcoaaGreatDoorH14
import Derived.Test.YtobleaiecnpcoaaGreatDoorH15
import Derived.Test.YtobleaiecnpcoaaGreatDoorH18
import Derived.Test.YtobleaiecnpcoaaGreatDoorH08
import Derived.Test.YtobleaiecnpcoaaGreatDoorH22
import Derived.Test.YtobleaiecnpcoaaGreatDoorH25
import Derived.Test.YtobleaiecnpcoaaGreatDoorH26
import Derived.Test.YtobleaiecnpcoaaGreatDoorH27
import Derived.Test.YtobleaiecnpcoaaGreatDoorH20
import Derived.Test.YtobleaiecnpcoaaGreatDoorH21
set_option linter.unusedSimpArgs false
set_option linter.unusedVariables false
namespace Go.Proofs.YtobleaiecnpcoaaGreatDoor
section
open Go.RowKit
section
variable {w w' : World} {rp : Nat} {os : List RA} {out : List Int} {A A2 : Option Addr} {c c2 : Nat}
set_option maxRecDepth 20000 in
set_option maxHeartbeats 2000000 in
theorem rmade_any (h : RefM w rp os out A A2 c c2) (g : RowsG (os.map (·.1))) (x : RA) (hx : x ∈ os) : Calls Tryz.prog 36 #[.pointer (some ⟨rp, 0, none⟩), rowAV x] w fun e w' => e = .returned (.bool (madeQ (clsL (os.map (·.1))) (prtL (os.map (·.1))) out x.1.fr)) ∧ Below w.heap.size w w' := by
 rw [← madeR_eq g out (List.mem_map_of_mem hx)]
 have hb : ∀ o, Below w.heap.size w (w.alloc o) := fun o => (Below.refl _ _).alloc (Nat.le_refl _) _
 have hv := g.v x.1 (List.mem_map_of_mem hx)
 have hrd := h.rows.into x hx
 have OUT := fun o => rout_any (h.below (hb o)) x.1.fr
 have CLS := fun o u => rclass_any (h.below (hb o)) g u
 have HB := Lib.hid hb
 obtain ⟨cls, hcls⟩ : ∃ f, f = clsL (os.map (·.1)) := ⟨_, rfl⟩
 rw [← hcls] at CLS ⊢
 obtain ⟨⟨fr, up, nm, ct, cl, kd, il⟩, Ax, cx⟩ := x
 simp only [rowAV] at hrd OUT ⊢
 obtain ⟨res, hres⟩ : ∃ b, b = madeR cls out ⟨fr, up, nm, ct, cl, kd, il⟩ := ⟨_, rfl⟩
 rw [← hres]
 have HRES := Lib.hid hres
 clear h g hx hcls hv hb hres
 by_cases hk : kd = []
 rotate_left
 ·have hte : (mk8 kd).toList.isEmpty = false := by
   rw [toList_bs, bs_mk8]
   cases kd with
   | nil => exact absurd rfl hk
   | cons c t => rfl
  obtain rfl : res = false := by rw [HRES.out]; unfold madeR; rw [decide_eq_false hk, Bool.false_and]
  clear hk OUT CLS hrd
  go_enter Tryz.func36, Tryz.ntmps36
  go_wp2
  go_returns
  exact ⟨rfl, HB.out _⟩
 ·subst hk
  have hte : (mk8 ([] : List UInt8)).toList.isEmpty = true := by rw [toList_bs, bs_mk8]; rfl
  by_cases hl : il.length = 2
  rotate_left
  ·obtain rfl : res = false := by rw [HRES.out]; unfold madeR; rw [decide_eq_false hl, Bool.false_and, Bool.and_false]
   obtain ⟨m, hm⟩ : ∃ m, m = il.length := ⟨_, rfl⟩
   rw [← hm] at hl ⊢
   have hl3 : ((m : Int) == 2) = false := by simpa using fun e : (m : Int) = 2 => hl (by omega)
   clear hl OUT CLS hrd hm
   go_enter Tryz.func36, Tryz.ntmps36
   go_wp2
   go_returns
   first | exact ⟨rfl, HB.out _⟩ | exact ⟨ret_bool (by simpa using hl3), HB.out _⟩
  ·obtain ⟨u, v, rfl⟩ : ∃ u v, il = [u, v] := by
    match il, hl with
    | [u, v], _ => exact ⟨u, v, rfl⟩
   have HRES2 : Hid (res = (!decide (fr ∈ out) && (decide (cl = 0) && decide (cls u = 0)))) := HRES.out.trans (by unfold madeR; rfl)
   rw [show ([u, v] : List Int).length = 2 from rfl] at hrd ⊢
   clear hl
   obtain ⟨b, off, rfl, hbl, hcx⟩ := hrd.at_ (by omega)
   have hu : ∀ o, (w.alloc o).cell? ⟨b, off, none⟩ = some (.int .i32 u) := fun o => by
    have := ((HB.out o).cell (p := ⟨b, off, none⟩) hbl).trans (hcx 0 (.int .i32 u) (by simp [Rs]))
    simpa using this
   obtain ⟨bo, hbo⟩ : ∃ bo : Bool, bo = decide (fr ∈ out) := ⟨_, rfl⟩
   rw [← hbo] at OUT
   have HBO := Lib.hid hbo
   have OU := OUT (.cells #[.int .i32 fr, .int .i32 up, .string (mk8 nm), .string (mk8 ct), .int .i64 cl, .string (mk8 []), .slice (some ⟨b, off, none⟩) 2 cx] 74)
   have CU := CLS (.cells #[.int .i32 fr, .int .i32 up, .string (mk8 nm), .string (mk8 ct), .int .i64 cl, .string (mk8 []), .slice (some ⟨b, off, none⟩) 2 cx] 74) u
   obtain ⟨cu, hcu⟩ : ∃ z, z = cls u := ⟨_, rfl⟩
   rw [← hcu] at CU
   have HCU := Lib.hid hcu
   have hbF := HB.out (.cells #[.int .i32 fr, .int .i32 up, .string (mk8 nm), .string (mk8 ct), .int .i64 cl, .string (mk8 []), .slice (some ⟨b, off, none⟩) 2 cx] 74)
   have hu0 := hu (.cells #[.int .i32 fr, .int .i32 up, .string (mk8 nm), .string (mk8 ct), .int .i64 cl, .string (mk8 []), .slice (some ⟨b, off, none⟩) 2 cx] 74)
   have hbx := box_new w #[.int .i32 fr, .int .i32 up, .string (mk8 nm), .string (mk8 ct), .int .i64 cl, .string (mk8 []), .slice (some ⟨b, off, none⟩) 2 cx] 74
   clear hbo hcu OUT CLS hu hcx hrd
   cases bo with
   | true =>
    obtain rfl : res = false := by rw [HRES2.out, ← HBO.out]; rfl
    clear CU
    go_enter Tryz.func36, Tryz.ntmps36
    go_wp2_with (first | (go_at_call 61; refine OU.mono ?_; rintro e w1 ⟨rfl, rfl⟩) | go_in)
    go_returns
    exact ⟨rfl, hbF⟩
   | false =>
    by_cases hc0 : cl = 0
    ·subst hc0
     have HR3 : Hid (res = decide (cu = 0)) := by show _ = _; rw [HRES2.out, ← HBO.out, HCU.out]; rfl
     go_enter Tryz.func36, Tryz.ntmps36
     go_wp2_with (first | (go_at_call 61; refine OU.mono ?_; rintro e w1 ⟨rfl, rfl⟩) | (go_at_call 27; refine CU.mono ?_; rintro e w1 ⟨rfl, rfl⟩) | go_in)
     go_returns
     exact ⟨ret_bool (by rw [HR3.out]; first | rfl | (rw [Bool.eq_iff_iff]; simp)), hbF⟩
    ·have hcc : (cl == 0) = false := by simpa using hc0
     obtain rfl : res = false := by rw [HRES2.out, decide_eq_false hc0, Bool.false_and, Bool.and_false]
     clear CU hc0
     go_enter Tryz.func36, Tryz.ntmps36
     go_wp2_with (first | (go_at_call 61; refine OU.mono ?_; rintro e w1 ⟨rfl, rfl⟩) | go_in)
     go_returns
     first | exact ⟨rfl, hbF⟩ | exact ⟨ret_bool (by simpa using hcc), hbF⟩
theorem madeR_two {cls : Int → Int} {out : List Int} {x : RowS} (h : madeR cls out x = true) : ∃ u v, x.il = [u, v] := by
 unfold madeR at h
 simp only [Bool.and_eq_true, decide_eq_true_eq] at h
 match hil : x.il, h.2.1 with
 | [u, v], _ => exact ⟨u, v, rfl⟩
set_option maxRecDepth 20000 in
set_option maxHeartbeats 4000000 in
theorem rpair_any (h : RefM w rp os out A A2 c c2) (g : RowsG (os.map (·.1))) (x y : Int) (hx : R32 x) (hy : R32 y) : Calls Tryz.prog 23 #[.pointer (some ⟨rp, 0, none⟩), .int .i32 x, .int .i32 y] w fun e w' => e = .returned (pairOf (pairH (prL (os.map (·.1)) out) x y)) ∧ Below w.heap.size w w' := by
 have c0 := box_cell h.box 0 rfl
 have hl := h.len
 have HH := Lib.hid h
 have HG := Lib.hid g
 obtain ⟨Q, hQ⟩ : ∃ Q : RowS → Bool, Q = fun z => madeQ (clsL (os.map (·.1))) (prtL (os.map (·.1))) out z.fr && decide (madeT2 (prtL (os.map (·.1))) z.fr = (x, y)) := ⟨_, rfl⟩
 have HQ := Lib.hid hQ
 have HFIN : Hid (∀ k (z : RowS), (os.map (·.1))[k]? = some z → Q z = true → (∀ j t, j < k → (os.map (·.1))[j]? = some t → Q t = false) → pairH (prL (os.map (·.1)) out) x y = some z.fr) := fun k z hz hq hfst => by
  unfold pairH prL
  rw [← HQ.out]
  rw [find_first hz hq hfst]
  rfl
 have HNO : Hid ((∀ j t, (os.map (·.1))[j]? = some t → Q t = false) → pairH (prL (os.map (·.1)) out) x y = if (joinH x y).2 = true then some (joinH x y).1 else none) := fun hno => by
  unfold pairH prL
  rw [← HQ.out]
  have : (os.map (·.1)).find? Q = none := List.find?_eq_none.2 fun t ht => by
   obtain ⟨j, hj⟩ := List.getElem?_of_mem ht
   rw [hno j t hj]; simp
  rw [this]
  rfl
 have JN := fun W => rjoin_any x y W hx.1 (by have := hx.2; omega) hy.1 (by have := hy.2; omega)
 clear h g hQ
 go_enter Tryz.func23, Tryz.ntmps23
 go_wp2
 go_loopw [8] (fun i wr => ∃ k : Nat, k ≤ os.length ∧ i = .int .i64 k ∧ Hid (∀ j t, j < k → (os.map (·.1))[j]? = some t → Q t = false) ∧ Below w.heap.size w wr) (fun i _ => os.length - (intOf i).toNat)
 case atStart => exact ⟨0, Nat.zero_le _, rfl, fun j t h _ => absurd h (by omega), Below.refl _ _⟩
 case round =>
  obtain ⟨k, hk, rfl, HF, hb⟩ := hrel
  have hM := HH.out.below hb
  have d0 := box_cell hM.box 0 rfl
  by_cases hlt : k < os.length
  ·obtain ⟨z, hz⟩ : ∃ z, os[k]? = some z := ⟨_, List.getElem?_eq_getElem hlt⟩
   have hzm := List.mem_of_getElem? hz
   have MD := rmade_any hM HG.out z hzm
   obtain ⟨b, off, rfl, hbl, hc⟩ := hM.rows.at_ (by omega)
   obtain ⟨⟨fr, up, nm, ct, cl, kd, il⟩, Ax, cx⟩ := z
   obtain ⟨e0, e1, e2, e3, e4, e5, e6⟩ := row_cells hz hc
   have hrd := hM.rows.into _ hzm
   simp only [rowAV] at MD hrd e0 e1 e2 e3 e4 e5 e6
   obtain ⟨md, hmd⟩ : ∃ md, md = madeQ (clsL (os.map (·.1))) (prtL (os.map (·.1))) out fr := ⟨_, rfl⟩
   rw [← hmd] at MD
   have HMD := Lib.hid hmd
   have HZ : Hid ((os.map (·.1))[k]? = some ⟨fr, up, nm, ct, cl, kd, il⟩) := by show _ = _; rw [List.getElem?_map, hz]; rfl
   have HZM := Lib.hid (List.mem_map_of_mem (f := (·.1)) hzm)
   have hi : (k : Int) < (os.length : Int) := by omega
   have HB := Lib.hid hb
   have HSTEP : Hid (Q ⟨fr, up, nm, ct, cl, kd, il⟩ = false → ∀ j t, j < k + 1 → (os.map (·.1))[j]? = some t → Q t = false) := fun hq j t hj ht => by
    by_cases hjk : j < k
    ·exact HF.out j t hjk ht
    ·have : j = k := by omega
     subst this
     rw [HZ.out] at ht
     injection ht with ht
     rw [← ht]
     exact hq
   clear hmd hz hzm hc hb hM
   cases md with
   | false =>
    have hq : Q ⟨fr, up, nm, ct, cl, kd, il⟩ = false := by rw [HQ.out]; simp only []; rw [← HMD.out]; rfl
    have HF2 := Lib.hid (HSTEP.out hq)
    clear hq hrd
    go_wp2_with (first | (go_at_call 36; refine MD.mono ?_; rintro e w2 ⟨rfl, hb2⟩) | go_in)
    have hb3 := below_then HB.out hb2
    go_roundw
    case rel => exact ⟨k + 1, by omega, by go_num, HF2, hb3⟩
    case measure => simp [intOf]; omega
   | true =>
    have hil : ∃ u v, il = [u, v] := by
     have := madeR_eq HG.out out HZM.out
     exact madeR_two (this.trans HMD.out.symm)
    obtain ⟨u, v, rfl⟩ := hil
    have HT := Lib.hid (madeT_eq HG.out HZM.out (u := u) (v := v) rfl)
    have hlen : ([u, v] : List Int).length = 2 := rfl
    rw [hlen] at hrd e6 MD
    clear hlen
    obtain ⟨b2, off2, rfl, hbl2, hc2⟩ := hrd.at_ (by omega)
    have f0 : wr.cell? ⟨b2, off2, none⟩ = some (.int .i32 u) := by have := hc2 0 (.int .i32 u) (by simp [Rs]); simpa using this
    have f1 : wr.cell? ⟨b2, off2 + 1, none⟩ = some (.int .i32 v) := hc2 1 (.int .i32 v) (by simp [Rs])
    have HCE : Hid (∀ w2, Below wr.heap.size wr w2 → w2.cell? ⟨rp, 0, none⟩ = some (.slice (some ⟨b, off, none⟩) os.length c) ∧ w2.cell? ⟨b, off + k * 7, none⟩ = some (.int .i32 fr) ∧ w2.cell? ⟨b, off + k * 7 + 6, none⟩ = some (.slice (some ⟨b2, off2, none⟩) 2 cx) ∧ w2.cell? ⟨b2, off2, none⟩ = some (.int .i32 u) ∧ w2.cell? ⟨b2, off2 + 1, none⟩ = some (.int .i32 v)) := fun w2 hb2 =>
     ⟨(hb2.cell (p := ⟨rp, 0, none⟩) (World.block_lt_of_cell? wr _ d0)).trans d0, (hb2.cell (p := ⟨b, off + k * 7, none⟩) hbl).trans e0, (hb2.cell (p := ⟨b, off + k * 7 + 6, none⟩) hbl).trans e6, (hb2.cell (p := ⟨b2, off2, none⟩) hbl2).trans f0, (hb2.cell (p := ⟨b2, off2 + 1, none⟩) hbl2).trans f1⟩
    clear hc2 hrd f0 f1
    by_cases hu : u = x
    ·by_cases hv : v = y
     ·have hq : Q ⟨fr, up, nm, ct, cl, kd, [u, v]⟩ = true := by
       rw [HQ.out]
       simp only []
       rw [← HMD.out, HT.out, hu, hv]
       simp
      have HP : Hid (pairOf (pairH (prL (os.map (·.1)) out) x y) = .tuple #[.int .i32 fr, .bool true]) := by
       show _ = _
       rw [HFIN.out k _ HZ.out hq HF.out]
       rfl
      have hu' : (u == x) = true := by simpa using hu
      have hv' : (v == y) = true := by simpa using hv
      clear hq hu hv
      go_wp2_with (first | (go_at_call 36; refine MD.mono ?_; rintro e w2 ⟨rfl, hb2⟩; obtain ⟨t0, t1, t2, t3, t4⟩ := HCE.out w2 hb2; clear e0 e1 e2 e3 e4 e5 e6 d0) | go_in)
      have hb3 := below_then HB.out hb2
      go_returns
      exact ⟨by rw [HP.out]; rfl, hb3⟩
     ·have hq : Q ⟨fr, up, nm, ct, cl, kd, [u, v]⟩ = false := by
       rw [HQ.out]
       simp only []
       rw [HT.out, decide_eq_false (by intro e; injection e with e1 e2; exact hv e2)]
       simp
      have HF2 := Lib.hid (HSTEP.out hq)
      have hu' : (u == x) = true := by simpa using hu
      have hv' : (v == y) = false := by simpa using hv
      clear hq hu hv
      go_wp2_with (first | (go_at_call 36; refine MD.mono ?_; rintro e w2 ⟨rfl, hb2⟩; obtain ⟨t0, t1, t2, t3, t4⟩ := HCE.out w2 hb2; clear e0 e1 e2 e3 e4 e5 e6 d0) | go_in)
      have hb3 := below_then HB.out hb2
      go_roundw
      case rel => exact ⟨k + 1, by omega, by go_num, HF2, hb3⟩
      case measure => simp [intOf]; omega
    ·have hq : Q ⟨fr, up, nm, ct, cl, kd, [u, v]⟩ = false := by
      rw [HQ.out]
      simp only []
      rw [HT.out, decide_eq_false (by intro e; injection e with e1 e2; exact hu e1)]
      simp
     have HF2 := Lib.hid (HSTEP.out hq)
     have hu' : (u == x) = false := by simpa using hu
     clear hq hu
     go_wp2_with (first | (go_at_call 36; refine MD.mono ?_; rintro e w2 ⟨rfl, hb2⟩; obtain ⟨t0, t1, t2, t3, t4⟩ := HCE.out w2 hb2; clear e0 e1 e2 e3 e4 e5 e6 d0) | go_in)
     have hb3 := below_then HB.out hb2
     go_roundw
     case rel => exact ⟨k + 1, by omega, by go_num, HF2, hb3⟩
     case measure => simp [intOf]; omega
  ·obtain rfl : k = os.length := by omega
   have hi : (os.length : Int) ≤ (os.length : Int) := Int.le_refl _
   have HP : Hid (pairOf (pairH (prL (os.map (·.1)) out) x y) = .tuple #[.int .i32 (joinH x y).1, .bool (joinH x y).2]) := by
    show _ = _
    rw [HNO.out fun j t ht => HF.out j t (by have := (List.getElem?_eq_some_iff.1 ht).1; simpa using this) ht]
    cases hj : (joinH x y).2 with
    | true => rfl
    | false => rw [joinH_no hj]; rfl
   have JN2 := JN wr
   obtain ⟨jz, jb, hjz⟩ : ∃ (jz : Int) (jb : Bool), joinH x y = (jz, jb) := ⟨_, _, rfl⟩
   rw [hjz] at JN2
   have HJ := Lib.hid hjz
   clear hM hjz
   go_wp2_with (first | (go_at_call 37; refine JN2.mono ?_; rintro e w2 ⟨rfl, rfl⟩) | go_in)
   go_returns
   exact ⟨by rw [HP.out, HJ.out]; rfl, hb⟩
end
end
section
open Go.RowKit
structure BkP (D : Int → List Int) (r : Int) (todo : List Int) (i : Nat) : Prop where
 sub : ∀ y ∈ D r, y ∈ todo
 cl : ∀ (j : Nat) x, j < i → todo[j]? = some x → ∀ y ∈ D x, y ∈ todo
 ne : ∀ (j : Nat) x, j < i → todo[j]? = some x → x ≠ r
 shape : ∃ l0 rest : List Int, todo = l0 ++ rest ∧ l0.length ≤ 18 ∧ rest.Nodup ∧ ∀ x ∈ rest, x ∈ allR
 all : ∀ x ∈ todo, x ∈ allR
section
variable {D : Int → List Int} {r : Int} {todo : List Int} {i : Nat}
theorem BkP.start (hD : ∀ y ∈ D r, y ∈ allR) (hl : (D r).length ≤ 18) : BkP D r (D r) 0 := ⟨fun y hy => hy, fun j x h => absurd h (Nat.not_lt_zero _), fun j x h => absurd h (Nat.not_lt_zero _), ⟨D r, [], by simp, hl, List.nodup_nil, by simp⟩, hD⟩
theorem BkP.len (h : BkP D r todo i) : todo.length ≤ 1114130 := by
 obtain ⟨l0, rest, e, h1, h2, h3⟩ := h.shape
 have := nodup_le h2 h3
 rw [allR_len] at this
 rw [e, List.length_append]
 omega
theorem BkP.push (h : BkP D r todo i) (hi : i < todo.length) {y : Int} (hy : y ∈ allR) (hn : y ∉ todo) : BkP D r (todo ++ [y]) i := by
 obtain ⟨l0, rest, e, h1, h2, h3⟩ := h.shape
 have hlt : ∀ {j x}, j < i → (todo ++ [y])[j]? = some x → todo[j]? = some x := fun {j x} hj hx => by rwa [List.getElem?_append_left (by omega)] at hx
 refine ⟨fun z hz => List.mem_append.2 (.inl (h.sub z hz)), fun j x hj hx z hz => List.mem_append.2 (.inl (h.cl j x hj (hlt hj hx) z hz)), fun j x hj hx => h.ne j x hj (hlt hj hx), ⟨l0, rest ++ [y], by rw [e, List.append_assoc], h1, ?_, ?_⟩, ?_⟩
 ·rw [List.nodup_append]
  refine ⟨h2, by simp, fun a ha b hb => ?_⟩
  rw [List.mem_singleton] at hb
  subst hb
  rintro rfl
  exact hn (by rw [e]; exact List.mem_append.2 (.inr ha))
 ·intro x hx
  rcases List.mem_append.1 hx with hx | hx
  ·exact h3 x hx
  ·rw [List.mem_singleton] at hx; subst hx; exact hy
 ·intro x hx
  rcases List.mem_append.1 hx with hx | hx
  ·exact h.all x hx
  ·rw [List.mem_singleton] at hx; subst hx; exact hy
theorem BkP.next (h : BkP D r todo i) {x : Int} (hx : todo[i]? = some x) (hn : x ≠ r) (hc : ∀ y ∈ D x, y ∈ todo) : BkP D r todo (i + 1) := by
 refine ⟨h.sub, fun j z hj hz => ?_, fun j z hj hz => ?_, h.shape, h.all⟩
 ·by_cases e : j = i
  ·subst e; rw [hx] at hz; injection hz with hz; subst hz; exact hc
  ·exact h.cl j z (by omega) hz
 ·by_cases e : j = i
  ·subst e; rw [hx] at hz; injection hz with hz; subst hz; exact hn
  ·exact h.ne j z (by omega) hz
theorem BkP.done (h : BkP D r todo todo.length) : ¬ Down D r r := by
 have key : ∀ y, Down D r y → y ∈ todo := fun y hy => by
  induction hy with
  | one hy => exact h.sub _ hy
  | more _ hz ih =>
   obtain ⟨j, hj⟩ := List.getElem?_of_mem ih
   exact h.cl j _ (List.getElem?_eq_some_iff.1 hj).1 hj _ hz
 intro hd
 obtain ⟨j, hj⟩ := List.getElem?_of_mem (key r hd)
 exact h.ne j r (List.getElem?_eq_some_iff.1 hj).1 hj rfl
end
def Apt (Am : Option Addr) (m : List Int) (v : Value) : Prop := ∀ g, v.ownBlock = some g → ∀ a, Am = some a → 0 < m.length → a.block ≠ g
def BkM (w wr : World) (s7 : Value) (todo : List Int) : Prop := ∃ A c, s7 = .slice A todo.length c ∧ wr.ownsRow w.heap.size 21 1 (.slice A todo.length c) todo.length (Rs todo) ∧ Below w.heap.size w wr
def BackP (D : Int → List Int) (r : Int) (w : World) (e : Ending) (w' : World) : Prop := (∃ b, e = .returned (.bool b) ∧ (b = false → ¬ Down D r r)) ∧ Below w.heap.size w w'
section
variable {w w' : World} {rp : Nat} {os : List RA} {out : List Int} {A A2 : Option Addr} {c c2 : Nat}
set_option maxRecDepth 20000 in
set_option maxHeartbeats 8000000 in
theorem rback_any (h : RefM w rp os out A A2 c c2) (g : RowsG (os.map (·.1))) (r : Int) (hr : r ∈ allR) : Calls Tryz.prog 34 #[.pointer (some ⟨rp, 0, none⟩), .int .i32 r] w (BackP (fun x => (decH (prtL (os.map (·.1))) x).2) r w) := by
 obtain ⟨D, hD⟩ : ∃ D, D = fun x => (decH (prtL (os.map (·.1))) x).2 := ⟨_, rfl⟩
 have DC : Hid (∀ W z, Below w.heap.size w W → R32 z → Calls Tryz.prog 60 #[.pointer (some ⟨rp, 0, none⟩), .int .i32 z] W (RDecP w (decH (prtL (os.map (·.1))) z).1 (D z) W)) := fun W z hb hz => by
  rw [hD]; exact rdecomp_any h hb g z hz
 have HA : Hid (∀ x, ∀ y ∈ D x, y ∈ allR) := fun x => by rw [hD]; exact decH_allR (fun r q hq => (g.into r q hq).2.1) x
 have HL : Hid (∀ x, (D x).length ≤ 18) := fun x => by rw [hD]; exact decH_len (fun r q hq => (g.into r q hq).2.2.1) x
 rw [← hD]
 have D0 := DC.out w r (Below.refl _ _) (allR_R hr)
 have hl0 := HL.out r
 clear hD h g hr
 obtain ⟨kd, hkd⟩ : ∃ kd, kd = (decH (prtL (os.map (·.1))) r).1 := ⟨_, rfl⟩
 rw [← hkd] at D0
 clear hkd
 have hone := Rs_one (D r)
 have HONE := Lib.hid hone
 clear hone
 go_enter Tryz.func34, Tryz.ntmps34
 go_wp2_with fail
 refine D0.mono ?_
 rintro e w1 ⟨Ad, cd, rfl, hrd, hb1, _⟩
 clear D0
 have hown0 : w1.ownsRow w.heap.size 21 1 (.slice none 0 0) 0 [] := World.ownsRow_nil _ _ _ _
 go_wp2_with (at_builtin; refine wpList_app runeElem _ rfl _ _ rfl w.heap.size rfl hown0 rfl hrd HONE.out (by omega) (by omega) hb1.size ?_)
 intro A3 c3 w3 hown3 hg3 hat3
 have hb3 := below_app hb1 hb1.size hown0 hg3
 have hM0 : BkM w w3 (.slice A3 (D r).length c3) (D r) := ⟨A3, c3, rfl, by simpa using hown3, hb3⟩
 have HP0 := Lib.hid (BkP.start (HA.out r) hl0)
 clear hown3 hg3 hat3 hown0 hrd hb3 hb1
 go_wp2
 go_loopw [7, 8] (fun s7 i wr => ∃ (todo : List Int) (k : Nat), i = .int .i64 k ∧ k ≤ todo.length ∧ Hid (BkP D r todo k) ∧ BkM w wr s7 todo) (fun _ i _ => 1200000 - (intOf i).toNat)
 case atStart => exact ⟨D r, 0, rfl, Nat.zero_le _, HP0, hM0⟩
 case round =>
  obtain ⟨todo, k, rfl, hk, HP, A4, c4, rfl, hown, hb⟩ := hrel
  have hlen := HP.out.len
  by_cases hlt : k < todo.length
  ·obtain ⟨x, hx⟩ : ∃ x, todo[k]? = some x := ⟨_, List.getElem?_eq_getElem hlt⟩
   obtain ⟨A5, c5, he5, _, _, hrdt⟩ := Rd.of_own hown
   injection he5 with e1 _ e3
   subst e1 e3
   obtain ⟨b, off, rfl, hbl, hc⟩ := hrdt.at_ (by omega)
   have c0 : wr.cell? ⟨b, off + k, none⟩ = some (.int .i32 x) := hc k _ (by simp [Rs, hx])
   have hi : (k : Int) < (todo.length : Int) := by omega
   have HX := Lib.hid hx
   have hxa := HP.out.all x (List.mem_of_getElem? hx)
   by_cases hxr : x = r
   ·have hxe : (x == r) = true := by simpa using hxr
    clear hx hc hxr hrdt hown
    go_wp2
    go_returns
    exact ⟨⟨true, rfl, fun h => by cases h⟩, hb⟩
   ·have hxe : (x == r) = false := by simpa using hxr
    have HXR := Lib.hid hxr
    have DX := DC.out wr x hb (allR_R hxa)
    obtain ⟨kx, hkx⟩ : ∃ kx, kx = (decH (prtL (os.map (·.1))) x).1 := ⟨_, rfl⟩
    rw [← hkx] at DX
    obtain ⟨m, hm⟩ : ∃ m, m = D x := ⟨_, rfl⟩
    rw [← hm] at DX
    have HMX := Lib.hid hm
    have hml : m.length ≤ 18 := by rw [hm]; exact HL.out x
    clear hx hc hxr hkx hm hrdt
    go_wp2_with fail
    refine DX.mono ?_
    rintro e w2 ⟨Am, cm, rfl, hrm, hb2, hloc⟩
    have hown2 := own_below hown hb2
    have hbb := below_then hb hb2
    have hob : ∀ v, wr.ownsRow w.heap.size 21 1 v todo.length (Rs todo) → True := fun _ _ => trivial
    have HLOC : Hid (∀ a, Am = some a → 0 < m.length → a.block < w.heap.size ∨ wr.heap.size ≤ a.block) := hloc
    have hs2 := hb2.size
    clear DX c0 hown hloc hob
    go_wp2
    have hA0 : Apt Am m (.slice (some ⟨b, off, none⟩) todo.length c4) := fun g hg a ha h0l => by
     rcases hown2.2 with ⟨hv, _⟩ | ⟨g', cap, cur, hv, hbase, hgb, _⟩
     ·cases hv
     ·injection hv with e1 _ _
      injection e1 with e1
      injection e1 with e1 _
      simp [Value.ownBlock] at hg
      have := HLOC.out a ha h0l
      omega
    go_loopw [7, 11] (fun s7 i2 wr2 => ∃ (td2 : List Int) (k2 : Nat), i2 = .int .i64 k2 ∧ k2 ≤ m.length ∧ Hid (BkP D r td2 k ∧ k < td2.length ∧ td2[k]? = some x ∧ ∀ y ∈ m.take k2, y ∈ td2) ∧ BkM w wr2 s7 td2 ∧ Rd wr2 Am m.length (Rs m) ∧ Apt Am m s7) (fun _ i2 _ => m.length - (intOf i2).toNat)
    case atStart => exact ⟨todo, 0, rfl, Nat.zero_le _, ⟨HP.out, hlt, HX.out, by simp⟩, ⟨_, _, rfl, hown2, hbb⟩, hrm, hA0⟩
    case round =>
     obtain ⟨td2, k2, rfl, hk2, HB2, ⟨A6, c6, rfl, hown6, hb6⟩, hrm6, hap6⟩ := hrel
     have hlen6 := HB2.out.1.len
     have hk6 := HB2.out.2.1
     by_cases hlt2 : k2 < m.length
     ·obtain ⟨y, hy⟩ : ∃ y, m[k2]? = some y := ⟨_, List.getElem?_eq_getElem hlt2⟩
      have hi2 : (k2 : Int) < (m.length : Int) := by omega
      obtain ⟨A7, c7, he7, _, _, hrd7⟩ := Rd.of_own hown6
      injection he7 with e1 _ e3
      subst e1 e3
      obtain ⟨bm, om, rfl, hblm, hcm⟩ := hrm6.at_ (by omega)
      obtain ⟨bt, ot, rfl, hblt, hct⟩ := hrd7.at_ (by omega)
      have cm : wr.cell? ⟨bm, om + k2, none⟩ = some (.int .i32 y) := hcm k2 _ (by simp [Rs, hy])
      have HCT := Lib.hid hct
      have HY := Lib.hid hy
      have HOW := Lib.hid hown6
      have HRM := Lib.hid hrm6
      have HAP := Lib.hid hap6
      clear hct hcm hy hrd7 hown6 hrm6 hap6
      obtain ⟨wo, hwo⟩ : ∃ wo, wo = wr := ⟨wr, rfl⟩
      have HWO := Lib.hid hwo
      clear hwo
      go_wp2
      go_loopw [12, 13] (fun s12 s13 wr3 => ∃ j : Nat, j ≤ td2.length ∧ s13 = .int .i64 j ∧ s12 = .bool (decide (y ∈ td2.take j)) ∧ Hid (Drew wo wr3)) (fun _ s13 _ => td2.length - (intOf s13).toNat)
      case atStart => exact ⟨0, Nat.zero_le _, rfl, by simp, by show Drew _ _; rw [HWO.out]; exact Drew.refl _⟩
      case round =>
       obtain ⟨j, hj, rfl, rfl, HDR⟩ := hrel
       obtain ⟨nd, hnd⟩ := HDR.out
       rw [HWO.out] at hnd
       by_cases hjl : j < td2.length
       ·obtain ⟨z, hz⟩ : ∃ z, td2[j]? = some z := ⟨_, List.getElem?_eq_getElem hjl⟩
        have hij : (j : Int) < (td2.length : Int) := by omega
        have d1 : wr.cell? ⟨bt, ot + j, none⟩ = some (.int .i32 z) := by rw [hnd]; exact HCT.out j _ (by simp [Rs, hz])
        have d2 : wr.cell? ⟨bm, om + k2, none⟩ = some (.int .i32 y) := by rw [hnd]; exact cm
        have HZ := Lib.hid hz
        have HND := Lib.hid hnd
        clear hz hnd cm
        obtain ⟨sb, hsb⟩ : ∃ sb, sb = decide (y ∈ td2.take j) := ⟨_, rfl⟩
        rw [← hsb]
        have HSB := Lib.hid hsb
        clear hsb
        cases sb with
        | true =>
         have HN : Hid (decide (y ∈ td2.take (j + 1)) = true) := by
          show _ = _
          have := of_decide_eq_true HSB.out.symm
          refine decide_eq_true ?_
          rw [List.take_add_one]
          exact List.mem_append.2 (.inl this)
         go_wp2
         go_quiet (fail)
         go_wp2
         go_roundw
         case rel => exact ⟨j + 1, by omega, by go_num, by rw [HN.out], HDR.out.trans ⟨_, rfl⟩⟩
         case measure => simp [intOf]; omega
        | false =>
         have hny := of_decide_eq_false HSB.out.symm
         by_cases hzy : z = y
         ·have HN : Hid (decide (y ∈ td2.take (j + 1)) = true) := by
           show _ = _
           refine decide_eq_true ?_
           rw [List.take_add_one, HZ.out, hzy]
           simp
          have hze : (z == y) = true := by simpa using hzy
          clear hny hzy
          go_wp2
          go_quiet (fail)
          go_wp2
          go_roundw
          case rel => exact ⟨j + 1, by omega, by go_num, by rw [HN.out], HDR.out.trans ⟨_, rfl⟩⟩
          case measure => simp [intOf]; omega
         ·have HN : Hid (decide (y ∈ td2.take (j + 1)) = false) := by
           show _ = _
           refine decide_eq_false ?_
           rw [List.take_add_one, HZ.out]
           intro hm
           rcases List.mem_append.1 hm with hm | hm
           ·exact hny hm
           ·simp at hm; exact hzy hm.symm
          have hze : (z == y) = false := by simpa using hzy
          clear hny hzy
          go_wp2
          go_quiet (fail)
          go_wp2
          go_roundw
          case rel => exact ⟨j + 1, by omega, by go_num, by rw [HN.out], HDR.out.trans ⟨_, rfl⟩⟩
          case measure => simp [intOf]; omega
       ·obtain rfl : j = td2.length := by omega
        have hij : (td2.length : Int) ≤ (td2.length : Int) := Int.le_refl _
        rw [List.take_length]
        have hbd : Below wo.heap.size wo wr := HDR.out.to
        rw [HWO.out] at hbd
        have hownD := own_below HOW.out hbd
        have hrmD := HRM.out.below hbd
        have hbW := below_then hb6 hbd
        have d2 := (hbd.cell (p := ⟨bm, om + k2, none⟩) hblm).trans cm
        have hya : y ∈ allR := HA.out x y (by rw [← HMX.out]; exact List.mem_of_getElem? HY.out)
        have HTK : Hid (m.take (k2 + 1) = m.take k2 ++ [y]) := by show _ = _; rw [List.take_add_one, HY.out]; rfl
        clear hbd cm hnd
        by_cases hym : y ∈ td2
        ·have hdt : decide (y ∈ td2) = true := decide_eq_true hym
         rw [hdt]
         have HN : Hid (BkP D r td2 k ∧ k < td2.length ∧ td2[k]? = some x ∧ ∀ y ∈ m.take (k2 + 1), y ∈ td2) := ⟨HB2.out.1, HB2.out.2.1, HB2.out.2.2.1, fun u hu => by
          rw [HTK.out] at hu
          rcases List.mem_append.1 hu with hu | hu
          ·exact HB2.out.2.2.2 u hu
          ·rw [List.mem_singleton] at hu; subst hu; exact hym⟩
         have hM2 : BkM w wr (.slice (some ⟨bt, ot, none⟩) td2.length c6) td2 := ⟨_, c6, rfl, hownD, hbW⟩
         have hap := HAP.out
         clear hdt hym hownD hbW
         go_wp2
         go_roundw
         case rel => exact ⟨td2, k2 + 1, by go_num, by omega, HN, hM2, hrmD, hap⟩
         case measure => simp [intOf]; omega
        ·have hdt : decide (y ∈ td2) = false := decide_eq_false hym
         rw [hdt]
         have HN : Hid (BkP D r (td2 ++ [y]) k ∧ k < (td2 ++ [y]).length ∧ (td2 ++ [y])[k]? = some x ∧ ∀ z ∈ m.take (k2 + 1), z ∈ td2 ++ [y]) := ⟨HB2.out.1.push HB2.out.2.1 hya hym, by simp; omega, by rw [List.getElem?_append_left HB2.out.2.1]; exact HB2.out.2.2.1, fun u hu => by
          rw [HTK.out] at hu
          rcases List.mem_append.1 hu with hu | hu
          ·exact List.mem_append.2 (.inl (HB2.out.2.2.2 u hu))
          ·exact List.mem_append.2 (.inr hu)⟩
         clear hdt hym
         have hbs := hbW.size
         go_wp2_with (at_builtin; refine wpList_app runeElem _ rfl _ _ rfl w.heap.size rfl (hownD.alloc _) rfl (Rd.new1 _ _ _) (one_of rfl) (by omega) (by omega) (by simp; omega) ?_)
         intro A9 c9 w9 hown9 hg9 hat9
         have hb9 := below_app (hbW.alloc (by omega) _) (by simp; omega) (hownD.alloc _) hg9
         have hM2 : BkM w w9 (.slice A9 (td2.length + 1) c9) (td2 ++ [y]) := ⟨A9, c9, by simp, by simpa [Rs] using hown9, hb9⟩
         have hrm9 : Rd w9 (some ⟨bm, om, none⟩) m.length (Rs m) := (hrmD.alloc _).grown hg9 (fun a ha e => by
          have := HAP.out bt (by simp [Value.ownBlock]) a ha (by omega)
          simp [Value.ownBlock] at e
          exact this e.symm)
         have hap9 : Apt (some ⟨bm, om, none⟩) m (.slice A9 (td2.length + 1) c9) := fun g hg a ha h0l => by
          rcases hat9 with h | h
          ·rw [h] at hg
           exact HAP.out g hg a ha h0l
          ·rw [h] at hg
           injection hg with hg
           injection ha with ha
           subst ha hg
           have := hrmD.at_ h0l
           obtain ⟨b', o', e, hlt', _⟩ := this
           injection e with e
           injection e with e _
           simp
           omega
         clear hown9 hg9 hat9 hownD hbW hrmD hb9
         go_wp2
         go_roundw
         case rel => exact ⟨td2 ++ [y], k2 + 1, by go_num, by omega, HN, hM2, hrm9, hap9⟩
         case measure => simp [intOf]; omega
     ·obtain rfl : k2 = m.length := by omega
      have hi2 : (m.length : Int) ≤ (m.length : Int) := Int.le_refl _
      have hM2 : BkM w wr (.slice A6 td2.length c6) td2 := ⟨A6, c6, rfl, hown6, hb6⟩
      have HN : Hid (BkP D r td2 (k + 1)) := HB2.out.1.next HB2.out.2.2.1 HXR.out fun y hy => HB2.out.2.2.2 y (by rw [List.take_length, HMX.out]; exact hy)
      clear hown6 hrm6 hap6
      go_wp2
      go_roundw
      case rel => exact ⟨td2, k + 1, by go_num, by omega, HN, hM2⟩
      case measure => simp [intOf]; omega
  ·obtain rfl : k = todo.length := by omega
   have hi : (todo.length : Int) ≤ (todo.length : Int) := Int.le_refl _
   have HD := Lib.hid HP.out.done
   go_wp2
   go_returns
   exact ⟨⟨false, rfl, fun _ => HD.out⟩, hb⟩
end
end
end Go.Proofs.YtobleaiecnpcoaaGreatDoor
