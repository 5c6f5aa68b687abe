/- Looking for the head; what is blocked: the code. What is blocked: the code. -/
import Derived.Test.YtobleaiecnpcoaaGreatDoorH02
import Derived.Test.YtobleaiecnpcoaaGreatDoorH05
import Derived.Test.YtobleaiecnpcoaaGreatDoorH06
import Derived.Test.YtobleaiecnpcoaaGreatDoorH09
import Derived.Test.YtobleaiecnpcoaaGreatDoorH04
import Derived.Test.YtobleaiecnpcoaaGreatDoorH07
import Derived.Test.YtobleaiecnpcoaaGreatDoorH12
import Derived.Test.YtobleaiecnpcoaaGreatDoorH13
import Derived.Test.YtobleaiecnpcoaaGreatDoorH14
import Derived.Test.YtobleaiecnpcoaaGreatDoorH15
import Derived.Test.YtobleaiecnpcoaaGreatDoorH18
import Derived.Test.YtobleaiecnpcoaaGreatDoorH08
import Derived.Test.YtobleaiecnpcoaaGreatDoorH19
import Derived.Test.YtobleaiecnpcoaaGreatDoorH22
import Derived.Test.YtobleaiecnpcoaaGreatDoorH27
import Derived.Test.YtobleaiecnpcoaaGreatDoorH31
import Derived.Test.YtobleaiecnpcoaaGreatDoorH28
import Derived.Test.YtobleaiecnpcoaaGreatDoorH36
import Derived.Test.YtobleaiecnpcoaaGreatDoorH37
import Derived.Test.YtobleaiecnpcoaaGreatDoorH10
import Derived.Test.YtobleaiecnpcoaaGreatDoorH25
set_option linter.unusedSimpArgs false
set_option linter.unusedVariables false
namespace Go.Proofs.YtobleaiecnpcoaaGreatDoor
section
open Go.RowKit Go.Sort
section
variable {w0 : World} {p : Option Addr} {B : BaseF}
def FoundP (B : BaseF) (w0 : World) (tp : Nat) (pv sv : Value) (l : List Int) (w' : World) : Prop :=
 Below w0.heap.size w0 w' ∧ w0.heap.size ≤ w'.heap.size ∧ w'.heap[tp]? = some (.cells #[pv, sv, .int .i64 (B.findS l).1, .int .i64 (B.findS l).2] 57 (0, 0))
set_option maxRecDepth 20000 in
set_option maxHeartbeats 4000000 in
theorem cfind_any (hB : BaseIs w0 (.pointer p) B) (A : Option Addr) (n cp : Nat) (l : List Int) (hrd : Rd w0 A n (Rs l)) (hn : l.length = n) (hl : ∀ x ∈ l, R32 x) (hn2 : n ≤ 1000000) (tp : Nat) (hd last : Int) (w : World) (hb : Below w0.heap.size w0 w) (hq : w0.heap.size ≤ w.heap.size) (hqt : w0.heap.size ≤ tp)
  (hbox : w.heap[tp]? = some (.cells #[.pointer p, .slice A n cp, .int .i64 hd, .int .i64 last] 57 (0, 0))) :
  Calls Tryz.prog 26 #[.pointer (some ⟨tp, 0, none⟩)] w fun e w' => (∃ v, e = .returned v) ∧ FoundP B w0 tp (.pointer p) (.slice A n cp) l w' := by
 have HB := Lib.hid hB
 have HRD := Lib.hid hrd
 have HN := Lib.hid hn
 have HL := Lib.hid hl
 have HQT := Lib.hid hqt
 have f3 := box_frozen hbox 3
 have f2 := box_frozen hbox 2
 have bxa := cells_put hbox 3 (.int .i64 0)
 have g2 := box_frozen bxa 2
 have bxb := cells_put bxa 2 (.int .i64 (-1))
 have b1 := box_cell bxb 1 rfl
 have HX : Hid (((w.setCell ⟨tp, 3, none⟩ (.int .i64 0)).setCell ⟨tp, 2, none⟩ (.int .i64 (-1))).heap[tp]? = some (.cells #[.pointer p, .slice A n cp, .int .i64 (-1), .int .i64 0] 57 (0, 0))) := by show _ = _; simpa using bxb
 have b3 := box_cell hbox 3 rfl
 have b2 := box_cell hbox 2 rfl
 have HBX : Hid (Below w0.heap.size w0 ((w.setCell ⟨tp, 3, none⟩ (.int .i64 0)).setCell ⟨tp, 2, none⟩ (.int .i64 (-1)))) := Below.setCell (p := ⟨tp, 2, none⟩) (Below.setCell (p := ⟨tp, 3, none⟩) hb hqt _) hqt _
 have HQX : Hid (w0.heap.size ≤ ((w.setCell ⟨tp, 3, none⟩ (.int .i64 0)).setCell ⟨tp, 2, none⟩ (.int .i64 (-1))).heap.size) := by show _ ≤ _; simp [World.setCell]; exact hq
 have hwn : IntKind.i64.wrap ((n : Int) - 1) = (n : Int) - 1 := IntWalk.i64_in _ (by omega)
 have HS0 : Hid (B.findS l = B.findR (l.take n).reverse 0) := by show _ = _; rw [List.take_of_length_le (by rw [hn]; exact Nat.le_refl _)]; rfl
 clear hB hrd hn hl hqt hb hq hbox bxa bxb
 go_enter Tryz.func26, Tryz.ntmps26
 go_wp2
 go_step3
 go_wp2
 go_step3
 go_wp2
 generalize ((w.setCell ⟨tp, 3, none⟩ (.int .i64 0)).setCell ⟨tp, 2, none⟩ (.int .i64 (-1))) = W0 at *
 clear f3 f2 g2 b1 b3 b2
 go_loopw [2] (fun s2 wr => ∃ (j : Nat) (z last : Int), z + 1 = j ∧ j ≤ n ∧ s2 = .int .i64 z ∧ Hid (B.findS l = B.findR (l.take j).reverse last) ∧ Hid (wr.heap[tp]? = some (.cells #[.pointer p, .slice A n cp, .int .i64 (-1), .int .i64 last] 57 (0, 0))) ∧ Hid (Below w0.heap.size w0 wr) ∧ Hid (w0.heap.size ≤ wr.heap.size)) (fun s2 _ => (intOf s2 + 1).toNat)
 case atStart => exact ⟨n, (n : Int) - 1, 0, by omega, Nat.le_refl _, rfl, HS0, HX, HBX, HQX⟩
 case round =>
  obtain ⟨j, z, la, hzj, hjn, rfl, HS, HBO, HBW, HQW⟩ := hrel
  by_cases hz : 0 ≤ z
  ·obtain ⟨m, rfl⟩ : ∃ m : Nat, z = m := ⟨z.toNat, by omega⟩
   obtain rfl : j = m + 1 := by omega
   obtain ⟨r, hr⟩ : ∃ r, l[m]? = some r := ⟨_, List.getElem?_eq_getElem (by rw [HN.out]; omega)⟩
   have hrR : R32 r := HL.out r (List.mem_of_getElem? hr)
   have HST := Lib.hid (find_step (B := B) hr la)
   obtain ⟨b, off, rfl, hbl, hcx⟩ := HRD.out.at_ (by omega)
   have cx := hcx m (.int .i32 r) (by simp [Rs, hr])
   have CL : Hid (∀ W, Below wr.heap.size wr W → Calls Tryz.prog 16 #[.pointer p, .int .i32 r] W fun e w' => e = .returned (.int .i64 (B.cls r)) ∧ Below W.heap.size W w') := fun W h => class_is (HB.out.below (HBW.out.trans (h.mono HQW.out))) r hrR
   obtain ⟨cl, hcl⟩ : ∃ cl, cl = B.cls r := ⟨_, rfl⟩
   rw [← hcl] at CL
   have HCL := Lib.hid hcl
   have HMK : Hid (∀ w', Below wr.heap.size wr w' → ((w'.cell? ⟨tp, 0, none⟩ = some (.pointer p) ∧ w'.cell? ⟨tp, 1, none⟩ = some (.slice (some ⟨b, off, none⟩) n cp)) ∧ w'.cell? ⟨b, off + m, none⟩ = some (.int .i32 r)) ∧ Below wr.heap.size wr w') := fun w' h => by
    have hx := box_below HBO.out h
    exact ⟨⟨⟨box_cell hx 0 rfl, box_cell hx 1 rfl⟩, ((HBW.out.trans (h.mono HQW.out)).cell (p := ⟨b, off + m, none⟩) hbl).trans cx⟩, h⟩
   have hmi : (0 : Int) ≤ (m : Int) := by omega
   have hmn : (m : Int) < (n : Int) := by omega
   have hwm : IntKind.i64.wrap ((m : Int) - 1) = (m : Int) - 1 := IntWalk.i64_in _ (by omega)
   have HCX := Lib.hid (And.intro hbl cx)
   clear hr hcx hcl hrR hbl cx hz
   go_upto_region 5 with fail
   refine wp_region_held_drew (S := fun w' => ((w'.cell? ⟨tp, 0, none⟩ = some (.pointer p) ∧ w'.cell? ⟨tp, 1, none⟩ = some (.slice (some ⟨b, off, none⟩) n cp)) ∧ w'.cell? ⟨b, off + m, none⟩ = some (.int .i32 r)) ∧ Below wr.heap.size wr w') (by kernel_rfl) (HMK.out _ (Drew.to ⟨1, rfl⟩)) (fun hH0 => ?_)
   refine wpAnyH_take (i := 0) (v := .pointer (some ⟨tp, 0, none⟩)) rfl (by kernel_rfl) (by kernel_rfl) (by kernel_rfl) (fun _ _ _ h => h) (Or.inl ⟨by kernel_rfl, ?_⟩) hH0 ?_
   ·intro w hSw
    (try dsimp only at hSw)
    go_simp
    all_goals try with_reducible rfl
   try simp only [List.getElem_toArray, List.getElem_cons_succ, List.getElem_cons_zero, Act.put, List.setIfInBounds_toArray, List.set_cons_zero, List.set_cons_succ]
   refine wpAnyH_take (i := 1) (v := .pointer (some ⟨tp, 0, none⟩)) rfl (by kernel_rfl) (by kernel_rfl) (by kernel_rfl) (fun _ _ _ h => h) (Or.inl ⟨by kernel_rfl, ?_⟩) hH0 ?_
   ·intro w hSw
    (try dsimp only at hSw)
    go_simp
    all_goals try with_reducible rfl
   try simp only [List.getElem_toArray, List.getElem_cons_succ, List.getElem_cons_zero, Act.put, List.setIfInBounds_toArray, List.set_cons_zero, List.set_cons_succ]
   refine wpAnyH_take (i := 2) (v := .pointer (some ⟨tp, 0, none⟩)) rfl (by kernel_rfl) (by kernel_rfl) (by kernel_rfl) (fun _ _ _ h => h) (Or.inl ⟨by kernel_rfl, ?_⟩) hH0 ?_
   ·intro w hSw
    (try dsimp only at hSw)
    go_simp
    all_goals try with_reducible rfl
   try simp only [List.getElem_toArray, List.getElem_cons_succ, List.getElem_cons_zero, Act.put, List.setIfInBounds_toArray, List.set_cons_zero, List.set_cons_succ]
   refine wpAnyH_take (i := 3) (v := .pointer p) rfl (by kernel_rfl) (by kernel_rfl) (by kernel_rfl) (fun _ _ _ h => h) (Or.inl ⟨by kernel_rfl, ?_⟩) hH0 ?_
   ·intro w hSw
    (try dsimp only at hSw)
    go_simp
    all_goals try with_reducible rfl
   try simp only [List.getElem_toArray, List.getElem_cons_succ, List.getElem_cons_zero, Act.put, List.setIfInBounds_toArray, List.set_cons_zero, List.set_cons_succ]
   refine wpAnyH_take (i := 4) (v := .pointer (some ⟨tp, 0, none⟩)) rfl (by kernel_rfl) (by kernel_rfl) (by kernel_rfl) (fun _ _ _ h => h) (Or.inl ⟨by kernel_rfl, ?_⟩) hH0 ?_
   ·intro w hSw
    (try dsimp only at hSw)
    go_simp
    all_goals try with_reducible rfl
   try simp only [List.getElem_toArray, List.getElem_cons_succ, List.getElem_cons_zero, Act.put, List.setIfInBounds_toArray, List.set_cons_zero, List.set_cons_succ]
   refine wpAnyH_take (i := 5) (v := .pointer (some ⟨tp, 0, none⟩)) rfl (by kernel_rfl) (by kernel_rfl) (by kernel_rfl) (fun _ _ _ h => h) (Or.inl ⟨by kernel_rfl, ?_⟩) hH0 ?_
   ·intro w hSw
    (try dsimp only at hSw)
    go_simp
    all_goals try with_reducible rfl
   try simp only [List.getElem_toArray, List.getElem_cons_succ, List.getElem_cons_zero, Act.put, List.setIfInBounds_toArray, List.set_cons_zero, List.set_cons_succ]
   refine wpAnyH_take (i := 6) (v := .pointer (some ⟨tp, 1, none⟩)) rfl (by kernel_rfl) (by kernel_rfl) (by kernel_rfl) (fun _ _ _ h => h) (Or.inl ⟨by kernel_rfl, ?_⟩) hH0 ?_
   ·intro w hSw
    (try dsimp only at hSw)
    go_simp
    all_goals try with_reducible rfl
   try simp only [List.getElem_toArray, List.getElem_cons_succ, List.getElem_cons_zero, Act.put, List.setIfInBounds_toArray, List.set_cons_zero, List.set_cons_succ]
   refine wpAnyH_take (i := 7) (v := .slice (some ⟨b, off, none⟩) n cp) rfl (by kernel_rfl) (by kernel_rfl) (by kernel_rfl) (fun _ _ _ h => h) (Or.inl ⟨by kernel_rfl, ?_⟩) hH0 ?_
   ·intro w hSw
    (try dsimp only at hSw)
    go_simp
    all_goals try with_reducible rfl
   try simp only [List.getElem_toArray, List.getElem_cons_succ, List.getElem_cons_zero, Act.put, List.setIfInBounds_toArray, List.set_cons_zero, List.set_cons_succ]
   refine wpAnyH_take (i := 8) (v := .int .i64 m) rfl (by kernel_rfl) (by kernel_rfl) (by kernel_rfl) (fun _ _ _ h => h) (Or.inl ⟨by kernel_rfl, ?_⟩) hH0 ?_
   ·intro w hSw
    (try dsimp only at hSw)
    go_simp
    all_goals try with_reducible rfl
   try simp only [List.getElem_toArray, List.getElem_cons_succ, List.getElem_cons_zero, Act.put, List.setIfInBounds_toArray, List.set_cons_zero, List.set_cons_succ]
   refine wpAnyH_take (i := 9) (v := .pointer (some ⟨b, off + m, none⟩)) rfl (by kernel_rfl) (by kernel_rfl) (by kernel_rfl) (fun _ _ _ h => h) (Or.inl ⟨by kernel_rfl, ?_⟩) hH0 ?_
   ·intro w hSw
    (try dsimp only at hSw)
    go_simp
    all_goals try with_reducible rfl
   try simp only [List.getElem_toArray, List.getElem_cons_succ, List.getElem_cons_zero, Act.put, List.setIfInBounds_toArray, List.set_cons_zero, List.set_cons_succ]
   refine wpAnyH_take (i := 10) (v := .int .i32 r) rfl (by kernel_rfl) (by kernel_rfl) (by kernel_rfl) (fun _ _ _ h => h) (Or.inl ⟨by kernel_rfl, ?_⟩) hH0 ?_
   ·intro w hSw
    (try dsimp only at hSw)
    go_simp
    all_goals try with_reducible rfl
   try simp only [List.getElem_toArray, List.getElem_cons_succ, List.getElem_cons_zero, Act.put, List.setIfInBounds_toArray, List.set_cons_zero, List.set_cons_succ]
   refine wpAnyH_ready (rs := [11]) (by kernel_rfl) (by simp) ?_
   refine AllReadyH.cons rfl (fun K hK => ?_) AllReadyH.nil
   go_simp
   refine (CL.out _ hH0.2).mono ?_
   rintro e w50 ⟨rfl, hb5⟩
   refine hK.out _ _ (HMK.out _ (below_then hH0.2 hb5)) (fun hH1 => ?_)
   clear hK K hH0
   try simp only [List.getElem_toArray, List.getElem_cons_succ, List.getElem_cons_zero, Act.put, List.setIfInBounds_toArray, List.set_cons_zero, List.set_cons_succ]
   refine wpAnyH_take (i := 12) (v := .int .i64 cl) rfl (by kernel_rfl) (by kernel_rfl) (by kernel_rfl) (fun _ _ _ h => h) (Or.inl ⟨by kernel_rfl, ?_⟩) hH1 ?_
   ·intro w hSw
    (try dsimp only at hSw)
    go_simp
    all_goals try with_reducible rfl
   try simp only [List.getElem_toArray, List.getElem_cons_succ, List.getElem_cons_zero, Act.put, List.setIfInBounds_toArray, List.set_cons_zero, List.set_cons_succ]
   refine wpAnyH_done (by kernel_rfl) ?_ _
   have HB6 := Lib.hid hH1.2
   clear hH1
   have HB7 := Lib.hid (HBW.out.trans (HB6.out.mono HQW.out))
   have HQ7 : Hid (w0.heap.size ≤ w50.heap.size) := Nat.le_trans HQW.out HB6.out.size
   have bx := box_below HBO.out HB6.out
   have e3 := box_cell bx 3 rfl
   have g3 := box_frozen bx 3
   have e2 := box_cell bx 2 rfl
   have g2 := box_frozen bx 2
   have hp3 := cells_put bx 3 (.int .i64 (max la cl))
   have hp2 := cells_put bx 2 (.int .i64 (m : Int))
   have HP3 : Hid ((w50.setCell ⟨tp, 3, none⟩ (.int .i64 (max la cl))).heap[tp]? = some (.cells #[.pointer p, .slice (some ⟨b, off, none⟩) n cp, .int .i64 (-1), .int .i64 (max la cl)] 57 (0, 0))) := by show _ = _; simpa using hp3
   have HP2 : Hid ((w50.setCell ⟨tp, 2, none⟩ (.int .i64 (m : Int))).heap[tp]? = some (.cells #[.pointer p, .slice (some ⟨b, off, none⟩) n cp, .int .i64 (m : Int), .int .i64 la] 57 (0, 0))) := by show _ = _; simpa using hp2
   have HW3 : Hid (Below w0.heap.size w0 (w50.setCell ⟨tp, 3, none⟩ (.int .i64 (max la cl)))) := Below.setCell (p := ⟨tp, 3, none⟩) HB7.out HQT.out _
   have HW2 : Hid (Below w0.heap.size w0 (w50.setCell ⟨tp, 2, none⟩ (.int .i64 (m : Int)))) := Below.setCell (p := ⟨tp, 2, none⟩) HB7.out HQT.out _
   have HZ3 : Hid (w0.heap.size ≤ (w50.setCell ⟨tp, 3, none⟩ (.int .i64 (max la cl))).heap.size) := by show _ ≤ _; simp [World.setCell]; exact HQ7.out
   have HZ2 : Hid (w0.heap.size ≤ (w50.setCell ⟨tp, 2, none⟩ (.int .i64 (m : Int))).heap.size) := by show _ ≤ _; simp [World.setCell]; exact HQ7.out
   clear bx hp3 hp2
   by_cases h0 : cl = 0
   ·subst h0
    have HF : Hid (FoundP B w0 tp (.pointer p) (.slice (some ⟨b, off, none⟩) n cp) l (w50.setCell ⟨tp, 2, none⟩ (.int .i64 (m : Int)))) := by
     have e : B.findS l = ((m : Int), la) := by rw [HS.out, HST.out, if_pos HCL.out.symm]
     refine ⟨HW2.out, HZ2.out, ?_⟩
     rw [e]
     exact HP2.out
    go_wp2
    (try first | rw [Exit.noGoto_exit] | simp only [Exit.noGoto])
    (try go_wp2)
    first | go_end0 | go_returns
    exact ⟨⟨_, rfl⟩, HF.out⟩
   ·have hcb : (cl == 0) = false := by simpa using h0
    have HS2 : Hid (B.findS l = B.findR (l.take m).reverse (max la cl)) := by show _ = _; rw [HS.out, HST.out, if_neg (fun e => h0 (HCL.out.trans e)), HCL.out]
    clear h0
    go_wp2
    go_roundw
    case rel => exact ⟨m, (m : Int) - 1, max la cl, by omega, by omega, rfl, HS2, HP3, HW3, HZ3⟩
    case measure => simp [intOf] <;> omega
  ·obtain rfl : z = -1 := by omega
   obtain rfl : j = 0 := by omega
   have HF : Hid (FoundP B w0 tp (.pointer p) (.slice A n cp) l wr) := by
    have e : B.findS l = (-1, la) := by rw [HS.out]; rfl
    refine ⟨HBW.out, HQW.out, ?_⟩
    rw [e]
    exact HBO.out
   go_wp2
   (try first | rw [Exit.noGoto_exit] | simp only [Exit.noGoto])
   (try go_wp2)
   first | go_end0 | go_returns
   exact ⟨⟨_, rfl⟩, HF.out⟩
end
end
section
open Go.RowKit Go.Sort
section
variable {w : World} {p : Option Addr} {B : BaseF}
theorem rd_take {w : World} {b off n : Nat} {xs : List Int} (h : Rd w (some ⟨b, off, none⟩) n (Rs xs)) (i : Nat) (hi : i ≤ n) : Rd w (some ⟨b, off, none⟩) i (Rs (xs.take i)) := by
 have hl := h.1
 refine ⟨by simp at hl ⊢; omega, fun h0 => ⟨b, off, rfl, fun j u hu => ?_⟩⟩
 obtain ⟨b', off', e, hc⟩ := h.2 (by omega)
 injection e with e
 injection e with e1 e2
 subst e1 e2
 refine hc j u ?_
 have hj : j < i := by
  have := (List.getElem?_eq_some_iff.1 hu).1
  simp at this
  omega
 rw [← hu]
 simp [Rs, List.getElem?_take, hj]
set_option maxRecDepth 20000 in
set_option maxHeartbeats 4000000 in
theorem blocked_any (hB : BaseIs w (.pointer p) B) (A : Option Addr) (n cp : Nat) (xs : List Int) (hrd : Rd w A n (Rs xs)) (hn : xs.length = n) (hcp : n ≤ cp) (hx : ∀ x ∈ xs, R32 x) (hn2 : n ≤ 1000000) (z : Int) :
  Calls Tryz.prog 14 #[.pointer p, .slice A n cp, .int .i64 z] w fun e w' => e = .returned (.bool (B.blocked xs z)) ∧ Below w.heap.size w w' := by
 by_cases hz0 : z < 0
 ·have HF : Hid (B.blocked xs z = true) := blocked_out xs z (.inl hz0)
  clear hn hrd hB
  go_enter Tryz.func14, Tryz.ntmps14
  go_wp2
  go_returns
  exact ⟨by rw [HF.out]; rfl, Below.refl _ _⟩
 by_cases hzn : (n : Int) ≤ z
 ·have HF : Hid (B.blocked xs z = true) := blocked_out xs z (.inr (by rw [hn]; exact hzn))
  clear hn hrd hB
  go_enter Tryz.func14, Tryz.ntmps14
  go_wp2
  go_returns
  exact ⟨by rw [HF.out]; rfl, Below.refl _ _⟩
 obtain ⟨i, rfl⟩ : ∃ i : Nat, z = i := ⟨z.toNat, by omega⟩
 have hin : i < n := by omega
 obtain ⟨y, hy⟩ : ∃ y, xs[i]? = some y := ⟨_, List.getElem?_eq_getElem (by rw [hn]; exact hin)⟩
 have HBK : Hid (B.blocked xs (i : Int) = (decide ((B.findS (xs.take i)).1 = -1) || (decide ((B.findS (xs.take i)).1 + 1 < (i : Int)) && decide (B.cls y ≤ (B.findS (xs.take i)).2)))) := by
  show _ = _
  have hq : (xs.take i).length = i := by rw [List.length_take, hn]; omega
  rw [blocked_in hy, blk_find, hq]
 obtain ⟨b, off, rfl, hbl, hcx⟩ := hrd.at_ (by omega)
 have cy := hcx i (.int .i32 y) (by simp [Rs, hy])
 obtain ⟨W1, hW1⟩ : ∃ W1, w.alloc (.cells #[.pointer p, .slice (some ⟨b, off, none⟩) i cp, .int .i64 0, .int .i64 0] 57) = W1 := ⟨_, rfl⟩
 have hb1 : Below w.heap.size w W1 := by rw [← hW1]; exact (Below.refl _ _).alloc (Nat.le_refl _) _
 have hbx : W1.heap[w.heap.size]? = some (.cells #[.pointer p, .slice (some ⟨b, off, none⟩) i cp, .int .i64 0, .int .i64 0] 57 (0, 0)) := by rw [← hW1]; exact box_new w _ _
 have FN := cfind_any (cp := cp) hB (some ⟨b, off, none⟩) i (xs.take i) (rd_take hrd i (by omega)) (by rw [List.length_take, hn]; omega) (fun x h => hx x (List.mem_of_mem_take h)) (by omega) w.heap.size 0 0 W1 hb1 hb1.size (Nat.le_refl _) hbx
 have HCL : Hid (∀ W, Below w.heap.size w W → Calls Tryz.prog 16 #[.pointer p, .int .i32 y] W fun e w' => e = .returned (.int .i64 (B.cls y)) ∧ Below W.heap.size W w') := fun W h => class_is (hB.below h) y (hx y (List.mem_of_getElem? hy))
 have HCY : Hid (∀ W, Below w.heap.size w W → W.cell? ⟨b, off + i, none⟩ = some (.int .i32 y)) := fun W h => (h.cell (p := ⟨b, off + i, none⟩) hbl).trans cy
 have hicp : (i : Int) ≤ (cp : Int) := by omega
 have hcp0 : ¬ (cp = 0) := by omega
 have hini : (i : Int) < (n : Int) := by omega
 obtain ⟨h, hh⟩ : ∃ h, h = (B.findS (xs.take i)).1 := ⟨_, rfl⟩
 obtain ⟨la, hla⟩ : ∃ la, la = (B.findS (xs.take i)).2 := ⟨_, rfl⟩
 have HPL := find_place (B := B) (xs.take i)
 rw [← hh] at HPL HBK
 rw [← hla] at HBK
 have HH := Lib.hid hh
 have HLA := Lib.hid hla
 have hin2 : (xs.take i).length = i := by rw [List.length_take, hn]; omega
 rw [hin2] at HPL
 clear hn hrd hB hy hcx cy hbx hbl hin2 hh hla hb1
 go_enter Tryz.func14, Tryz.ntmps14
 go_wp2_with fail
 refine FN.mono ?_
 rintro e w2 ⟨⟨v, rfl⟩, hb2, hq2, hbx2⟩
 rw [← HH.out, ← HLA.out] at hbx2
 have HB2 := Lib.hid hb2
 have HQ2 := Lib.hid hq2
 have HBX := Lib.hid hbx2
 obtain ⟨cl, hcl⟩ : ∃ cl, cl = B.cls y := ⟨_, rfl⟩
 rw [← hcl] at HCL HBK
 have CL : Hid (∀ W, Below w2.heap.size w2 W → Calls Tryz.prog 16 #[.pointer p, .int .i32 y] W fun e w' => e = .returned (.int .i64 cl) ∧ Below W.heap.size W w') := fun W hW => HCL.out W (HB2.out.trans (hW.mono HQ2.out))
 have HMK : Hid (∀ w', Below w2.heap.size w2 w' → ((w'.cell? ⟨w.heap.size, 2, none⟩ = some (.int .i64 h) ∧ w'.cell? ⟨w.heap.size, 3, none⟩ = some (.int .i64 la)) ∧ w'.cell? ⟨b, off + i, none⟩ = some (.int .i32 y)) ∧ Below w2.heap.size w2 w') := fun w' hW => by
  have hx := box_below HBX.out hW
  exact ⟨⟨⟨box_cell hx 2 rfl, box_cell hx 3 rfl⟩, HCY.out _ (HB2.out.trans (hW.mono HQ2.out))⟩, hW⟩
 clear FN hb2 hq2 hbx2 hcl hW1
 rcases HPL with hm1 | ⟨h', hhe, hhi⟩
 ·subst hm1
  have HF : Hid (B.blocked xs (i : Int) = true) := by show _ = _; rw [HBK.out]; rfl
  go_upto_region 5 with fail
  refine wp_region_held_drew (S := fun w' => ((w'.cell? ⟨w.heap.size, 2, none⟩ = some (.int .i64 (-1)) ∧ w'.cell? ⟨w.heap.size, 3, none⟩ = some (.int .i64 la)) ∧ w'.cell? ⟨b, off + i, none⟩ = some (.int .i32 y)) ∧ Below w2.heap.size w2 w') (by kernel_rfl) (HMK.out _ (Drew.to ⟨1, rfl⟩)) (fun hH0 => ?_)
  refine wpAnyH_take (i := 0) (v := .pointer (some ⟨w.heap.size, 0, none⟩)) rfl (by kernel_rfl) (by kernel_rfl) (by kernel_rfl) (fun _ _ _ h => h) (Or.inl ⟨by kernel_rfl, ?_⟩) hH0 ?_
  ·intro w hSw
   (try dsimp only at hSw)
   go_simp
   all_goals try with_reducible rfl
  try simp only [List.getElem_toArray, List.getElem_cons_succ, List.getElem_cons_zero, Act.put, List.setIfInBounds_toArray, List.set_cons_zero, List.set_cons_succ]
  refine wpAnyH_take (i := 1) (v := .pointer (some ⟨w.heap.size, 0, none⟩)) rfl (by kernel_rfl) (by kernel_rfl) (by kernel_rfl) (fun _ _ _ h => h) (Or.inl ⟨by kernel_rfl, ?_⟩) hH0 ?_
  ·intro w hSw
   (try dsimp only at hSw)
   go_simp
   all_goals try with_reducible rfl
  try simp only [List.getElem_toArray, List.getElem_cons_succ, List.getElem_cons_zero, Act.put, List.setIfInBounds_toArray, List.set_cons_zero, List.set_cons_succ]
  refine wpAnyH_take (i := 2) (v := .pointer (some ⟨w.heap.size, 2, none⟩)) rfl (by kernel_rfl) (by kernel_rfl) (by kernel_rfl) (fun _ _ _ h => h) (Or.inl ⟨by kernel_rfl, ?_⟩) hH0 ?_
  ·intro w hSw
   (try dsimp only at hSw)
   go_simp
   all_goals try with_reducible rfl
  try simp only [List.getElem_toArray, List.getElem_cons_succ, List.getElem_cons_zero, Act.put, List.setIfInBounds_toArray, List.set_cons_zero, List.set_cons_succ]
  refine wpAnyH_take (i := 3) (v := .int .i64 (-1)) rfl (by kernel_rfl) (by kernel_rfl) (by kernel_rfl) (fun _ _ _ h => h) (Or.inl ⟨by kernel_rfl, ?_⟩) hH0 ?_
  ·intro w hSw
   (try dsimp only at hSw)
   go_simp
   all_goals try with_reducible rfl
  try simp only [List.getElem_toArray, List.getElem_cons_succ, List.getElem_cons_zero, Act.put, List.setIfInBounds_toArray, List.set_cons_zero, List.set_cons_succ]
  refine wpAnyH_take (i := 4) (v := .bool true) rfl (by kernel_rfl) (by kernel_rfl) (by kernel_rfl) (fun _ _ _ h => h) (Or.inl ⟨by kernel_rfl, ?_⟩) hH0 ?_
  ·intro w hSw
   (try dsimp only at hSw)
   go_simp
   all_goals try with_reducible rfl
  try simp only [List.getElem_toArray, List.getElem_cons_succ, List.getElem_cons_zero, Act.put, List.setIfInBounds_toArray, List.set_cons_zero, List.set_cons_succ]
  refine wpAnyH_take (i := 5) (v := .bool true) rfl (by kernel_rfl) (by kernel_rfl) (by kernel_rfl) (fun _ _ _ h => h) (Or.inl ⟨by kernel_rfl, ?_⟩) hH0 ?_
  ·intro w hSw
   (try dsimp only at hSw)
   go_simp
   all_goals try with_reducible rfl
  try simp only [List.getElem_toArray, List.getElem_cons_succ, List.getElem_cons_zero, Act.put, List.setIfInBounds_toArray, List.set_cons_zero, List.set_cons_succ]
  refine wpAnyH_take (i := 6) (v := undef) rfl (by kernel_rfl) (by kernel_rfl) (by kernel_rfl) (fun _ _ _ h => h) (Or.inr ⟨by kernel_rfl, rfl⟩) hH0 ?_
  try simp only [List.getElem_toArray, List.getElem_cons_succ, List.getElem_cons_zero, Act.put, List.setIfInBounds_toArray, List.set_cons_zero, List.set_cons_succ]
  refine wpAnyH_take (i := 7) (v := undef) rfl (by kernel_rfl) (by kernel_rfl) (by kernel_rfl) (fun _ _ _ h => h) (Or.inr ⟨by kernel_rfl, rfl⟩) hH0 ?_
  try simp only [List.getElem_toArray, List.getElem_cons_succ, List.getElem_cons_zero, Act.put, List.setIfInBounds_toArray, List.set_cons_zero, List.set_cons_succ]
  refine wpAnyH_take (i := 8) (v := undef) rfl (by kernel_rfl) (by kernel_rfl) (by kernel_rfl) (fun _ _ _ h => h) (Or.inr ⟨by kernel_rfl, rfl⟩) hH0 ?_
  try simp only [List.getElem_toArray, List.getElem_cons_succ, List.getElem_cons_zero, Act.put, List.setIfInBounds_toArray, List.set_cons_zero, List.set_cons_succ]
  refine wpAnyH_take (i := 9) (v := undef) rfl (by kernel_rfl) (by kernel_rfl) (by kernel_rfl) (fun _ _ _ h => h) (Or.inr ⟨by kernel_rfl, rfl⟩) hH0 ?_
  try simp only [List.getElem_toArray, List.getElem_cons_succ, List.getElem_cons_zero, Act.put, List.setIfInBounds_toArray, List.set_cons_zero, List.set_cons_succ]
  refine wpAnyH_take (i := 10) (v := undef) rfl (by kernel_rfl) (by kernel_rfl) (by kernel_rfl) (fun _ _ _ h => h) (Or.inr ⟨by kernel_rfl, rfl⟩) hH0 ?_
  try simp only [List.getElem_toArray, List.getElem_cons_succ, List.getElem_cons_zero, Act.put, List.setIfInBounds_toArray, List.set_cons_zero, List.set_cons_succ]
  refine wpAnyH_take (i := 11) (v := undef) rfl (by kernel_rfl) (by kernel_rfl) (by kernel_rfl) (fun _ _ _ h => h) (Or.inr ⟨by kernel_rfl, rfl⟩) hH0 ?_
  try simp only [List.getElem_toArray, List.getElem_cons_succ, List.getElem_cons_zero, Act.put, List.setIfInBounds_toArray, List.set_cons_zero, List.set_cons_succ]
  refine wpAnyH_take (i := 12) (v := undef) rfl (by kernel_rfl) (by kernel_rfl) (by kernel_rfl) (fun _ _ _ h => h) (Or.inr ⟨by kernel_rfl, rfl⟩) hH0 ?_
  try simp only [List.getElem_toArray, List.getElem_cons_succ, List.getElem_cons_zero, Act.put, List.setIfInBounds_toArray, List.set_cons_zero, List.set_cons_succ]
  refine wpAnyH_take (i := 13) (v := undef) rfl (by kernel_rfl) (by kernel_rfl) (by kernel_rfl) (fun _ _ _ h => h) (Or.inr ⟨by kernel_rfl, rfl⟩) hH0 ?_
  try simp only [List.getElem_toArray, List.getElem_cons_succ, List.getElem_cons_zero, Act.put, List.setIfInBounds_toArray, List.set_cons_zero, List.set_cons_succ]
  refine wpAnyH_take (i := 14) (v := undef) rfl (by kernel_rfl) (by kernel_rfl) (by kernel_rfl) (fun _ _ _ h => h) (Or.inr ⟨by kernel_rfl, rfl⟩) hH0 ?_
  try simp only [List.getElem_toArray, List.getElem_cons_succ, List.getElem_cons_zero, Act.put, List.setIfInBounds_toArray, List.set_cons_zero, List.set_cons_succ]
  refine wpAnyH_take (i := 15) (v := undef) rfl (by kernel_rfl) (by kernel_rfl) (by kernel_rfl) (fun _ _ _ h => h) (Or.inr ⟨by kernel_rfl, rfl⟩) hH0 ?_
  try simp only [List.getElem_toArray, List.getElem_cons_succ, List.getElem_cons_zero, Act.put, List.setIfInBounds_toArray, List.set_cons_zero, List.set_cons_succ]
  refine wpAnyH_take (i := 16) (v := undef) rfl (by kernel_rfl) (by kernel_rfl) (by kernel_rfl) (fun _ _ _ h => h) (Or.inr ⟨by kernel_rfl, rfl⟩) hH0 ?_
  try simp only [List.getElem_toArray, List.getElem_cons_succ, List.getElem_cons_zero, Act.put, List.setIfInBounds_toArray, List.set_cons_zero, List.set_cons_succ]
  refine wpAnyH_take (i := 17) (v := undef) rfl (by kernel_rfl) (by kernel_rfl) (by kernel_rfl) (fun _ _ _ h => h) (Or.inr ⟨by kernel_rfl, rfl⟩) hH0 ?_
  try simp only [List.getElem_toArray, List.getElem_cons_succ, List.getElem_cons_zero, Act.put, List.setIfInBounds_toArray, List.set_cons_zero, List.set_cons_succ]
  refine wpAnyH_take (i := 18) (v := undef) rfl (by kernel_rfl) (by kernel_rfl) (by kernel_rfl) (fun _ _ _ h => h) (Or.inr ⟨by kernel_rfl, rfl⟩) hH0 ?_
  try simp only [List.getElem_toArray, List.getElem_cons_succ, List.getElem_cons_zero, Act.put, List.setIfInBounds_toArray, List.set_cons_zero, List.set_cons_succ]
  refine wpAnyH_take (i := 19) (v := undef) rfl (by kernel_rfl) (by kernel_rfl) (by kernel_rfl) (fun _ _ _ h => h) (Or.inr ⟨by kernel_rfl, rfl⟩) hH0 ?_
  try simp only [List.getElem_toArray, List.getElem_cons_succ, List.getElem_cons_zero, Act.put, List.setIfInBounds_toArray, List.set_cons_zero, List.set_cons_succ]
  refine wpAnyH_take (i := 20) (v := undef) rfl (by kernel_rfl) (by kernel_rfl) (by kernel_rfl) (fun _ _ _ h => h) (Or.inr ⟨by kernel_rfl, rfl⟩) hH0 ?_
  try simp only [List.getElem_toArray, List.getElem_cons_succ, List.getElem_cons_zero, Act.put, List.setIfInBounds_toArray, List.set_cons_zero, List.set_cons_succ]
  refine wpAnyH_take (i := 21) (v := undef) rfl (by kernel_rfl) (by kernel_rfl) (by kernel_rfl) (fun _ _ _ h => h) (Or.inr ⟨by kernel_rfl, rfl⟩) hH0 ?_
  try simp only [List.getElem_toArray, List.getElem_cons_succ, List.getElem_cons_zero, Act.put, List.setIfInBounds_toArray, List.set_cons_zero, List.set_cons_succ]
  refine wpAnyH_take (i := 22) (v := undef) rfl (by kernel_rfl) (by kernel_rfl) (by kernel_rfl) (fun _ _ _ h => h) (Or.inr ⟨by kernel_rfl, rfl⟩) hH0 ?_
  try simp only [List.getElem_toArray, List.getElem_cons_succ, List.getElem_cons_zero, Act.put, List.setIfInBounds_toArray, List.set_cons_zero, List.set_cons_succ]
  refine wpAnyH_take (i := 23) (v := undef) rfl (by kernel_rfl) (by kernel_rfl) (by kernel_rfl) (fun _ _ _ h => h) (Or.inr ⟨by kernel_rfl, rfl⟩) hH0 ?_
  try simp only [List.getElem_toArray, List.getElem_cons_succ, List.getElem_cons_zero, Act.put, List.setIfInBounds_toArray, List.set_cons_zero, List.set_cons_succ]
  refine wpAnyH_take (i := 24) (v := undef) rfl (by kernel_rfl) (by kernel_rfl) (by kernel_rfl) (fun _ _ _ h => h) (Or.inr ⟨by kernel_rfl, rfl⟩) hH0 ?_
  try simp only [List.getElem_toArray, List.getElem_cons_succ, List.getElem_cons_zero, Act.put, List.setIfInBounds_toArray, List.set_cons_zero, List.set_cons_succ]
  refine wpAnyH_take (i := 25) (v := undef) rfl (by kernel_rfl) (by kernel_rfl) (by kernel_rfl) (fun _ _ _ h => h) (Or.inr ⟨by kernel_rfl, rfl⟩) hH0 ?_
  try simp only [List.getElem_toArray, List.getElem_cons_succ, List.getElem_cons_zero, Act.put, List.setIfInBounds_toArray, List.set_cons_zero, List.set_cons_succ]
  refine wpAnyH_take (i := 26) (v := .bool true) rfl (by kernel_rfl) (by kernel_rfl) (by kernel_rfl) (fun _ _ _ h => h) (Or.inl ⟨by kernel_rfl, ?_⟩) hH0 ?_
  ·intro w hSw
   (try dsimp only at hSw)
   go_simp
   all_goals try with_reducible rfl
  try simp only [List.getElem_toArray, List.getElem_cons_succ, List.getElem_cons_zero, Act.put, List.setIfInBounds_toArray, List.set_cons_zero, List.set_cons_succ]
  refine wpAnyH_take (i := 27) (v := .bool true) rfl (by kernel_rfl) (by kernel_rfl) (by kernel_rfl) (fun _ _ _ h => h) (Or.inl ⟨by kernel_rfl, ?_⟩) hH0 ?_
  ·intro w hSw
   (try dsimp only at hSw)
   go_simp
   all_goals try with_reducible rfl
  try simp only [List.getElem_toArray, List.getElem_cons_succ, List.getElem_cons_zero, Act.put, List.setIfInBounds_toArray, List.set_cons_zero, List.set_cons_succ]
  refine wpAnyH_done (by kernel_rfl) ?_ _
  have HB6 := Lib.hid (HB2.out.trans (hH0.2.mono HQ2.out))
  clear hH0
  go_wp2
  go_returns
  exact ⟨by rw [HF.out]; rfl, HB6.out⟩
 ·subst hhe
  have hne : ((h' : Int) == -1) = false := by rw [beq_eq_false_iff_ne]; omega
  have hwh : IntKind.i64.wrap ((h' : Int) + 1) = (h' : Int) + 1 := IntWalk.i64_in _ (by omega)
  have hd1 : decide ((h' : Int) = -1) = false := decide_eq_false (by omega)
  by_cases hlt : (h' : Int) + 1 < (i : Int)
  ·obtain ⟨bb, hbb⟩ : ∃ bb, bb = decide (cl ≤ la) := ⟨_, rfl⟩
   have HF : Hid (B.blocked xs (i : Int) = bb) := by show _ = _; rw [HBK.out, hd1, decide_eq_true hlt, hbb]; simp
   have HBB := Lib.hid hbb
   have hltb : decide ((h' : Int) + 1 < (i : Int)) = true := decide_eq_true hlt
   clear hd1
   go_upto_region 5 with fail
   refine wp_region_held_drew (S := fun w' => ((w'.cell? ⟨w.heap.size, 2, none⟩ = some (.int .i64 (h' : Int)) ∧ w'.cell? ⟨w.heap.size, 3, none⟩ = some (.int .i64 la)) ∧ w'.cell? ⟨b, off + i, none⟩ = some (.int .i32 y)) ∧ Below w2.heap.size w2 w') (by kernel_rfl) (HMK.out _ (Drew.to ⟨1, rfl⟩)) (fun hH0 => ?_)
   refine wpAnyH_take (i := 0) (v := .pointer (some ⟨w.heap.size, 0, none⟩)) rfl (by kernel_rfl) (by kernel_rfl) (by kernel_rfl) (fun _ _ _ h => h) (Or.inl ⟨by kernel_rfl, ?_⟩) hH0 ?_
   ·intro w hSw
    (try dsimp only at hSw)
    go_simp
    all_goals try with_reducible rfl
   try simp only [List.getElem_toArray, List.getElem_cons_succ, List.getElem_cons_zero, Act.put, List.setIfInBounds_toArray, List.set_cons_zero, List.set_cons_succ]
   refine wpAnyH_take (i := 1) (v := .pointer (some ⟨w.heap.size, 0, none⟩)) rfl (by kernel_rfl) (by kernel_rfl) (by kernel_rfl) (fun _ _ _ h => h) (Or.inl ⟨by kernel_rfl, ?_⟩) hH0 ?_
   ·intro w hSw
    (try dsimp only at hSw)
    go_simp
    all_goals try with_reducible rfl
   try simp only [List.getElem_toArray, List.getElem_cons_succ, List.getElem_cons_zero, Act.put, List.setIfInBounds_toArray, List.set_cons_zero, List.set_cons_succ]
   refine wpAnyH_take (i := 2) (v := .pointer (some ⟨w.heap.size, 2, none⟩)) rfl (by kernel_rfl) (by kernel_rfl) (by kernel_rfl) (fun _ _ _ h => h) (Or.inl ⟨by kernel_rfl, ?_⟩) hH0 ?_
   ·intro w hSw
    (try dsimp only at hSw)
    go_simp
    all_goals try with_reducible rfl
   try simp only [List.getElem_toArray, List.getElem_cons_succ, List.getElem_cons_zero, Act.put, List.setIfInBounds_toArray, List.set_cons_zero, List.set_cons_succ]
   refine wpAnyH_take (i := 3) (v := .int .i64 (h' : Int)) rfl (by kernel_rfl) (by kernel_rfl) (by kernel_rfl) (fun _ _ _ h => h) (Or.inl ⟨by kernel_rfl, ?_⟩) hH0 ?_
   ·intro w hSw
    (try dsimp only at hSw)
    go_simp
    all_goals try with_reducible rfl
   try simp only [List.getElem_toArray, List.getElem_cons_succ, List.getElem_cons_zero, Act.put, List.setIfInBounds_toArray, List.set_cons_zero, List.set_cons_succ]
   refine wpAnyH_take (i := 4) (v := .bool false) rfl (by kernel_rfl) (by kernel_rfl) (by kernel_rfl) (fun _ _ _ h => h) (Or.inl ⟨by kernel_rfl, ?_⟩) hH0 ?_
   ·intro w hSw
    (try dsimp only at hSw)
    go_simp
    all_goals try with_reducible rfl
   try simp only [List.getElem_toArray, List.getElem_cons_succ, List.getElem_cons_zero, Act.put, List.setIfInBounds_toArray, List.set_cons_zero, List.set_cons_succ]
   refine wpAnyH_take (i := 5) (v := .bool false) rfl (by kernel_rfl) (by kernel_rfl) (by kernel_rfl) (fun _ _ _ h => h) (Or.inl ⟨by kernel_rfl, ?_⟩) hH0 ?_
   ·intro w hSw
    (try dsimp only at hSw)
    go_simp
    all_goals try with_reducible rfl
   try simp only [List.getElem_toArray, List.getElem_cons_succ, List.getElem_cons_zero, Act.put, List.setIfInBounds_toArray, List.set_cons_zero, List.set_cons_succ]
   refine wpAnyH_take (i := 6) (v := .int .i64 i) rfl (by kernel_rfl) (by kernel_rfl) (by kernel_rfl) (fun _ _ _ h => h) (Or.inl ⟨by kernel_rfl, ?_⟩) hH0 ?_
   ·intro w hSw
    (try dsimp only at hSw)
    go_simp
    all_goals try with_reducible rfl
   try simp only [List.getElem_toArray, List.getElem_cons_succ, List.getElem_cons_zero, Act.put, List.setIfInBounds_toArray, List.set_cons_zero, List.set_cons_succ]
   refine wpAnyH_take (i := 7) (v := .pointer (some ⟨w.heap.size, 0, none⟩)) rfl (by kernel_rfl) (by kernel_rfl) (by kernel_rfl) (fun _ _ _ h => h) (Or.inl ⟨by kernel_rfl, ?_⟩) hH0 ?_
   ·intro w hSw
    (try dsimp only at hSw)
    go_simp
    all_goals try with_reducible rfl
   try simp only [List.getElem_toArray, List.getElem_cons_succ, List.getElem_cons_zero, Act.put, List.setIfInBounds_toArray, List.set_cons_zero, List.set_cons_succ]
   refine wpAnyH_take (i := 8) (v := .pointer (some ⟨w.heap.size, 0, none⟩)) rfl (by kernel_rfl) (by kernel_rfl) (by kernel_rfl) (fun _ _ _ h => h) (Or.inl ⟨by kernel_rfl, ?_⟩) hH0 ?_
   ·intro w hSw
    (try dsimp only at hSw)
    go_simp
    all_goals try with_reducible rfl
   try simp only [List.getElem_toArray, List.getElem_cons_succ, List.getElem_cons_zero, Act.put, List.setIfInBounds_toArray, List.set_cons_zero, List.set_cons_succ]
   refine wpAnyH_take (i := 9) (v := .pointer (some ⟨w.heap.size, 2, none⟩)) rfl (by kernel_rfl) (by kernel_rfl) (by kernel_rfl) (fun _ _ _ h => h) (Or.inl ⟨by kernel_rfl, ?_⟩) hH0 ?_
   ·intro w hSw
    (try dsimp only at hSw)
    go_simp
    all_goals try with_reducible rfl
   try simp only [List.getElem_toArray, List.getElem_cons_succ, List.getElem_cons_zero, Act.put, List.setIfInBounds_toArray, List.set_cons_zero, List.set_cons_succ]
   refine wpAnyH_take (i := 10) (v := .int .i64 (h' : Int)) rfl (by kernel_rfl) (by kernel_rfl) (by kernel_rfl) (fun _ _ _ h => h) (Or.inl ⟨by kernel_rfl, ?_⟩) hH0 ?_
   ·intro w hSw
    (try dsimp only at hSw)
    go_simp
    all_goals try with_reducible rfl
   try simp only [List.getElem_toArray, List.getElem_cons_succ, List.getElem_cons_zero, Act.put, List.setIfInBounds_toArray, List.set_cons_zero, List.set_cons_succ]
   refine wpAnyH_take (i := 11) (v := .int .i64 ((h' : Int) + 1)) rfl (by kernel_rfl) (by kernel_rfl) (by kernel_rfl) (fun _ _ _ h => h) (Or.inl ⟨by kernel_rfl, ?_⟩) hH0 ?_
   ·intro w hSw
    (try dsimp only at hSw)
    go_simp
    all_goals try with_reducible rfl
   try simp only [List.getElem_toArray, List.getElem_cons_succ, List.getElem_cons_zero, Act.put, List.setIfInBounds_toArray, List.set_cons_zero, List.set_cons_succ]
   refine wpAnyH_take (i := 12) (v := .bool true) rfl (by kernel_rfl) (by kernel_rfl) (by kernel_rfl) (fun _ _ _ h => h) (Or.inl ⟨by kernel_rfl, ?_⟩) hH0 ?_
   ·intro w hSw
    (try dsimp only at hSw)
    go_simp
    all_goals try with_reducible rfl
   try simp only [List.getElem_toArray, List.getElem_cons_succ, List.getElem_cons_zero, Act.put, List.setIfInBounds_toArray, List.set_cons_zero, List.set_cons_succ]
   refine wpAnyH_take (i := 13) (v := .bool true) rfl (by kernel_rfl) (by kernel_rfl) (by kernel_rfl) (fun _ _ _ h => h) (Or.inl ⟨by kernel_rfl, ?_⟩) hH0 ?_
   ·intro w hSw
    (try dsimp only at hSw)
    go_simp
    all_goals try with_reducible rfl
   try simp only [List.getElem_toArray, List.getElem_cons_succ, List.getElem_cons_zero, Act.put, List.setIfInBounds_toArray, List.set_cons_zero, List.set_cons_succ]
   refine wpAnyH_take (i := 14) (v := .pointer (some ⟨w.heap.size, 0, none⟩)) rfl (by kernel_rfl) (by kernel_rfl) (by kernel_rfl) (fun _ _ _ h => h) (Or.inl ⟨by kernel_rfl, ?_⟩) hH0 ?_
   ·intro w hSw
    (try dsimp only at hSw)
    go_simp
    all_goals try with_reducible rfl
   try simp only [List.getElem_toArray, List.getElem_cons_succ, List.getElem_cons_zero, Act.put, List.setIfInBounds_toArray, List.set_cons_zero, List.set_cons_succ]
   refine wpAnyH_take (i := 15) (v := .pointer (some ⟨w.heap.size, 0, none⟩)) rfl (by kernel_rfl) (by kernel_rfl) (by kernel_rfl) (fun _ _ _ h => h) (Or.inl ⟨by kernel_rfl, ?_⟩) hH0 ?_
   ·intro w hSw
    (try dsimp only at hSw)
    go_simp
    all_goals try with_reducible rfl
   try simp only [List.getElem_toArray, List.getElem_cons_succ, List.getElem_cons_zero, Act.put, List.setIfInBounds_toArray, List.set_cons_zero, List.set_cons_succ]
   refine wpAnyH_take (i := 16) (v := .pointer (some ⟨w.heap.size, 3, none⟩)) rfl (by kernel_rfl) (by kernel_rfl) (by kernel_rfl) (fun _ _ _ h => h) (Or.inl ⟨by kernel_rfl, ?_⟩) hH0 ?_
   ·intro w hSw
    (try dsimp only at hSw)
    go_simp
    all_goals try with_reducible rfl
   try simp only [List.getElem_toArray, List.getElem_cons_succ, List.getElem_cons_zero, Act.put, List.setIfInBounds_toArray, List.set_cons_zero, List.set_cons_succ]
   refine wpAnyH_take (i := 17) (v := .int .i64 la) rfl (by kernel_rfl) (by kernel_rfl) (by kernel_rfl) (fun _ _ _ h => h) (Or.inl ⟨by kernel_rfl, ?_⟩) hH0 ?_
   ·intro w hSw
    (try dsimp only at hSw)
    go_simp
    all_goals try with_reducible rfl
   try simp only [List.getElem_toArray, List.getElem_cons_succ, List.getElem_cons_zero, Act.put, List.setIfInBounds_toArray, List.set_cons_zero, List.set_cons_succ]
   refine wpAnyH_take (i := 18) (v := .pointer p) rfl (by kernel_rfl) (by kernel_rfl) (by kernel_rfl) (fun _ _ _ h => h) (Or.inl ⟨by kernel_rfl, ?_⟩) hH0 ?_
   ·intro w hSw
    (try dsimp only at hSw)
    go_simp
    all_goals try with_reducible rfl
   try simp only [List.getElem_toArray, List.getElem_cons_succ, List.getElem_cons_zero, Act.put, List.setIfInBounds_toArray, List.set_cons_zero, List.set_cons_succ]
   refine wpAnyH_take (i := 19) (v := .slice (some ⟨b, off, none⟩) n cp) rfl (by kernel_rfl) (by kernel_rfl) (by kernel_rfl) (fun _ _ _ h => h) (Or.inl ⟨by kernel_rfl, ?_⟩) hH0 ?_
   ·intro w hSw
    (try dsimp only at hSw)
    go_simp
    all_goals try with_reducible rfl
   try simp only [List.getElem_toArray, List.getElem_cons_succ, List.getElem_cons_zero, Act.put, List.setIfInBounds_toArray, List.set_cons_zero, List.set_cons_succ]
   refine wpAnyH_take (i := 20) (v := .int .i64 i) rfl (by kernel_rfl) (by kernel_rfl) (by kernel_rfl) (fun _ _ _ h => h) (Or.inl ⟨by kernel_rfl, ?_⟩) hH0 ?_
   ·intro w hSw
    (try dsimp only at hSw)
    go_simp
    all_goals try with_reducible rfl
   try simp only [List.getElem_toArray, List.getElem_cons_succ, List.getElem_cons_zero, Act.put, List.setIfInBounds_toArray, List.set_cons_zero, List.set_cons_succ]
   refine wpAnyH_take (i := 21) (v := .pointer (some ⟨b, off + i, none⟩)) rfl (by kernel_rfl) (by kernel_rfl) (by kernel_rfl) (fun _ _ _ h => h) (Or.inl ⟨by kernel_rfl, ?_⟩) hH0 ?_
   ·intro w hSw
    (try dsimp only at hSw)
    go_simp
    all_goals try with_reducible rfl
   try simp only [List.getElem_toArray, List.getElem_cons_succ, List.getElem_cons_zero, Act.put, List.setIfInBounds_toArray, List.set_cons_zero, List.set_cons_succ]
   refine wpAnyH_take (i := 22) (v := .int .i32 y) rfl (by kernel_rfl) (by kernel_rfl) (by kernel_rfl) (fun _ _ _ h => h) (Or.inl ⟨by kernel_rfl, ?_⟩) hH0 ?_
   ·intro w hSw
    (try dsimp only at hSw)
    go_simp
    all_goals try with_reducible rfl
   try simp only [List.getElem_toArray, List.getElem_cons_succ, List.getElem_cons_zero, Act.put, List.setIfInBounds_toArray, List.set_cons_zero, List.set_cons_succ]
   refine wpAnyH_ready (rs := [23]) (by kernel_rfl) (by simp) ?_
   refine AllReadyH.cons rfl (fun K hK => ?_) AllReadyH.nil
   go_simp
   refine (CL.out _ hH0.2).mono ?_
   rintro e w50 ⟨rfl, hb5⟩
   refine hK.out _ _ (HMK.out _ (below_then hH0.2 hb5)) (fun hH1 => ?_)
   clear hK K hH0
   try simp only [List.getElem_toArray, List.getElem_cons_succ, List.getElem_cons_zero, Act.put, List.setIfInBounds_toArray, List.set_cons_zero, List.set_cons_succ]
   refine wpAnyH_take (i := 24) (v := .bool bb) rfl (by kernel_rfl) (by kernel_rfl) (by kernel_rfl) (fun _ _ _ h => h) (Or.inl ⟨by kernel_rfl, ?_⟩) hH1 ?_
   ·intro w hSw
    rw [HBB.out]
    (try dsimp only at hSw)
    go_simp
    all_goals try with_reducible rfl
   try simp only [List.getElem_toArray, List.getElem_cons_succ, List.getElem_cons_zero, Act.put, List.setIfInBounds_toArray, List.set_cons_zero, List.set_cons_succ]
   refine wpAnyH_take (i := 25) (v := .bool bb) rfl (by kernel_rfl) (by kernel_rfl) (by kernel_rfl) (fun _ _ _ h => h) (Or.inl ⟨by kernel_rfl, ?_⟩) hH1 ?_
   ·intro w hSw
    (try dsimp only at hSw)
    go_simp
    all_goals try with_reducible rfl
   try simp only [List.getElem_toArray, List.getElem_cons_succ, List.getElem_cons_zero, Act.put, List.setIfInBounds_toArray, List.set_cons_zero, List.set_cons_succ]
   refine wpAnyH_take (i := 26) (v := .bool bb) rfl (by kernel_rfl) (by kernel_rfl) (by kernel_rfl) (fun _ _ _ h => h) (Or.inl ⟨by kernel_rfl, ?_⟩) hH1 ?_
   ·intro w hSw
    (try dsimp only at hSw)
    go_simp
    all_goals try with_reducible rfl
   try simp only [List.getElem_toArray, List.getElem_cons_succ, List.getElem_cons_zero, Act.put, List.setIfInBounds_toArray, List.set_cons_zero, List.set_cons_succ]
   refine wpAnyH_take (i := 27) (v := .bool bb) rfl (by kernel_rfl) (by kernel_rfl) (by kernel_rfl) (fun _ _ _ h => h) (Or.inl ⟨by kernel_rfl, ?_⟩) hH1 ?_
   ·intro w hSw
    (try dsimp only at hSw)
    go_simp
    all_goals try with_reducible rfl
   try simp only [List.getElem_toArray, List.getElem_cons_succ, List.getElem_cons_zero, Act.put, List.setIfInBounds_toArray, List.set_cons_zero, List.set_cons_succ]
   refine wpAnyH_done (by kernel_rfl) ?_ _
   have HB6 := Lib.hid (HB2.out.trans (hH1.2.mono HQ2.out))
   clear hH1
   go_wp2
   go_returns
   exact ⟨by rw [HF.out]; rfl, HB6.out⟩
  ·have HF : Hid (B.blocked xs (i : Int) = false) := by show _ = _; rw [HBK.out, hd1, decide_eq_false hlt]; rfl
   have hltb : decide ((h' : Int) + 1 < (i : Int)) = false := decide_eq_false hlt
   clear hd1
   go_upto_region 5 with fail
   refine wp_region_held_drew (S := fun w' => ((w'.cell? ⟨w.heap.size, 2, none⟩ = some (.int .i64 (h' : Int)) ∧ w'.cell? ⟨w.heap.size, 3, none⟩ = some (.int .i64 la)) ∧ w'.cell? ⟨b, off + i, none⟩ = some (.int .i32 y)) ∧ Below w2.heap.size w2 w') (by kernel_rfl) (HMK.out _ (Drew.to ⟨1, rfl⟩)) (fun hH0 => ?_)
   refine wpAnyH_take (i := 0) (v := .pointer (some ⟨w.heap.size, 0, none⟩)) rfl (by kernel_rfl) (by kernel_rfl) (by kernel_rfl) (fun _ _ _ h => h) (Or.inl ⟨by kernel_rfl, ?_⟩) hH0 ?_
   ·intro w hSw
    (try dsimp only at hSw)
    go_simp
    all_goals try with_reducible rfl
   try simp only [List.getElem_toArray, List.getElem_cons_succ, List.getElem_cons_zero, Act.put, List.setIfInBounds_toArray, List.set_cons_zero, List.set_cons_succ]
   refine wpAnyH_take (i := 1) (v := .pointer (some ⟨w.heap.size, 0, none⟩)) rfl (by kernel_rfl) (by kernel_rfl) (by kernel_rfl) (fun _ _ _ h => h) (Or.inl ⟨by kernel_rfl, ?_⟩) hH0 ?_
   ·intro w hSw
    (try dsimp only at hSw)
    go_simp
    all_goals try with_reducible rfl
   try simp only [List.getElem_toArray, List.getElem_cons_succ, List.getElem_cons_zero, Act.put, List.setIfInBounds_toArray, List.set_cons_zero, List.set_cons_succ]
   refine wpAnyH_take (i := 2) (v := .pointer (some ⟨w.heap.size, 2, none⟩)) rfl (by kernel_rfl) (by kernel_rfl) (by kernel_rfl) (fun _ _ _ h => h) (Or.inl ⟨by kernel_rfl, ?_⟩) hH0 ?_
   ·intro w hSw
    (try dsimp only at hSw)
    go_simp
    all_goals try with_reducible rfl
   try simp only [List.getElem_toArray, List.getElem_cons_succ, List.getElem_cons_zero, Act.put, List.setIfInBounds_toArray, List.set_cons_zero, List.set_cons_succ]
   refine wpAnyH_take (i := 3) (v := .int .i64 (h' : Int)) rfl (by kernel_rfl) (by kernel_rfl) (by kernel_rfl) (fun _ _ _ h => h) (Or.inl ⟨by kernel_rfl, ?_⟩) hH0 ?_
   ·intro w hSw
    (try dsimp only at hSw)
    go_simp
    all_goals try with_reducible rfl
   try simp only [List.getElem_toArray, List.getElem_cons_succ, List.getElem_cons_zero, Act.put, List.setIfInBounds_toArray, List.set_cons_zero, List.set_cons_succ]
   refine wpAnyH_take (i := 4) (v := .bool false) rfl (by kernel_rfl) (by kernel_rfl) (by kernel_rfl) (fun _ _ _ h => h) (Or.inl ⟨by kernel_rfl, ?_⟩) hH0 ?_
   ·intro w hSw
    (try dsimp only at hSw)
    go_simp
    all_goals try with_reducible rfl
   try simp only [List.getElem_toArray, List.getElem_cons_succ, List.getElem_cons_zero, Act.put, List.setIfInBounds_toArray, List.set_cons_zero, List.set_cons_succ]
   refine wpAnyH_take (i := 5) (v := .bool false) rfl (by kernel_rfl) (by kernel_rfl) (by kernel_rfl) (fun _ _ _ h => h) (Or.inl ⟨by kernel_rfl, ?_⟩) hH0 ?_
   ·intro w hSw
    (try dsimp only at hSw)
    go_simp
    all_goals try with_reducible rfl
   try simp only [List.getElem_toArray, List.getElem_cons_succ, List.getElem_cons_zero, Act.put, List.setIfInBounds_toArray, List.set_cons_zero, List.set_cons_succ]
   refine wpAnyH_take (i := 6) (v := .int .i64 i) rfl (by kernel_rfl) (by kernel_rfl) (by kernel_rfl) (fun _ _ _ h => h) (Or.inl ⟨by kernel_rfl, ?_⟩) hH0 ?_
   ·intro w hSw
    (try dsimp only at hSw)
    go_simp
    all_goals try with_reducible rfl
   try simp only [List.getElem_toArray, List.getElem_cons_succ, List.getElem_cons_zero, Act.put, List.setIfInBounds_toArray, List.set_cons_zero, List.set_cons_succ]
   refine wpAnyH_take (i := 7) (v := .pointer (some ⟨w.heap.size, 0, none⟩)) rfl (by kernel_rfl) (by kernel_rfl) (by kernel_rfl) (fun _ _ _ h => h) (Or.inl ⟨by kernel_rfl, ?_⟩) hH0 ?_
   ·intro w hSw
    (try dsimp only at hSw)
    go_simp
    all_goals try with_reducible rfl
   try simp only [List.getElem_toArray, List.getElem_cons_succ, List.getElem_cons_zero, Act.put, List.setIfInBounds_toArray, List.set_cons_zero, List.set_cons_succ]
   refine wpAnyH_take (i := 8) (v := .pointer (some ⟨w.heap.size, 0, none⟩)) rfl (by kernel_rfl) (by kernel_rfl) (by kernel_rfl) (fun _ _ _ h => h) (Or.inl ⟨by kernel_rfl, ?_⟩) hH0 ?_
   ·intro w hSw
    (try dsimp only at hSw)
    go_simp
    all_goals try with_reducible rfl
   try simp only [List.getElem_toArray, List.getElem_cons_succ, List.getElem_cons_zero, Act.put, List.setIfInBounds_toArray, List.set_cons_zero, List.set_cons_succ]
   refine wpAnyH_take (i := 9) (v := .pointer (some ⟨w.heap.size, 2, none⟩)) rfl (by kernel_rfl) (by kernel_rfl) (by kernel_rfl) (fun _ _ _ h => h) (Or.inl ⟨by kernel_rfl, ?_⟩) hH0 ?_
   ·intro w hSw
    (try dsimp only at hSw)
    go_simp
    all_goals try with_reducible rfl
   try simp only [List.getElem_toArray, List.getElem_cons_succ, List.getElem_cons_zero, Act.put, List.setIfInBounds_toArray, List.set_cons_zero, List.set_cons_succ]
   refine wpAnyH_take (i := 10) (v := .int .i64 (h' : Int)) rfl (by kernel_rfl) (by kernel_rfl) (by kernel_rfl) (fun _ _ _ h => h) (Or.inl ⟨by kernel_rfl, ?_⟩) hH0 ?_
   ·intro w hSw
    (try dsimp only at hSw)
    go_simp
    all_goals try with_reducible rfl
   try simp only [List.getElem_toArray, List.getElem_cons_succ, List.getElem_cons_zero, Act.put, List.setIfInBounds_toArray, List.set_cons_zero, List.set_cons_succ]
   refine wpAnyH_take (i := 11) (v := .int .i64 ((h' : Int) + 1)) rfl (by kernel_rfl) (by kernel_rfl) (by kernel_rfl) (fun _ _ _ h => h) (Or.inl ⟨by kernel_rfl, ?_⟩) hH0 ?_
   ·intro w hSw
    (try dsimp only at hSw)
    go_simp
    all_goals try with_reducible rfl
   try simp only [List.getElem_toArray, List.getElem_cons_succ, List.getElem_cons_zero, Act.put, List.setIfInBounds_toArray, List.set_cons_zero, List.set_cons_succ]
   refine wpAnyH_take (i := 12) (v := .bool false) rfl (by kernel_rfl) (by kernel_rfl) (by kernel_rfl) (fun _ _ _ h => h) (Or.inl ⟨by kernel_rfl, ?_⟩) hH0 ?_
   ·intro w hSw
    (try dsimp only at hSw)
    go_simp
    all_goals try with_reducible rfl
   try simp only [List.getElem_toArray, List.getElem_cons_succ, List.getElem_cons_zero, Act.put, List.setIfInBounds_toArray, List.set_cons_zero, List.set_cons_succ]
   refine wpAnyH_take (i := 13) (v := .bool false) rfl (by kernel_rfl) (by kernel_rfl) (by kernel_rfl) (fun _ _ _ h => h) (Or.inl ⟨by kernel_rfl, ?_⟩) hH0 ?_
   ·intro w hSw
    (try dsimp only at hSw)
    go_simp
    all_goals try with_reducible rfl
   try simp only [List.getElem_toArray, List.getElem_cons_succ, List.getElem_cons_zero, Act.put, List.setIfInBounds_toArray, List.set_cons_zero, List.set_cons_succ]
   refine wpAnyH_take (i := 14) (v := undef) rfl (by kernel_rfl) (by kernel_rfl) (by kernel_rfl) (fun _ _ _ h => h) (Or.inr ⟨by kernel_rfl, rfl⟩) hH0 ?_
   try simp only [List.getElem_toArray, List.getElem_cons_succ, List.getElem_cons_zero, Act.put, List.setIfInBounds_toArray, List.set_cons_zero, List.set_cons_succ]
   refine wpAnyH_take (i := 15) (v := undef) rfl (by kernel_rfl) (by kernel_rfl) (by kernel_rfl) (fun _ _ _ h => h) (Or.inr ⟨by kernel_rfl, rfl⟩) hH0 ?_
   try simp only [List.getElem_toArray, List.getElem_cons_succ, List.getElem_cons_zero, Act.put, List.setIfInBounds_toArray, List.set_cons_zero, List.set_cons_succ]
   refine wpAnyH_take (i := 16) (v := undef) rfl (by kernel_rfl) (by kernel_rfl) (by kernel_rfl) (fun _ _ _ h => h) (Or.inr ⟨by kernel_rfl, rfl⟩) hH0 ?_
   try simp only [List.getElem_toArray, List.getElem_cons_succ, List.getElem_cons_zero, Act.put, List.setIfInBounds_toArray, List.set_cons_zero, List.set_cons_succ]
   refine wpAnyH_take (i := 17) (v := undef) rfl (by kernel_rfl) (by kernel_rfl) (by kernel_rfl) (fun _ _ _ h => h) (Or.inr ⟨by kernel_rfl, rfl⟩) hH0 ?_
   try simp only [List.getElem_toArray, List.getElem_cons_succ, List.getElem_cons_zero, Act.put, List.setIfInBounds_toArray, List.set_cons_zero, List.set_cons_succ]
   refine wpAnyH_take (i := 18) (v := undef) rfl (by kernel_rfl) (by kernel_rfl) (by kernel_rfl) (fun _ _ _ h => h) (Or.inr ⟨by kernel_rfl, rfl⟩) hH0 ?_
   try simp only [List.getElem_toArray, List.getElem_cons_succ, List.getElem_cons_zero, Act.put, List.setIfInBounds_toArray, List.set_cons_zero, List.set_cons_succ]
   refine wpAnyH_take (i := 19) (v := undef) rfl (by kernel_rfl) (by kernel_rfl) (by kernel_rfl) (fun _ _ _ h => h) (Or.inr ⟨by kernel_rfl, rfl⟩) hH0 ?_
   try simp only [List.getElem_toArray, List.getElem_cons_succ, List.getElem_cons_zero, Act.put, List.setIfInBounds_toArray, List.set_cons_zero, List.set_cons_succ]
   refine wpAnyH_take (i := 20) (v := undef) rfl (by kernel_rfl) (by kernel_rfl) (by kernel_rfl) (fun _ _ _ h => h) (Or.inr ⟨by kernel_rfl, rfl⟩) hH0 ?_
   try simp only [List.getElem_toArray, List.getElem_cons_succ, List.getElem_cons_zero, Act.put, List.setIfInBounds_toArray, List.set_cons_zero, List.set_cons_succ]
   refine wpAnyH_take (i := 21) (v := undef) rfl (by kernel_rfl) (by kernel_rfl) (by kernel_rfl) (fun _ _ _ h => h) (Or.inr ⟨by kernel_rfl, rfl⟩) hH0 ?_
   try simp only [List.getElem_toArray, List.getElem_cons_succ, List.getElem_cons_zero, Act.put, List.setIfInBounds_toArray, List.set_cons_zero, List.set_cons_succ]
   refine wpAnyH_take (i := 22) (v := undef) rfl (by kernel_rfl) (by kernel_rfl) (by kernel_rfl) (fun _ _ _ h => h) (Or.inr ⟨by kernel_rfl, rfl⟩) hH0 ?_
   try simp only [List.getElem_toArray, List.getElem_cons_succ, List.getElem_cons_zero, Act.put, List.setIfInBounds_toArray, List.set_cons_zero, List.set_cons_succ]
   refine wpAnyH_take (i := 23) (v := undef) rfl (by kernel_rfl) (by kernel_rfl) (by kernel_rfl) (fun _ _ _ h => h) (Or.inr ⟨by kernel_rfl, rfl⟩) hH0 ?_
   try simp only [List.getElem_toArray, List.getElem_cons_succ, List.getElem_cons_zero, Act.put, List.setIfInBounds_toArray, List.set_cons_zero, List.set_cons_succ]
   refine wpAnyH_take (i := 24) (v := undef) rfl (by kernel_rfl) (by kernel_rfl) (by kernel_rfl) (fun _ _ _ h => h) (Or.inr ⟨by kernel_rfl, rfl⟩) hH0 ?_
   try simp only [List.getElem_toArray, List.getElem_cons_succ, List.getElem_cons_zero, Act.put, List.setIfInBounds_toArray, List.set_cons_zero, List.set_cons_succ]
   refine wpAnyH_take (i := 25) (v := .bool false) rfl (by kernel_rfl) (by kernel_rfl) (by kernel_rfl) (fun _ _ _ h => h) (Or.inl ⟨by kernel_rfl, ?_⟩) hH0 ?_
   ·intro w hSw
    (try dsimp only at hSw)
    go_simp
    all_goals try with_reducible rfl
   try simp only [List.getElem_toArray, List.getElem_cons_succ, List.getElem_cons_zero, Act.put, List.setIfInBounds_toArray, List.set_cons_zero, List.set_cons_succ]
   refine wpAnyH_take (i := 26) (v := .bool false) rfl (by kernel_rfl) (by kernel_rfl) (by kernel_rfl) (fun _ _ _ h => h) (Or.inl ⟨by kernel_rfl, ?_⟩) hH0 ?_
   ·intro w hSw
    (try dsimp only at hSw)
    go_simp
    all_goals try with_reducible rfl
   try simp only [List.getElem_toArray, List.getElem_cons_succ, List.getElem_cons_zero, Act.put, List.setIfInBounds_toArray, List.set_cons_zero, List.set_cons_succ]
   refine wpAnyH_take (i := 27) (v := .bool false) rfl (by kernel_rfl) (by kernel_rfl) (by kernel_rfl) (fun _ _ _ h => h) (Or.inl ⟨by kernel_rfl, ?_⟩) hH0 ?_
   ·intro w hSw
    (try dsimp only at hSw)
    go_simp
    all_goals try with_reducible rfl
   try simp only [List.getElem_toArray, List.getElem_cons_succ, List.getElem_cons_zero, Act.put, List.setIfInBounds_toArray, List.set_cons_zero, List.set_cons_succ]
   refine wpAnyH_done (by kernel_rfl) ?_ _
   have HB6 := Lib.hid (HB2.out.trans (hH0.2.mono HQ2.out))
   clear hH0
   go_wp2
   go_returns
   exact ⟨by rw [HF.out]; rfl, HB6.out⟩
end
end
end Go.Proofs.YtobleaiecnpcoaaGreatDoor
