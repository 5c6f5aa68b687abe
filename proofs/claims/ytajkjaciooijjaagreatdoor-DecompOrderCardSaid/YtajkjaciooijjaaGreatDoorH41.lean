/- What n cells of a block say: for the measure of the document's Order. The document's Order: the code. -/
import Derived.Test.YtajkjaciooijjaaGreatDoorH02
import Derived.Test.YtajkjaciooijjaaGreatDoorH06
import Derived.Test.YtajkjaciooijjaaGreatDoorH08
import Derived.Test.YtajkjaciooijjaaGreatDoorH27
import Derived.Test.YtajkjaciooijjaaGreatDoorH28
import Derived.Test.YtajkjaciooijjaaGreatDoorH38
import Derived.Test.YtajkjaciooijjaaGreatDoorH09
import Derived.Test.YtajkjaciooijjaaGreatDoorH04
import Derived.Test.YtajkjaciooijjaaGreatDoorH07
import Derived.Test.YtajkjaciooijjaaGreatDoorH13
import Derived.Test.YtajkjaciooijjaaGreatDoorH14
import Derived.Test.YtajkjaciooijjaaGreatDoorH15
import Derived.Test.YtajkjaciooijjaaGreatDoorH18
import Derived.Test.YtajkjaciooijjaaGreatDoorH19
import Derived.Test.YtajkjaciooijjaaGreatDoorH22
import Derived.Test.YtajkjaciooijjaaGreatDoorH25
import Derived.Test.YtajkjaciooijjaaGreatDoorH32
section
set_option linter.unusedSimpArgs false
set_option linter.unusedVariables false
namespace Go.Proofs.YtajkjaciooijjaaGreatDoor
open Go.RowKit
def readL (w : World) (g n : Nat) : List Int := (List.range n).map fun j => match w.cell? ⟨g, j, none⟩ with
 | some (.int _ x) => x
 | _ => 0
theorem readL_eq {w : World} {g : Nat} {l : List Int} (h : HoldsR w g 0 l) : readL w g l.length = l := by
 apply List.ext_getElem?
 intro j
 unfold readL
 by_cases hj : j < l.length
 ·have h1 := (h j l[j] (List.getElem?_eq_getElem hj)).1
  rw [Nat.zero_add] at h1
  rw [List.getElem?_map, List.getElem?_range hj, List.getElem?_eq_getElem hj]
  simp only [Option.map_some, h1]
 ·rw [List.getElem?_eq_none (by simp; omega), List.getElem?_eq_none (by omega)]
theorem readL_of {w : World} {g n : Nat} {l : List Int} (h : HoldsR w g 0 l) (hl : l.length = n) : readL w g n = l := by rw [← hl]; exact readL_eq h
end Go.Proofs.YtajkjaciooijjaaGreatDoor
end

section
set_option linter.unusedSimpArgs false
set_option linter.unusedVariables false
namespace Go.Proofs.YtajkjaciooijjaaGreatDoor
open Go.RowKit
section
variable {w : World} {pv : Value} {B : BaseF}
set_option maxRecDepth 20000 in
set_option maxHeartbeats 4000000 in
theorem rorder_any (hR : RefIs w pv B) (A : Option Addr) (n cp : Nat) (xs : List Int) (hrd : Rd w A n (Rs xs)) (hn : xs.length = n) (hn2 : n ≤ 1000000) :
  Calls Tryz.prog 20 #[pv, .slice A n cp] w (FreshR w (B.ord xs)) := by
 have HN := Lib.hid hn
 have HR := Lib.hid hR
 have hone := Rs_one xs
 have hown0 : w.ownsRow w.heap.size 21 1 (.slice none 0 0) 0 [] := World.ownsRow_nil _ _ _ _
 clear hn hR
 go_enter Tryz.func20, Tryz.ntmps20
 go_wp2_with (at_builtin; refine wpList_app runeElem _ rfl _ _ rfl w.heap.size rfl hown0 rfl hrd hone (by omega) (by omega) (Nat.le_refl _) ?_)
 intro A2 c2 w2 hown2 hg2 hat2
 have hw2 : Below w.heap.size w w2 := below_app (Below.refl _ _) (Nat.le_refl _) hown0 hg2
 have hl0 : xs.length = n := HN.out
 rcases hown2.2 with ⟨hv, h0⟩ | ⟨g, cap, cur, hv, hg, hh, _⟩
 ·injection hv with e1 _ e3
  subst e1 e3 h0
  obtain rfl := List.length_eq_zero_iff.1 hl0
  have HF : Hid (FreshR w (B.ord []) (.returned (.slice none 0 0)) w2) := ⟨none, 0, rfl, hown2, hw2⟩
  clear hown2 hg2 hat2 hown0 hrd hone hw2 hl0
  go_wp2
  go_loopw [6] (fun s6 wr => ∃ tb : Bool, s6 = .bool tb ∧ wr = w2) (fun s6 _ => match s6 with | .bool true => 1 | _ => 0)
  case atStart => exact ⟨true, rfl, rfl⟩
  case round =>
   obtain ⟨tb, rfl, rfl⟩ := hrel
   cases tb with
   | true =>
    go_wp2
    go_loopw [6, 7] (fun s6 i wr2 => s6 = .bool false ∧ i = .int .i64 0 ∧ wr2 = wr) (fun _ i _ => 0)
    case atStart => exact ⟨rfl, rfl, rfl⟩
    case round =>
     obtain ⟨rfl, rfl, rfl⟩ := hrel
     go_wp2
     go_roundw
     case rel => exact ⟨false, rfl, trivial⟩
     case measure => simp
   | false =>
    go_wp2
    go_returns
    exact HF.out
 ·injection hv with e1 _ e3
  subst e1 e3
  have hown3 : w2.ownsRow w.heap.size 21 1 (.slice (some ⟨g, 0, none⟩) xs.length c2) xs.length (Rs xs) := by rw [hl0]; exact hown2
  have HH0 := Lib.hid (own_holds hown3)
  have HOWN := Lib.hid hown3
  have HW2 := Lib.hid hw2
  have HRR : Hid (∀ W, OrdW g w2 W → RefIs W pv B) := fun W h => HR.out.below (hw2.trans (h.1.below (by rintro k rfl; exact hg) hw2.size))
  have HGG := Lib.hid hg
  have HE0 : Hid (B.Eqv xs xs) := BaseF.Eqv.refl xs
  have HT0 : Hid (true = false → B.okTo xs n) := fun h => (by cases h)
  have HL0 := Lib.hid hl0
  have HO0 : Hid (OrdW g w2 w2) := OrdW.refl _ _
  clear hown2 hown3 hg2 hat2 hown0 hrd hone hw2 hl0 hh hg
  go_wp2
  go_loopw [6] (fun s6 wr => ∃ (tb : Bool) (l : List Int), s6 = .bool tb ∧ Hid (l.length = n) ∧ Hid (B.Eqv xs l) ∧ Hid (HoldsR wr g 0 l) ∧ Hid (OrdW g w2 wr) ∧ Hid (tb = false → B.okTo l n)) (fun s6 wr => 2 * B.inv (readL wr g n) + (match s6 with | .bool true => 1 | _ => 0))
  case atStart => exact ⟨true, xs, rfl, HL0, HE0, HH0, HO0, HT0⟩
  case round =>
   obtain ⟨tb, l, rfl, HL, HE, HH, HO, HT⟩ := hrel
   cases tb with
   | true =>
    have HRL := Lib.hid (readL_of HH.out HL.out)
    go_wp2
    go_loopw [6, 7] (fun s6 i wr2 => ∃ (sw : Bool) (k : Nat) (l2 : List Int), s6 = .bool sw ∧ i = .int .i64 k ∧ (k + 1 ≤ n ∨ k = 0) ∧ Hid (l2.length = n) ∧ Hid (B.Eqv xs l2) ∧ Hid (HoldsR wr2 g 0 l2) ∧ Hid (OrdW g w2 wr2) ∧ Hid (sw = false → l2 = l ∧ B.okTo l (k + 1)) ∧ Hid (sw = true → B.inv l2 < B.inv l)) (fun _ i _ => n - (intOf i).toNat)
    case atStart => exact ⟨false, 0, l, rfl, rfl, .inr rfl, HL, HE, HH, HO, (fun _ => ⟨rfl, fun i x y h => absurd h (by omega)⟩), fun h => (by cases h)⟩
    case round =>
     obtain ⟨sw, k, l2, rfl, rfl, hk, HL2, HE2, HH2, HO2, HS2, HU2⟩ := hrel
     by_cases hlt : k + 1 < n
     ·obtain ⟨G, hG⟩ : ∃ G : Nat → Int, ∀ i, G i = l2.getD i 0 := ⟨fun i => _, fun _ => rfl⟩
      have hat : ∀ i, i < n → l2[i]? = some (G i) := fun i hi => by
       have h1 := List.getElem?_eq_getElem (l := l2) (i := i) (by rw [HL2.out]; exact hi)
       rw [hG, List.getD_eq_getElem?_getD, h1]
       rfl
      have hcw : ∀ i, i < n → wr.cell? ⟨g, i, none⟩ = some (.int .i32 (G i)) := fun i hi => by have := (HH2.out i _ (hat i hi)).1; rwa [Nat.zero_add] at this
      have hfw : ∀ i, i < n → wr.frozen? ⟨g, i, none⟩ = false := fun i hi => by have := (HH2.out i _ (hat i hi)).2; rwa [Nat.zero_add] at this
      have hgx := Lib.hid (hat k (by omega))
      have hgy := Lib.hid (hat (k + 1) hlt)
      have C1 := rclass_is (HRR.out wr HO2.out) (G (k + 1))
      have C2 := rclass_is (HRR.out wr HO2.out) (G k)
      obtain ⟨cl, hcl⟩ : ∃ cl, cl = B.cls (G (k + 1)) := ⟨_, rfl⟩
      obtain ⟨cx, hcx⟩ : ∃ cx, cx = B.cls (G k) := ⟨_, rfl⟩
      rw [← hcl] at C1
      rw [← hcx] at C2
      have HCL := Lib.hid hcl
      have HCX := Lib.hid hcx
      have HNX : Hid (¬ (0 < cl ∧ cl < cx) → sw = false → l2 = l ∧ B.okTo l (k + 1 + 1)) := fun hno h => by
       obtain ⟨h1, h2⟩ := HS2.out h
       refine ⟨h1, fun i x y hi hx hy => ?_⟩
       by_cases hik : i + 1 < k + 1
       ·exact h2 i x y hik hx hy
       ·have : i = k := by omega
        subst this
        have e1 := hgx.out
        have e2 := hgy.out
        rw [h1, hx] at e1
        rw [h1, hy] at e2
        injection e1 with e1
        injection e2 with e2
        rw [e1, e2, ← HCL.out, ← HCX.out]
        exact hno
      clear hG hat hcl hcx
      have hki : (k : Int) + 1 < (n : Int) := by omega
      have hkn : (k : Int) < (n : Int) := by omega
      have c0k := hcw k (by omega)
      have c1k := hcw (k + 1) hlt
      have f0k := hfw k (by omega)
      have f1k := hfw (k + 1) hlt
      go_wp2_with fail
      refine C1.mono ?_
      rintro e w1 ⟨rfl, rfl⟩
      clear C1
      by_cases h1 : 0 < cl
      ·go_wp2_with fail
       refine C2.mono ?_
       rintro e w1 ⟨rfl, rfl⟩
       clear C2
       by_cases h2 : cl < cx
       ·obtain ⟨hi1, he1⟩ := swp_inv hgx.out hgy.out (B := B) ⟨by rw [← HCL.out]; exact h1, by rw [← HCL.out, ← HCX.out]; exact h2⟩
        have hsl := swp_len l2 k
        have hss := swp_set hgx.out hgy.out
        have hHN : Hid (HoldsR ((wr.setCell ⟨g, k, none⟩ (.int .i32 (G (k + 1)))).setCell ⟨g, k + 1, none⟩ (.int .i32 (G k))) g 0 (swp l2 k)) := by
         have h5 := holdsR_set (holdsR_set HH2.out k (G (k + 1)) (by rw [HL2.out]; omega)) (k + 1) (G k) (by rw [List.length_set, HL2.out]; exact hlt)
         rw [Nat.zero_add, Nat.zero_add, ← hss] at h5
         exact h5
        have hON : Hid (OrdW g w2 ((wr.setCell ⟨g, k, none⟩ (.int .i32 (G (k + 1)))).setCell ⟨g, k + 1, none⟩ (.int .i32 (G k)))) := (HO2.out.trans (OrdW.setCell _ _ _)).trans (OrdW.setCell _ _ _)
        have hEN : Hid (B.Eqv xs (swp l2 k)) := HE2.out.trans he1
        have hLN : Hid ((swp l2 k).length = n) := hsl.trans HL2.out
        have hIN : Hid (B.inv (swp l2 k) < B.inv l) := by
         show _ < _
         cases sw with
         | true => have := HU2.out rfl; omega
         | false => rw [(HS2.out rfl).1] at hi1 ⊢; exact hi1
        clear hi1 he1 hsl hss
        go_wp2
        go_roundw
        case rel => exact ⟨true, k + 1, swp l2 k, rfl, by go_num, .inl (by omega), hLN, hEN, hHN, hON, (fun h => by cases h), fun _ => hIN.out⟩
        case measure => simp [intOf]; omega
       ·have hS := Lib.hid (HNX.out (fun h => h2 h.2))
        go_wp2
        go_roundw
        case rel => exact ⟨sw, k + 1, l2, rfl, by go_num, .inl (by omega), HL2, HE2, HH2, HO2, hS, HU2⟩
        case measure => simp [intOf]; omega
      ·have hS := Lib.hid (HNX.out (fun h => h1 h.1))
       clear C2
       go_wp2
       go_roundw
       case rel => exact ⟨sw, k + 1, l2, rfl, by go_num, .inl (by omega), HL2, HE2, HH2, HO2, hS, HU2⟩
       case measure => simp [intOf]; omega
     ·have hki : ¬ (k : Int) + 1 < (n : Int) := by omega
      have HT2 : Hid (sw = false → B.okTo l2 n) := fun h => by
       obtain ⟨h1, h2⟩ := HS2.out h
       rw [h1]
       intro i x y hi hx hy
       exact h2 i x y (by omega) hx hy
      have HRL2 := Lib.hid (readL_of HH2.out HL2.out)
      go_wp2
      go_roundw
      case rel => exact ⟨sw, l2, rfl, HL2, HE2, HH2, HO2, HT2⟩
      case measure =>
       rw [HRL2.out, HRL.out]
       cases sw with
       | true => have := HU2.out rfl; simp only []; omega
       | false => rw [(HS2.out rfl).1]; simp only []; omega
   | false =>
    have HF : Hid (FreshR w (B.ord xs) (.returned (.slice (some ⟨g, 0, none⟩) n c2)) wr) := by
     have h1 : B.ord xs = l := by
      rw [HE.out.ord]
      exact ord_srt (okTo_srt (by rw [HL.out]; exact HT.out rfl))
     show FreshR _ _ _ _
     rw [h1]
     refine ⟨some ⟨g, 0, none⟩, c2, by rw [HL.out], own_order HOWN.out HO.out (by rw [HL.out]; exact HL0.out.symm) HH.out, HW2.out.trans (HO.out.1.below (by rintro k rfl; exact HGG.out) HW2.out.size)⟩
    go_wp2
    go_returns
    exact HF.out
end
end Go.Proofs.YtajkjaciooijjaaGreatDoor
end
