/- decomp.order: marks where they belong, in place: the code. decomp.Full: the code. decomp.Order, and what Full's characters are. The example of the chapter on parting: true. The document's Full: the code. -/
import Derived.Test.YtajkjaciooijjaaGreatDoorH02
import Derived.Test.YtajkjaciooijjaaGreatDoorH05
import Derived.Test.YtajkjaciooijjaaGreatDoorH09
import Derived.Test.YtajkjaciooijjaaGreatDoorH04
import Derived.Test.YtajkjaciooijjaaGreatDoorH07
import Derived.Test.YtajkjaciooijjaaGreatDoorH06
import Derived.Test.YtajkjaciooijjaaGreatDoorH13
import Derived.Test.YtajkjaciooijjaaGreatDoorH14
import Derived.Test.YtajkjaciooijjaaGreatDoorH15
import Derived.Test.YtajkjaciooijjaaGreatDoorH18
import Derived.Test.YtajkjaciooijjaaGreatDoorH08
import Derived.Test.YtajkjaciooijjaaGreatDoorH19
import Derived.Test.YtajkjaciooijjaaGreatDoorH22
import Derived.Test.YtajkjaciooijjaaGreatDoorH25
import Derived.Test.YtajkjaciooijjaaGreatDoorH27
import Derived.Test.YtajkjaciooijjaaGreatDoorH28
import Derived.Test.YtajkjaciooijjaaGreatDoorH38
import Derived.Test.YtajkjaciooijjaaGreatDoorH12
import Derived.Test.YtajkjaciooijjaaGreatDoorH32
import Derived.Test.YtajkjaciooijjaaGreatDoorH35
import Derived.Test.YtajkjaciooijjaaGreatDoorH39
import Derived.Test.YtajkjaciooijjaaGreatDoorH01
import Derived.Test.YtajkjaciooijjaaGreatDoorH10
import Derived.Test.YtajkjaciooijjaaGreatDoorH30
import Derived.Test.YtajkjaciooijjaaGreatDoorH40
import Derived.Test.YtajkjaciooijjaaGreatDoorH41
section
set_option linter.unusedSimpArgs false
set_option linter.unusedVariables false
namespace Go.Proofs.YtajkjaciooijjaaGreatDoor
open Go.RowKit Go.Sort
section
variable {w0 : World} {q : Nat} {p : Option Addr} {B : BaseF}
theorem ord_mem {l : List Int} {x : Int} (h : x ∈ B.ordR l) : x ∈ l := by
 refine ((eqv_ord (B := B) l).mem x).2 ?_
 unfold BaseF.ord
 exact List.mem_reverse.2 h
set_option maxRecDepth 20000 in
set_option maxHeartbeats 4000000 in
theorem order_any (HB : Hid (∀ W, Below q w0 W → BaseIs W (.pointer p) B)) (g off cap n : Nat) (xs : List Int) (hn : xs.length = n) (hx : ∀ x ∈ xs, R32 x) (w : World) (hb : Below q w0 w) (hq : q ≤ w.heap.size) (hg : q ≤ g) (hgl : g < w.heap.size) (hH : HoldsR w g off xs) (hn2 : n ≤ 1000000) :
  Calls Tryz.prog 33 #[.pointer p, .slice (some ⟨g, off, none⟩) n cap] w fun e w' => (∃ v, e = .returned v) ∧ HoldsR w' g off (B.ord xs) ∧ OrdW g w w' := by
 have HN := Lib.hid hn
 have HX := Lib.hid hx
 have CB : Hid (∀ W, OrdW g w W → Below q w0 W) := fun W h => hb.trans (h.1.below (by rintro k rfl; exact hg) hq)
 have HS0 : Hid (HoldsR w g off ((B.ordR (xs.take 0)).reverse ++ xs.drop 0)) := hH
 clear hn hx hb hH hq hg
 go_enter Tryz.func33, Tryz.ntmps33
 go_wp2
 go_loopw [10] (fun i wr => ∃ k : Nat, k ≤ n ∧ i = .int .i64 k ∧ Hid (HoldsR wr g off ((B.ordR (xs.take k)).reverse ++ xs.drop k)) ∧ Hid (OrdW g w wr)) (fun i _ => n - (intOf i).toNat)
 case atStart => exact ⟨0, Nat.zero_le _, rfl, HS0, OrdW.refl _ _⟩
 case round =>
  obtain ⟨k, hk, rfl, HS, HW⟩ := hrel
  by_cases hlt : k < n
  ·obtain ⟨r, hr⟩ : ∃ r, xs[k]? = some r := ⟨_, List.getElem?_eq_getElem (by rw [HN.out]; exact hlt)⟩
   obtain ⟨acc, hacc⟩ : ∃ acc, acc = B.ordR (xs.take k) := ⟨_, rfl⟩
   obtain ⟨rest, hrest⟩ : ∃ rest, rest = xs.drop (k + 1) := ⟨_, rfl⟩
   have hdr : xs.drop k = r :: rest := by
    rw [hrest]
    have hkl := (List.getElem?_eq_some_iff.1 hr).1
    rw [List.drop_eq_getElem_cons hkl, (List.getElem?_eq_some_iff.1 hr).2]
   have hal : acc.length = k := by rw [hacc, ordR_len, List.length_take]; have := HN.out; omega
   have HNX : Hid (B.ordR (xs.take (k + 1)) = B.ins acc r) := by show _ = _; rw [ord_take_snoc hr, hacc]
   have HR1 : Hid (xs.drop (k + 1) = rest) := hrest.symm
   have hrR : R32 r := HX.out r (List.mem_of_getElem? hr)
   have HAR : Hid (∀ x ∈ acc, R32 x) := fun x hx => HX.out x (List.mem_of_mem_take (ord_mem (B := B) (by rw [← hacc]; exact hx)))
   have HM : Hid (HoldsR wr g off (midL acc r rest)) := by
    have := HS.out
    rw [← hacc, hdr] at this
    exact this
   have c0 := (HM.out k r (by rw [← hal]; exact midL_at acc r rest)).1
   have C1 := class_is (HB.out wr (CB.out wr HW.out)) r hrR
   have hki : (k : Int) < (n : Int) := by omega
   have HAL := Lib.hid hal
   obtain ⟨cr, hcr⟩ : ∃ cr, cr = B.cls r := ⟨_, rfl⟩
   rw [← hcr] at C1
   have HCR := Lib.hid hcr
   clear hr hacc hrest hdr hal hcr hrR HS
   go_wp2_with fail
   go_step3
   go_wp2_with fail
   refine C1.mono ?_
   rintro e w1 ⟨rfl, hb1⟩
   have hW1 : Hid (OrdW g w w1) := HW.out.trans (.of_below hb1)
   have hM1 : Hid (HoldsR w1 g off (midL acc r rest)) := holdsR_wrote HM.out hb1
   clear C1 c0 hb1
   by_cases hc0 : cr = 0
   ·have hcz : (cr == 0) = true := by simpa using hc0
    have HN1 : Hid (HoldsR w1 g off ((B.ordR (xs.take (k + 1))).reverse ++ xs.drop (k + 1))) := by
     show HoldsR _ _ _ _
     have h1 := hM1.out
     rw [HNX.out, HR1.out, ins_here (fun a t _ => .inl (by rw [← HCR.out]; exact hc0))]
     simpa [midL] using h1
    clear hc0
    go_wp2
    (first | rw [Exit.noGoto_exit] | simp only [Exit.noGoto])
    go_wp2
    go_roundw
    case rel => exact ⟨k + 1, by omega, by go_num, HN1, hW1⟩
    case measure => simp [intOf]; omega
   ·have hcz : (cr == 0) = false := by simpa using hc0
    have HC0 : Hid (B.cls r ≠ 0) := by show _ ≠ _; rw [← HCR.out]; exact hc0
    clear hc0
    go_wp2
    go_step3
    go_wp2
    go_loopw [7] (fun j w2 => ∃ (Q A : List Int), Hid (acc = Q ++ A) ∧ j = .int .i64 A.length ∧ A.length ≤ k ∧ Hid (∀ x ∈ Q, B.cls r < B.cls x) ∧ Hid (HoldsR w2 g off (midL A r (Q.reverse ++ rest))) ∧ Hid (OrdW g w w2)) (fun j _ => (intOf j).toNat)
    case atStart => exact ⟨[], acc, rfl, by rw [HAL.out], by rw [HAL.out]; exact Nat.le_refl _, fun x h => (by cases h), hM1, hW1⟩
    case round =>
     obtain ⟨Q, A, HQ, rfl, hAk, HLT, HMA, HWA⟩ := hrel
     have HEND : Hid ((∀ a t, A = a :: t → B.cls r = 0 ∨ B.cls a ≤ B.cls r) → ∀ W, HoldsR W g off (midL A r (Q.reverse ++ rest)) → HoldsR W g off ((B.ordR (xs.take (k + 1))).reverse ++ xs.drop (k + 1))) := fun h W hW => by
      rw [HNX.out, HR1.out, HQ.out, ins_past HC0.out A HLT.out, ins_here h]
      simpa [midL] using hW
     have HML : Hid ((midL A r (Q.reverse ++ rest)).length = n) := by
      show _ = _
      have h1 := HAL.out
      have h2 := congrArg List.length HR1.out
      have h3 := HN.out
      rw [HQ.out, List.length_append] at h1
      rw [List.length_drop] at h2
      rw [midL_len, List.length_append, List.length_reverse]
      omega
     cases A with
     | nil =>
      have HN1 : Hid (HoldsR wr g off ((B.ordR (xs.take (k + 1))).reverse ++ xs.drop (k + 1))) := HEND.out (fun a t h => (by cases h)) _ HMA.out
      simp only [List.length_nil] at hAk ⊢
      go_wp2
      (try first | rw [Exit.noGoto_exit] | simp only [Exit.noGoto])
      go_wp2
      go_roundw
      case rel => exact ⟨k + 1, by omega, by go_num, HN1, HWA⟩
      case measure => simp [intOf]; omega
     | cons a A =>
      obtain ⟨t, ht⟩ : ∃ t, t = A.length := ⟨_, rfl⟩
      have hl1 : (a :: A).length = t + 1 := by rw [ht]; rfl
      rw [hl1] at hAk ⊢
      obtain ⟨G, hG⟩ : ∃ G : Nat → Int, ∀ i, G i = (midL (a :: A) r (Q.reverse ++ rest)).getD i 0 := ⟨fun i => _, fun _ => rfl⟩
      have hGa : G t = a := by rw [hG, List.getD_eq_getElem?_getD, ht, midL_ahead]; rfl
      have hGr : G (t + 1) = r := by rw [hG, List.getD_eq_getElem?_getD, ← hl1, midL_at]; rfl
      have FAM : ∀ W, HoldsR W g off (midL (a :: A) r (Q.reverse ++ rest)) → (∀ i, i < n → W.cell? ⟨g, off + i, none⟩ = some (.int .i32 (G i))) ∧ ∀ i, i < n → W.frozen? ⟨g, off + i, none⟩ = false := fun W hW => by
       have key : ∀ i, i < n → W.cell? ⟨g, off + i, none⟩ = some (.int .i32 (G i)) ∧ W.frozen? ⟨g, off + i, none⟩ = false := fun i hi => by
        have h1 := List.getElem?_eq_getElem (l := midL (a :: A) r (Q.reverse ++ rest)) (i := i) (by rw [HML.out]; exact hi)
        rw [hG, List.getD_eq_getElem?_getD, h1]
        exact hW i _ h1
       exact ⟨fun i hi => (key i hi).1, fun i hi => (key i hi).2⟩
      obtain ⟨hcw, hfw⟩ := FAM _ HMA.out
      have HF := Lib.hid FAM
      have HT := Lib.hid ht
      have haR : R32 (G t) := by rw [hGa]; exact HAR.out a (by rw [HQ.out]; simp)
      have C2 := class_is (HB.out wr (CB.out wr HWA.out)) (G t) haR
      have HGA := Lib.hid hGa
      have HGR := Lib.hid hGr
      obtain ⟨ca, hca⟩ : ∃ ca, ca = B.cls (G t) := ⟨_, rfl⟩
      rw [← hca] at C2
      have HCA := Lib.hid hca
      have htn : t + 1 < n := by omega
      clear hG hGa hGr FAM ht hl1 haR hca
      go_wp2_with fail
      refine C2.mono ?_
      rintro e w3 ⟨rfl, hb3⟩
      have hW3 : Hid (OrdW g w w3) := HWA.out.trans (.of_below hb3)
      have hM3 : Hid (HoldsR w3 g off (midL (a :: A) r (Q.reverse ++ rest))) := holdsR_wrote HMA.out hb3
      obtain ⟨hcw, hfw⟩ := HF.out _ hM3.out
      clear C2 hb3
      by_cases hle : ca ≤ cr
      ·have HN1 : Hid (HoldsR w3 g off ((B.ordR (xs.take (k + 1))).reverse ++ xs.drop (k + 1))) := HEND.out (fun a' t' h => by injection h with h1 _; subst h1; rw [← HGA.out, ← HCA.out, ← HCR.out]; exact .inr hle) _ hM3.out
       clear hcw hfw
       go_wp2
       (try first | rw [Exit.noGoto_exit] | simp only [Exit.noGoto])
       go_wp2
       go_roundw
       case rel => exact ⟨k + 1, by omega, by go_num, HN1, hW3⟩
       case measure => simp [intOf]; omega
      ·have hdr : ∀ X : World, Below X.heap.size X X.drew := fun X => Drew.to ⟨1, rfl⟩
       have hSW : Hid (HoldsR ((w3.setCell ⟨g, off + t, none⟩ (.int .i32 (G (t + 1)))).setCell ⟨g, off + (t + 1), none⟩ (.int .i32 (G t))).drew g off (midL A r ((Q ++ [a]).reverse ++ rest))) := by
        show HoldsR _ _ _ _
        have h1 := holdsR_set (holdsR_set hM3.out t (G (t + 1)) (by rw [HML.out]; omega)) (t + 1) (G t) (by rw [List.length_set, HML.out]; omega)
        have h2 : ((midL (a :: A) r (Q.reverse ++ rest)).set t (G (t + 1))).set (t + 1) (G t) = midL A r ((Q ++ [a]).reverse ++ rest) := by
         rw [HGR.out, HGA.out, HT.out, midL_swap]
         simp
        rw [h2] at h1
        exact holdsR_wrote h1 (hdr _)
       have hWW : Hid (OrdW g w ((w3.setCell ⟨g, off + t, none⟩ (.int .i32 (G (t + 1)))).setCell ⟨g, off + (t + 1), none⟩ (.int .i32 (G t))).drew) :=
        ((hW3.out.trans (OrdW.setCell _ _ _)).trans (OrdW.setCell _ _ _)).trans (.of_below (hdr _))
       have hQA : Hid (acc = (Q ++ [a]) ++ A) := by show _ = _; rw [HQ.out]; simp
       have hQL : Hid (∀ x ∈ Q ++ [a], B.cls r < B.cls x) := fun x hx => by
        rcases List.mem_append.1 hx with hx | hx
        ·exact HLT.out x hx
        ·rw [List.mem_singleton] at hx
         rw [hx, ← HGA.out, ← HCA.out, ← HCR.out]
         omega
       clear hdr
       go_wp2
       go_region
       all_goals go_wp2
       go_roundw
       case rel => exact ⟨Q ++ [a], A, hQA, by rw [HT.out], by have := HT.out; omega, hQL, hSW, hWW⟩
       case measure => simp [intOf]
  ·obtain rfl : k = n := by omega
   have hki : (k : Int) ≤ (k : Int) := Int.le_refl _
   go_wp2
   go_end0
   have h1 := HS.out
   rw [List.take_of_length_le (by rw [HN.out]; exact Nat.le_refl _), List.drop_eq_nil_of_le (by rw [HN.out]; exact Nat.le_refl _), List.append_nil] at h1
   exact ⟨⟨_, rfl⟩, h1, HW.out⟩
end
end Go.Proofs.YtajkjaciooijjaaGreatDoor
end

section
set_option linter.unusedSimpArgs false
set_option linter.unusedVariables false
namespace Go.Proofs.YtajkjaciooijjaaGreatDoor
open Go.RowKit
theorem flat_bd {f : Int → List Int} (h : ∀ x, (f x).length ≤ 54) : ∀ l : List Int, (l.flatMap f).length ≤ 54 * l.length
 | [] => by simp
 | a :: t => by
  have := flat_bd h t
  have := h a
  simp only [List.flatMap_cons, List.length_append, List.length_cons]
  omega
section
variable {w : World} {p : Option Addr} {B : BaseF}
set_option maxRecDepth 20000 in
theorem order_none (c : Nat) (w : World) : Calls Tryz.prog 33 #[.pointer p, .slice none 0 c] w fun e w' => (∃ v, e = .returned v) ∧ w = w' := by
 go_enter Tryz.func33, Tryz.ntmps33
 go_wp2
 go_loopw [10] (fun i wr => i = .int .i64 0 ∧ w = wr) (fun i _ => 0)
 case atStart => exact ⟨rfl, rfl⟩
 case round =>
  obtain ⟨rfl, rfl⟩ := hrel
  go_wp2
  go_end0
  exact ⟨⟨_, rfl⟩, rfl⟩
theorem order_own {base : Nat} (hB : BaseIs w (.pointer p) B) {W : World} (hb : Below w.heap.size w W) {A : Option Addr} {xs : List Int} {cp : Nat} (hbase : base = w.heap.size) (h : W.ownsRow base 21 1 (.slice A xs.length cp) xs.length (Rs xs)) (hx : ∀ x ∈ xs, R32 x) (hn : xs.length ≤ 1000000) :
  Calls Tryz.prog 33 #[.pointer p, .slice A xs.length cp] W fun e w' => (∃ v, e = .returned v) ∧ w'.ownsRow base 21 1 (.slice A (B.ord xs).length cp) (B.ord xs).length (Rs (B.ord xs)) ∧ Below w.heap.size w w' := by
 subst hbase
 rcases h.2 with ⟨hv, h0⟩ | ⟨g, cap, cur, hv, hg, hh, _⟩
 ·obtain rfl := List.length_eq_zero_iff.1 h0
  injection hv with e1 _ e3
  subst e1
  exact (order_none cp W).mono fun e w' ⟨h1, h2⟩ => by
   subst h2
   exact ⟨h1, h, hb⟩
 ·injection hv with e1 _ e3
  subst e1 e3
  refine (order_any (w0 := w) (q := w.heap.size) (B := B) (fun W hW => hB.below hW) g 0 cp xs.length xs rfl hx W hb hb.size hg (box_lt hh) (own_holds h) hn).mono fun e w' ⟨h1, h2, h3⟩ => ⟨h1, ?_, hb.trans (h3.1.below (by rintro k rfl; exact hg) hb.size)⟩
  exact own_order h h3 (ord_len xs) h2
set_option maxRecDepth 20000 in
set_option maxHeartbeats 4000000 in
theorem full_any (hB : BaseIs w (.pointer p) B) (hk : Kinds w) (hbd : BaseBd B) (hoR : ∀ c r, R32 r → ∀ y ∈ B.one c r, R32 y) (c : Bool) (A : Option Addr) (n cp : Nat) (xs : List Int) (hrd : Rd w A n (Rs xs)) (hn : xs.length = n) (hx : ∀ x ∈ xs, R32 x) (hn2 : n ≤ 3300) :
  Calls Tryz.prog 17 #[.pointer p, .bool c, .slice A n cp] w (FreshR w (B.full c xs)) := by
 have HN := Lib.hid hn
 have HX := Lib.hid hx
 have HB := Lib.hid hB
 have HK := Lib.hid hk
 have HRD := Lib.hid hrd
 have HBD := Lib.hid hbd
 have HOR := Lib.hid hoR
 clear hn hx hB hk hrd hbd hoR
 go_enter Tryz.func17, Tryz.ntmps17
 go_wp2
 go_loopw [7, 12] (fun s7 i wr => ∃ (k : Nat) (out : List Int) (A9 : Option Addr) (c9 : Nat), k ≤ n ∧ i = .int .i64 k ∧ s7 = .slice A9 out.length c9 ∧ Hid (out = (xs.take k).flatMap (B.one c)) ∧ Hid (wr.ownsRow w.heap.size 21 1 (.slice A9 out.length c9) out.length (Rs out)) ∧ Hid (Below w.heap.size w wr)) (fun _ i _ => n - (intOf i).toNat)
 case atStart => exact ⟨0, [], none, 0, Nat.zero_le _, rfl, rfl, rfl, World.ownsRow_nil _ _ _ _, Below.refl _ _⟩
 case round =>
  obtain ⟨k, out, A9, c9, hk, rfl, rfl, HOUT, HOWN, HBW⟩ := hrel
  have hol : out.length ≤ 178200 := by
   have h1 := flat_bd (f := B.one c) (fun x => HBD.out.len c x) (xs.take k)
   rw [List.length_take] at h1
   rw [HOUT.out]
   omega
  by_cases hlt : k < n
  ·obtain ⟨y, hy⟩ : ∃ y, xs[k]? = some y := ⟨_, List.getElem?_eq_getElem (by rw [HN.out]; exact hlt)⟩
   have REC := one_any (HB.out.below HBW.out) (HK.out.below' HBW.out) HBD.out c y (HX.out y (List.mem_of_getElem? hy))
   have hly : (B.one c y).length ≤ 54 := HBD.out.len c y
   obtain ⟨b, off, rfl, _, hcx⟩ := (HRD.out.below HBW.out).at_ (by omega)
   have c0 := hcx k (.int .i32 y) (by simp [Rs, hy])
   have hki : (k : Int) < (n : Int) := by omega
   have HFT := Lib.hid (flat_take (f := B.one c) hy)
   obtain ⟨ys, hys⟩ : ∃ ys, ys = B.one c y := ⟨_, rfl⟩
   rw [← hys] at REC hly
   have HYS := Lib.hid hys
   clear hy hcx hys
   go_wp2_with fail
   refine REC.mono ?_
   rintro e w2 ⟨A2, c2, rfl, hown2, hb2⟩
   obtain ⟨A3, c3, hv3, _, _, hrd2⟩ := Rd.of_own hown2
   injection hv3 with e1 _ e3
   subst e1 e3
   have hownD := own_below HOWN.out hb2
   have hbW := below_then HBW.out hb2
   have hbs := hbW.size
   have hone := Rs_one ys
   clear hown2 REC c0 hb2
   go_wp2_with (at_builtin; refine wpList_app runeElem _ rfl _ _ rfl w.heap.size rfl hownD rfl hrd2 hone (by omega) (by omega) hbs ?_)
   intro A4 c4 w4 hown4 hg4 hat4
   have hb4 := below_app hbW hbs hownD hg4
   have HO : Hid (out ++ ys = (xs.take (k + 1)).flatMap (B.one c)) := by show _ = _; rw [HFT.out, HOUT.out, HYS.out]
   have hln : out.length + ys.length = (out ++ ys).length := by simp
   have HN2 : Hid (w4.ownsRow w.heap.size 21 1 (.slice A4 (out ++ ys).length c4) (out ++ ys).length (Rs (out ++ ys))) := by
    show w4.ownsRow _ _ _ _ _ _
    rw [← hln]
    simpa [Rs] using hown4
   have HB4 := Lib.hid hb4
   rw [hln]
   obtain ⟨o2, ho2⟩ : ∃ o2, o2 = out ++ ys := ⟨_, rfl⟩
   rw [← ho2] at HO HN2 ⊢
   clear hown4 hg4 hat4 hownD hbW hrd2 hb4 hln hone ho2
   go_wp2
   go_roundw
   case rel => exact ⟨k + 1, o2, A4, c4, by omega, by go_num, rfl, HO, HN2, HB4⟩
   case measure => simp [intOf]; omega
  ·obtain rfl : k = n := by omega
   have hki : (k : Int) ≤ (k : Int) := Int.le_refl _
   have HAL : Hid (out = B.all c xs) := by
    have h1 := HOUT.out
    rw [List.take_of_length_le (by rw [HN.out]; exact Nat.le_refl _)] at h1
    exact h1
   have OR := order_own HB.out HBW.out rfl HOWN.out (fun x hx => by
    rw [HAL.out] at hx
    obtain ⟨r, hr, hxr⟩ := List.mem_flatMap.1 hx
    exact HOR.out c r (HX.out r hr) x hxr) (by omega)
   have HFU : Hid (∀ e w', FreshR w (B.ord out) e w' → FreshR w (B.full c xs) e w') := fun e w' h => by
    unfold BaseF.full
    rw [← HAL.out]
    exact h
   have HOL := Lib.hid (ord_len (B := B) out)
   go_wp2_with fail
   refine OR.mono ?_
   rintro e w5 ⟨⟨v, rfl⟩, hown5, hb5⟩
   rw [HOL.out] at hown5
   have HF : Hid (FreshR w (B.full c xs) (.returned (.slice A9 out.length c9)) w5) := HFU.out _ _ ⟨A9, c9, by rw [HOL.out], by rw [HOL.out]; exact hown5, hb5⟩
   clear OR hown5 hb5
   go_wp2
   go_returns
   exact HF.out
end
end Go.Proofs.YtajkjaciooijjaaGreatDoor
end

section
set_option linter.unusedSimpArgs false
set_option linter.unusedVariables false
namespace Go.Proofs.YtajkjaciooijjaaGreatDoor
open Go.RowKit
section
variable {w : World} {p : Option Addr} {B : BaseF}
theorem one_R (hbd : BaseBd B) (c : Bool) (r : Int) : R32 r → ∀ y ∈ B.one c r, R32 y := by
 induction r using B.wf.induction with
 | _ r ih =>
 intro hr y hy
 by_cases hp : B.parts c r = []
 ·rw [B.one_none hp, List.mem_singleton] at hy
  rw [hy]
  exact hr
 ·rw [B.one_some hp] at hy
  obtain ⟨x, hx, hxy⟩ := List.mem_flatMap.1 hy
  have hd := parts_mem hx
  exact ih x hd (hbd.dec r x hd) y hxy
theorem full_R (hbd : BaseBd B) (c : Bool) {l : List Int} (hl : ∀ x ∈ l, R32 x) : ∀ y ∈ B.full c l, R32 y := fun y hy => by
 unfold BaseF.full at hy
 have h1 := ((eqv_ord (B := B) (B.all c l)).mem y).2 hy
 obtain ⟨x, hx, hxy⟩ := List.mem_flatMap.1 h1
 exact one_R hbd c x (hl x hx) y hxy
theorem full_len (hbd : BaseBd B) (c : Bool) (l : List Int) : (B.full c l).length ≤ 54 * l.length := by
 unfold BaseF.full
 rw [ord_len]
 exact flat_bd (fun x => hbd.len c x) l
set_option maxRecDepth 20000 in
set_option maxHeartbeats 2000000 in
theorem Order_any (hB : BaseIs w (.pointer p) B) (A : Option Addr) (n cp : Nat) (xs : List Int) (hrd : Rd w A n (Rs xs)) (hnil : A = none → n = 0 ∧ cp = 0) (hn : xs.length = n) (hx : ∀ x ∈ xs, R32 x) (hn2 : n ≤ 1000000) :
  Calls Tryz.prog 19 #[.pointer p, .slice A n cp] w (FreshR w (B.ord xs)) := by
 have CL := rclone_any A n cp xs w hrd hnil hn2
 have HN := Lib.hid hn
 have HX := Lib.hid hx
 clear hrd hnil hn hx
 go_enter Tryz.func19, Tryz.ntmps19
 go_wp2_with fail
 refine CL.mono ?_
 rintro e w1 ⟨A2, c2, rfl, hown, hb1⟩
 have hown2 : w1.ownsRow w.heap.size 21 1 (.slice A2 xs.length c2) xs.length (Rs xs) := by rw [HN.out]; exact hown
 have OR := order_own hB hb1 rfl hown2 HX.out (by rw [HN.out]; exact hn2)
 rw [HN.out] at OR
 have HOL := Lib.hid (ord_len (B := B) xs)
 clear CL hown hown2 hb1
 go_wp2_with fail
 refine OR.mono ?_
 rintro e w5 ⟨⟨v, rfl⟩, hown5, hb5⟩
 have HF : Hid (FreshR w (B.ord xs) (.returned (.slice A2 n c2)) w5) := by
  have h : n = (B.ord xs).length := by rw [HOL.out]; exact HN.out.symm
  show FreshR _ _ _ _
  rw [h]
  exact ⟨A2, c2, rfl, hown5, hb5⟩
 clear OR hown5 hb5
 go_wp2
 go_returns
 exact HF.out
end
end Go.Proofs.YtajkjaciooijjaaGreatDoor
end

section
set_option linter.unusedSimpArgs false
set_option linter.unusedVariables false
namespace Go.Proofs.YtajkjaciooijjaaGreatDoor
open Go.RowKit Go.Lib Go.Maps
def aw9S : ByteArray := ⟨#[48, 48, 67, 48, 59, 65, 59, 76, 117, 59, 48, 59, 59, 48, 48, 52, 49, 32, 48, 51, 48, 48, 10, 48, 51, 48, 48, 59, 77, 59, 77, 110, 59, 50, 51, 48, 59, 59, 10, 48, 51, 50, 51, 59, 77, 59, 77, 110, 59, 50, 50, 48, 59, 59]⟩
def aw9R : List RowS := [⟨192, 192, [65], [76, 117], 0, [], [65, 768]⟩, ⟨768, 768, [77], [77, 110], 230, [], []⟩, ⟨803, 803, [77], [77, 110], 220, [], []⟩]
theorem aw9_rows : rowsS (bs aw9S) = (aw9R, 0, 0) := by kernel_rfl
theorem aw9_ok : newB aw9R [] 2 = true := by kernel_rfl
theorem aw9_g : RowsG aw9R := by have := rows_g (bs aw9S); rw [aw9_rows] at this; exact this
theorem aw9_full : (baseF aw9_g (newB_ok aw9_ok)).full false [192, 803] = [65, 803, 768] := by
 rw [full_eq (n := 1) (fun r hr => by
  simp only [List.mem_cons, List.not_mem_nil, or_false] at hr
  rcases hr with rfl | rfl
  ·show endsN (fun x => (decH (prtL aw9R) x).2) 1 192 = true
   kernel_rfl
  ·show endsN (fun x => (decH (prtL aw9R) x).2) 1 803 = true
   kernel_rfl)]
 have h : [(192 : Int), 803].flatMap (oneN (decH (prtL aw9R)) false 2) = [65, 768, 803] := by kernel_rfl
 have h2 : (baseF aw9_g (newB_ok aw9_ok)).ord [65, 768, 803] = [65, 803, 768] := by kernel_rfl
 exact (congrArg _ h).trans h2
theorem aw9_runs : (baseF aw9_g (newB_ok aw9_ok)).runs [65, 768, 66] = [[65, 768], [66]] := by kernel_rfl
set_option maxRecDepth 20000 in
set_option maxHeartbeats 4000000 in
theorem awake9_any (w : World) (hE : Env w) (hk : Kinds w) : Calls Tryz.prog 11 #[] w fun e w' => e = .returned (.bool true) ∧ Below w.heap.size w w' := by
 have N1 := new_is (s := aw9S) (o := ByteArray.empty) aw9_g (newB_ok aw9_ok) aw9_rows aw8_none w hE hk (by decide) (by decide)
 have hbd := base_bd aw9_g (newB_ok aw9_ok)
 unfold aw9S at N1
 go_enter Tryz.func11, Tryz.ntmps11
 go_wp2_with fail
 refine N1.mono ?_
 rintro e w1 ⟨p, rfl, hp, hb1⟩
 have hn1 : ∀ (w : World) o, Below w.heap.size w (w.alloc o) := fun w o => (Below.refl _ _).alloc (Nat.le_refl _) _
 have hk1 := hk.below' hb1
 have F1 := full_any (hp.below (hn1 _ _)) (hk1.below' (hn1 w1 (.cells #[.int .i32 192, .int .i32 803] 21))) hbd (one_R hbd) false (some ⟨w1.heap.size, 0, none⟩) 2 2 [192, 803] (Rd.new _ _ [.int .i32 192, .int .i32 803]) rfl (by intro x hx; simp at hx; unfold R32; omega) (by omega)
 rw [aw9_full] at F1
 clear N1
 go_wp2_with fail
 refine F1.mono ?_
 rintro e w3 ⟨A, c, rfl, hown, hb3⟩
 have hb13 := below_then (hn1 _ _) hb3
 obtain ⟨A2, c2, hv, _, _, hrd⟩ := Rd.of_own hown
 injection hv with e1 _ e3
 subst e1 e3
 have RN := runes_any A (some ⟨w3.heap.size, 0, none⟩) 3 3 c 3 [65, 803, 768] [65, 803, 768] (w3.alloc (.cells #[.int .i32 65, .int .i32 803, .int .i32 768] 21)) (hrd.below (hn1 _ _)) (Rd.new _ _ [.int .i32 65, .int .i32 803, .int .i32 768]) (by omega) (by omega)
 rw [show decide (([65, 803, 768] : List Int) = [65, 803, 768]) = true from by simp] at RN
 clear F1 hown hrd
 go_wp2_with fail
 refine RN.mono ?_
 rintro e w4 ⟨rfl, hd⟩
 have hb14 := below_then hb13 (below_then (hn1 _ _) (hd.below _))
 have hb4a := below_then hb14 (hn1 w4 (.cells #[.int .i32 65, .int .i32 768, .int .i32 66] 21))
 have R1 := runs_any (hp.below hb4a) (some ⟨w4.heap.size, 0, none⟩) 3 3 [65, 768, 66] (Rd.new _ _ [.int .i32 65, .int .i32 768, .int .i32 66]) rfl (Nat.le_refl _) (by intro x hx; simp at hx; unfold R32; omega) (by omega)
 rw [aw9_runs] at R1
 clear RN hb13 hd hb3
 go_wp2_with fail
 refine R1.mono ?_
 rintro e w5 ⟨os, A5, c5, _, rfl, _, hb5⟩
 have hbF := below_then hb1 (below_then hb4a hb5)
 clear R1 hb14 hb4a hb5 hn1
 go_wp2
 go_returns
 exact ⟨rfl, hbF⟩
end Go.Proofs.YtajkjaciooijjaaGreatDoor
end

section
set_option linter.unusedSimpArgs false
set_option linter.unusedVariables false
namespace Go.Proofs.YtajkjaciooijjaaGreatDoor
open Go.RowKit
section
variable {w : World} {pv : Value} {B : BaseF}
set_option maxRecDepth 20000 in
set_option maxHeartbeats 4000000 in
theorem rfull_any9 (hR : RefIs w pv B) (hbd : BaseBd B) (c : Bool) (A : Option Addr) (n cp : Nat) (xs : List Int) (hrd : Rd w A n (Rs xs)) (hn : xs.length = n) (hx : ∀ x ∈ xs, R32 x) (hn2 : n ≤ 3300) :
  Calls Tryz.prog 18 #[pv, .bool c, .slice A n cp] w (FreshR w (B.full c xs)) := by
 have HN := Lib.hid hn
 have HX := Lib.hid hx
 have HR := Lib.hid hR
 have HRD := Lib.hid hrd
 have HBD := Lib.hid hbd
 clear hn hx hR hrd hbd
 go_enter Tryz.func18, Tryz.ntmps18
 go_wp2
 go_loopw [7, 8] (fun s7 i wr => ∃ (k : Nat) (out : List Int) (A9 : Option Addr) (c9 : Nat), k ≤ n ∧ i = .int .i64 k ∧ s7 = .slice A9 out.length c9 ∧ Hid (out = (xs.take k).flatMap (B.one c)) ∧ Hid (wr.ownsRow w.heap.size 21 1 (.slice A9 out.length c9) out.length (Rs out)) ∧ Hid (Below w.heap.size w wr)) (fun _ i _ => n - (intOf i).toNat)
 case atStart => exact ⟨0, [], none, 0, Nat.zero_le _, rfl, rfl, rfl, World.ownsRow_nil _ _ _ _, Below.refl _ _⟩
 case round =>
  obtain ⟨k, out, A9, c9, hk, rfl, rfl, HOUT, HOWN, HBW⟩ := hrel
  have hol : out.length ≤ 178200 := by
   have h1 := flat_bd (f := B.one c) (fun x => HBD.out.len c x) (xs.take k)
   rw [List.length_take] at h1
   rw [HOUT.out]
   omega
  by_cases hlt : k < n
  ·obtain ⟨y, hy⟩ : ∃ y, xs[k]? = some y := ⟨_, List.getElem?_eq_getElem (by rw [HN.out]; exact hlt)⟩
   have REC := rone_any (c := c) HR.out HBD.out y (HX.out y (List.mem_of_getElem? hy)) wr HBW.out
   have hly : (B.one c y).length ≤ 54 := HBD.out.len c y
   obtain ⟨b, off, rfl, _, hcx⟩ := (HRD.out.below HBW.out).at_ (by omega)
   have c0 := hcx k (.int .i32 y) (by simp [Rs, hy])
   have hki : (k : Int) < (n : Int) := by omega
   have HFT := Lib.hid (flat_take (f := B.one c) hy)
   obtain ⟨ys, hys⟩ : ∃ ys, ys = B.one c y := ⟨_, rfl⟩
   rw [← hys] at REC hly
   have HYS := Lib.hid hys
   clear hy hcx hys
   go_wp2_with fail
   refine REC.mono ?_
   rintro e w2 ⟨A2, c2, rfl, hown2, hb2⟩
   obtain ⟨A3, c3, hv3, _, _, hrd2⟩ := Rd.of_own hown2
   injection hv3 with e1 _ e3
   subst e1 e3
   have hownD := own_below HOWN.out hb2
   have hbW := below_then HBW.out hb2
   have hbs := hbW.size
   have hone := Rs_one ys
   clear hown2 REC c0 hb2
   go_wp2_with (at_builtin; refine wpList_app runeElem _ rfl _ _ rfl w.heap.size rfl hownD rfl hrd2 hone (by omega) (by omega) hbs ?_)
   intro A4 c4 w4 hown4 hg4 hat4
   have hb4 := below_app hbW hbs hownD hg4
   have HO : Hid (out ++ ys = (xs.take (k + 1)).flatMap (B.one c)) := by show _ = _; rw [HFT.out, HOUT.out, HYS.out]
   have hln : out.length + ys.length = (out ++ ys).length := by simp
   have HN2 : Hid (w4.ownsRow w.heap.size 21 1 (.slice A4 (out ++ ys).length c4) (out ++ ys).length (Rs (out ++ ys))) := by
    show w4.ownsRow _ _ _ _ _ _
    rw [← hln]
    simpa [Rs] using hown4
   have HB4 := Lib.hid hb4
   rw [hln]
   obtain ⟨o2, ho2⟩ : ∃ o2, o2 = out ++ ys := ⟨_, rfl⟩
   rw [← ho2] at HO HN2 ⊢
   clear hown4 hg4 hat4 hownD hbW hrd2 hb4 hln hone ho2
   go_wp2
   go_roundw
   case rel => exact ⟨k + 1, o2, A4, c4, by omega, by go_num, rfl, HO, HN2, HB4⟩
   case measure => simp [intOf]; omega
  ·obtain rfl : k = n := by omega
   have hki : (k : Int) ≤ (k : Int) := Int.le_refl _
   have HAL : Hid (out = B.all c xs) := by
    have h1 := HOUT.out
    rw [List.take_of_length_le (by rw [HN.out]; exact Nat.le_refl _)] at h1
    exact h1
   obtain ⟨A5, c5, hv5, _, _, hrd5⟩ := Rd.of_own HOWN.out
   injection hv5 with e1 _ e3
   subst e1 e3
   have OR := rorder_any (HR.out.below HBW.out) A9 out.length c9 out hrd5 rfl (by omega)
   have HFU : Hid (∀ e w', FreshR wr (B.ord out) e w' → FreshR w (B.full c xs) e w') := fun e w' h => by
    unfold BaseF.full
    rw [← HAL.out]
    obtain ⟨A6, c6, h1, h2, h3⟩ := h
    exact ⟨A6, c6, h1, own_base h2 HBW.out.size, below_then HBW.out h3⟩
   clear hrd5
   go_wp2_with fail
   refine OR.mono ?_
   intro e w5 h5
   have HF := Lib.hid (HFU.out e w5 h5)
   obtain ⟨A6, c6, rfl, _, _⟩ := h5
   clear OR
   go_wp2
   go_returns
   exact HF.out
end
end Go.Proofs.YtajkjaciooijjaaGreatDoor
end
