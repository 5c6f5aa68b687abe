/- What n cells of a block say: for the measure of the document's Order. The document's Order: the code. The document's Full: the code. The document's answers of one character, and its forms: the code. The document's form of a text: the code. -/
import Derived.Test.YtfdelmodmadoaaaGreatDoorY39
set_option linter.unusedSimpArgs false
set_option linter.unusedVariables false
set_option maxRecDepth 20000
set_option maxHeartbeats 4000000
namespace Go.Proofs.YtfdelmodmadoaaaGreatDoor
section
open Go.RowKit
def readL (w : World) (g n : Nat) : List Int := (List.range n).map fun j => match w.cell? ⟨g, j, none⟩ with
 | some (.int _ x) => x
 | _ => 0
theorem readL_eq {w : World} {g : Nat} {l : List Int} (h : za5 w g 0 l) : readL w g l.length = l := by
 apply List.ext_getElem?;intro j;unfold readL
 by_cases hj : j < l.length
 ·have h1 := (h j l[j] (List.getElem?_eq_getElem hj)).1;rw [Nat.zero_add] at h1;rw [List.getElem?_map, List.getElem?_range hj, List.getElem?_eq_getElem hj];simp only [Option.map_some, h1]
 ·rw [List.getElem?_eq_none (by simp; omega), List.getElem?_eq_none (by omega)]
theorem zlt {w : World} {g n : Nat} {l : List Int} (h : za5 w g 0 l) (hl : l.length = n) : readL w g n = l := by rw [<- hl]; exact readL_eq h
end
section
open Go.RowKit
section
variable {w : World} {pv : Value} {B : BaseF}
theorem rorder_any (hR : RefIs w pv B) (A : Option Addr) (n cp : Nat) (xs : List Int) (hrd : Rd w A n (Rs xs)) (hn : xs.length = n) (hn2 : n <= 1000000) :
  Calls Tryz.prog 128 #[pv, .slice A n cp] w (zag w (B.ord xs)) := by
 have HN := hz0q hn;have HR := hz0q hR;have hone := zh0 xs;have hown0 : w.ownsRow w.heap.size 21 1 (.slice none 0 0) 0 [] := World.ownsRow_nil _ _ _ _;clear hn hR;go_enter Tryz.func128, Tryz.ntmps128;go_wp2_with (at_builtin; refine z6 zaa _ rfl _ _ rfl w.heap.size rfl hown0 rfl hrd hone (by omega) (by omega) (Nat.le_refl _) ?_)
 intro A2 c2 w2 hown2 hg2 hat2;have hw2 : Below w.heap.size w w2 := za7 (Below.refl _ _) (Nat.le_refl _) hown0 hg2;have hl0 : xs.length = n := HN.out;rcases hown2.2 with ⟨hv, h0⟩ | ⟨g, cap, cur, hv, hg, hh, _⟩
 ·injection hv with e1 _ e3;subst e1 e3 h0;obtain rfl := List.length_eq_zero_iff.1 hl0;have HF : Hid (zag w (B.ord []) (.returned (.slice none 0 0)) w2) := ⟨none, 0, rfl, hown2, hw2⟩;clear hown2 hg2 hat2 hown0 hrd hone hw2 hl0;go_wp2
  go_loopw [6] (fun s6 wr => ∃ tb : Bool, s6 = .bool tb /\ wr = w2) (fun s6 _ => match s6 with | .bool true => 1 | _ => 0)
  case atStart => exact ⟨true, rfl, rfl⟩
  case round =>
   obtain ⟨tb, rfl, rfl⟩ := hrel
   cases tb with
   | true =>
    go_wp2
    go_loopw [6, 7] (fun s6 i wr2 => s6 = .bool false /\ i = .int .i64 0 /\ wr2 = wr) (fun _ i _ => 0)
    case atStart => exact ⟨rfl, rfl, rfl⟩
    case round =>
     obtain ⟨rfl, rfl, rfl⟩ := hrel;go_wp2;go_roundw
     case rel => exact ⟨false, rfl, trivial⟩
     case measure => simp
   | false =>
    go_wp2;go_returns;exact HF.out
 ·injection hv with e1 _ e3;subst e1 e3;have hown3 : w2.ownsRow w.heap.size 21 1 (.slice (some ⟨g, 0, none⟩) xs.length c2) xs.length (Rs xs) := (by rw [hl0]; exact hown2);have HH0 := hz0q (zj7 hown3);have HOWN := hz0q hown3;have HW2 := hz0q hw2;have HRR : Hid (∀ W, OrdW g w2 W -> RefIs W pv B) := fun W h => HR.out.below (hw2.trans (h.1.below (by rintro k rfl; exact hg) hw2.size));have HGG := hz0q hg;have HE0 : Hid (B.Eqv xs xs) := BaseF.Eqv.refl xs;have HT0 : Hid (true = false -> B.okTo xs n) := fun h => (by cases h);have HL0 := hz0q hl0;have HO0 : Hid (OrdW g w2 w2) := OrdW.refl _ _;clear hown2 hown3 hg2 hat2 hown0 hrd hone hw2 hl0 hh hg;go_wp2
  go_loopw [6] (fun s6 wr => ∃ (tb : Bool) (l : List Int), s6 = .bool tb /\ Hid (l.length = n) /\ Hid (B.Eqv xs l) /\ Hid (za5 wr g 0 l) /\ Hid (OrdW g w2 wr) /\ Hid (tb = false -> B.okTo l n)) (fun s6 wr => 2 * B.inv (readL wr g n) + (match s6 with | .bool true => 1 | _ => 0))
  case atStart => exact ⟨true, xs, rfl, HL0, HE0, HH0, HO0, HT0⟩
  case round =>
   obtain ⟨tb, l, rfl, HL, HE, HH, HO, HT⟩ := hrel
   cases tb with
   | true =>
    have HRL := hz0q (zlt HH.out HL.out);go_wp2
    go_loopw [6, 7] (fun s6 i wr2 => ∃ (sw : Bool) (k : Nat) (l2 : List Int), s6 = .bool sw /\ i = .int .i64 k /\ (k + 1 <= n \/ k = 0) /\ Hid (l2.length = n) /\ Hid (B.Eqv xs l2) /\ Hid (za5 wr2 g 0 l2) /\ Hid (OrdW g w2 wr2) /\ Hid (sw = false -> l2 = l /\ B.okTo l (k + 1)) /\ Hid (sw = true -> B.inv l2 < B.inv l)) (fun _ i _ => n - (intOf i).toNat)
    case atStart => exact ⟨false, 0, l, rfl, rfl, .inr rfl, HL, HE, HH, HO, (fun _ => ⟨rfl, fun i x y h => absurd h (by omega)⟩), fun h => (by cases h)⟩
    case round =>
     obtain ⟨sw, k, l2, rfl, rfl, hk, HL2, HE2, HH2, HO2, HS2, HU2⟩ := hrel
     by_cases hlt : k + 1 < n
     ·obtain ⟨G, hG⟩ : ∃ G : Nat -> Int, ∀ i, G i = l2.getD i 0 := ⟨fun i => _, fun _ => rfl⟩
      have hat : ∀ i, i < n -> l2[i]? = some (G i) := fun i hi => by
       have h1 := List.getElem?_eq_getElem (l := l2) (i := i) (by rw [HL2.out]; exact hi);rw [hG, List.getD_eq_getElem?_getD, h1];rfl
      have hcw : ∀ i, i < n -> wr.cell? ⟨g, i, none⟩ = some (.int .i32 (G i)) := fun i hi => by have := (HH2.out i _ (hat i hi)).1; rwa [Nat.zero_add] at this
      have hfw : ∀ i, i < n -> wr.frozen? ⟨g, i, none⟩ = false := fun i hi => by have := (HH2.out i _ (hat i hi)).2; rwa [Nat.zero_add] at this
      have hgx := hz0q (hat k (by omega));have hgy := hz0q (hat (k + 1) hlt);have C1 := zcp (HRR.out wr HO2.out) (G (k + 1));have C2 := zcp (HRR.out wr HO2.out) (G k);obtain ⟨cl, hcl⟩ : ∃ cl, cl = B.cls (G (k + 1)) := ⟨_, rfl⟩;obtain ⟨cx, hcx⟩ : ∃ cx, cx = B.cls (G k) := ⟨_, rfl⟩;rw [<- hcl] at C1;rw [<- hcx] at C2;have HCL := hz0q hcl;have HCX := hz0q hcx
      have HNX : Hid (¬ (0 < cl /\ cl < cx) -> sw = false -> l2 = l /\ B.okTo l (k + 1 + 1)) := fun hno h => by
       obtain ⟨h1, h2⟩ := HS2.out h;refine ⟨h1, fun i x y hi hx hy => ?_⟩
       by_cases hik : i + 1 < k + 1
       ·exact h2 i x y hik hx hy
       ·have : i = k := (by omega);subst this;have e1 := hgx.out;have e2 := hgy.out;rw [h1, hx] at e1;rw [h1, hy] at e2;injection e1 with e1;injection e2 with e2;rw [e1, e2, <- HCL.out, <- HCX.out];exact hno
      clear hG hat hcl hcx;have hki : (k : Int) + 1 < (n : Int) := (by omega);have hkn : (k : Int) < (n : Int) := (by omega);have c0k := hcw k (by omega);have c1k := hcw (k + 1) hlt;have f0k := hfw k (by omega);have f1k := hfw (k + 1) hlt;go_wp2_with fail;refine C1.mono ?_;rintro e w1 ⟨rfl, rfl⟩;clear C1
      by_cases h1 : 0 < cl
      ·go_wp2_with fail;refine C2.mono ?_;rintro e w1 ⟨rfl, rfl⟩;clear C2
       by_cases h2 : cl < cx
       ·obtain ⟨hi1, he1⟩ := swp_inv hgx.out hgy.out (B := B) ⟨by rw [<- HCL.out]; exact h1, by rw [<- HCL.out, <- HCX.out]; exact h2⟩;have hsl := swp_len l2 k;have hss := swp_set hgx.out hgy.out
        have hHN : Hid (za5 ((wr.setCell ⟨g, k, none⟩ (.int .i32 (G (k + 1)))).setCell ⟨g, k + 1, none⟩ (.int .i32 (G k))) g 0 (swp l2 k)) := by
         have h5 := zd3 (zd3 HH2.out k (G (k + 1)) (by rw [HL2.out]; omega)) (k + 1) (G k) (by rw [List.length_set, HL2.out]; exact hlt);rw [Nat.zero_add, Nat.zero_add, <- hss] at h5;exact h5
        have hON : Hid (OrdW g w2 ((wr.setCell ⟨g, k, none⟩ (.int .i32 (G (k + 1)))).setCell ⟨g, k + 1, none⟩ (.int .i32 (G k)))) := (HO2.out.trans (OrdW.setCell _ _ _)).trans (OrdW.setCell _ _ _);have hEN : Hid (B.Eqv xs (swp l2 k)) := HE2.out.trans he1;have hLN : Hid ((swp l2 k).length = n) := hsl.trans HL2.out
        have hIN : Hid (B.inv (swp l2 k) < B.inv l) := by
         show _ < _
         cases sw with
         | true => have := HU2.out rfl; omega
         | false => rw [(HS2.out rfl).1] at hi1 ⊢; exact hi1
        clear hi1 he1 hsl hss;go_wp2;go_roundw
        case rel => exact ⟨true, k + 1, swp l2 k, rfl, by go_num, .inl (by omega), hLN, hEN, hHN, hON, (fun h => by cases h), fun _ => hIN.out⟩
        case measure => simp [intOf]; omega
       ·have hS := hz0q (HNX.out (fun h => h2 h.2));go_wp2;go_roundw
        case rel => exact ⟨sw, k + 1, l2, rfl, by go_num, .inl (by omega), HL2, HE2, HH2, HO2, hS, HU2⟩
        case measure => simp [intOf]; omega
      ·have hS := hz0q (HNX.out (fun h => h1 h.1));clear C2;go_wp2;go_roundw
       case rel => exact ⟨sw, k + 1, l2, rfl, by go_num, .inl (by omega), HL2, HE2, HH2, HO2, hS, HU2⟩
       case measure => simp [intOf]; omega
     ·have hki : ¬ (k : Int) + 1 < (n : Int) := by omega
      have HT2 : Hid (sw = false -> B.okTo l2 n) := fun h => by
       obtain ⟨h1, h2⟩ := HS2.out h;rw [h1];intro i x y hi hx hy;exact h2 i x y (by omega) hx hy
      have HRL2 := hz0q (zlt HH2.out HL2.out);go_wp2;go_roundw
      case rel => exact ⟨sw, l2, rfl, HL2, HE2, HH2, HO2, HT2⟩
      case measure =>
       rw [HRL2.out, HRL.out]
       cases sw with
       | true => have := HU2.out rfl; simp only []; omega
       | false => rw [(HS2.out rfl).1]; simp only []; omega
   | false =>
    have HF : Hid (zag w (B.ord xs) (.returned (.slice (some ⟨g, 0, none⟩) n c2)) wr) := by
     have h1 : B.ord xs = l := by
      rw [HE.out.ord];exact ord_srt (okTo_srt (by rw [HL.out]; exact HT.out rfl))
     show zag _ _ _ _;rw [h1];refine ⟨some ⟨g, 0, none⟩, c2, by rw [HL.out], zj6 HOWN.out HO.out (by rw [HL.out]; exact HL0.out.symm) HH.out, HW2.out.trans (HO.out.1.below (by rintro k rfl; exact HGG.out) HW2.out.size)⟩
    go_wp2;go_returns;exact HF.out
end
end
section
open Go.RowKit
section
variable {w : World} {pv : Value} {B : BaseF}
theorem rfull_any9 (hR : RefIs w pv B) (hbd : zan B) (c : Bool) (A : Option Addr) (n cp : Nat) (xs : List Int) (hrd : Rd w A n (Rs xs)) (hn : xs.length = n) (hx : ∀ x ∈ xs, R32 x) (hn2 : n <= 3300) :
  Calls Tryz.prog 91 #[pv, .bool c, .slice A n cp] w (zag w (B.full c xs)) := by
 have HN := hz0q hn;have HX := hz0q hx;have HR := hz0q hR;have HRD := hz0q hrd;have HBD := hz0q hbd;clear hn hx hR hrd hbd;go_enter Tryz.func91, Tryz.ntmps91;go_wp2
 go_loopw [7, 8] (fun s7 i wr => ∃ (k : Nat) (out : List Int) (A9 : Option Addr) (c9 : Nat), k <= n /\ i = .int .i64 k /\ s7 = .slice A9 out.length c9 /\ Hid (out = (xs.take k).flatMap (B.one c)) /\ Hid (wr.ownsRow w.heap.size 21 1 (.slice A9 out.length c9) out.length (Rs out)) /\ Hid (Below w.heap.size w wr)) (fun _ i _ => n - (intOf i).toNat)
 case atStart => exact ⟨0, [], none, 0, Nat.zero_le _, rfl, rfl, rfl, World.ownsRow_nil _ _ _ _, Below.refl _ _⟩
 case round =>
  obtain ⟨k, out, A9, c9, hk, rfl, rfl, HOUT, HOWN, HBW⟩ := hrel
  have hol : out.length <= 178200 := by
   have h1 := zjg (f := B.one c) (fun x => HBD.out.len c x) (xs.take k);rw [List.length_take] at h1;rw [HOUT.out];omega
  by_cases hlt : k < n
  ·obtain ⟨y, hy⟩ : ∃ y, xs[k]? = some y := ⟨_, List.getElem?_eq_getElem (by rw [HN.out]; exact hlt)⟩;have REC := rone_any (c := c) HR.out HBD.out y (HX.out y (List.mem_of_getElem? hy)) wr HBW.out;have hly : (B.one c y).length <= 54 := HBD.out.len c y;obtain ⟨b, off, rfl, _, hcx⟩ := (HRD.out.below HBW.out).at_ (by omega);have c0 := hcx k (.int .i32 y) (by simp [Rs, hy]);have hki : (k : Int) < (n : Int) := (by omega);have HFT := hz0q (zbz (f := B.one c) hy);obtain ⟨ys, hys⟩ : ∃ ys, ys = B.one c y := ⟨_, rfl⟩;rw [<- hys] at REC hly;have HYS := hz0q hys;clear hy hcx hys;go_wp2_with fail;refine REC.mono ?_;rintro e w2 ⟨A2, c2, rfl, hown2, hb2⟩;obtain ⟨A3, c3, hv3, _, _, hrd2⟩ := Rd.of_own hown2;injection hv3 with e1 _ e3;subst e1 e3;have hownD := z8 HOWN.out hb2;have hbW := zb HBW.out hb2;have hbs := hbW.size;have hone := zh0 ys;clear hown2 REC c0 hb2;go_wp2_with (at_builtin; refine z6 zaa _ rfl _ _ rfl w.heap.size rfl hownD rfl hrd2 hone (by omega) (by omega) hbs ?_)
   intro A4 c4 w4 hown4 hg4 hat4;have hb4 := za7 hbW hbs hownD hg4;have HO : Hid (out ++ ys = (xs.take (k + 1)).flatMap (B.one c)) := (by show _ = _; rw [HFT.out, HOUT.out, HYS.out]);have hln : out.length + ys.length = (out ++ ys).length := by simp
   have HN2 : Hid (w4.ownsRow w.heap.size 21 1 (.slice A4 (out ++ ys).length c4) (out ++ ys).length (Rs (out ++ ys))) := by
    show w4.ownsRow _ _ _ _ _ _;rw [<- hln];simpa [Rs] using hown4
   have HB4 := hz0q hb4;rw [hln];obtain ⟨o2, ho2⟩ : ∃ o2, o2 = out ++ ys := ⟨_, rfl⟩;rw [<- ho2] at HO HN2 ⊢;clear hown4 hg4 hat4 hownD hbW hrd2 hb4 hln hone ho2;go_wp2;go_roundw
   case rel => exact ⟨k + 1, o2, A4, c4, by omega, by go_num, rfl, HO, HN2, HB4⟩
   case measure => simp [intOf]; omega
  ·obtain rfl : k = n := (by omega);have hki : (k : Int) <= (k : Int) := Int.le_refl _
   have HAL : Hid (out = B.all c xs) := by
    have h1 := HOUT.out;rw [List.take_of_length_le (by rw [HN.out]; exact Nat.le_refl _)] at h1;exact h1
   obtain ⟨A5, c5, hv5, _, _, hrd5⟩ := Rd.of_own HOWN.out;injection hv5 with e1 _ e3;subst e1 e3;have OR := rorder_any (HR.out.below HBW.out) A9 out.length c9 out hrd5 rfl (by omega)
   have HFU : Hid (∀ e w', zag wr (B.ord out) e w' -> zag w (B.full c xs) e w') := fun e w' h => by
    unfold BaseF.full;rw [<- HAL.out];obtain ⟨A6, c6, h1, h2, h3⟩ := h;exact ⟨A6, c6, h1, za1 h2 HBW.out.size, zb HBW.out h3⟩
   clear hrd5;go_wp2_with fail;refine OR.mono ?_;intro e w5 h5;have HF := hz0q (HFU.out e w5 h5);obtain ⟨A6, c6, rfl, _, _⟩ := h5;clear OR;go_wp2;go_returns;exact HF.out
end
end
section
open Go.RowKit
theorem zls (f : Int) (w : World) : Calls Tryz.prog 24 #[.int .i64 f] w fun e w' => e = .returned (.bool (mayF f)) /\ Below w.heap.size w w' := by
 by_cases h1 : 1 <= f
 ·by_cases h2 : f <= 4
  ·have HF : Hid (mayF f = true) := (ze1 f).2 ⟨h1, h2⟩;go_enter Tryz.func24, Tryz.ntmps24;go_wp2;go_returns;exact ⟨by rw [HF.out]; exact zo (by first | (simp [h1, h2]; done) | (simp; omega)), Below.refl _ _⟩
  ·have HF : Hid (mayF f = false) := (by show _ = _; unfold mayF; rw [decide_eq_false h2, Bool.and_false]);go_enter Tryz.func24, Tryz.ntmps24;go_wp2;go_returns;exact ⟨by rw [HF.out]; exact zo (by first | (simp [h1, h2]; done) | (simp; omega)), Below.refl _ _⟩
 ·have HF : Hid (mayF f = false) := (by show _ = _; unfold mayF; rw [decide_eq_false h1, Bool.false_and]);go_enter Tryz.func24, Tryz.ntmps24;go_wp2;go_returns;exact ⟨by rw [HF.out]; exact zo (by first | (simp [h1]; done) | (simp; omega)), Below.refl _ _⟩
theorem zid (f : Int) (w : World) : Calls Tryz.prog 53 #[.int .i64 f] w fun e w' => e = .returned (.bool (jB f)) /\ Below w.heap.size w w' := by
 by_cases h1 : f = 2
 ·subst h1;go_enter Tryz.func53, Tryz.ntmps53;go_wp2;go_returns;exact ⟨rfl, Below.refl _ _⟩
 ·by_cases h2 : f = 4
  ·subst h2;go_enter Tryz.func53, Tryz.ntmps53;go_wp2;go_returns;exact ⟨rfl, Below.refl _ _⟩
  ·have hb1 : (f == 2) = false := (by simpa using h1);have hb2 : (f == 4) = false := (by simpa using h2);have HF : Hid (jB f = false) := (by show _ = _; unfold jB; rw [decide_eq_false h1, decide_eq_false h2]; rfl);clear h1 h2;go_enter Tryz.func53, Tryz.ntmps53;go_wp2;go_returns;exact ⟨by rw [HF.out]; rfl, Below.refl _ _⟩
section
variable {w : World} {pv : Value} {B : BaseF}
theorem cB_three {f : Int} (h : f <= 4) : cB f = decide (3 <= f) := by
 unfold cB;rw [Bool.eq_iff_iff];simp;omega
theorem zib (hR : RefIs w pv B) (hbd : zan B) (f : Int) (hf : f <= 4) (A : Option Addr) (n cp : Nat) (xs : List Int) (hrd : Rd w A n (Rs xs)) (hn : xs.length = n) (hx : ∀ x ∈ xs, R32 x) (hn2 : n <= 3300) :
  Calls Tryz.prog 52 #[pv, .int .i64 f, .slice A n cp] w (zag w (B.full (cB f) xs)) := by
 rw [cB_three hf];have FU := fun c => rfull_any9 (cp := cp) hR hbd c A n xs hrd hn hx hn2
 by_cases h3 : 3 <= f
 ·have F1 := FU true;rw [decide_eq_true h3];obtain ⟨ys, hys⟩ : ∃ ys, ys = B.full true xs := ⟨_, rfl⟩;rw [<- hys] at F1 ⊢;clear FU hys hR hrd hn hx hbd;go_enter Tryz.func52, Tryz.ntmps52;go_wp2_with fail;refine F1.mono ?_;intro e w1 hf1;have HF := hz0q hf1;obtain ⟨A1, c1, rfl, _, _⟩ := hf1;clear F1;go_wp2;go_returns;exact HF.out
 ·have F1 := FU false;rw [decide_eq_false h3];obtain ⟨ys, hys⟩ : ∃ ys, ys = B.full false xs := ⟨_, rfl⟩;rw [<- hys] at F1 ⊢;clear FU hys hR hrd hn hx hbd;go_enter Tryz.func52, Tryz.ntmps52;go_wp2_with fail;refine F1.mono ?_;intro e w1 hf1;have HF := hz0q hf1;obtain ⟨A1, c1, rfl, _, _⟩ := hf1;clear F1;go_wp2;go_returns;exact HF.out
end
end
section
open Go.RowKit
section
variable {w : World} {pv : Value} {B : BaseF}
theorem zj0 (hR : RefIs w pv B) (hbd : zan B) (f : Int) (hf : f <= 4) (A : Option Addr) (n cp : Nat) (xs : List Int) (hrd : Rd w A n (Rs xs)) (hn : xs.length = n) (hx : ∀ x ∈ xs, R32 x) (hn2 : n <= 3300) :
  Calls Tryz.prog 26 #[pv, .int .i64 f, .slice A n cp] w (zag w (B.form (cB f) (jB f) xs)) := by
 have P1 := zib (cp := cp) hR hbd f hf A n xs hrd hn hx hn2;have HR := hz0q hR;have HBD := hz0q hbd;have HYR : Hid (∀ y ∈ B.full (cB f) xs, R32 y) := fun y hy => zkn hbd (cB f) hx y hy;have hly : (B.full (cB f) xs).length <= 178200 := (by have := zgj hbd (cB f) xs; rw [hn] at this; omega);have HFO : Hid (B.form (cB f) (jB f) xs = if jB f = true then B.join (B.full (cB f) xs) else B.full (cB f) xs) := rfl;obtain ⟨ys, hys⟩ : ∃ ys, ys = B.full (cB f) xs := ⟨_, rfl⟩;rw [<- hys] at P1 HYR hly HFO;have JF := fun W => zid f W;obtain ⟨jb, hjb⟩ : ∃ jb, jb = jB f := ⟨_, rfl⟩;simp only [<- hjb] at JF;rw [<- hjb] at HFO ⊢;have HJF := hz0q JF;clear hR hbd hrd hn hx hys JF hjb;go_enter Tryz.func26, Tryz.ntmps26;go_wp2_with fail;refine P1.mono ?_;rintro e w1 ⟨A1, c1, rfl, hown, hb1⟩;have J1 := HJF.out w1;have HO1 := hz0q hown;have HB1 := hz0q hb1;clear P1 hown hb1 HJF;go_wp2_with fail;refine J1.mono ?_;rintro e w2 ⟨rfl, hb2⟩;have HO2 := hz0q (z8 HO1.out hb2);have HB2 := hz0q (zb HB1.out hb2);clear J1 hb2
 cases jb with
 | true =>
  obtain ⟨Ay, cy, hvy, _, _, hrd2⟩ := Rd.of_own HO2.out;injection hvy with e1 e2 e3;subst e1 e3;clear e2;have RJ := rcjoin_any (cp := c1) (HR.out.below HB2.out) HBD.out A1 ys.length ys hrd2 rfl HYR.out (by omega);obtain ⟨js, hjs⟩ : ∃ js, js = B.join ys := ⟨_, rfl⟩;rw [if_pos rfl, <- hjs] at HFO;rw [<- hjs] at RJ;clear hrd2 hjs;go_wp2_with fail;refine RJ.mono ?_;rintro e w3 ⟨A3, c3, rfl, hown3, hb3⟩;have HF : Hid (zag w js (.returned (.slice A3 js.length c3)) w3) := ⟨A3, c3, rfl, za1 hown3 HB2.out.size, zb HB2.out hb3⟩;clear RJ hown3 hb3;go_wp2;go_returns;rw [HFO.out];exact HF.out
 | false =>
  have HF : Hid (zag w ys (.returned (.slice A1 ys.length c1)) w2) := ⟨A1, c1, rfl, HO2.out, HB2.out⟩;go_wp2;go_returns;rw [HFO.out, if_neg (by simp)];exact HF.out
end
end
end Go.Proofs.YtfdelmodmadoaaaGreatDoor
