/- Second of the document's base without rows: the code. Second of the document's base: the code. What one character tells, and whether a text may be cut ahead of it: the document's code. The document's Check and Cut: the code. -/
import Derived.Test.YtkocaoeednmkpaaGreatDoorH40
import Derived.Test.YtkocaoeednmkpaaGreatDoorH43
import Derived.Test.YtkocaoeednmkpaaGreatDoorH47
set_option linter.unusedSimpArgs false
set_option linter.unusedVariables false
set_option maxRecDepth 20000
set_option maxHeartbeats 4000000
namespace Go.Proofs.YtkocaoeednmkpaaGreatDoor
section
open Go.RowKit
theorem sec_nil_eq (r : Int) : secH (fun _ => none) r = ((decide (4449 <= r) && decide (r < 4470)) || (decide (4519 < r) && decide (r < 4547))) := by
 unfold secH joinH;rw [Bool.eq_iff_iff];simp;(repeat' split) <;> simp_all <;> omega
end
section
open Go.RowKit
section
variable {w : World} {rp : Nat} {os : List RA} {out : List Int} {A A2 : Option Addr} {c c2 : Nat}
theorem sec_some {rows : List RowS} {out : List Int} {r : Int} {z : RowS} (hz : z ∈ rows) (h1 : madeQ (clsL rows) (prtL rows) out z.fr = true) (h2 : (zau (prtL rows) z.fr).2 = r) : secH (scL rows out) r = true := by
 have h : (rows.any fun x => madeQ (clsL rows) (prtL rows) out x.fr && decide ((zau (prtL rows) x.fr).2 = r)) = true := by
  rw [List.any_eq_true];exact ⟨z, hz, by rw [h1, h2]; simp⟩
 unfold secH scL;rw [if_pos h];simp
theorem sec_noneL {rows : List RowS} {out : List Int} {r : Int} (h : ∀ z ∈ rows, (madeQ (clsL rows) (prtL rows) out z.fr && decide ((zau (prtL rows) z.fr).2 = r)) = false) : secH (scL rows out) r = secH (fun _ => none) r := by
 have h : (rows.any fun x => madeQ (clsL rows) (prtL rows) out x.fr && decide ((zau (prtL rows) x.fr).2 = r)) = false := by
  rw [List.any_eq_false];intro z hz;rw [h z hz];simp
 unfold secH scL;rw [if_neg (by rw [h]; simp)]
theorem rsec_any (h : RefM w rp os out A A2 c c2) (g : RowsG (os.map (·.1))) (r : Int) : Calls Tryz.prog 52 #[.pointer (some ⟨rp, 0, none⟩), .int .i32 r] w fun e w' => e = .returned (.bool (secH (scL (os.map (·.1)) out) r)) /\ Below w.heap.size w w' := by
 have c0 := za h.box 0 rfl;have hl := h.len;have HH := hz0q h;have HG := hz0q g;obtain ⟨Q, hQ⟩ : ∃ Q : RowS -> Bool, Q = fun z => madeQ (clsL (os.map (·.1))) (prtL (os.map (·.1))) out z.fr && decide ((zau (prtL (os.map (·.1))) z.fr).2 = r) := ⟨_, rfl⟩;have HQ := hz0q hQ
 have HNO : Hid ((∀ j t, (os.map (·.1))[j]? = some t -> Q t = false) -> secH (scL (os.map (·.1)) out) r = ((decide (4449 <= r) && decide (r < 4470)) || (decide (4519 < r) && decide (r < 4547)))) := fun hno => by
  rw [<- sec_nil_eq];refine sec_noneL fun z hz => ?_;obtain ⟨j, hj⟩ := List.getElem?_of_mem hz;have := hno j z hj;rwa [HQ.out] at this
 clear h g hQ;go_enter Tryz.func52, Tryz.ntmps52;go_wp2
 go_loopw [5] (fun i wr => ∃ k : Nat, k <= os.length /\ i = .int .i64 k /\ Hid (∀ j t, j < k -> (os.map (·.1))[j]? = some t -> Q t = false) /\ Below w.heap.size w wr) (fun i _ => os.length - (intOf i).toNat)
 case atStart => exact ⟨0, Nat.zero_le _, rfl, fun j t h _ => absurd h (by omega), Below.refl _ _⟩
 case round =>
  obtain ⟨k, hk, rfl, HF, hb⟩ := hrel;have hM := HH.out.below hb;have d0 := za hM.box 0 rfl
  by_cases hlt : k < os.length
  ·obtain ⟨z, hz⟩ : ∃ z, os[k]? = some z := ⟨_, List.getElem?_eq_getElem hlt⟩;have hzm := List.mem_of_getElem? hz;have MD := zfs hM HG.out z hzm;obtain ⟨b, off, rfl, hbl, hc⟩ := hM.rows.at_ (by omega);obtain ⟨⟨fr, up, nm, ct, cl, kd, il⟩, Ax, cx⟩ := z;obtain ⟨e0, e1, e2, e3, e4, e5, e6⟩ := zbe hz hc;have hrd := hM.rows.into _ hzm;simp only [rowAV] at MD hrd e0 e1 e2 e3 e4 e5 e6;obtain ⟨md, hmd⟩ : ∃ md, md = madeQ (clsL (os.map (·.1))) (prtL (os.map (·.1))) out fr := ⟨_, rfl⟩;rw [<- hmd] at MD;have HMD := hz0q hmd;have HZ : Hid ((os.map (·.1))[k]? = some ⟨fr, up, nm, ct, cl, kd, il⟩) := (by show _ = _; rw [List.getElem?_map, hz]; rfl);have HZM := hz0q (List.mem_map_of_mem (f := (·.1)) hzm);have hi : (k : Int) < (os.length : Int) := (by omega);have HB := hz0q hb
   have HSTEP : Hid (Q ⟨fr, up, nm, ct, cl, kd, il⟩ = false -> ∀ j t, j < k + 1 -> (os.map (·.1))[j]? = some t -> Q t = false) := fun hq j t hj ht => by
    by_cases hjk : j < k
    ·exact HF.out j t hjk ht
    ·have : j = k := (by omega);subst this;rw [HZ.out] at ht;injection ht with ht;rw [<- ht];exact hq
   clear hmd hz hzm hc hb hM
   cases md with
   | false =>
    have hq : Q ⟨fr, up, nm, ct, cl, kd, il⟩ = false := (by rw [HQ.out]; simp only []; rw [<- HMD.out]; rfl);have HF2 := hz0q (HSTEP.out hq);clear hq hrd;go_wp2_with (first | (go_at_call 67; refine MD.mono ?_; rintro e w2 ⟨rfl, hb2⟩) | go_in)
    have hb3 := zb HB.out hb2;go_roundw
    case rel => exact ⟨k + 1, by omega, by go_num, HF2, hb3⟩
    case measure => simp [intOf]; omega
   | true =>
    have hil : ∃ u v, il = [u, v] := by
     have := zfx HG.out out HZM.out;exact zfw (this.trans HMD.out.symm)
    obtain ⟨u, v, rfl⟩ := hil;have HT := hz0q (zob HG.out HZM.out (u := u) (v := v) rfl);have hlen : ([u, v] : List Int).length = 2 := rfl;rw [hlen] at hrd e6 MD;clear hlen;obtain ⟨b2, off2, rfl, hbl2, hc2⟩ := hrd.at_ (by omega);have f1 : wr.cell? ⟨b2, off2 + 1, none⟩ = some (.int .i32 v) := hc2 1 (.int .i32 v) (by simp [Rs])
    have HCE : Hid (∀ w2, Below wr.heap.size wr w2 -> w2.cell? ⟨rp, 0, none⟩ = some (.slice (some ⟨b, off, none⟩) os.length c) /\ w2.cell? ⟨b, off + k * 7 + 6, none⟩ = some (.slice (some ⟨b2, off2, none⟩) 2 cx) /\ w2.cell? ⟨b2, off2 + 1, none⟩ = some (.int .i32 v)) := fun w2 hb2 =>
     ⟨(hb2.cell (p := ⟨rp, 0, none⟩) (World.block_lt_of_cell? wr _ d0)).trans d0, (hb2.cell (p := ⟨b, off + k * 7 + 6, none⟩) hbl).trans e6, (hb2.cell (p := ⟨b2, off2 + 1, none⟩) hbl2).trans f1⟩
    clear hc2 hrd f1
    by_cases hv : v = r
    ·have HP : Hid (secH (scL (os.map (·.1)) out) r = true) := sec_some HZM.out HMD.out.symm (by show (zau _ fr).2 = r; rw [HT.out]; exact hv);have hv' : (v == r) = true := (by simpa using hv);clear hv;go_wp2_with (first | (go_at_call 67; refine MD.mono ?_; rintro e w2 ⟨rfl, hb2⟩; obtain ⟨t0, t1, t2⟩ := HCE.out w2 hb2; clear e0 e1 e2 e3 e4 e5 e6 d0) | go_in)
     have hb3 := zb HB.out hb2;go_returns;exact ⟨by rw [HP.out]; rfl, hb3⟩
    ·have hq : Q ⟨fr, up, nm, ct, cl, kd, [u, v]⟩ = false := by
      rw [HQ.out];simp only [];rw [HT.out, decide_eq_false (show ¬ v = r from hv)];simp
     have HF2 := hz0q (HSTEP.out hq);have hv' : (v == r) = false := (by simpa using hv);clear hq hv;go_wp2_with (first | (go_at_call 67; refine MD.mono ?_; rintro e w2 ⟨rfl, hb2⟩; obtain ⟨t0, t1, t2⟩ := HCE.out w2 hb2; clear e0 e1 e2 e3 e4 e5 e6 d0) | go_in)
     have hb3 := zb HB.out hb2;go_roundw
     case rel => exact ⟨k + 1, by omega, by go_num, HF2, hb3⟩
     case measure => simp [intOf]; omega
  ·obtain rfl : k = os.length := (by omega);have hi : (os.length : Int) <= (os.length : Int) := Int.le_refl _;have HP := hz0q (HNO.out fun j t ht => HF.out j t (by have := (List.getElem?_eq_some_iff.1 ht).1; rw [List.length_map] at this; exact this) ht)
   by_cases h1 : 4449 <= r
   ·by_cases h2 : r < 4470
    ·go_wp2;go_returns;exact ⟨by rw [HP.out]; exact zn (by rw [Bool.eq_iff_iff]; simp only [Bool.or_eq_true, Bool.and_eq_true, decide_eq_true_eq]; first | done | omega | (simp; omega)), hb⟩
    ·by_cases h3 : 4519 < r
     ·go_wp2;go_returns;exact ⟨by rw [HP.out]; exact zn (by rw [Bool.eq_iff_iff]; simp only [Bool.or_eq_true, Bool.and_eq_true, decide_eq_true_eq]; first | done | omega | (simp; omega)), hb⟩
     ·go_wp2;go_returns;exact ⟨by rw [HP.out]; exact zn (by rw [Bool.eq_iff_iff]; simp only [Bool.or_eq_true, Bool.and_eq_true, decide_eq_true_eq]; first | done | omega | (simp; omega)), hb⟩
   ·have h3 : ¬ 4519 < r := (by omega);go_wp2;go_returns;exact ⟨by rw [HP.out]; exact zn (by rw [Bool.eq_iff_iff]; simp only [Bool.or_eq_true, Bool.and_eq_true, decide_eq_true_eq]; first | done | omega | (simp; omega)), hb⟩
end
theorem zpd {w : World} {v : Value} {B : BaseF} (h : RefIs w v B) (r : Int) : Calls Tryz.prog 52 #[v, .int .i32 r] w fun e w' => e = .returned (.bool (B.sec r)) /\ Below w.heap.size w w' := by
 obtain ⟨rp, os, out, A, A2, c, c2, rfl, h2, h3, _, _, _, h4⟩ := h;rw [h4]; exact rsec_any h2 h3 r
end
section
open Go.RowKit
section
variable {w : World} {pv : Value} {B : BaseF}
theorem zjj (A : Option Addr) (n cp : Nat) (xs : List Int) (hrd : Rd w A n (Rs xs)) (hn : xs.length = n) (hn2 : n <= 1000000) (r : Int) :
  Calls Tryz.prog 50 #[.slice A n cp, .int .i32 r] w fun e w' => e = .returned (.bool (decide (xs = [r]))) /\ Below w.heap.size w w' := by
 by_cases h1 : n = 1
 ·subst h1
  obtain ⟨x, rfl⟩ : ∃ x, xs = [x] := by
   match xs, hn with
   | [x], _ => exact ⟨x, rfl⟩
  obtain ⟨b, off, rfl, _, hcx⟩ := hrd.at_ (by omega);have c0 := hcx 0 (.int .i32 x) (by simp);rw [Nat.add_zero] at c0;obtain ⟨bb, hbb⟩ : ∃ bb, bb = decide (([x] : List Int) = [r]) := ⟨_, rfl⟩;rw [<- hbb]
  have hxr : (x == r) = bb := by
   rw [hbb, Bool.eq_iff_iff];simp
  have HBB := hz0q hbb;clear hbb hrd hcx hn;go_enter Tryz.func50, Tryz.ntmps50;go_wp2;go_returns;exact ⟨rfl, Below.refl _ _⟩
 ·have hb : ((n : Int) == 1) = false := (by rw [beq_eq_false_iff_ne]; omega);have HF : Hid (decide (xs = [r]) = false) := decide_eq_false fun e => h1 (by rw [<- hn, e]; rfl);clear hrd hn h1;go_enter Tryz.func50, Tryz.ntmps50;go_wp2;go_returns;exact ⟨by rw [HF.out]; rfl, Below.refl _ _⟩
theorem zll (hR : RefIs w pv B) (hbd : zac B) (f : Int) (hf : f <= 4) (r : Int) (hr : R32 r) :
  Calls Tryz.prog 22 #[pv, .int .i64 f, .int .i32 r] w fun e w' => e = .returned (.int .i64 (B.kind (cB f) (jB f) r)) /\ Below w.heap.size w w' := by
 have hn1 : ∀ o, Below w.heap.size w (w.alloc o) := fun o => (Below.refl _ _).alloc (Nat.le_refl _) _;have HR := hz0q hR;have HBD := hz0q hbd;obtain ⟨c, hc⟩ : ∃ c, c = cB f := ⟨_, rfl⟩;obtain ⟨x, t, hxt⟩ := zds (B := B) (c := c) (r := r);have P1 := zge (cp := 1) (hR.below (hn1 (.cells #[.int .i32 r] 21))) hbd f hf (some ⟨w.heap.size, 0, none⟩) 1 [r] (Rd.new1 _ _ _) rfl (by intro z hz; rw [List.mem_singleton] at hz; rw [hz]; exact hr) (by omega);have HB0 := hz0q (hn1 (.cells #[.int .i32 r] 21));rw [<- hc] at P1 ⊢;obtain ⟨ys, hys⟩ : ∃ ys, ys = B.full c [r] := ⟨_, rfl⟩;rw [<- hys] at P1;have hly : ys.length <= 54 := (by rw [hys]; have := zbd hbd c [r]; simpa using this);have hyR : ∀ y ∈ ys, R32 y := fun y hy => zg3 hbd c (l := [r]) (by intro z hz; rw [List.mem_singleton] at hz; rw [hz]; exact hr) y (by rw [<- hys]; exact hy);have hyx : ys = x :: t := hys.trans hxt;have HXT := hz0q hxt;have HYS := hz0q hys;have HYX := hz0q hyx;have HYR := hz0q hyR;have hly0 : 0 < ys.length := (by rw [hyx]; simp);have JF : Hid (∀ W, Calls Tryz.prog 49 #[.int .i64 f] W fun e w' => e = .returned (.bool (jB f)) /\ Below W.heap.size W w') := fun W => zgg f W;obtain ⟨j, hj⟩ : ∃ j, j = jB f := ⟨_, rfl⟩;rw [<- hj] at JF ⊢;clear hR hbd hxt hys hyx hyR hc hj hn1;go_enter Tryz.func22, Tryz.ntmps22;go_wp2_with fail;refine P1.mono ?_;intro e w1 hf1;obtain ⟨A1, c1, rfl, hr1, hb1⟩ := hf1.rd;have HR1 := hz0q hr1;have HB1 := hz0q (zb HB0.out hb1);have J1 := JF.out w1;clear P1 hf1 hr1 hb1 JF;go_wp2_with fail;refine J1.mono ?_
 rintro e w2 ⟨rfl, hb2⟩;have HB2 := hz0q (zb HB1.out hb2);have HR2 := hz0q (HR1.out.below hb2);clear J1 hb2
 cases j with
 | false =>
  have HNO : Hid (ys ≠ [r] -> B.kind c false r = 2) := fun h => zdb (by show B.form c false [r] ≠ [r]; rw [HYS.out] at h; exact h);have HYE : Hid (ys = [r] -> B.kind c false r = 1) := fun h => zfz (by show B.form c false [r] = [r]; rw [HYS.out] at h; exact h);have AL := zjj (cp := c1) A1 ys.length ys HR2.out rfl (by omega) r;obtain ⟨bb, hbb⟩ : ∃ bb, bb = decide (ys = [r]) := ⟨_, rfl⟩;rw [<- hbb] at AL;have HBB := hz0q hbb;clear hbb;go_wp2_with fail;refine AL.mono ?_;rintro e w3 ⟨rfl, hb3⟩;have HB3 := hz0q (zb HB2.out hb3);clear AL hb3
  cases bb with
  | true =>
   have HF := hz0q (HYE.out (of_decide_eq_true HBB.out.symm));go_wp2;go_returns;exact ⟨by rw [HF.out]; rfl, HB3.out⟩
  | false =>
   have HF := hz0q (HNO.out (of_decide_eq_false HBB.out.symm));go_wp2;go_returns;exact ⟨by rw [HF.out]; rfl, HB3.out⟩
 | true =>
  have HNO : Hid (B.join ys ≠ [r] -> B.kind c true r = 2) := fun h => zdb (by show B.form c true [r] ≠ [r]; rw [HYS.out] at h; exact h);have HYE : Hid (B.join ys = [r] -> B.kind c true r = if B.sec x = true then 3 else 1) := fun h => zdp (by show B.form c true [r] = [r]; rw [HYS.out] at h; exact h) HXT.out;have JN := zjh (cp := c1) (HR.out.below HB2.out) HBD.out A1 ys.length ys HR2.out rfl HYR.out (by omega);have hlj : (B.join ys).length <= 54 := Nat.le_trans (zcr ys) hly;obtain ⟨js, hjs⟩ : ∃ js, js = B.join ys := ⟨_, rfl⟩;rw [<- hjs] at JN HNO HYE hlj;clear hjs;go_wp2_with fail;refine JN.mono ?_;intro e w3 hf3;obtain ⟨A2, c2, rfl, hr3, hb3⟩ := hf3.rd;have AL := zjj (cp := c2) A2 js.length js hr3 rfl (by omega) r;have HB3 := hz0q (zb HB2.out hb3);have HR3 := hz0q (HR2.out.below hb3);obtain ⟨bb, hbb⟩ : ∃ bb, bb = decide (js = [r]) := ⟨_, rfl⟩;rw [<- hbb] at AL;have HBB := hz0q hbb;clear JN hf3 hr3 hb3 hbb;go_wp2_with fail;refine AL.mono ?_;rintro e w4 ⟨rfl, hb4⟩;have HB4 := hz0q (zb HB3.out hb4);have hr4 := HR3.out.below hb4;clear AL hb4
  cases bb with
  | false =>
   have HF := hz0q (HNO.out (of_decide_eq_false HBB.out.symm));clear hr4;go_wp2;go_returns;exact ⟨by rw [HF.out]; rfl, HB4.out⟩
  | true =>
   have HF := hz0q (HYE.out (of_decide_eq_true HBB.out.symm));obtain ⟨b, off, rfl, _, hcx⟩ := hr4.at_ hly0;have c0 := hcx 0 (.int .i32 x) (by rw [HYX.out]; simp);rw [Nat.add_zero] at c0;have hl0 : (0 : Int) < (ys.length : Int) := (by omega);have SC := zpd (HR.out.below HB4.out) x;obtain ⟨sb, hsb⟩ : ∃ sb, sb = B.sec x := ⟨_, rfl⟩;rw [<- hsb] at SC HF;obtain ⟨N, hN⟩ : ∃ N, N = ys.length := ⟨_, rfl⟩;rw [<- hN] at hl0 ⊢;clear hr4 hcx hsb hN;go_wp2_with fail;refine SC.mono ?_;rintro e w5 ⟨rfl, hb5⟩;have HB5 := hz0q (zb HB4.out hb5);clear SC hb5 c0
   cases sb with
   | true =>
    go_wp2;go_returns;exact ⟨by rw [HF.out]; rfl, HB5.out⟩
   | false =>
    go_wp2;go_returns;exact ⟨by rw [HF.out]; rfl, HB5.out⟩
theorem zlf (hR : RefIs w pv B) (hbd : zac B) (f : Int) (hf : f <= 4) (r : Int) (hr : R32 r) :
  Calls Tryz.prog 23 #[pv, .int .i64 f, .int .i32 r] w fun e w' => e = .returned (.bool (B.safe (cB f) (jB f) r)) /\ Below w.heap.size w w' := by
 have hn1 : ∀ o, Below w.heap.size w (w.alloc o) := fun o => (Below.refl _ _).alloc (Nat.le_refl _) _;have HR := hz0q hR;obtain ⟨c, hc⟩ : ∃ c, c = cB f := ⟨_, rfl⟩;obtain ⟨x, t, hxt⟩ := zds (B := B) (c := c) (r := r);have HS := hz0q (zh0 (j := jB f) hxt);have P1 := zge (cp := 1) (hR.below (hn1 (.cells #[.int .i32 r] 21))) hbd f hf (some ⟨w.heap.size, 0, none⟩) 1 [r] (Rd.new1 _ _ _) rfl (by intro z hz; rw [List.mem_singleton] at hz; rw [hz]; exact hr) (by omega);have HB0 := hz0q (hn1 (.cells #[.int .i32 r] 21));rw [<- hc] at P1 ⊢;obtain ⟨ys, hys⟩ : ∃ ys, ys = B.full c [r] := ⟨_, rfl⟩;rw [<- hys] at P1;have hyx : ys = x :: t := hys.trans hxt;have HYX := hz0q hyx;obtain ⟨N, hN⟩ : ∃ N, N = ys.length := ⟨_, rfl⟩
 have hl0 : (0 : Int) < (N : Int) := by
  have h0 : 0 < ys.length := (by rw [hyx]; simp);omega
 have HN := hz0q hN;have JF : Hid (∀ W, Calls Tryz.prog 49 #[.int .i64 f] W fun e w' => e = .returned (.bool (jB f)) /\ Below W.heap.size W w') := fun W => zgg f W;obtain ⟨j, hj⟩ : ∃ j, j = jB f := ⟨_, rfl⟩;rw [<- hj] at JF HS ⊢;clear hR hbd hxt hys hyx hc hj hn1 hN;go_enter Tryz.func23, Tryz.ntmps23;go_wp2_with fail;refine P1.mono ?_;intro e w1 hf1;obtain ⟨A1, c1, rfl, hr1, hb1⟩ := hf1.rd;rw [<- HN.out] at hr1 ⊢;obtain ⟨b, off, rfl, hbl, hcx⟩ := hr1.at_ (by omega);have c0 := hcx 0 (.int .i32 x) (by rw [HYX.out]; simp);rw [Nat.add_zero] at c0;have HC0 : Hid (∀ W, Below w1.heap.size w1 W -> W.cell? ⟨b, off, none⟩ = some (.int .i32 x)) := fun W h => (h.cell (p := ⟨b, off, none⟩) hbl).trans c0;have HB1 := hz0q (zb HB0.out hb1);have C1 := zca (HR.out.below HB1.out) x;obtain ⟨cl, hcl⟩ : ∃ cl, cl = B.cls x := ⟨_, rfl⟩;rw [<- hcl] at C1 HS;clear P1 hf1 hr1 hcx hb1 hcl hbl;go_wp2_with fail;refine C1.mono ?_;rintro e w2 ⟨rfl, rfl⟩;clear C1
 by_cases h0 : cl = 0
 ·subst h0;have J1 := JF.out w1;go_wp2_with fail;refine J1.mono ?_;rintro e w3 ⟨rfl, hb3⟩;have HB3 := hz0q (zb HB1.out hb3);have c0 := HC0.out w3 hb3;clear J1 hb3
  cases j with
  | false =>
   have HF : Hid (B.safe c false r = true) := (by show _ = _; rw [HS.out]; rfl);go_wp2;go_returns;exact ⟨by rw [HF.out]; rfl, HB3.out⟩
  | true =>
   have SC := zpd (HR.out.below HB3.out) x;obtain ⟨sb, hsb⟩ : ∃ sb, sb = B.sec x := ⟨_, rfl⟩;rw [<- hsb] at SC HS;clear hsb;go_wp2_with fail;refine SC.mono ?_;rintro e w4 ⟨rfl, hb4⟩;have HB4 := hz0q (zb HB3.out hb4);clear SC hb4;have HF : Hid (B.safe c true r = !sb) := by show _ = _; rw [HS.out]; cases sb <;> rfl
   cases sb with
   | true =>
    go_wp2;go_returns;exact ⟨by rw [HF.out]; rfl, HB4.out⟩
   | false =>
    go_wp2;go_returns;exact ⟨by rw [HF.out]; rfl, HB4.out⟩
 ·have hcb : (cl == 0) = false := (by simpa using h0);have HF : Hid (B.safe c j r = false) := (by show _ = _; rw [HS.out, decide_eq_false h0]; rfl);clear h0;go_wp2;go_returns;exact ⟨by rw [HF.out]; rfl, HB1.out⟩
end
end
section
open Go.RowKit
section
variable {w : World} {pv : Value} {B : BaseF}
theorem zji (hR : RefIs w pv B) (hbd : zac B) (f : Int) (hf : f <= 4) (A : Option Addr) (n cp : Nat) (xs : List Int) (hrd : Rd w A n (Rs xs)) (hn : xs.length = n) (hx : ∀ x ∈ xs, R32 x) (hn2 : n <= 1000000) :
  Calls Tryz.prog 28 #[pv, .int .i64 f, .slice A n cp] w fun e w' => e = .returned (.int .i64 (B.check (cB f) (jB f) xs)) /\ Below w.heap.size w w' := by
 have OD := rordered_any (cp := cp) hR A n xs hrd hn hn2;have KN : Hid (∀ W r, Below w.heap.size w W -> R32 r -> Calls Tryz.prog 22 #[pv, .int .i64 f, .int .i32 r] W fun e w' => e = .returned (.int .i64 (B.kind (cB f) (jB f) r)) /\ Below W.heap.size W w') := fun W r h hr => zll (hR.below h) hbd f hf r hr;obtain ⟨c, hc⟩ : ∃ c, c = cB f := ⟨_, rfl⟩;obtain ⟨j, hj⟩ : ∃ j, j = jB f := ⟨_, rfl⟩;rw [<- hc, <- hj] at KN ⊢;have HRD := hz0q hrd;have HN := hz0q hn;have HX := hz0q hx;obtain ⟨sb, hsb⟩ : ∃ sb, sb = B.srt 0 xs := ⟨_, rfl⟩;rw [<- hsb] at OD;have HSB := hz0q hsb;have HB0 : Hid (Below w.heap.size w w) := Below.refl _ _;clear hR hbd hc hj hrd hn hx hsb;go_enter Tryz.func28, Tryz.ntmps28;go_wp2_with fail;refine OD.mono ?_;rintro e w1 ⟨rfl, rfl⟩;clear OD
 cases sb with
 | false =>
  have HF : Hid (B.check c j xs = 2) := zmj HSB.out.symm;go_wp2;go_returns;exact ⟨by rw [HF.out]; rfl, HB0.out⟩
 | true =>
  have HC0 : Hid (1 = B.chk c j (xs.take 0)) := (zp0 c j).symm;have HK0 : Hid (∀ r ∈ xs.take 0, B.kind c j r ≠ 2) := fun r h => by cases h
  go_wp2
  go_loopw [7, 8] (fun so i wr => ∃ (k : Nat) (out : Int), k <= n /\ i = .int .i64 k /\ so = .int .i64 out /\ (out = 1 \/ out = 3) /\ Hid (out = B.chk c j (xs.take k)) /\ Hid (∀ r ∈ xs.take k, B.kind c j r ≠ 2) /\ Hid (Below w.heap.size w wr)) (fun _ i _ => n - (intOf i).toNat)
  case atStart => exact ⟨0, 1, Nat.zero_le _, rfl, rfl, .inl rfl, HC0, HK0, HB0⟩
  case round =>
   obtain ⟨k, out, hk, rfl, rfl, hout, HC, HNK, HBW⟩ := hrel
   by_cases hlt : k < n
   ·obtain ⟨r, hr⟩ : ∃ r, xs[k]? = some r := ⟨_, List.getElem?_eq_getElem (by rw [HN.out]; exact hlt)⟩;obtain ⟨b, off, rfl, _, hcx⟩ := (HRD.out.below HBW.out).at_ (by omega);have c0 := hcx k (.int .i32 r) (by simp [Rs, hr]);have hki : (k : Int) < (n : Int) := (by omega);have K1 := KN.out wr r HBW.out (HX.out r (List.mem_of_getElem? hr));have HCT := hz0q (zov (B := B) (c := c) (j := j) hr);have HRM : Hid (r ∈ xs) := List.mem_of_getElem? hr;have HT1 : Hid (xs.take (k + 1) = xs.take k ++ [r]) := (by show _ = _; rw [List.take_add_one, hr]; rfl);obtain ⟨kd, hkd⟩ : ∃ kd, kd = B.kind c j r := ⟨_, rfl⟩;rw [<- hkd] at K1;have HKD := hz0q hkd;have h3 := zjr (B := B) (c := c) (j := j) (r := r);rw [<- hkd] at h3;clear hr hcx hkd;go_wp2_with fail;refine K1.mono ?_;rintro e w3 ⟨rfl, hb3⟩;have HB3 := hz0q (zb HBW.out hb3);clear K1 hb3 c0;rcases h3 with rfl | rfl | rfl
    ·have HC2 : Hid (out = B.chk c j (xs.take (k + 1))) := by show _ = _; rw [HCT.out, if_neg (by rw [<- HKD.out]; decide)]; exact HC.out
     have HN2 : Hid (∀ r ∈ xs.take (k + 1), B.kind c j r ≠ 2) := fun y hy => by
      rw [HT1.out] at hy;rcases List.mem_append.1 hy with hy | hy
      ·exact HNK.out y hy
      ·rw [List.mem_singleton] at hy; rw [hy, <- HKD.out]; decide
     rcases hout with rfl | rfl
     all_goals
      go_wp2;go_roundw
      case rel => exact ⟨k + 1, _, by omega, by go_num, rfl, (by first | exact .inl rfl | exact .inr rfl), HC2, HN2, HB3⟩
      case measure => simp [intOf] <;> omega
    ·have HF : Hid (B.check c j xs = 2) := zmk HRM.out HKD.out.symm;go_wp2;go_returns;exact ⟨by rw [HF.out]; rfl, HB3.out⟩
    ·have HC2 : Hid (3 = B.chk c j (xs.take (k + 1))) := by show _ = _; rw [HCT.out, if_pos HKD.out.symm]
     have HN2 : Hid (∀ r ∈ xs.take (k + 1), B.kind c j r ≠ 2) := fun y hy => by
      rw [HT1.out] at hy;rcases List.mem_append.1 hy with hy | hy
      ·exact HNK.out y hy
      ·rw [List.mem_singleton] at hy; rw [hy, <- HKD.out]; decide
     rcases hout with rfl | rfl
     all_goals
      go_wp2;go_roundw
      case rel => exact ⟨k + 1, 3, by omega, by go_num, rfl, .inr rfl, HC2, HN2, HB3⟩
      case measure => simp [intOf] <;> omega
   ·obtain rfl : k = n := (by omega);have hki : (k : Int) <= (k : Int) := Int.le_refl _
    have HF : Hid (B.check c j xs = out) := by
     have e : xs.take k = xs := List.take_of_length_le (by rw [HN.out]; exact Nat.le_refl _);have h1 := HC.out;have h2 := HNK.out;rw [e] at h1 h2;show _ = _;rw [h1];exact zml HSB.out.symm h2
    go_wp2;go_returns;exact ⟨by rw [HF.out]; rfl, HBW.out⟩
def RCutR (B : BaseF) (c j : Bool) (xs : List Int) (e : Ending) : Prop := ∃ m : Nat, CutAt B c j xs m /\ e = .returned (.int .i64 m)
theorem rqcut_in (hR : RefIs w pv B) (hbd : zac B) (f : Int) (hf : f <= 4) (A : Option Addr) (n cp : Nat) (xs : List Int) (hrd : Rd w A n (Rs xs)) (hn : xs.length = n) (hx : ∀ x ∈ xs, R32 x) (hn2 : n <= 1000000) :
  Calls Tryz.prog 29 #[pv, .int .i64 f, .slice A n cp] w fun e w' => RCutR B (cB f) (jB f) xs e /\ Below w.heap.size w w' := by
 have KN : Hid (∀ W r, Below w.heap.size w W -> R32 r -> Calls Tryz.prog 23 #[pv, .int .i64 f, .int .i32 r] W fun e w' => e = .returned (.bool (B.safe (cB f) (jB f) r)) /\ Below W.heap.size W w') := fun W r h hr => zlf (hR.below h) hbd f hf r hr;obtain ⟨c, hc⟩ : ∃ c, c = cB f := ⟨_, rfl⟩;obtain ⟨j, hj⟩ : ∃ j, j = jB f := ⟨_, rfl⟩;rw [<- hc, <- hj] at KN;rw [<- hc, <- hj];have HRD := hz0q hrd;have HN := hz0q hn;have HX := hz0q hx;have HB0 : Hid (Below w.heap.size w w) := Below.refl _ _
 have HT0 : Hid (CutAt B c j (xs.take 1) 0) := by
  show CutAt _ _ _ _ _
  cases xs with
  | nil => exact zpy c j
  | cons x t =>
   have h := (zpy (B := B) c j).snoc x;rw [if_neg (by simp)] at h;simpa using h
 clear hR hbd hc hj hrd hn hx;go_enter Tryz.func29, Tryz.ntmps29;go_wp2
 go_loopw [7, 8] (fun so i wr => ∃ (k m : Nat), (k <= n \/ k = 1) /\ 1 <= k /\ i = .int .i64 k /\ so = .int .i64 m /\ Hid (CutAt B c j (xs.take k) m) /\ Hid (Below w.heap.size w wr)) (fun _ i _ => n - (intOf i).toNat)
 case atStart => exact ⟨1, 0, .inr rfl, Nat.le_refl _, rfl, rfl, HT0, HB0⟩
 case round =>
  obtain ⟨k, m, hk, hk1, rfl, rfl, HC, HBW⟩ := hrel
  by_cases hlt : k < n
  ·obtain ⟨r, hr⟩ : ∃ r, xs[k]? = some r := ⟨_, List.getElem?_eq_getElem (by rw [HN.out]; exact hlt)⟩;obtain ⟨b, off, rfl, _, hcx⟩ := (HRD.out.below HBW.out).at_ (by omega);have c0 := hcx k (.int .i32 r) (by simp [Rs, hr]);have hki : (k : Int) < (n : Int) := (by omega);have S1 := KN.out wr r HBW.out (HX.out r (List.mem_of_getElem? hr));obtain ⟨sb, hsb⟩ : ∃ sb, sb = B.safe c j r := ⟨_, rfl⟩;rw [<- hsb] at S1
   have HCN : Hid (CutAt B c j (xs.take (k + 1)) (if sb = true then k else m)) := by
    show CutAt _ _ _ _ _;have h := HC.out.snoc r;have hl : (xs.take k).length = k := (by rw [List.length_take, HN.out]; omega);have hne : xs.take k ≠ [] := fun e => by rw [e] at hl; simp at hl; omega
    rw [hl, <- hsb] at h;have e1 : xs.take (k + 1) = xs.take k ++ [r] := (by rw [List.take_add_one, hr]; rfl);rw [e1];have e2 : (if xs.take k ≠ [] /\ sb = true then k else m) = (if sb = true then k else m) := (by simp [hne]);rwa [e2] at h
   clear hr hcx hsb;go_wp2_with fail;refine S1.mono ?_;rintro e w3 ⟨rfl, hb3⟩;have HB3 := hz0q (zb HBW.out hb3);clear S1 hb3 c0
   cases sb with
   | true =>
    go_wp2;go_roundw
    case rel => exact ⟨k + 1, k, .inl (by omega), by omega, by go_num, rfl, HCN, HB3⟩
    case measure => simp [intOf] <;> omega
   | false =>
    go_wp2;go_roundw
    case rel => exact ⟨k + 1, m, .inl (by omega), by omega, by go_num, rfl, HCN, HB3⟩
    case measure => simp [intOf] <;> omega
  ·have hki : ¬ ((k : Int) < (n : Int)) := by omega
   have HF : Hid (CutAt B c j xs m) := by
    have h := HC.out;rw [List.take_of_length_le (by rw [HN.out]; omega)] at h;exact h
   go_wp2;go_returns;exact ⟨⟨m, HF.out, rfl⟩, HBW.out⟩
theorem zli (hR : RefIs w pv B) (hbd : zac B) (f : Int) (hf : f <= 4) (A : Option Addr) (n cp : Nat) (xs : List Int) (hrd : Rd w A n (Rs xs)) (hn : xs.length = n) (hx : ∀ x ∈ xs, R32 x) (hn2 : n <= 1000000) :
  Calls Tryz.prog 29 #[pv, .int .i64 f, .slice A n cp] w fun e w' => (∃ m : Nat, CutAt B (cB f) (jB f) xs m /\ e = .returned (.int .i64 m)) /\ Below w.heap.size w w' :=
 rqcut_in hR hbd f hf A n cp xs hrd hn hx hn2
end
end
end Go.Proofs.YtkocaoeednmkpaaGreatDoor
