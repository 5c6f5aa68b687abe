/- Second of the document's base without rows: the code. Second of the document's base: the code. What one character tells, and whether a text may be cut ahead of it: the document's code. The document's Check and Cut: the code. -/
import Derived.Test.YtfdelmodmadoaaaGreatDoorY41
set_option linter.unusedSimpArgs false
set_option linter.unusedVariables false
set_option maxRecDepth 20000
set_option maxHeartbeats 4000000
namespace Go.Proofs.YtfdelmodmadoaaaGreatDoor
section
open Go.RowKit
theorem sec_nil_eq (r : Int) : secH (fun _ => none) r = ((decide (4449 <= r) && decide (r < 4470)) || (decide (4519 < r) && decide (r < 4547))) := by
 unfold secH joinH;rw [Bool.eq_iff_iff];simp;(repeat' split) <;> simp_all <;> omega
end
section
open Go.RowKit
section
variable {w : World} {rp : Nat} {os : List RA} {out : List Int} {A A2 : Option Addr} {c c2 : Nat}
theorem sec_some {rows : List RowS} {out : List Int} {r : Int} {z : RowS} (hz : z ∈ rows) (h1 : madeQ (clsL rows) (prtL rows) out z.fr = true) (h2 : (zap (prtL rows) z.fr).2 = r) : secH (scL rows out) r = true := by
 have h : (rows.any fun x => madeQ (clsL rows) (prtL rows) out x.fr && decide ((zap (prtL rows) x.fr).2 = r)) = true := by
  rw [List.any_eq_true];exact ⟨z, hz, by rw [h1, h2]; simp⟩
 unfold secH scL;rw [if_pos h];simp
theorem sec_noneL {rows : List RowS} {out : List Int} {r : Int} (h : ∀ z ∈ rows, (madeQ (clsL rows) (prtL rows) out z.fr && decide ((zap (prtL rows) z.fr).2 = r)) = false) : secH (scL rows out) r = secH (fun _ => none) r := by
 have h : (rows.any fun x => madeQ (clsL rows) (prtL rows) out x.fr && decide ((zap (prtL rows) x.fr).2 = r)) = false := by
  rw [List.any_eq_false];intro z hz;rw [h z hz];simp
 unfold secH scL;rw [if_neg (by rw [h]; simp)]
theorem rsec_any (h : RefM w rp os out A A2 c c2) (g : RowsG (os.map (·.1))) (r : Int) : Calls Tryz.prog 90 #[.pointer (some ⟨rp, 0, none⟩), .int .i32 r] w fun e w' => e = .returned (.bool (secH (scL (os.map (·.1)) out) r)) /\ Below w.heap.size w w' := by
 have c0 := za h.box 0 rfl;have hl := h.len;have HH := hz0q h;have HG := hz0q g;obtain ⟨Q, hQ⟩ : ∃ Q : RowS -> Bool, Q = fun z => madeQ (clsL (os.map (·.1))) (prtL (os.map (·.1))) out z.fr && decide ((zap (prtL (os.map (·.1))) z.fr).2 = r) := ⟨_, rfl⟩;have HQ := hz0q hQ
 have HNO : Hid ((∀ j t, (os.map (·.1))[j]? = some t -> Q t = false) -> secH (scL (os.map (·.1)) out) r = ((decide (4449 <= r) && decide (r < 4470)) || (decide (4519 < r) && decide (r < 4547)))) := fun hno => by
  rw [<- sec_nil_eq];refine sec_noneL fun z hz => ?_;obtain ⟨j, hj⟩ := List.getElem?_of_mem hz;have := hno j z hj;rwa [HQ.out] at this
 clear h g hQ;go_enter Tryz.func90, Tryz.ntmps90;go_wp2
 go_loopw [5] (fun i wr => ∃ k : Nat, k <= os.length /\ i = .int .i64 k /\ Hid (∀ j t, j < k -> (os.map (·.1))[j]? = some t -> Q t = false) /\ Below w.heap.size w wr) (fun i _ => os.length - (intOf i).toNat)
 case atStart => exact ⟨0, Nat.zero_le _, rfl, fun j t h _ => absurd h (by omega), Below.refl _ _⟩
 case round =>
  obtain ⟨k, hk, rfl, HF, hb⟩ := hrel;have hM := HH.out.below hb;have d0 := za hM.box 0 rfl
  by_cases hlt : k < os.length
  ·obtain ⟨z, hz⟩ : ∃ z, os[k]? = some z := ⟨_, List.getElem?_eq_getElem hlt⟩;have hzm := List.mem_of_getElem? hz;have MD := zew hM HG.out z hzm;obtain ⟨b, off, rfl, hbl, hc⟩ := hM.rows.at_ (by omega);obtain ⟨⟨fr, up, nm, ct, cl, kd, il⟩, Ax, cx⟩ := z;obtain ⟨e0, e1, e2, e3, e4, e5, e6⟩ := za9 hz hc;have hrd := hM.rows.into _ hzm;simp only [rowAV] at MD hrd e0 e1 e2 e3 e4 e5 e6;obtain ⟨md, hmd⟩ : ∃ md, md = madeQ (clsL (os.map (·.1))) (prtL (os.map (·.1))) out fr := ⟨_, rfl⟩;rw [<- hmd] at MD;have HMD := hz0q hmd;have HZ : Hid ((os.map (·.1))[k]? = some ⟨fr, up, nm, ct, cl, kd, il⟩) := (by show _ = _; rw [List.getElem?_map, hz]; rfl);have HZM := hz0q (List.mem_map_of_mem (f := (·.1)) hzm);have hi : (k : Int) < (os.length : Int) := (by omega);have HB := hz0q hb
   have HSTEP : Hid (Q ⟨fr, up, nm, ct, cl, kd, il⟩ = false -> ∀ j t, j < k + 1 -> (os.map (·.1))[j]? = some t -> Q t = false) := fun hq j t hj ht => by
    by_cases hjk : j < k
    ·exact HF.out j t hjk ht
    ·have : j = k := (by omega);subst this;rw [HZ.out] at ht;injection ht with ht;rw [<- ht];exact hq
   clear hmd hz hzm hc hb hM
   cases md with
   | false =>
    have hq : Q ⟨fr, up, nm, ct, cl, kd, il⟩ = false := (by rw [HQ.out]; simp only []; rw [<- HMD.out]; rfl);have HF2 := hz0q (HSTEP.out hq);clear hq hrd;go_wp2_with (first | (go_at_call 81; refine MD.mono ?_; rintro e w2 ⟨rfl, hb2⟩) | go_in)
    have hb3 := zb HB.out hb2;go_roundw
    case rel => exact ⟨k + 1, by omega, by go_num, HF2, hb3⟩
    case measure => simp [intOf]; omega
   | true =>
    have hil : ∃ u v, il = [u, v] := by
     have := ze3 HG.out out HZM.out;exact ze2 (this.trans HMD.out.symm)
    obtain ⟨u, v, rfl⟩ := hil;have HT := hz0q (zma HG.out HZM.out (u := u) (v := v) rfl);have hlen : ([u, v] : List Int).length = 2 := rfl;rw [hlen] at hrd e6 MD;clear hlen;obtain ⟨b2, off2, rfl, hbl2, hc2⟩ := hrd.at_ (by omega);have f1 : wr.cell? ⟨b2, off2 + 1, none⟩ = some (.int .i32 v) := hc2 1 (.int .i32 v) (by simp [Rs])
    have HCE : Hid (∀ w2, Below wr.heap.size wr w2 -> w2.cell? ⟨rp, 0, none⟩ = some (.slice (some ⟨b, off, none⟩) os.length c) /\ w2.cell? ⟨b, off + k * 7 + 6, none⟩ = some (.slice (some ⟨b2, off2, none⟩) 2 cx) /\ w2.cell? ⟨b2, off2 + 1, none⟩ = some (.int .i32 v)) := fun w2 hb2 =>
     ⟨(hb2.cell (p := ⟨rp, 0, none⟩) (World.block_lt_of_cell? wr _ d0)).trans d0, (hb2.cell (p := ⟨b, off + k * 7 + 6, none⟩) hbl).trans e6, (hb2.cell (p := ⟨b2, off2 + 1, none⟩) hbl2).trans f1⟩
    clear hc2 hrd f1
    by_cases hv : v = r
    ·have HP : Hid (secH (scL (os.map (·.1)) out) r = true) := sec_some HZM.out HMD.out.symm (by show (zap _ fr).2 = r; rw [HT.out]; exact hv);have hv' : (v == r) = true := (by simpa using hv);clear hv;go_wp2_with (first | (go_at_call 81; refine MD.mono ?_; rintro e w2 ⟨rfl, hb2⟩; obtain ⟨t0, t1, t2⟩ := HCE.out w2 hb2; clear e0 e1 e2 e3 e4 e5 e6 d0) | go_in)
     have hb3 := zb HB.out hb2;go_returns;exact ⟨by rw [HP.out]; rfl, hb3⟩
    ·have hq : Q ⟨fr, up, nm, ct, cl, kd, [u, v]⟩ = false := by
      rw [HQ.out];simp only [];rw [HT.out, decide_eq_false (show ¬ v = r from hv)];simp
     have HF2 := hz0q (HSTEP.out hq);have hv' : (v == r) = false := (by simpa using hv);clear hq hv;go_wp2_with (first | (go_at_call 81; refine MD.mono ?_; rintro e w2 ⟨rfl, hb2⟩; obtain ⟨t0, t1, t2⟩ := HCE.out w2 hb2; clear e0 e1 e2 e3 e4 e5 e6 d0) | go_in)
     have hb3 := zb HB.out hb2;go_roundw
     case rel => exact ⟨k + 1, by omega, by go_num, HF2, hb3⟩
     case measure => simp [intOf]; omega
  ·obtain rfl : k = os.length := (by omega);have hi : (os.length : Int) <= (os.length : Int) := Int.le_refl _;have HP := hz0q (HNO.out fun j t ht => HF.out j t (by have := (List.getElem?_eq_some_iff.1 ht).1; rw [List.length_map] at this; exact this) ht)
   by_cases h1 : 4449 <= r
   ·by_cases h2 : r < 4470
    ·go_wp2;go_returns;exact ⟨by rw [HP.out]; exact zo (by rw [Bool.eq_iff_iff]; simp only [Bool.or_eq_true, Bool.and_eq_true, decide_eq_true_eq]; first | done | omega | (simp; omega)), hb⟩
    ·by_cases h3 : 4519 < r
     ·go_wp2;go_returns;exact ⟨by rw [HP.out]; exact zo (by rw [Bool.eq_iff_iff]; simp only [Bool.or_eq_true, Bool.and_eq_true, decide_eq_true_eq]; first | done | omega | (simp; omega)), hb⟩
     ·go_wp2;go_returns;exact ⟨by rw [HP.out]; exact zo (by rw [Bool.eq_iff_iff]; simp only [Bool.or_eq_true, Bool.and_eq_true, decide_eq_true_eq]; first | done | omega | (simp; omega)), hb⟩
   ·have h3 : ¬ 4519 < r := (by omega);go_wp2;go_returns;exact ⟨by rw [HP.out]; exact zo (by rw [Bool.eq_iff_iff]; simp only [Bool.or_eq_true, Bool.and_eq_true, decide_eq_true_eq]; first | done | omega | (simp; omega)), hb⟩
end
theorem rsec_is {w : World} {v : Value} {B : BaseF} (h : RefIs w v B) (r : Int) : Calls Tryz.prog 90 #[v, .int .i32 r] w fun e w' => e = .returned (.bool (B.sec r)) /\ Below w.heap.size w w' := by
 obtain ⟨rp, os, out, A, A2, c, c2, rfl, h2, h3, _, _, _, h4⟩ := h;rw [h4]; exact rsec_any h2 h3 r
end
section
open Go.RowKit
section
variable {w : World} {pv : Value} {B : BaseF}
theorem rsafe_any (hR : RefIs w pv B) (hbd : zan B) (f : Int) (hf : f <= 4) (r : Int) (hr : R32 r) :
  Calls Tryz.prog 51 #[pv, .int .i64 f, .int .i32 r] w fun e w' => e = .returned (.bool (B.safe (cB f) (jB f) r)) /\ Below w.heap.size w w' := by
 have hn1 : ∀ o, Below w.heap.size w (w.alloc o) := fun o => (Below.refl _ _).alloc (Nat.le_refl _) _;have HR := hz0q hR;obtain ⟨c, hc⟩ : ∃ c, c = cB f := ⟨_, rfl⟩;obtain ⟨x, t, hxt⟩ := zhl (B := B) (c := c) (r := r);have HS := hz0q (zk7 (j := jB f) hxt);have P1 := zib (cp := 1) (hR.below (hn1 (.cells #[.int .i32 r] 21))) hbd f hf (some ⟨w.heap.size, 0, none⟩) 1 [r] (Rd.new1 _ _ _) rfl (by intro z hz; rw [List.mem_singleton] at hz; rw [hz]; exact hr) (by omega);have HB0 := hz0q (hn1 (.cells #[.int .i32 r] 21));rw [<- hc] at P1 ⊢;obtain ⟨ys, hys⟩ : ∃ ys, ys = B.full c [r] := ⟨_, rfl⟩;rw [<- hys] at P1;have hyx : ys = x :: t := hys.trans hxt;have HYX := hz0q hyx;obtain ⟨N, hN⟩ : ∃ N, N = ys.length := ⟨_, rfl⟩
 have hl0 : (0 : Int) < (N : Int) := by
  have h0 : 0 < ys.length := (by rw [hyx]; simp);omega
 have HN := hz0q hN;have JF : Hid (∀ W, Calls Tryz.prog 53 #[.int .i64 f] W fun e w' => e = .returned (.bool (jB f)) /\ Below W.heap.size W w') := fun W => zid f W;obtain ⟨j, hj⟩ : ∃ j, j = jB f := ⟨_, rfl⟩;rw [<- hj] at JF HS ⊢;clear hR hbd hxt hys hyx hc hj hn1 hN;go_enter Tryz.func51, Tryz.ntmps51;go_wp2_with fail;refine P1.mono ?_;intro e w1 hf1;obtain ⟨A1, c1, rfl, hr1, hb1⟩ := hf1.rd;rw [<- HN.out] at hr1 ⊢;obtain ⟨b, off, rfl, hbl, hcx⟩ := hr1.at_ (by omega);have c0 := hcx 0 (.int .i32 x) (by rw [HYX.out]; simp);rw [Nat.add_zero] at c0;have HC0 : Hid (∀ W, Below w1.heap.size w1 W -> W.cell? ⟨b, off, none⟩ = some (.int .i32 x)) := fun W h => (h.cell (p := ⟨b, off, none⟩) hbl).trans c0;have HB1 := hz0q (zb HB0.out hb1);have C1 := zcp (HR.out.below HB1.out) x;obtain ⟨cl, hcl⟩ : ∃ cl, cl = B.cls x := ⟨_, rfl⟩;rw [<- hcl] at C1 HS;clear P1 hf1 hr1 hcx hb1 hcl hbl;go_wp2_with fail;refine C1.mono ?_;rintro e w2 ⟨rfl, rfl⟩;clear C1
 by_cases h0 : cl = 0
 ·subst h0;have J1 := JF.out w1;go_wp2_with fail;refine J1.mono ?_;rintro e w3 ⟨rfl, hb3⟩;have HB3 := hz0q (zb HB1.out hb3);have c0 := HC0.out w3 hb3;clear J1 hb3
  cases j with
  | false =>
   have HF : Hid (B.safe c false r = true) := (by show _ = _; rw [HS.out]; rfl);go_wp2;go_returns;exact ⟨by rw [HF.out]; rfl, HB3.out⟩
  | true =>
   have SC := rsec_is (HR.out.below HB3.out) x;obtain ⟨sb, hsb⟩ : ∃ sb, sb = B.sec x := ⟨_, rfl⟩;rw [<- hsb] at SC HS;clear hsb;go_wp2_with fail;refine SC.mono ?_;rintro e w4 ⟨rfl, hb4⟩;have HB4 := hz0q (zb HB3.out hb4);clear SC hb4;have HF : Hid (B.safe c true r = !sb) := by show _ = _; rw [HS.out]; cases sb <;> rfl
   cases sb with
   | true =>
    go_wp2;go_returns;exact ⟨by rw [HF.out]; rfl, HB4.out⟩
   | false =>
    go_wp2;go_returns;exact ⟨by rw [HF.out]; rfl, HB4.out⟩
 ·have hcb : (cl == 0) = false := (by simpa using h0);have HF : Hid (B.safe c j r = false) := (by show _ = _; rw [HS.out, decide_eq_false h0]; rfl);clear h0;go_wp2;go_returns;exact ⟨by rw [HF.out]; rfl, HB1.out⟩
end
end
section
open Go.RowKit
section
variable {w : World} {pv : Value} {B : BaseF}
def RCutR (B : BaseF) (c j : Bool) (xs : List Int) (e : Ending) : Prop := ∃ m : Nat, CutAt B c j xs m /\ e = .returned (.int .i64 m)
theorem rqcut_in (hR : RefIs w pv B) (hbd : zan B) (f : Int) (hf : f <= 4) (A : Option Addr) (n cp : Nat) (xs : List Int) (hrd : Rd w A n (Rs xs)) (hn : xs.length = n) (hx : ∀ x ∈ xs, R32 x) (hn2 : n <= 1000000) :
  Calls Tryz.prog 25 #[pv, .int .i64 f, .slice A n cp] w fun e w' => RCutR B (cB f) (jB f) xs e /\ Below w.heap.size w w' := by
 have KN : Hid (∀ W r, Below w.heap.size w W -> R32 r -> Calls Tryz.prog 51 #[pv, .int .i64 f, .int .i32 r] W fun e w' => e = .returned (.bool (B.safe (cB f) (jB f) r)) /\ Below W.heap.size W w') := fun W r h hr => rsafe_any (hR.below h) hbd f hf r hr;obtain ⟨c, hc⟩ : ∃ c, c = cB f := ⟨_, rfl⟩;obtain ⟨j, hj⟩ : ∃ j, j = jB f := ⟨_, rfl⟩;rw [<- hc, <- hj] at KN;rw [<- hc, <- hj];have HRD := hz0q hrd;have HN := hz0q hn;have HX := hz0q hx;have HB0 : Hid (Below w.heap.size w w) := Below.refl _ _
 have HT0 : Hid (CutAt B c j (xs.take 1) 0) := by
  show CutAt _ _ _ _ _
  cases xs with
  | nil => exact znq c j
  | cons x t =>
   have h := (znq (B := B) c j).snoc x;rw [if_neg (by simp)] at h;simpa using h
 clear hR hbd hc hj hrd hn hx;go_enter Tryz.func25, Tryz.ntmps25;go_wp2
 go_loopw [7, 8] (fun so i wr => ∃ (k m : Nat), (k <= n \/ k = 1) /\ 1 <= k /\ i = .int .i64 k /\ so = .int .i64 m /\ Hid (CutAt B c j (xs.take k) m) /\ Hid (Below w.heap.size w wr)) (fun _ i _ => n - (intOf i).toNat)
 case atStart => exact ⟨1, 0, .inr rfl, Nat.le_refl _, rfl, rfl, HT0, HB0⟩
 case round =>
  obtain ⟨k, m, hk, hk1, rfl, rfl, HC, HBW⟩ := hrel
  by_cases hlt : k < n
  ·obtain ⟨r, hr⟩ : ∃ r, xs[k]? = some r := ⟨_, List.getElem?_eq_getElem (by rw [HN.out]; exact hlt)⟩;obtain ⟨b, off, rfl, _, hcx⟩ := (HRD.out.below HBW.out).at_ (by omega);have c0 := hcx k (.int .i32 r) (by simp [Rs, hr]);have hki : (k : Int) < (n : Int) := (by omega);have S1 := KN.out wr r HBW.out (HX.out r (List.mem_of_getElem? hr));obtain ⟨sb, hsb⟩ : ∃ sb, sb = B.safe c j r := ⟨_, rfl⟩;rw [<- hsb] at S1
   have HCN : Hid (CutAt B c j (xs.take (k + 1)) (if sb = true then k else m)) := by
    show CutAt _ _ _ _ _;have h := HC.out.snoc r;have hl : (xs.take k).length = k := (by rw [List.length_take, HN.out]; omega);have hne : xs.take k ≠ [] := fun e => by rw [e] at hl; simp at hl; omega
    rw [hl, <- hsb] at h;have e1 : xs.take (k + 1) = xs.take k ++ [r] := (by rw [List.take_add_one, hr]; rfl);rw [e1];have e2 : (if xs.take k ≠ [] /\ sb = true then k else m) = (if sb = true then k else m) := (by simp [hne]);rwa [e2] at h
   clear hr hcx hsb;go_wp2_with fail;refine S1.mono ?_;rintro e w3 ⟨rfl, hb3⟩;have HB3 := hz0q (zb HBW.out hb3);clear S1 hb3 c0
   cases sb with
   | true =>
    go_wp2;go_roundw
    case rel => exact ⟨k + 1, k, .inl (by omega), by omega, by go_num, rfl, HCN, HB3⟩
    case measure => simp [intOf] <;> omega
   | false =>
    go_wp2;go_roundw
    case rel => exact ⟨k + 1, m, .inl (by omega), by omega, by go_num, rfl, HCN, HB3⟩
    case measure => simp [intOf] <;> omega
  ·have hki : ¬ ((k : Int) < (n : Int)) := by omega
   have HF : Hid (CutAt B c j xs m) := by
    have h := HC.out;rw [List.take_of_length_le (by rw [HN.out]; omega)] at h;exact h
   go_wp2;go_returns;exact ⟨⟨m, HF.out, rfl⟩, HBW.out⟩
theorem rqcut_any (hR : RefIs w pv B) (hbd : zan B) (f : Int) (hf : f <= 4) (A : Option Addr) (n cp : Nat) (xs : List Int) (hrd : Rd w A n (Rs xs)) (hn : xs.length = n) (hx : ∀ x ∈ xs, R32 x) (hn2 : n <= 1000000) :
  Calls Tryz.prog 25 #[pv, .int .i64 f, .slice A n cp] w fun e w' => (∃ m : Nat, CutAt B (cB f) (jB f) xs m /\ e = .returned (.int .i64 m)) /\ Below w.heap.size w w' :=
 rqcut_in hR hbd f hf A n cp xs hrd hn hx hn2
end
end
end Go.Proofs.YtfdelmodmadoaaaGreatDoor
