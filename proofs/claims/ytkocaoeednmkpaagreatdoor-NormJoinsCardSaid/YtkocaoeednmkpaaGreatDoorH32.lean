/- Which characters are made of two: the document's code. -/
import Derived.Test.YtkocaoeednmkpaaGreatDoorH28
set_option linter.unusedSimpArgs false
set_option linter.unusedVariables false
set_option maxRecDepth 20000
set_option maxHeartbeats 4000000
namespace Go.Proofs.YtkocaoeednmkpaaGreatDoor
section
open Go.RowKit
section
variable {w w' : World} {rp : Nat} {os : List RA} {out : List Int} {A A2 : Option Addr} {c c2 : Nat}
theorem zfs (h : RefM w rp os out A A2 c c2) (g : RowsG (os.map (·.1))) (x : RA) (hx : x ∈ os) : Calls Tryz.prog 67 #[.pointer (some ⟨rp, 0, none⟩), rowAV x] w fun e w' => e = .returned (.bool (madeQ (clsL (os.map (·.1))) (prtL (os.map (·.1))) out x.1.fr)) /\ Below w.heap.size w w' := by
 rw [<- zfx g out (List.mem_map_of_mem hx)];have hb : ∀ o, Below w.heap.size w (w.alloc o) := fun o => (Below.refl _ _).alloc (Nat.le_refl _) _;have hv := g.v x.1 (List.mem_map_of_mem hx);have hrd := h.rows.into x hx;have OUT := fun o => rout_any (h.below (hb o)) x.1.fr;have CLS := fun o u => zjg (h.below (hb o)) g u;have HB := hz0q hb;obtain ⟨cls, hcls⟩ : ∃ f, f = clsL (os.map (·.1)) := ⟨_, rfl⟩;rw [<- hcls] at CLS ⊢;obtain ⟨⟨fr, up, nm, ct, cl, kd, il⟩, Ax, cx⟩ := x;simp only [rowAV] at hrd OUT ⊢;obtain ⟨res, hres⟩ : ∃ b, b = madeR cls out ⟨fr, up, nm, ct, cl, kd, il⟩ := ⟨_, rfl⟩;rw [<- hres];have HRES := hz0q hres;clear h g hx hcls hv hb hres
 by_cases hk : kd = []
 rotate_left
 ·have hte : (mk8 kd).toList.isEmpty = false := by
   rw [zk, zy]
   cases kd with
   | nil => exact absurd rfl hk
   | cons c t => rfl
  obtain rfl : res = false := (by rw [HRES.out]; unfold madeR; rw [decide_eq_false hk, Bool.false_and]);clear hk OUT CLS hrd;go_enter Tryz.func67, Tryz.ntmps67;go_wp2;go_returns;exact ⟨rfl, HB.out _⟩
 ·subst hk;have hte : (mk8 ([] : List UInt8)).toList.isEmpty = true := by rw [zk, zy]; rfl
  by_cases hl : il.length = 2
  rotate_left
  ·obtain rfl : res = false := (by rw [HRES.out]; unfold madeR; rw [decide_eq_false hl, Bool.false_and, Bool.and_false]);obtain ⟨m, hm⟩ : ∃ m, m = il.length := ⟨_, rfl⟩;rw [<- hm] at hl ⊢;have hl3 : ((m : Int) == 2) = false := (by simpa using fun e : (m : Int) = 2 => hl (by omega));clear hl OUT CLS hrd hm;go_enter Tryz.func67, Tryz.ntmps67;go_wp2;go_returns;first | exact ⟨rfl, HB.out _⟩ | exact ⟨zn (by simpa using hl3), HB.out _⟩
  ·obtain ⟨u, v, rfl⟩ : ∃ u v, il = [u, v] := by
    match il, hl with
    | [u, v], _ => exact ⟨u, v, rfl⟩
   have HRES2 : Hid (res = (!decide (fr ∈ out) && (decide (cl = 0) && decide (cls u = 0)))) := HRES.out.trans (by unfold madeR; rfl);rw [show ([u, v] : List Int).length = 2 from rfl] at hrd ⊢;clear hl;obtain ⟨b, off, rfl, hbl, hcx⟩ := hrd.at_ (by omega)
   have hu : ∀ o, (w.alloc o).cell? ⟨b, off, none⟩ = some (.int .i32 u) := fun o => by
    have := ((HB.out o).cell (p := ⟨b, off, none⟩) hbl).trans (hcx 0 (.int .i32 u) (by simp [Rs]));simpa using this
   obtain ⟨bo, hbo⟩ : ∃ bo : Bool, bo = decide (fr ∈ out) := ⟨_, rfl⟩;rw [<- hbo] at OUT;have HBO := hz0q hbo;have OU := OUT (.cells #[.int .i32 fr, .int .i32 up, .string (mk8 nm), .string (mk8 ct), .int .i64 cl, .string (mk8 []), .slice (some ⟨b, off, none⟩) 2 cx] 99);have CU := CLS (.cells #[.int .i32 fr, .int .i32 up, .string (mk8 nm), .string (mk8 ct), .int .i64 cl, .string (mk8 []), .slice (some ⟨b, off, none⟩) 2 cx] 99) u;obtain ⟨cu, hcu⟩ : ∃ z, z = cls u := ⟨_, rfl⟩;rw [<- hcu] at CU;have HCU := hz0q hcu;have hbF := HB.out (.cells #[.int .i32 fr, .int .i32 up, .string (mk8 nm), .string (mk8 ct), .int .i64 cl, .string (mk8 []), .slice (some ⟨b, off, none⟩) 2 cx] 99);have hu0 := hu (.cells #[.int .i32 fr, .int .i32 up, .string (mk8 nm), .string (mk8 ct), .int .i64 cl, .string (mk8 []), .slice (some ⟨b, off, none⟩) 2 cx] 99);have hbx := zl w #[.int .i32 fr, .int .i32 up, .string (mk8 nm), .string (mk8 ct), .int .i64 cl, .string (mk8 []), .slice (some ⟨b, off, none⟩) 2 cx] 99;clear hbo hcu OUT CLS hu hcx hrd
   cases bo with
   | true =>
    obtain rfl : res = false := (by rw [HRES2.out, <- HBO.out]; rfl);clear CU;go_enter Tryz.func67, Tryz.ntmps67;go_wp2_with (first | (go_at_call 97; refine OU.mono ?_; rintro e w1 ⟨rfl, rfl⟩) | go_in)
    go_returns;exact ⟨rfl, hbF⟩
   | false =>
    by_cases hc0 : cl = 0
    ·subst hc0;have HR3 : Hid (res = decide (cu = 0)) := (by show _ = _; rw [HRES2.out, <- HBO.out, HCU.out]; rfl);go_enter Tryz.func67, Tryz.ntmps67;go_wp2_with (first | (go_at_call 97; refine OU.mono ?_; rintro e w1 ⟨rfl, rfl⟩) | (go_at_call 53; refine CU.mono ?_; rintro e w1 ⟨rfl, rfl⟩) | go_in)
     go_returns;exact ⟨zn (by rw [HR3.out]; first | rfl | (rw [Bool.eq_iff_iff]; simp)), hbF⟩
    ·have hcc : (cl == 0) = false := (by simpa using hc0);obtain rfl : res = false := (by rw [HRES2.out, decide_eq_false hc0, Bool.false_and, Bool.and_false]);clear CU hc0;go_enter Tryz.func67, Tryz.ntmps67;go_wp2_with (first | (go_at_call 97; refine OU.mono ?_; rintro e w1 ⟨rfl, rfl⟩) | go_in)
     go_returns;first | exact ⟨rfl, hbF⟩ | exact ⟨zn (by simpa using hcc), hbF⟩
theorem zfw {cls : Int -> Int} {out : List Int} {x : RowS} (h : madeR cls out x = true) : ∃ u v, x.il = [u, v] := by
 unfold madeR at h;simp only [Bool.and_eq_true, decide_eq_true_eq] at h;match hil : x.il, h.2.1 with
 | [u, v], _ => exact ⟨u, v, rfl⟩
theorem zh3 (h : RefM w rp os out A A2 c c2) (g : RowsG (os.map (·.1))) (x y : Int) (hx : R32 x) (hy : R32 y) : Calls Tryz.prog 69 #[.pointer (some ⟨rp, 0, none⟩), .int .i32 x, .int .i32 y] w fun e w' => e = .returned (zbu (pairH (prL (os.map (·.1)) out) x y)) /\ Below w.heap.size w w' := by
 have c0 := za h.box 0 rfl;have hl := h.len;have HH := hz0q h;have HG := hz0q g;obtain ⟨Q, hQ⟩ : ∃ Q : RowS -> Bool, Q = fun z => madeQ (clsL (os.map (·.1))) (prtL (os.map (·.1))) out z.fr && decide (zau (prtL (os.map (·.1))) z.fr = (x, y)) := ⟨_, rfl⟩;have HQ := hz0q hQ
 have HFIN : Hid (∀ k (z : RowS), (os.map (·.1))[k]? = some z -> Q z = true -> (∀ j t, j < k -> (os.map (·.1))[j]? = some t -> Q t = false) -> pairH (prL (os.map (·.1)) out) x y = some z.fr) := fun k z hz hq hfst => by
  unfold pairH prL;rw [<- HQ.out];rw [zjz hz hq hfst];rfl
 have HNO : Hid ((∀ j t, (os.map (·.1))[j]? = some t -> Q t = false) -> pairH (prL (os.map (·.1)) out) x y = if (joinH x y).2 = true then some (joinH x y).1 else none) := fun hno => by
  unfold pairH prL;rw [<- HQ.out]
  have : (os.map (·.1)).find? Q = none := List.find?_eq_none.2 fun t ht => by
   obtain ⟨j, hj⟩ := List.getElem?_of_mem ht;rw [hno j t hj]; simp
  rw [this];rfl
 have JN := fun W => zh5 x y W hx.1 (by have := hx.2; omega) hy.1 (by have := hy.2; omega);clear h g hQ;go_enter Tryz.func69, Tryz.ntmps69;go_wp2
 go_loopw [8] (fun i wr => ∃ k : Nat, k <= os.length /\ i = .int .i64 k /\ Hid (∀ j t, j < k -> (os.map (·.1))[j]? = some t -> Q t = false) /\ Below w.heap.size w wr) (fun i _ => os.length - (intOf i).toNat)
 case atStart => exact ⟨0, Nat.zero_le _, rfl, fun j t h _ => absurd h (by omega), Below.refl _ _⟩
 case round =>
  obtain ⟨k, hk, rfl, HF, hb⟩ := hrel;have hM := HH.out.below hb;have d0 := za hM.box 0 rfl
  by_cases hlt : k < os.length
  ·obtain ⟨z, hz⟩ : ∃ z, os[k]? = some z := ⟨_, List.getElem?_eq_getElem hlt⟩;have hzm := List.mem_of_getElem? hz;have MD := zfs hM HG.out z hzm;obtain ⟨b, off, rfl, hbl, hc⟩ := hM.rows.at_ (by omega);obtain ⟨⟨fr, up, nm, ct, cl, kd, il⟩, Ax, cx⟩ := z;obtain ⟨e0, e1, e2, e3, e4, e5, e6⟩ := zbe hz hc;have hrd := hM.rows.into _ hzm;simp only [rowAV] at MD hrd e0 e1 e2 e3 e4 e5 e6;obtain ⟨md, hmd⟩ : ∃ md, md = madeQ (clsL (os.map (·.1))) (prtL (os.map (·.1))) out fr := ⟨_, rfl⟩;rw [<- hmd] at MD;have HMD := hz0q hmd;have HZ : Hid ((os.map (·.1))[k]? = some ⟨fr, up, nm, ct, cl, kd, il⟩) := (by show _ = _; rw [List.getElem?_map, hz]; rfl);have HZM := hz0q (List.mem_map_of_mem (f := (·.1)) hzm);have hi : (k : Int) < (os.length : Int) := (by omega);have HB := hz0q hb
   have HSTEP : Hid (Q ⟨fr, up, nm, ct, cl, kd, il⟩ = false -> ∀ j t, j < k + 1 -> (os.map (·.1))[j]? = some t -> Q t = false) := fun hq j t hj ht => by
    by_cases hjk : j < k
    ·exact HF.out j t hjk ht
    ·have : j = k := (by omega);subst this;rw [HZ.out] at ht;injection ht with ht;rw [<- ht];exact hq
   clear hmd hz hzm hc hb hM
   cases md with
   | false =>
    have hq : Q ⟨fr, up, nm, ct, cl, kd, il⟩ = false := (by rw [HQ.out]; simp only []; rw [<- HMD.out]; rfl);have HF2 := hz0q (HSTEP.out hq);clear hq hrd;go_wp2_with (first | (go_at_call 67; refine MD.mono ?_; rintro e w2 ⟨rfl, hb2⟩) | go_in)
    have hb3 := zb HB.out hb2;go_roundw
    case rel => exact ⟨k + 1, by omega, by go_num, HF2, hb3⟩
    case measure => simp [intOf]; omega
   | true =>
    have hil : ∃ u v, il = [u, v] := by
     have := zfx HG.out out HZM.out;exact zfw (this.trans HMD.out.symm)
    obtain ⟨u, v, rfl⟩ := hil;have HT := hz0q (zob HG.out HZM.out (u := u) (v := v) rfl);have hlen : ([u, v] : List Int).length = 2 := rfl;rw [hlen] at hrd e6 MD;clear hlen;obtain ⟨b2, off2, rfl, hbl2, hc2⟩ := hrd.at_ (by omega);have f0 : wr.cell? ⟨b2, off2, none⟩ = some (.int .i32 u) := (by have := hc2 0 (.int .i32 u) (by simp [Rs]); simpa using this);have f1 : wr.cell? ⟨b2, off2 + 1, none⟩ = some (.int .i32 v) := hc2 1 (.int .i32 v) (by simp [Rs])
    have HCE : Hid (∀ w2, Below wr.heap.size wr w2 -> w2.cell? ⟨rp, 0, none⟩ = some (.slice (some ⟨b, off, none⟩) os.length c) /\ w2.cell? ⟨b, off + k * 7, none⟩ = some (.int .i32 fr) /\ w2.cell? ⟨b, off + k * 7 + 6, none⟩ = some (.slice (some ⟨b2, off2, none⟩) 2 cx) /\ w2.cell? ⟨b2, off2, none⟩ = some (.int .i32 u) /\ w2.cell? ⟨b2, off2 + 1, none⟩ = some (.int .i32 v)) := fun w2 hb2 =>
     ⟨(hb2.cell (p := ⟨rp, 0, none⟩) (World.block_lt_of_cell? wr _ d0)).trans d0, (hb2.cell (p := ⟨b, off + k * 7, none⟩) hbl).trans e0, (hb2.cell (p := ⟨b, off + k * 7 + 6, none⟩) hbl).trans e6, (hb2.cell (p := ⟨b2, off2, none⟩) hbl2).trans f0, (hb2.cell (p := ⟨b2, off2 + 1, none⟩) hbl2).trans f1⟩
    clear hc2 hrd f0 f1
    by_cases hu : u = x
    ·by_cases hv : v = y
     ·have hq : Q ⟨fr, up, nm, ct, cl, kd, [u, v]⟩ = true := by
       rw [HQ.out];simp only [];rw [<- HMD.out, HT.out, hu, hv];simp
      have HP : Hid (zbu (pairH (prL (os.map (·.1)) out) x y) = .tuple #[.int .i32 fr, .bool true]) := by
       show _ = _;rw [HFIN.out k _ HZ.out hq HF.out];rfl
      have hu' : (u == x) = true := (by simpa using hu);have hv' : (v == y) = true := (by simpa using hv);clear hq hu hv;go_wp2_with (first | (go_at_call 67; refine MD.mono ?_; rintro e w2 ⟨rfl, hb2⟩; obtain ⟨t0, t1, t2, t3, t4⟩ := HCE.out w2 hb2; clear e0 e1 e2 e3 e4 e5 e6 d0) | go_in)
      have hb3 := zb HB.out hb2;go_returns;exact ⟨by rw [HP.out]; rfl, hb3⟩
     ·have hq : Q ⟨fr, up, nm, ct, cl, kd, [u, v]⟩ = false := by
       rw [HQ.out];simp only [];rw [HT.out, decide_eq_false (by intro e; injection e with e1 e2; exact hv e2)];simp
      have HF2 := hz0q (HSTEP.out hq);have hu' : (u == x) = true := (by simpa using hu);have hv' : (v == y) = false := (by simpa using hv);clear hq hu hv;go_wp2_with (first | (go_at_call 67; refine MD.mono ?_; rintro e w2 ⟨rfl, hb2⟩; obtain ⟨t0, t1, t2, t3, t4⟩ := HCE.out w2 hb2; clear e0 e1 e2 e3 e4 e5 e6 d0) | go_in)
      have hb3 := zb HB.out hb2;go_roundw
      case rel => exact ⟨k + 1, by omega, by go_num, HF2, hb3⟩
      case measure => simp [intOf]; omega
    ·have hq : Q ⟨fr, up, nm, ct, cl, kd, [u, v]⟩ = false := by
      rw [HQ.out];simp only [];rw [HT.out, decide_eq_false (by intro e; injection e with e1 e2; exact hu e1)];simp
     have HF2 := hz0q (HSTEP.out hq);have hu' : (u == x) = false := (by simpa using hu);clear hq hu;go_wp2_with (first | (go_at_call 67; refine MD.mono ?_; rintro e w2 ⟨rfl, hb2⟩; obtain ⟨t0, t1, t2, t3, t4⟩ := HCE.out w2 hb2; clear e0 e1 e2 e3 e4 e5 e6 d0) | go_in)
     have hb3 := zb HB.out hb2;go_roundw
     case rel => exact ⟨k + 1, by omega, by go_num, HF2, hb3⟩
     case measure => simp [intOf]; omega
  ·obtain rfl : k = os.length := (by omega);have hi : (os.length : Int) <= (os.length : Int) := Int.le_refl _
   have HP : Hid (zbu (pairH (prL (os.map (·.1)) out) x y) = .tuple #[.int .i32 (joinH x y).1, .bool (joinH x y).2]) := by
    show _ = _;rw [HNO.out fun j t ht => HF.out j t (by have := (List.getElem?_eq_some_iff.1 ht).1; simpa using this) ht]
    cases hj : (joinH x y).2 with
    | true => rfl
    | false => rw [zoh hj]; rfl
   have JN2 := JN wr;obtain ⟨jz, jb, hjz⟩ : ∃ (jz : Int) (jb : Bool), joinH x y = (jz, jb) := ⟨_, _, rfl⟩;rw [hjz] at JN2;have HJ := hz0q hjz;clear hM hjz;go_wp2_with (first | (go_at_call 68; refine JN2.mono ?_; rintro e w2 ⟨rfl, rfl⟩) | go_in)
   go_returns;exact ⟨by rw [HP.out, HJ.out]; rfl, hb⟩
end
end
end Go.Proofs.YtkocaoeednmkpaaGreatDoor
