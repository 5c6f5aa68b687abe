/- New of the document: the code. -/
import Derived.Test.YtfdelmodmadoaaaGreatDoorY30
import Derived.Test.YtfdelmodmadoaaaGreatDoorY31
import Derived.Test.YtfdelmodmadoaaaGreatDoorY32
set_option linter.unusedSimpArgs false
set_option linter.unusedVariables false
set_option maxRecDepth 20000
set_option maxHeartbeats 4000000
namespace Go.Proofs.YtfdelmodmadoaaaGreatDoor
section
open Go.RowKit
def RNewP (rows : List RowS) (out : List Int) (w : World) (e : Ending) (w' : World) : Prop :=
 (∃ er : Int, er ≠ 0 /\ e = .returned (.tuple #[.pointer none, .int .i64 er]) /\ Below w.heap.size w w') \/
 (∃ rp os A A2 c c2, e = .returned (.tuple #[.pointer (some ⟨rp, 0, none⟩), .int .i64 0]) /\ os.map (·.1) = rows /\ RefM w' rp os out A A2 c c2 /\ Below w.heap.size w w')
abbrev badC (b0 b1 b2 b3 b4 : Bool) : Obj := .cells #[.bool b0, .bool b1, .bool b2, .bool b3, .bool b4] 149 (0, 0)
theorem zaw {W : World} {q : Nat} {cs : Array Value} {t : TypeId} {fr : Nat × Nat} (h : W.heap[q]? = some (.cells cs t fr)) (i : Nat) (v : Value) : (W.setCell ⟨q, i, none⟩ v).heap[q]? = some (.cells (cs.setIfInBounds i v) t fr) := by
 simp [World.setCell, Array.getElem?_modify, h]
theorem zas {W : World} {q : Nat} {cs : Array Value} {t : TypeId} (h : W.heap[q]? = some (.cells cs t (0, 0))) (i : Nat) : W.frozen? ⟨q, i, none⟩ = false := by simp [World.frozen?, h]
section
variable {w : World}
theorem rnew_rows (s o : ByteArray) (hs : s.size <= 1073741824) (hbad : (rowsS (bs s)).2.2 ≠ 0) : Calls Tryz.prog 44 #[.string s, .string o] w (RNewP (rowsS (bs s)).1 (setsS (bs o)).1 w) := by
 have RW := zg5 s w hs;obtain ⟨⟨rows, ln, er⟩, hR⟩ : ∃ R, R = rowsS (bs s) := ⟨_, rfl⟩;rw [<- hR] at RW hbad ⊢;simp only [] at hbad ⊢;have hne : ((er : Int) != 0) = true := (by simpa using hbad);have HNE := hz0q hbad;clear hR hbad;go_enter Tryz.func44, Tryz.ntmps44;go_wp2_with fail;refine RW.mono ?_;rintro e w1 ⟨os, A, c, ho, rfl, hat, hb1⟩;clear RW ho hat;go_wp2;go_returns;exact .inl ⟨er, HNE.out, rfl, hb1⟩
theorem rnew_sets (s o : ByteArray) (hs : s.size <= 1073741824) (ho1 : o.size <= 1073741824) (h0 : (rowsS (bs s)).2.2 = 0) (hbad : (setsS (bs o)).2.2 ≠ 0) : Calls Tryz.prog 44 #[.string s, .string o] w (RNewP (rowsS (bs s)).1 (setsS (bs o)).1 w) := by
 have RW := zg5 s w hs;have ST := fun W => zju o W ho1;obtain ⟨⟨rows, ln, e0⟩, hR⟩ : ∃ R, R = rowsS (bs s) := ⟨_, rfl⟩;rw [<- hR] at RW h0 ⊢;simp only [] at h0 ⊢;subst h0;obtain ⟨⟨out, ln2, er⟩, hS⟩ : ∃ R, R = setsS (bs o) := ⟨_, rfl⟩;rw [<- hS] at ST hbad ⊢;simp only [] at hbad ⊢;have hne : ((er : Int) != 0) = true := (by simpa using hbad);have HNE := hz0q hbad;clear hR hS hbad;go_enter Tryz.func44, Tryz.ntmps44;go_wp2_with fail;refine RW.mono ?_;rintro e w1 ⟨os, A, c, ho, rfl, hat, hb1⟩;have ST1 := ST w1;clear RW ho hat ST;go_wp2_with fail;refine ST1.mono ?_;rintro e w2 ⟨A2, c2, rfl, hown2, hb2⟩;have hbb := zb hb1 hb2;clear ST1 hown2 hb1 hb2;go_wp2;go_returns;exact .inl ⟨er, HNE.out, rfl, hbb⟩
theorem rnew_main (s o : ByteArray) (hs : s.size <= 1073741824) (ho1 : o.size <= 1073741824) (h0 : (rowsS (bs s)).2.2 = 0) (h01 : (setsS (bs o)).2.2 = 0) : Calls Tryz.prog 44 #[.string s, .string o] w (RNewP (rowsS (bs s)).1 (setsS (bs o)).1 w) := by
 have RW := zg5 s w hs;have ST := fun W => zju o W ho1;have hg := zlr (bs s);have hrl := zg7 (bs s);have hsl := zjs (bs o);obtain ⟨⟨rows, ln, e0⟩, hR⟩ : ∃ R, R = rowsS (bs s) := ⟨_, rfl⟩;rw [<- hR] at RW h0 hg hrl ⊢;simp only [] at h0 hg hrl ⊢;subst h0;obtain ⟨⟨out, ln2, er⟩, hS⟩ : ∃ R, R = setsS (bs o) := ⟨_, rfl⟩;rw [<- hS] at ST h01 hsl ⊢;simp only [] at h01 hsl ⊢;subst h01;have HG := hz0q hg;clear hR hS hg;go_enter Tryz.func44, Tryz.ntmps44;go_wp2_with fail;refine RW.mono ?_;rintro e w1 ⟨os, A, c, ho, rfl, hat, hb1⟩;have ST1 := ST w1;have hrdR := hat.rd;simp only [] at ho;have HO := hz0q ho;have hol : os.length <= 4096 := (by have := congrArg List.length ho; rw [List.length_map] at this; omega);clear RW hat ST ho;go_wp2_with fail;refine ST1.mono ?_;rintro e w2 ⟨A2, c2, rfl, hown2, hb2⟩;obtain ⟨A3, cap3, hv3, _, _, hrd2⟩ := Rd.of_own hown2;injection hv3 with e1 _ e3;subst e1 e3;obtain ⟨wB, hwB⟩ : ∃ wB, w2.alloc (.cells #[.slice A os.length c, .slice A2 out.length c2] 148) = wB := ⟨_, rfl⟩;have hbB : Below w2.heap.size w2 wB := (by rw [<- hwB]; exact (Below.refl _ _).alloc (Nat.le_refl _) _);have hM : RefM wB w2.heap.size os out A A2 c c2 := ⟨by rw [<- hwB]; exact zr _ _ _, (hrdR.below hb2).below hbB, hrd2.below hbB, by omega, by omega⟩;have hzB : wB.heap.size = w2.heap.size + 1 := (by rw [<- hwB, World.size_alloc]);have hbwB := zb (zb hb1 hb2) hbB;have hbad := zr wB #[.bool false, .bool false, .bool false, .bool false, .bool false] 149;have hbb : Below wB.heap.size wB (wB.alloc (.cells #[.bool false, .bool false, .bool false, .bool false, .bool false] 149)) := (Below.refl _ _).alloc (Nat.le_refl _) _
 have HWB := hz0q hwB;have HM := hz0q hM;have HBW := hz0q hbwB;have HZB := hz0q hzB;obtain ⟨rp, hrp⟩ : ∃ rp, rp = w2.heap.size := ⟨_, rfl⟩;obtain ⟨q, hq⟩ : ∃ q, q = wB.heap.size := ⟨_, rfl⟩;have HRP := hz0q hrp;have HQ := hz0q hq;clear ST1 hown2 hrdR hrd2 hb1 hb2 hbB hM hwB hbwB;have hEC : Hid (∀ W, Below wB.heap.size wB W -> RefM W rp os out A A2 c c2) := fun W hb => by rw [HRP.out]; exact HM.out.below hb
 have HGO : Hid (RowsG (os.map (·.1))) := (by show RowsG _; rw [HO.out]; exact HG.out);obtain ⟨D, hD⟩ : ∃ D, D = fun x => (decH (prtL (os.map (·.1))) x).2 := ⟨_, rfl⟩;have HD := hz0q hD;have HFR : Hid (∀ x ∈ os, x.1.fr ∈ allR) := fun x hx => zbw (HGO.out.v x.1 (List.mem_map_of_mem hx)).fr
 have BK : Hid (∀ W x, Below wB.heap.size wB W -> x ∈ os -> Calls Tryz.prog 79 #[.pointer (some ⟨rp, 0, none⟩), .int .i32 x.1.fr] W (BackP D x.1.fr W)) := fun W x hb hx => by
  rw [HD.out]; exact rback_any (hEC.out W hb) HGO.out x.1.fr (HFR.out x hx)
 clear hD;go_wp2;rw [HWB.out];simp only [show w2.heap.size = rp from HRP.out.symm, show rp + 1 = q by have := HZB.out; have := HRP.out; have := HQ.out; omega];rw [<- hq] at hbad
 have hI1 : Hid (∃ b0 b1 b2, (wB.alloc (.cells #[.bool false, .bool false, .bool false, .bool false, .bool false] 149)).heap[q]? = some (badC b0 b1 b2 false false) /\ (b0 = false -> ∀ j x, j < 0 -> os[j]? = some x -> zao x.1 = false) /\ (b2 = false -> ∀ j x, j < 0 -> os[j]? = some x -> ¬ Down D x.1.fr x.1.fr) /\ Below wB.heap.size wB (wB.alloc (.cells #[.bool false, .bool false, .bool false, .bool false, .bool false] 149))) :=
  ⟨false, false, false, hbad, fun _ j x h => absurd h (Nat.not_lt_zero _), fun _ j x h => absurd h (Nat.not_lt_zero _), hbb⟩
 clear hbad hbb hq hrp hzB
 go_loopw [14] (fun s14 wr => ∃ k : Nat, k <= os.length /\ s14 = .int .i64 k /\ Hid (∃ b0 b1 b2, wr.heap[q]? = some (badC b0 b1 b2 false false) /\ (b0 = false -> ∀ j x, j < k -> os[j]? = some x -> zao x.1 = false) /\ (b2 = false -> ∀ j x, j < k -> os[j]? = some x -> ¬ Down D x.1.fr x.1.fr) /\ Below wB.heap.size wB wr)) (fun s14 _ => os.length - (intOf s14).toNat)
 case atStart => exact ⟨0, Nat.zero_le _, rfl, hI1⟩
 case round =>
  obtain ⟨k, hk, rfl, HI⟩ := hrel;obtain ⟨b0, b1, b2, hq0, ht0, hd0, hbw⟩ := HI.out;have HT0 := hz0q ht0;have HD0 := hz0q hd0;have hM := hEC.out _ hbw;have hql : q = wB.heap.size := HQ.out;clear HI ht0 hd0
  by_cases hlt : k < os.length
  ·obtain ⟨⟨x, Ax, cx⟩, hx⟩ : ∃ x, os[k]? = some x := ⟨_, List.getElem?_eq_getElem hlt⟩;have hxm := List.mem_of_getElem? hx;obtain ⟨b, off, rfl, hbl, hc⟩ := hM.rows.at_ (by omega);obtain ⟨e0, e1, e2, e3, e4, e5, e6⟩ := za9 hx hc;have hi : (k : Int) < (os.length : Int) := (by omega);have HX := hz0q hx;have HXM := hz0q hxm;have HBW1 := hz0q hbw;have HQ0 := hz0q hq0;clear hx hxm hc hM hql hbw hq0;have HQN : Hid (q < wr.heap.size) := (Array.getElem?_eq_some_iff.1 HQ0.out).1;go_upto_region 13 with fail;have hbx := zr wr #[.int .i32 x.fr, .int .i32 x.up, .string (mk8 x.nm), .string (mk8 x.ct), .int .i64 x.cl, .string (mk8 x.kd), .slice Ax x.il.length cx] 150;have hq1 : (wr.alloc (.cells #[.int .i32 x.fr, .int .i32 x.up, .string (mk8 x.nm), .string (mk8 x.ct), .int .i64 x.cl, .string (mk8 x.kd), .slice Ax x.il.length cx] 150)).heap[q]? = some (badC b0 b1 b2 false false) := zba _ HQ0.out;have hb1 : Below wB.heap.size wB (wr.alloc (.cells #[.int .i32 x.fr, .int .i32 x.up, .string (mk8 x.nm), .string (mk8 x.ct), .int .i64 x.cl, .string (mk8 x.kd), .slice Ax x.il.length cx] 150)) := HBW1.out.alloc HBW1.out.size _;generalize (wr.alloc (.cells #[.int .i32 x.fr, .int .i32 x.up, .string (mk8 x.nm), .string (mk8 x.ct), .int .i64 x.cl, .string (mk8 x.kd), .slice Ax x.il.length cx] 150)) = W3 at *;obtain ⟨p, hp⟩ : ∃ p, p = wr.heap.size := ⟨_, rfl⟩;rw [<- hp] at hbx;simp only [<- hp];have HPQ : Hid (p ≠ q) := (by have := HQN.out; show _ ≠ _; omega);have d0 := za hbx 0 rfl;have d1 := za hbx 1 rfl
   have d4 := za hbx 4 rfl;have d5 := za hbx 5 rfl;have d6 := za hbx 6 rfl;have HBX := hz0q hbx;have HQ1 := hz0q hq1;have HB1 := hz0q hb1;have HTX : Hid (zao x = decide ((0 < x.cl \/ 0 < x.il.length) /\ x.fr <= 55203 /\ 44032 <= x.up)) := (by show _ = _; rfl);obtain ⟨m, hm⟩ : ∃ m, m = x.il.length := ⟨_, rfl⟩;rw [<- hm] at HTX d6;have HMM := hz0q hm;clear hbx hq1 hb1 hp e0 e1 e2 e3 e4 e5 e6 hm;obtain ⟨tb, htb⟩ : ∃ tb, tb = zao x := ⟨_, rfl⟩;have HTB := hz0q htb;clear htb
   go_cut [14, 74] (fun s14 s74 wx => s14 = .int .i64 k /\ s74 = .bool tb /\ wx = W3)
   case first =>
    by_cases c1 : 0 < x.cl
    ·by_cases c3 : x.fr <= 55203
     ·by_cases c4 : 44032 <= x.up
      ·have HV : Hid (tb = true) := (by show _ = _; rw [HTB.out, HTX.out, decide_eq_true ⟨.inl c1, c3, c4⟩]);go_wp2;go_meet
       exact ⟨rfl, by rw [HV.out], rfl⟩
      ·have HV : Hid (tb = false) := (by show _ = _; rw [HTB.out, HTX.out, decide_eq_false (fun h => c4 h.2.2)]);go_wp2;go_meet
       exact ⟨rfl, by rw [HV.out], rfl⟩
     ·have HV : Hid (tb = false) := (by show _ = _; rw [HTB.out, HTX.out, decide_eq_false (fun h => c3 h.2.1)]);go_wp2;go_meet
      exact ⟨rfl, by rw [HV.out], rfl⟩
    ·by_cases c2 : 0 < m
     ·have c2' : (0 : Int) < (m : Int) := by omega
      by_cases c3 : x.fr <= 55203
      ·by_cases c4 : 44032 <= x.up
       ·have HV : Hid (tb = true) := (by show _ = _; rw [HTB.out, HTX.out, decide_eq_true ⟨.inr c2, c3, c4⟩]);go_wp2;go_meet
        exact ⟨rfl, by rw [HV.out], rfl⟩
       ·have HV : Hid (tb = false) := (by show _ = _; rw [HTB.out, HTX.out, decide_eq_false (fun h => c4 h.2.2)]);go_wp2;go_meet
        exact ⟨rfl, by rw [HV.out], rfl⟩
      ·have HV : Hid (tb = false) := (by show _ = _; rw [HTB.out, HTX.out, decide_eq_false (fun h => c3 h.2.1)]);go_wp2;go_meet
       exact ⟨rfl, by rw [HV.out], rfl⟩
     ·have HV : Hid (tb = false) := (by show _ = _; rw [HTB.out, HTX.out, decide_eq_false (fun h => h.1.elim c1 c2)]);have hm0 : (m : Int) <= 0 := (by omega);go_wp2;go_meet
      exact ⟨rfl, by rw [HV.out], rfl⟩
   case rest =>
    obtain ⟨rfl, rfl, hwx⟩ := hcut;rw [hwx];clear hwx;have HQX := hz0q HQ1.out;have HXX := hz0q HBX.out;have HBX2 := hz0q HB1.out
    cases tb with
    | true =>
     have cq := za HQX.out 0 rfl;have fq := zas HQX.out 0;have hqW3 : (W3.setCell ⟨q, 0, none⟩ (.bool true)).heap[q]? = some (badC true b1 b2 false false) := (by simpa using zaw HQX.out 0 (.bool true));have hxW3 : (W3.setCell ⟨q, 0, none⟩ (.bool true)).heap[p]? = some (.cells #[.int .i32 x.fr, .int .i32 x.up, .string (mk8 x.nm), .string (mk8 x.ct), .int .i64 x.cl, .string (mk8 x.kd), .slice Ax x.il.length cx] 150 (0, 0)) := (Below.heap_setCell W3 ⟨q, 0, none⟩ _ p HPQ.out).trans HXX.out;have hbW3 : Below wB.heap.size wB (W3.setCell ⟨q, 0, none⟩ (.bool true)) := HBX2.out.setCell (p := ⟨q, 0, none⟩) (by show wB.heap.size <= q; rw [HQ.out]; exact Nat.le_refl _) _;go_upto_region 15 with fail;generalize (W3.setCell ⟨q, 0, none⟩ (.bool true)) = W4 at *;have HQ4 := hz0q hqW3;have HX4 := hz0q hxW3;have HB4 := hz0q hbW3;have d5 := za HX4.out 5 rfl;have d6 := za HX4.out 6 rfl;rw [<- HMM.out] at d6;clear hqW3 hxW3 hbW3 cq fq d0 d1 d4;obtain ⟨fb, hfb⟩ : ∃ fb, fb = decide (x.kd = [] /\ 2 < m) := ⟨_, rfl⟩;have HFB := hz0q hfb;clear hfb
     go_cut [14, 84] (fun s14 s84 wx => s14 = .int .i64 k /\ s84 = .bool fb /\ wx = W4)
     case first =>
      by_cases hk0 : x.kd = []
      ·have hte : (mk8 x.kd).toList.isEmpty = true := by rw [hk0, zj, zz]; rfl
       by_cases hm2 : 2 < m
       ·have hm2' : (2 : Int) < (m : Int) := (by omega);have HV : Hid (fb = true) := (by show _ = _; rw [HFB.out, decide_eq_true ⟨hk0, hm2⟩]);clear hk0;go_wp2;go_meet
        exact ⟨rfl, by rw [HV.out], rfl⟩
       ·have hm2' : (m : Int) <= 2 := (by omega);have HV : Hid (fb = false) := (by show _ = _; rw [HFB.out, decide_eq_false (fun h => hm2 h.2)]);clear hk0;go_wp2;go_meet
        exact ⟨rfl, by rw [HV.out] <;> simp <;> omega, rfl⟩
      ·have hte : (mk8 x.kd).toList.isEmpty = false := by
        rw [zj, zz]
        cases hkd : x.kd with
        | nil => exact absurd hkd hk0
        | cons c t => rfl
       have HV : Hid (fb = false) := (by show _ = _; rw [HFB.out, decide_eq_false (fun h => hk0 h.1)]);clear hk0;go_wp2;go_meet
       exact ⟨rfl, by rw [HV.out], rfl⟩
     case rest =>
      obtain ⟨rfl, rfl, hwx⟩ := hcut;rw [hwx];clear hwx
      cases fb with
      | true =>
       have cq := za HQ4.out 1 rfl;have fq := zas HQ4.out 1;have hqW4 : (W4.setCell ⟨q, 1, none⟩ (.bool true)).heap[q]? = some (badC true true b2 false false) := (by simpa using zaw HQ4.out 1 (.bool true));have hxW4 : (W4.setCell ⟨q, 1, none⟩ (.bool true)).heap[p]? = some (.cells #[.int .i32 x.fr, .int .i32 x.up, .string (mk8 x.nm), .string (mk8 x.ct), .int .i64 x.cl, .string (mk8 x.kd), .slice Ax x.il.length cx] 150 (0, 0)) := (Below.heap_setCell W4 ⟨q, 1, none⟩ _ p HPQ.out).trans HX4.out;have hbW4 : Below wB.heap.size wB (W4.setCell ⟨q, 1, none⟩ (.bool true)) := HB4.out.setCell (p := ⟨q, 1, none⟩) (by show wB.heap.size <= q; rw [HQ.out]; exact Nat.le_refl _) _;obtain ⟨W5, hW5⟩ : ∃ W5, W5 = W4.setCell ⟨q, 1, none⟩ (.bool true) := ⟨_, rfl⟩;have d0 := za hxW4 0 rfl;rw [<- hW5] at hqW4 hxW4 hbW4;have HW5 := hz0q hW5;have BKC := BK.out W5 _ hbW4 HXM.out;simp only [] at BKC;rw [hW5] at BKC;have HQ5 := hz0q hqW4;have HX5 := hz0q hxW4;have HB5 := hz0q hbW4;clear hqW4 hxW4 hbW4 d5 d6 hW5;go_wp2_with fail;refine BKC.mono ?_;rintro e W6 ⟨⟨bb, rfl, hbb⟩, hb6⟩;rw [<- HW5.out] at hb6;have hq6 : W6.heap[q]? = some (badC true true b2 false false) := zd HQ5.out hb6;have hb7 : Below wB.heap.size wB W6 := zb HB5.out hb6;have HBB := hz0q hbb;have HQ6 := hz0q hq6;have HB7 := hz0q hb7;have HT : Hid (true = false -> ∀ (j : Nat) (x : RA), j < k + 1 -> os[j]? = some x -> zao x.1 = false) := fun h => by cases h
       cases bb with
       | true =>
        have cq := za hq6 2 rfl;have fq := zas hq6 2;have hq8 : (W6.setCell ⟨q, 2, none⟩ (.bool true)).heap[q]? = some (badC true true true false false) := (by simpa using zaw HQ6.out 2 (.bool true));have hb8 : Below wB.heap.size wB (W6.setCell ⟨q, 2, none⟩ (.bool true)) := HB7.out.setCell (p := ⟨q, 2, none⟩) (by show wB.heap.size <= q; rw [HQ.out]; exact Nat.le_refl _) _;have HI2 : Hid (∃ b0 b1 b2, (W6.setCell ⟨q, 2, none⟩ (.bool true)).heap[q]? = some (badC b0 b1 b2 false false) /\ (b0 = false -> ∀ j x, j < k + 1 -> os[j]? = some x -> zao x.1 = false) /\ (b2 = false -> ∀ j x, j < k + 1 -> os[j]? = some x -> ¬ Down D x.1.fr x.1.fr) /\ Below wB.heap.size wB (W6.setCell ⟨q, 2, none⟩ (.bool true))) := ⟨_, _, true, hq8, HT.out, fun h => (by cases h), hb8⟩;clear hq8 hb8 hq6 hb7 hbb hb6 BKC;go_wp2;go_roundw
        case rel => exact ⟨k + 1, by omega, by go_num, HI2⟩
        case measure => simp [intOf]; omega
       | false =>
        have HI2 : Hid (∃ b0 b1 b2, W6.heap[q]? = some (badC b0 b1 b2 false false) /\ (b0 = false -> ∀ j x, j < k + 1 -> os[j]? = some x -> zao x.1 = false) /\ (b2 = false -> ∀ j x, j < k + 1 -> os[j]? = some x -> ¬ Down D x.1.fr x.1.fr) /\ Below wB.heap.size wB W6) := ⟨_, _, b2, HQ6.out, HT.out, fun h j y hj hy => by
         by_cases hjk : j < k
         ·exact HD0.out h j y hjk hy
         ·have : j = k := (by omega);subst this;rw [HX.out] at hy;injection hy with hy;subst hy
          exact HBB.out rfl, HB7.out⟩
        clear hq6 hb7 hbb hb6 BKC;go_wp2;go_roundw
        case rel => exact ⟨k + 1, by omega, by go_num, HI2⟩
        case measure => simp [intOf]; omega
      | false =>
       obtain ⟨W5, hW5⟩ : ∃ W5, W5 = W4 := ⟨_, rfl⟩;have d0 := za HX4.out 0 rfl;have BKC := BK.out W4 _ HB4.out HXM.out;simp only [] at BKC;have HQ5 := HQ4;have HX5 := HX4;have HB5 := HB4;rw [<- hW5] at HQ5 HX5 HB5;have HW5 := hz0q hW5;clear hW5 d5 d6;go_wp2_with fail;refine BKC.mono ?_;rintro e W6 ⟨⟨bb, rfl, hbb⟩, hb6⟩;rw [<- HW5.out] at hb6;have hq6 : W6.heap[q]? = some (badC true b1 b2 false false) := zd HQ5.out hb6;have hb7 : Below wB.heap.size wB W6 := zb HB5.out hb6;have HBB := hz0q hbb;have HQ6 := hz0q hq6;have HB7 := hz0q hb7;have HT : Hid (true = false -> ∀ (j : Nat) (x : RA), j < k + 1 -> os[j]? = some x -> zao x.1 = false) := fun h => by cases h
       cases bb with
       | true =>
        have cq := za hq6 2 rfl;have fq := zas hq6 2;have hq8 : (W6.setCell ⟨q, 2, none⟩ (.bool true)).heap[q]? = some (badC true b1 true false false) := (by simpa using zaw HQ6.out 2 (.bool true));have hb8 : Below wB.heap.size wB (W6.setCell ⟨q, 2, none⟩ (.bool true)) := HB7.out.setCell (p := ⟨q, 2, none⟩) (by show wB.heap.size <= q; rw [HQ.out]; exact Nat.le_refl _) _;have HI2 : Hid (∃ b0 b1 b2, (W6.setCell ⟨q, 2, none⟩ (.bool true)).heap[q]? = some (badC b0 b1 b2 false false) /\ (b0 = false -> ∀ j x, j < k + 1 -> os[j]? = some x -> zao x.1 = false) /\ (b2 = false -> ∀ j x, j < k + 1 -> os[j]? = some x -> ¬ Down D x.1.fr x.1.fr) /\ Below wB.heap.size wB (W6.setCell ⟨q, 2, none⟩ (.bool true))) := ⟨_, _, true, hq8, HT.out, fun h => (by cases h), hb8⟩;clear hq8 hb8 hq6 hb7 hbb hb6 BKC;go_wp2;go_roundw
        case rel => exact ⟨k + 1, by omega, by go_num, HI2⟩
        case measure => simp [intOf]; omega
       | false =>
        have HI2 : Hid (∃ b0 b1 b2, W6.heap[q]? = some (badC b0 b1 b2 false false) /\ (b0 = false -> ∀ j x, j < k + 1 -> os[j]? = some x -> zao x.1 = false) /\ (b2 = false -> ∀ j x, j < k + 1 -> os[j]? = some x -> ¬ Down D x.1.fr x.1.fr) /\ Below wB.heap.size wB W6) := ⟨_, _, b2, HQ6.out, HT.out, fun h j y hj hy => by
         by_cases hjk : j < k
         ·exact HD0.out h j y hjk hy
         ·have : j = k := (by omega);subst this;rw [HX.out] at hy;injection hy with hy;subst hy
          exact HBB.out rfl, HB7.out⟩
        clear hq6 hb7 hbb hb6 BKC;go_wp2;go_roundw
        case rel => exact ⟨k + 1, by omega, by go_num, HI2⟩
        case measure => simp [intOf]; omega
    | false =>
     go_upto_region 15 with fail;obtain ⟨W4, hW4⟩ : ∃ W4, W4 = W3 := ⟨_, rfl⟩;rw [<- hW4] at HQX HXX HBX2 d5 d6 ⊢;have HQ4 := HQX;have HX4 := HXX;have HB4 := HBX2;clear hW4;obtain ⟨fb, hfb⟩ : ∃ fb, fb = decide (x.kd = [] /\ 2 < m) := ⟨_, rfl⟩;have HFB := hz0q hfb;clear hfb
     go_cut [14, 84] (fun s14 s84 wx => s14 = .int .i64 k /\ s84 = .bool fb /\ wx = W4)
     case first =>
      by_cases hk0 : x.kd = []
      ·have hte : (mk8 x.kd).toList.isEmpty = true := by rw [hk0, zj, zz]; rfl
       by_cases hm2 : 2 < m
       ·have hm2' : (2 : Int) < (m : Int) := (by omega);have HV : Hid (fb = true) := (by show _ = _; rw [HFB.out, decide_eq_true ⟨hk0, hm2⟩]);clear hk0;go_wp2;go_meet
        exact ⟨rfl, by rw [HV.out], rfl⟩
       ·have hm2' : (m : Int) <= 2 := (by omega);have HV : Hid (fb = false) := (by show _ = _; rw [HFB.out, decide_eq_false (fun h => hm2 h.2)]);clear hk0;go_wp2;go_meet
        exact ⟨rfl, by rw [HV.out] <;> simp <;> omega, rfl⟩
      ·have hte : (mk8 x.kd).toList.isEmpty = false := by
        rw [zj, zz]
        cases hkd : x.kd with
        | nil => exact absurd hkd hk0
        | cons c t => rfl
       have HV : Hid (fb = false) := (by show _ = _; rw [HFB.out, decide_eq_false (fun h => hk0 h.1)]);clear hk0;go_wp2;go_meet
       exact ⟨rfl, by rw [HV.out], rfl⟩
     case rest =>
      obtain ⟨rfl, rfl, hwx⟩ := hcut;rw [hwx];clear hwx
      cases fb with
      | true =>
       have cq := za HQ4.out 1 rfl;have fq := zas HQ4.out 1;have hqW4 : (W4.setCell ⟨q, 1, none⟩ (.bool true)).heap[q]? = some (badC b0 true b2 false false) := (by simpa using zaw HQ4.out 1 (.bool true));have hxW4 : (W4.setCell ⟨q, 1, none⟩ (.bool true)).heap[p]? = some (.cells #[.int .i32 x.fr, .int .i32 x.up, .string (mk8 x.nm), .string (mk8 x.ct), .int .i64 x.cl, .string (mk8 x.kd), .slice Ax x.il.length cx] 150 (0, 0)) := (Below.heap_setCell W4 ⟨q, 1, none⟩ _ p HPQ.out).trans HX4.out;have hbW4 : Below wB.heap.size wB (W4.setCell ⟨q, 1, none⟩ (.bool true)) := HB4.out.setCell (p := ⟨q, 1, none⟩) (by show wB.heap.size <= q; rw [HQ.out]; exact Nat.le_refl _) _;obtain ⟨W5, hW5⟩ : ∃ W5, W5 = W4.setCell ⟨q, 1, none⟩ (.bool true) := ⟨_, rfl⟩;have d0 := za hxW4 0 rfl;rw [<- hW5] at hqW4 hxW4 hbW4;have HW5 := hz0q hW5;have BKC := BK.out W5 _ hbW4 HXM.out;simp only [] at BKC;rw [hW5] at BKC;have HQ5 := hz0q hqW4;have HX5 := hz0q hxW4;have HB5 := hz0q hbW4;clear hqW4 hxW4 hbW4 d5 d6 hW5;go_wp2_with fail;refine BKC.mono ?_;rintro e W6 ⟨⟨bb, rfl, hbb⟩, hb6⟩;rw [<- HW5.out] at hb6;have hq6 : W6.heap[q]? = some (badC b0 true b2 false false) := zd HQ5.out hb6;have hb7 : Below wB.heap.size wB W6 := zb HB5.out hb6;have HBB := hz0q hbb;have HQ6 := hz0q hq6;have HB7 := hz0q hb7
       have HT : Hid (b0 = false -> ∀ (j : Nat) (x : RA), j < k + 1 -> os[j]? = some x -> zao x.1 = false) := fun h j y hj hy => by
        by_cases hjk : j < k
        ·exact HT0.out h j y hjk hy
        ·have : j = k := (by omega);subst this;rw [HX.out] at hy;injection hy with hy;subst hy;exact HTB.out.symm
       cases bb with
       | true =>
        have cq := za hq6 2 rfl;have fq := zas hq6 2;have hq8 : (W6.setCell ⟨q, 2, none⟩ (.bool true)).heap[q]? = some (badC b0 true true false false) := (by simpa using zaw HQ6.out 2 (.bool true));have hb8 : Below wB.heap.size wB (W6.setCell ⟨q, 2, none⟩ (.bool true)) := HB7.out.setCell (p := ⟨q, 2, none⟩) (by show wB.heap.size <= q; rw [HQ.out]; exact Nat.le_refl _) _;have HI2 : Hid (∃ b0 b1 b2, (W6.setCell ⟨q, 2, none⟩ (.bool true)).heap[q]? = some (badC b0 b1 b2 false false) /\ (b0 = false -> ∀ j x, j < k + 1 -> os[j]? = some x -> zao x.1 = false) /\ (b2 = false -> ∀ j x, j < k + 1 -> os[j]? = some x -> ¬ Down D x.1.fr x.1.fr) /\ Below wB.heap.size wB (W6.setCell ⟨q, 2, none⟩ (.bool true))) := ⟨_, _, true, hq8, HT.out, fun h => (by cases h), hb8⟩;clear hq8 hb8 hq6 hb7 hbb hb6 BKC;go_wp2;go_roundw
        case rel => exact ⟨k + 1, by omega, by go_num, HI2⟩
        case measure => simp [intOf]; omega
       | false =>
        have HI2 : Hid (∃ b0 b1 b2, W6.heap[q]? = some (badC b0 b1 b2 false false) /\ (b0 = false -> ∀ j x, j < k + 1 -> os[j]? = some x -> zao x.1 = false) /\ (b2 = false -> ∀ j x, j < k + 1 -> os[j]? = some x -> ¬ Down D x.1.fr x.1.fr) /\ Below wB.heap.size wB W6) := ⟨_, _, b2, HQ6.out, HT.out, fun h j y hj hy => by
         by_cases hjk : j < k
         ·exact HD0.out h j y hjk hy
         ·have : j = k := (by omega);subst this;rw [HX.out] at hy;injection hy with hy;subst hy
          exact HBB.out rfl, HB7.out⟩
        clear hq6 hb7 hbb hb6 BKC;go_wp2;go_roundw
        case rel => exact ⟨k + 1, by omega, by go_num, HI2⟩
        case measure => simp [intOf]; omega
      | false =>
       obtain ⟨W5, hW5⟩ : ∃ W5, W5 = W4 := ⟨_, rfl⟩;have d0 := za HX4.out 0 rfl;have BKC := BK.out W4 _ HB4.out HXM.out;simp only [] at BKC;have HQ5 := HQ4;have HX5 := HX4;have HB5 := HB4;rw [<- hW5] at HQ5 HX5 HB5;have HW5 := hz0q hW5;clear hW5 d5 d6;go_wp2_with fail;refine BKC.mono ?_;rintro e W6 ⟨⟨bb, rfl, hbb⟩, hb6⟩;rw [<- HW5.out] at hb6;have hq6 : W6.heap[q]? = some (badC b0 b1 b2 false false) := zd HQ5.out hb6;have hb7 : Below wB.heap.size wB W6 := zb HB5.out hb6;have HBB := hz0q hbb;have HQ6 := hz0q hq6;have HB7 := hz0q hb7
       have HT : Hid (b0 = false -> ∀ (j : Nat) (x : RA), j < k + 1 -> os[j]? = some x -> zao x.1 = false) := fun h j y hj hy => by
        by_cases hjk : j < k
        ·exact HT0.out h j y hjk hy
        ·have : j = k := (by omega);subst this;rw [HX.out] at hy;injection hy with hy;subst hy;exact HTB.out.symm
       cases bb with
       | true =>
        have cq := za hq6 2 rfl;have fq := zas hq6 2;have hq8 : (W6.setCell ⟨q, 2, none⟩ (.bool true)).heap[q]? = some (badC b0 b1 true false false) := (by simpa using zaw HQ6.out 2 (.bool true));have hb8 : Below wB.heap.size wB (W6.setCell ⟨q, 2, none⟩ (.bool true)) := HB7.out.setCell (p := ⟨q, 2, none⟩) (by show wB.heap.size <= q; rw [HQ.out]; exact Nat.le_refl _) _;have HI2 : Hid (∃ b0 b1 b2, (W6.setCell ⟨q, 2, none⟩ (.bool true)).heap[q]? = some (badC b0 b1 b2 false false) /\ (b0 = false -> ∀ j x, j < k + 1 -> os[j]? = some x -> zao x.1 = false) /\ (b2 = false -> ∀ j x, j < k + 1 -> os[j]? = some x -> ¬ Down D x.1.fr x.1.fr) /\ Below wB.heap.size wB (W6.setCell ⟨q, 2, none⟩ (.bool true))) := ⟨_, _, true, hq8, HT.out, fun h => (by cases h), hb8⟩;clear hq8 hb8 hq6 hb7 hbb hb6 BKC;go_wp2;go_roundw
        case rel => exact ⟨k + 1, by omega, by go_num, HI2⟩
        case measure => simp [intOf]; omega
       | false =>
        have HI2 : Hid (∃ b0 b1 b2, W6.heap[q]? = some (badC b0 b1 b2 false false) /\ (b0 = false -> ∀ j x, j < k + 1 -> os[j]? = some x -> zao x.1 = false) /\ (b2 = false -> ∀ j x, j < k + 1 -> os[j]? = some x -> ¬ Down D x.1.fr x.1.fr) /\ Below wB.heap.size wB W6) := ⟨_, _, b2, HQ6.out, HT.out, fun h j y hj hy => by
         by_cases hjk : j < k
         ·exact HD0.out h j y hjk hy
         ·have : j = k := (by omega);subst this;rw [HX.out] at hy;injection hy with hy;subst hy
          exact HBB.out rfl, HB7.out⟩
        clear hq6 hb7 hbb hb6 BKC;go_wp2;go_roundw
        case rel => exact ⟨k + 1, by omega, by go_num, HI2⟩
        case measure => simp [intOf]; omega
  ·obtain rfl : k = os.length := (by omega);have hi : (os.length : Int) <= (os.length : Int) := Int.le_refl _;obtain ⟨HQA, HBA⟩ : Hid (wr.heap[q]? = some (badC b0 b1 b2 false false)) /\ Hid (Below wB.heap.size wB wr) := ⟨hq0, hbw⟩
   have HENDS0 : Hid (b0 = false -> b2 = false -> ∀ r, Ends D r) := fun h0 h2 => by
    have ht := HT0.out h0;have hd := HD0.out h2;rw [HD.out] at hd ⊢
    have hth : ∀ y ∈ os.map (·.1), zao y = false := fun y hy => by
     obtain ⟨z, hz, rfl⟩ := List.mem_map.1 hy;obtain ⟨j, hj⟩ := List.getElem?_of_mem hz;exact ht j z (List.getElem?_eq_some_iff.1 hj).1 hj
    refine ends_of_irr (ks := keysL (os.map (·.1))) (fun r hr => ze5 hr) (fun r hr => zlx hth (fun y hy => (HGO.out.v y hy).le) hr) (fun r hr => ?_);obtain ⟨qq, hqq⟩ := Option.isSome_iff_exists.1 hr;obtain ⟨y, hy, e, _⟩ := zfm hqq;obtain ⟨z, hz, rfl⟩ := List.mem_map.1 hy;obtain ⟨j, hj⟩ := List.getElem?_of_mem hz;rw [<- e];exact hd j z (List.getElem?_eq_some_iff.1 hj).1 hj
   clear hM hq0 hbw hql;go_upto_block 2 with fail
   go_cut [16] (fun s16 wx => ∃ (W : World) (b0 b1 b2 b3 b4 : Bool), W = wx /\ Hid (W.heap[q]? = some (badC b0 b1 b2 b3 b4)) /\ Hid (Below wB.heap.size wB W))
   case first =>
    go_wp2
    cases b0 with
    | true =>
     go_loopw [16] (fun s16 wr => s16 = .int .i64 0 /\ Hid (wr.heap[q]? = some (badC true b1 b2 false false)) /\ Hid (Below wB.heap.size wB wr)) (fun _ _ => 0)
     case atStart => exact ⟨rfl, HQA, HBA⟩
     case round =>
      obtain ⟨rfl, HQr, HBr⟩ := hrel;have hc0 := za HQr.out 0 rfl;have hc1 := za HQr.out 1 rfl;have hc2 := za HQr.out 2 rfl
      by_cases hn0 : 0 < os.length
      ·have hn1 : (0 : Int) < (os.length : Int) := (by omega);go_wp2;go_meet
       exact ⟨_, _, _, _, _, _, rfl, HQr, HBr⟩
      ·have hn1 : (os.length : Int) <= 0 := (by omega);go_wp2;go_meet
       exact ⟨_, _, _, _, _, _, rfl, HQr, HBr⟩
    | false =>
     cases b1 with
     | true =>
      go_loopw [16] (fun s16 wr => s16 = .int .i64 0 /\ Hid (wr.heap[q]? = some (badC false true b2 false false)) /\ Hid (Below wB.heap.size wB wr)) (fun _ _ => 0)
      case atStart => exact ⟨rfl, HQA, HBA⟩
      case round =>
       obtain ⟨rfl, HQr, HBr⟩ := hrel;have hc0 := za HQr.out 0 rfl;have hc1 := za HQr.out 1 rfl;have hc2 := za HQr.out 2 rfl
       by_cases hn0 : 0 < os.length
       ·have hn1 : (0 : Int) < (os.length : Int) := (by omega);go_wp2;go_meet
        exact ⟨_, _, _, _, _, _, rfl, HQr, HBr⟩
       ·have hn1 : (os.length : Int) <= 0 := (by omega);go_wp2;go_meet
        exact ⟨_, _, _, _, _, _, rfl, HQr, HBr⟩
     | false =>
      cases b2 with
      | true =>
       go_loopw [16] (fun s16 wr => s16 = .int .i64 0 /\ Hid (wr.heap[q]? = some (badC false false true false false)) /\ Hid (Below wB.heap.size wB wr)) (fun _ _ => 0)
       case atStart => exact ⟨rfl, HQA, HBA⟩
       case round =>
        obtain ⟨rfl, HQr, HBr⟩ := hrel;have hc0 := za HQr.out 0 rfl;have hc1 := za HQr.out 1 rfl;have hc2 := za HQr.out 2 rfl
        by_cases hn0 : 0 < os.length
        ·have hn1 : (0 : Int) < (os.length : Int) := (by omega);go_wp2;go_meet
         exact ⟨_, _, _, _, _, _, rfl, HQr, HBr⟩
        ·have hn1 : (os.length : Int) <= 0 := (by omega);go_wp2;go_meet
         exact ⟨_, _, _, _, _, _, rfl, HQr, HBr⟩
      | false =>
       have HENDS := hz0q (HENDS0.out rfl rfl)
       go_loopw [16] (fun s16 wr => ∃ k : Nat, k <= os.length /\ s16 = .int .i64 k /\ Hid (∃ b3 b4, wr.heap[q]? = some (badC false false false b3 b4) /\ Below wB.heap.size wB wr)) (fun s16 _ => os.length - (intOf s16).toNat)
       case atStart => exact ⟨0, Nat.zero_le _, rfl, false, false, HQA.out, HBA.out⟩
       case round =>
        obtain ⟨k, hk, rfl, HI⟩ := hrel;obtain ⟨b3, b4, hqr, hbr⟩ := HI.out;have HQr := hz0q hqr;have HBr := hz0q hbr;clear HI hqr hbr
        by_cases hlt : k < os.length
        rotate_left
        ·obtain rfl : k = os.length := (by omega);have hi : (os.length : Int) <= (os.length : Int) := Int.le_refl _;go_wp2;go_meet
         exact ⟨_, _, _, _, _, _, rfl, HQr, HBr⟩
        ·skip;obtain ⟨⟨x, Ax, cx⟩, hx⟩ : ∃ x, os[k]? = some x := ⟨_, List.getElem?_eq_getElem (by omega)⟩;have hxm := List.mem_of_getElem? hx;have hM := hEC.out _ HBr.out;obtain ⟨b, off, rfl, hbl, hc⟩ := hM.rows.at_ (by omega);obtain ⟨e0, e1, e2, e3, e4, e5, e6⟩ := za9 hx hc;have hrd := hM.rows.into _ hxm;have hi : (k : Int) < (os.length : Int) := (by omega);have HXM := hz0q hxm;have hc0 := za HQr.out 0 rfl;have hc1 := za HQr.out 1 rfl;have hc2 := za HQr.out 2 rfl;obtain ⟨m, hm⟩ : ∃ m, m = x.il.length := ⟨_, rfl⟩;simp only [] at hrd;rw [<- hm] at e6;have HMM := hz0q hm;have MN := rmany_any hM HGO.out x.fr (by rw [<- HD.out]; exact HENDS.out x.fr) wr (Below.refl _ _) (zb9 (HFR.out _ hxm));have HMR := hz0q hM;have HRDX := hz0q hrd
         have HCE : Hid (∀ W, Below wr.heap.size wr W -> W.cell? ⟨b, off + k * 7, none⟩ = some (.int .i32 x.fr) /\ W.cell? ⟨b, off + k * 7 + 1, none⟩ = some (.int .i32 x.up) /\ W.cell? ⟨b, off + k * 7 + 2, none⟩ = some (.string (mk8 x.nm)) /\ W.cell? ⟨b, off + k * 7 + 3, none⟩ = some (.string (mk8 x.ct)) /\ W.cell? ⟨b, off + k * 7 + 4, none⟩ = some (.int .i64 x.cl) /\ W.cell? ⟨b, off + k * 7 + 5, none⟩ = some (.string (mk8 x.kd)) /\ W.cell? ⟨b, off + k * 7 + 6, none⟩ = some (.slice Ax m cx)) := fun W hb =>
          ⟨(hb.cell (p := ⟨b, off + k * 7, none⟩) hbl).trans e0, (hb.cell (p := ⟨b, off + k * 7 + 1, none⟩) hbl).trans e1, (hb.cell (p := ⟨b, off + k * 7 + 2, none⟩) hbl).trans e2, (hb.cell (p := ⟨b, off + k * 7 + 3, none⟩) hbl).trans e3, (hb.cell (p := ⟨b, off + k * 7 + 4, none⟩) hbl).trans e4, (hb.cell (p := ⟨b, off + k * 7 + 5, none⟩) hbl).trans e5, (hb.cell (p := ⟨b, off + k * 7 + 6, none⟩) hbl).trans e6⟩
         have HX := hz0q hx;clear hx hxm hc hM hrd e1 e2 e3 e4 e5 hm;go_upto_region 22 with fail
         go_cut [16, 128] (fun s16 s128 wx => s16 = .int .i64 k /\ ∃ (W : World) (tb : Bool), W = wx /\ s128 = .bool tb /\ Hid (W.heap[q]? = some (badC false false false b3 b4)) /\ Hid (Below wr.heap.size wr W))
         case first =>
          by_cases hm0 : 0 < m
          ·have hm0' : (0 : Int) < (m : Int) := (by omega);go_wp2_with (first | (go_at_call 80; refine MN.mono ?_; rintro e W2 ⟨⟨v, rfl, hv1, hv2⟩, hb2⟩; have hq2 := zd HQr.out hb2) | go_in)
           go_meet
           exact ⟨rfl, _, _, rfl, rfl, hq2, hb2⟩
          ·have hm0' : (m : Int) <= 0 := (by omega);go_wp2;go_meet
           exact ⟨rfl, _, false, rfl, rfl, HQr.out, Below.refl _ _⟩
         case rest =>
          obtain ⟨rfl, W, tb, rfl, rfl, HQW, HBW2⟩ := hcut;clear MN
          cases tb with
          | true =>
           have cq := za HQW.out 3 rfl;have fq := zas HQW.out 3;have hqn : (W.setCell ⟨q, 3, none⟩ (.bool true)).heap[q]? = some (badC false false false true b4) := (by simpa using zaw HQW.out 3 (.bool true));have hbn : Below wB.heap.size wB (W.setCell ⟨q, 3, none⟩ (.bool true)) := (zb HBr.out HBW2.out).setCell (p := ⟨q, 3, none⟩) (by show wB.heap.size <= q; rw [HQ.out]; exact Nat.le_refl _) _;have hee : ∀ p : Addr, p.block ≠ q -> (W.setCell ⟨q, 3, none⟩ (.bool true)).cell? p = W.cell? p := fun p hp => World.cell?_of_block (Below.heap_setCell W ⟨q, 3, none⟩ _ p.block hp);obtain ⟨W4, hW4⟩ : ∃ W4, W4 = W.setCell ⟨q, 3, none⟩ (.bool true) := ⟨_, rfl⟩;have HW4 := hz0q hW4;rw [<- hW4] at hqn hbn hee;clear hW4;have HM4 := hEC.out _ hbn;have HQ4 := hz0q hqn;have HB4 := hz0q hbn
           obtain ⟨g0, g1, g2, g3, g4, g5, g6⟩ : W4.cell? ⟨b, off + k * 7, none⟩ = some (.int .i32 x.fr) /\ W4.cell? ⟨b, off + k * 7 + 1, none⟩ = some (.int .i32 x.up) /\ W4.cell? ⟨b, off + k * 7 + 2, none⟩ = some (.string (mk8 x.nm)) /\ W4.cell? ⟨b, off + k * 7 + 3, none⟩ = some (.string (mk8 x.ct)) /\ W4.cell? ⟨b, off + k * 7 + 4, none⟩ = some (.int .i64 x.cl) /\ W4.cell? ⟨b, off + k * 7 + 5, none⟩ = some (.string (mk8 x.kd)) /\ W4.cell? ⟨b, off + k * 7 + 6, none⟩ = some (.slice Ax m cx) := by
            obtain ⟨b', off', he, _, hc⟩ := HM4.rows.at_ (by omega);injection he with he;injection he with h1 h2;subst h1 h2;rw [HMM.out];exact za9 HX.out hc
           have hrd4 := HM4.rows.into _ HXM.out;simp only [] at hrd4;rw [<- HMM.out] at hrd4;have MD := zew HM4 HGO.out _ HXM.out;simp only [rowAV] at MD;rw [<- HMM.out] at MD;obtain ⟨md, hmd⟩ : ∃ md, md = madeQ (clsL (os.map (·.1))) (prtL (os.map (·.1))) out x.fr := ⟨_, rfl⟩;rw [<- hmd] at MD;have HMD := hz0q hmd;have HM4H := hz0q HM4;have HG6 : Hid (b < W4.heap.size /\ W4.cell? ⟨b, off + k * 7, none⟩ = some (.int .i32 x.fr) /\ W4.cell? ⟨b, off + k * 7 + 6, none⟩ = some (.slice Ax m cx)) := ⟨World.block_lt_of_cell? W4 _ g0, g0, g6⟩;clear hmd hqn hbn hee HM4 HQW HBW2;rw [HW4.out] at MD g0 g1 g2 g3 g4 g5 g6
           cases md with
           | false =>
            go_wp2_with (first | (go_at_call 81; refine MD.mono ?_; rw [<- HW4.out]; rintro e W5 ⟨rfl, hb5⟩) | go_in)
            have HI2 : Hid (∃ b3 b4, W5.heap[q]? = some (badC false false false b3 b4) /\ Below wB.heap.size wB W5) := ⟨_, _, zd HQ4.out hb5, zb HB4.out hb5⟩;go_roundw
            case rel => exact ⟨k + 1, by omega, by go_num, HI2⟩
            case measure => simp [intOf]; omega
           | true =>
            obtain ⟨u, v, huv⟩ : ∃ u v, x.il = [u, v] := ze2 ((ze3 HGO.out out (List.mem_map_of_mem (f := (·.1)) HXM.out)).trans HMD.out.symm);obtain rfl : m = 2 := (by rw [HMM.out, huv]; rfl);rw [huv] at hrd4;obtain ⟨bi, oi, rfl, hbi, hci⟩ := hrd4.at_ (by omega);have f0 : W4.cell? ⟨bi, oi, none⟩ = some (.int .i32 u) := (by have := hci 0 (.int .i32 u) (by simp [Rs]); simpa using this);have f1 : W4.cell? ⟨bi, oi + 1, none⟩ = some (.int .i32 v) := hci 1 (.int .i32 v) (by simp [Rs]);have hRu : R32 u := zeu ((HGO.out.v x (List.mem_map_of_mem (f := (·.1)) HXM.out)).il u (by rw [huv]; simp));have hRv : R32 v := zeu ((HGO.out.v x (List.mem_map_of_mem (f := (·.1)) HXM.out)).il v (by rw [huv]; simp))
            have HCF : Hid (∀ V, Below W4.heap.size W4 V -> V.cell? ⟨b, off + k * 7, none⟩ = some (.int .i32 x.fr) /\ V.cell? ⟨b, off + k * 7 + 6, none⟩ = some (.slice (some ⟨bi, oi, none⟩) 2 cx) /\ V.cell? ⟨bi, oi, none⟩ = some (.int .i32 u) /\ V.cell? ⟨bi, oi + 1, none⟩ = some (.int .i32 v)) := fun V hb =>
             ⟨(hb.cell (p := ⟨b, off + k * 7, none⟩) HG6.out.1).trans HG6.out.2.1, (hb.cell (p := ⟨b, off + k * 7 + 6, none⟩) HG6.out.1).trans HG6.out.2.2, (hb.cell (p := ⟨bi, oi, none⟩) hbi).trans f0, (hb.cell (p := ⟨bi, oi + 1, none⟩) hbi).trans f1⟩
            have JN := fun V => zg8 u v V hRu.1 (by have := hRu.2; omega) hRv.1 (by have := hRv.2; omega);obtain ⟨jz, jb, hjz⟩ : ∃ (jz : Int) (jb : Bool), joinH u v = (jz, jb) := ⟨_, _, rfl⟩;rw [hjz] at JN;clear hjz huv hci hrd4 f0 f1;go_wp2_with (first | (go_at_call 81; refine MD.mono ?_; rw [<- HW4.out]; rintro e W5 ⟨rfl, hb5⟩; obtain ⟨t0, t1, t2, t3⟩ := HCF.out W5 hb5) | go_in)
            clear MD g0 g1 g2 g3 g4 g5 g6;go_quiet ((go_at_call 82; exact zii (JN _)))
            have hb6 : Below W4.heap.size W4 (W5.drewN nq) := hb5.trans (zab _ _ _);generalize (W5.drewN nq) = W6 at *;clear t0 t1 t2 t3 JN;have HB6 := hz0q hb6;have hb6B := zb HB4.out hb6;have hjd : Below W6.heap.size W6 W6.drew := Drew.to ⟨1, rfl⟩;have PR := zg6 (hEC.out W6.drew (zb hb6B hjd)) HGO.out u v hRu hRv;obtain ⟨pz, pb, hpz⟩ : ∃ (pz : Int) (pb : Bool), zbm (pairH (prL (os.map (·.1)) out) u v) = .tuple #[.int .i32 pz, .bool pb] := ⟨_, _, rfl⟩;rw [hpz] at PR;have HH7 : Hid (∀ V, Below W6.heap.size W6 V -> (V.cell? ⟨bi, oi, none⟩ = some (.int .i32 u) /\ V.cell? ⟨bi, oi + 1, none⟩ = some (.int .i32 v)) /\ Below W6.heap.size W6 V) := fun V hV => ⟨(HCF.out V (zb HB6.out hV)).2.2, hV⟩;clear hpz hb5 hb6 hb6B;go_upto_region 27 with fail;refine wp_region_held_drew (S := fun w' => (w'.cell? ⟨bi, oi, none⟩ = some (.int .i32 u) /\ w'.cell? ⟨bi, oi + 1, none⟩ = some (.int .i32 v)) /\ Below W6.heap.size W6 w') (by kernel_rfl) (HH7.out _ (Drew.to ⟨1, rfl⟩)) (fun hH0 => ?_);refine tkH 0 (.pointer (some ⟨rp, 0, none⟩)) rfl hH0 ?_;try simp only [gA, gB, gC, Act.put, gD, gE, gF]
            refine tkH 1 (.slice (some ⟨bi, oi, none⟩) 2 cx) rfl hH0 ?_;try simp only [gA, gB, gC, Act.put, gD, gE, gF]
            refine tkH 2 (.pointer (some ⟨bi, oi, none⟩)) rfl hH0 ?_;try simp only [gA, gB, gC, Act.put, gD, gE, gF]
            refine tkH 3 (.int .i32 u) rfl hH0 ?_;try simp only [gA, gB, gC, Act.put, gD, gE, gF]
            refine tkH 4 (.slice (some ⟨bi, oi, none⟩) 2 cx) rfl hH0 ?_;try simp only [gA, gB, gC, Act.put, gD, gE, gF]
            refine tkH 5 (.pointer (some ⟨bi, oi + 1, none⟩)) rfl hH0 ?_;try simp only [gA, gB, gC, Act.put, gD, gE, gF]
            refine tkH 6 (.int .i32 v) rfl hH0 ?_;try simp only [gA, gB, gC, Act.put, gD, gE, gF]
            refine wpAnyH_ready (rs := [7]) (by kernel_rfl) (by simp) ?_;refine AllReadyH.cons rfl (fun K hK => ?_) AllReadyH.nil;go_simp
            refine (PR).mono ?_;rintro e w50 ⟨rfl, hb7⟩;refine hK.out _ _ (HH7.out _ (zb (Drew.to ⟨1, rfl⟩) hb7)) (fun hH1 => ?_);clear hK K hH0;try simp only [gA, gB, gC, Act.put, gD, gE, gF]
            refine tkH 8 (.tuple #[.int .i32 pz, .bool pb]) rfl hH1 ?_;try simp only [gA, gB, gC, Act.put, gD, gE, gF]
            refine tkH 9 (.int .i32 pz) rfl hH1 ?_;try simp only [gA, gB, gC, Act.put, gD, gE, gF]
            refine tkH 10 (.bool pb) rfl hH1 ?_;try simp only [gA, gB, gC, Act.put, gD, gE, gF]
            refine tkH 11 (.int .i32 pz) rfl hH1 ?_;try simp only [gA, gB, gC, Act.put, gD, gE, gF]
            refine tkH 12 (.bool pb) rfl hH1 ?_;try simp only [gA, gB, gC, Act.put, gD, gE, gF]
            refine wpAnyH_done (by kernel_rfl) ?_ _;have hb8 := hH1.2;clear hH1 PR hb7 hjd;generalize w50 = W7 at *;have hb48 := zb HB6.out hb8;obtain ⟨t0, t1, t2, t3⟩ := HCF.out W7 hb48;have hq7 := zd HQ4.out hb48;have HB7 := hz0q (zb HB4.out hb48);have HQ7 := hz0q hq7;have cq := za hq7 4 rfl;have fq := zas hq7 4;have HI3 : Hid (∃ b3 b4, (W7.setCell ⟨q, 4, none⟩ (.bool true)).heap[q]? = some (badC false false false b3 b4) /\ Below wB.heap.size wB (W7.setCell ⟨q, 4, none⟩ (.bool true))) := ⟨true, true, by simpa using zaw HQ7.out 4 (.bool true), HB7.out.setCell (p := ⟨q, 4, none⟩) (by show wB.heap.size <= q; rw [HQ.out]; exact Nat.le_refl _) _⟩;have HI4 : Hid (∃ b3 b4, W7.heap[q]? = some (badC false false false b3 b4) /\ Below wB.heap.size wB W7) := ⟨_, _, HQ7.out, HB7.out⟩;clear hq7 hb8 hb48
            cases jb with
            | true =>
             go_wp2;go_roundw
             case rel => exact ⟨k + 1, by omega, by go_num, HI3⟩
             case measure => simp [intOf]; omega
            | false =>
             by_cases hpf : pz = x.fr
             ·have hpe : (pz != x.fr) = false := (by simpa using hpf);clear hpf;go_wp2;go_roundw
              case rel => exact ⟨k + 1, by omega, by go_num, HI4⟩
              case measure => simp [intOf]; omega
             ·have hpe : (pz != x.fr) = true := (by simpa using hpf);clear hpf;go_wp2;go_roundw
              case rel => exact ⟨k + 1, by omega, by go_num, HI3⟩
              case measure => simp [intOf]; omega
          | false =>
           have hqn := HQW.out;have hbn := zb HBr.out HBW2.out;have hee : ∀ p : Addr, p.block ≠ q -> W.cell? p = W.cell? p := fun p hp => rfl;obtain ⟨W4, hW4⟩ : ∃ W4, W4 = W := ⟨_, rfl⟩;have HW4 := hz0q hW4;rw [<- hW4] at hqn hbn hee;clear hW4;have HM4 := hEC.out _ hbn;have HQ4 := hz0q hqn;have HB4 := hz0q hbn
           obtain ⟨g0, g1, g2, g3, g4, g5, g6⟩ : W4.cell? ⟨b, off + k * 7, none⟩ = some (.int .i32 x.fr) /\ W4.cell? ⟨b, off + k * 7 + 1, none⟩ = some (.int .i32 x.up) /\ W4.cell? ⟨b, off + k * 7 + 2, none⟩ = some (.string (mk8 x.nm)) /\ W4.cell? ⟨b, off + k * 7 + 3, none⟩ = some (.string (mk8 x.ct)) /\ W4.cell? ⟨b, off + k * 7 + 4, none⟩ = some (.int .i64 x.cl) /\ W4.cell? ⟨b, off + k * 7 + 5, none⟩ = some (.string (mk8 x.kd)) /\ W4.cell? ⟨b, off + k * 7 + 6, none⟩ = some (.slice Ax m cx) := by
            obtain ⟨b', off', he, _, hc⟩ := HM4.rows.at_ (by omega);injection he with he;injection he with h1 h2;subst h1 h2;rw [HMM.out];exact za9 HX.out hc
           have hrd4 := HM4.rows.into _ HXM.out;simp only [] at hrd4;rw [<- HMM.out] at hrd4;have MD := zew HM4 HGO.out _ HXM.out;simp only [rowAV] at MD;rw [<- HMM.out] at MD;obtain ⟨md, hmd⟩ : ∃ md, md = madeQ (clsL (os.map (·.1))) (prtL (os.map (·.1))) out x.fr := ⟨_, rfl⟩;rw [<- hmd] at MD;have HMD := hz0q hmd;have HM4H := hz0q HM4;have HG6 : Hid (b < W4.heap.size /\ W4.cell? ⟨b, off + k * 7, none⟩ = some (.int .i32 x.fr) /\ W4.cell? ⟨b, off + k * 7 + 6, none⟩ = some (.slice Ax m cx)) := ⟨World.block_lt_of_cell? W4 _ g0, g0, g6⟩;clear hmd hqn hbn hee HM4 HQW HBW2;rw [HW4.out] at MD g0 g1 g2 g3 g4 g5 g6
           cases md with
           | false =>
            go_wp2_with (first | (go_at_call 81; refine MD.mono ?_; rw [<- HW4.out]; rintro e W5 ⟨rfl, hb5⟩) | go_in)
            have HI2 : Hid (∃ b3 b4, W5.heap[q]? = some (badC false false false b3 b4) /\ Below wB.heap.size wB W5) := ⟨_, _, zd HQ4.out hb5, zb HB4.out hb5⟩;go_roundw
            case rel => exact ⟨k + 1, by omega, by go_num, HI2⟩
            case measure => simp [intOf]; omega
           | true =>
            obtain ⟨u, v, huv⟩ : ∃ u v, x.il = [u, v] := ze2 ((ze3 HGO.out out (List.mem_map_of_mem (f := (·.1)) HXM.out)).trans HMD.out.symm);obtain rfl : m = 2 := (by rw [HMM.out, huv]; rfl);rw [huv] at hrd4;obtain ⟨bi, oi, rfl, hbi, hci⟩ := hrd4.at_ (by omega);have f0 : W4.cell? ⟨bi, oi, none⟩ = some (.int .i32 u) := (by have := hci 0 (.int .i32 u) (by simp [Rs]); simpa using this);have f1 : W4.cell? ⟨bi, oi + 1, none⟩ = some (.int .i32 v) := hci 1 (.int .i32 v) (by simp [Rs]);have hRu : R32 u := zeu ((HGO.out.v x (List.mem_map_of_mem (f := (·.1)) HXM.out)).il u (by rw [huv]; simp));have hRv : R32 v := zeu ((HGO.out.v x (List.mem_map_of_mem (f := (·.1)) HXM.out)).il v (by rw [huv]; simp))
            have HCF : Hid (∀ V, Below W4.heap.size W4 V -> V.cell? ⟨b, off + k * 7, none⟩ = some (.int .i32 x.fr) /\ V.cell? ⟨b, off + k * 7 + 6, none⟩ = some (.slice (some ⟨bi, oi, none⟩) 2 cx) /\ V.cell? ⟨bi, oi, none⟩ = some (.int .i32 u) /\ V.cell? ⟨bi, oi + 1, none⟩ = some (.int .i32 v)) := fun V hb =>
             ⟨(hb.cell (p := ⟨b, off + k * 7, none⟩) HG6.out.1).trans HG6.out.2.1, (hb.cell (p := ⟨b, off + k * 7 + 6, none⟩) HG6.out.1).trans HG6.out.2.2, (hb.cell (p := ⟨bi, oi, none⟩) hbi).trans f0, (hb.cell (p := ⟨bi, oi + 1, none⟩) hbi).trans f1⟩
            have JN := fun V => zg8 u v V hRu.1 (by have := hRu.2; omega) hRv.1 (by have := hRv.2; omega);obtain ⟨jz, jb, hjz⟩ : ∃ (jz : Int) (jb : Bool), joinH u v = (jz, jb) := ⟨_, _, rfl⟩;rw [hjz] at JN;clear hjz huv hci hrd4 f0 f1;go_wp2_with (first | (go_at_call 81; refine MD.mono ?_; rw [<- HW4.out]; rintro e W5 ⟨rfl, hb5⟩; obtain ⟨t0, t1, t2, t3⟩ := HCF.out W5 hb5) | go_in)
            clear MD g0 g1 g2 g3 g4 g5 g6;go_quiet ((go_at_call 82; exact zii (JN _)))
            have hb6 : Below W4.heap.size W4 (W5.drewN nq) := hb5.trans (zab _ _ _);generalize (W5.drewN nq) = W6 at *;clear t0 t1 t2 t3 JN;have HB6 := hz0q hb6;have hb6B := zb HB4.out hb6;have hjd : Below W6.heap.size W6 W6.drew := Drew.to ⟨1, rfl⟩;have PR := zg6 (hEC.out W6.drew (zb hb6B hjd)) HGO.out u v hRu hRv;obtain ⟨pz, pb, hpz⟩ : ∃ (pz : Int) (pb : Bool), zbm (pairH (prL (os.map (·.1)) out) u v) = .tuple #[.int .i32 pz, .bool pb] := ⟨_, _, rfl⟩;rw [hpz] at PR;have HH7 : Hid (∀ V, Below W6.heap.size W6 V -> (V.cell? ⟨bi, oi, none⟩ = some (.int .i32 u) /\ V.cell? ⟨bi, oi + 1, none⟩ = some (.int .i32 v)) /\ Below W6.heap.size W6 V) := fun V hV => ⟨(HCF.out V (zb HB6.out hV)).2.2, hV⟩;clear hpz hb5 hb6 hb6B;go_upto_region 27 with fail;refine wp_region_held_drew (S := fun w' => (w'.cell? ⟨bi, oi, none⟩ = some (.int .i32 u) /\ w'.cell? ⟨bi, oi + 1, none⟩ = some (.int .i32 v)) /\ Below W6.heap.size W6 w') (by kernel_rfl) (HH7.out _ (Drew.to ⟨1, rfl⟩)) (fun hH0 => ?_);refine tkH 0 (.pointer (some ⟨rp, 0, none⟩)) rfl hH0 ?_;try simp only [gA, gB, gC, Act.put, gD, gE, gF]
            refine tkH 1 (.slice (some ⟨bi, oi, none⟩) 2 cx) rfl hH0 ?_;try simp only [gA, gB, gC, Act.put, gD, gE, gF]
            refine tkH 2 (.pointer (some ⟨bi, oi, none⟩)) rfl hH0 ?_;try simp only [gA, gB, gC, Act.put, gD, gE, gF]
            refine tkH 3 (.int .i32 u) rfl hH0 ?_;try simp only [gA, gB, gC, Act.put, gD, gE, gF]
            refine tkH 4 (.slice (some ⟨bi, oi, none⟩) 2 cx) rfl hH0 ?_;try simp only [gA, gB, gC, Act.put, gD, gE, gF]
            refine tkH 5 (.pointer (some ⟨bi, oi + 1, none⟩)) rfl hH0 ?_;try simp only [gA, gB, gC, Act.put, gD, gE, gF]
            refine tkH 6 (.int .i32 v) rfl hH0 ?_;try simp only [gA, gB, gC, Act.put, gD, gE, gF]
            refine wpAnyH_ready (rs := [7]) (by kernel_rfl) (by simp) ?_;refine AllReadyH.cons rfl (fun K hK => ?_) AllReadyH.nil;go_simp
            refine (PR).mono ?_;rintro e w50 ⟨rfl, hb7⟩;refine hK.out _ _ (HH7.out _ (zb (Drew.to ⟨1, rfl⟩) hb7)) (fun hH1 => ?_);clear hK K hH0;try simp only [gA, gB, gC, Act.put, gD, gE, gF]
            refine tkH 8 (.tuple #[.int .i32 pz, .bool pb]) rfl hH1 ?_;try simp only [gA, gB, gC, Act.put, gD, gE, gF]
            refine tkH 9 (.int .i32 pz) rfl hH1 ?_;try simp only [gA, gB, gC, Act.put, gD, gE, gF]
            refine tkH 10 (.bool pb) rfl hH1 ?_;try simp only [gA, gB, gC, Act.put, gD, gE, gF]
            refine tkH 11 (.int .i32 pz) rfl hH1 ?_;try simp only [gA, gB, gC, Act.put, gD, gE, gF]
            refine tkH 12 (.bool pb) rfl hH1 ?_;try simp only [gA, gB, gC, Act.put, gD, gE, gF]
            refine wpAnyH_done (by kernel_rfl) ?_ _;have hb8 := hH1.2;clear hH1 PR hb7 hjd;generalize w50 = W7 at *;have hb48 := zb HB6.out hb8;obtain ⟨t0, t1, t2, t3⟩ := HCF.out W7 hb48;have hq7 := zd HQ4.out hb48;have HB7 := hz0q (zb HB4.out hb48);have HQ7 := hz0q hq7;have cq := za hq7 4 rfl;have fq := zas hq7 4;have HI3 : Hid (∃ b3 b4, (W7.setCell ⟨q, 4, none⟩ (.bool true)).heap[q]? = some (badC false false false b3 b4) /\ Below wB.heap.size wB (W7.setCell ⟨q, 4, none⟩ (.bool true))) := ⟨b3, true, by simpa using zaw HQ7.out 4 (.bool true), HB7.out.setCell (p := ⟨q, 4, none⟩) (by show wB.heap.size <= q; rw [HQ.out]; exact Nat.le_refl _) _⟩;have HI4 : Hid (∃ b3 b4, W7.heap[q]? = some (badC false false false b3 b4) /\ Below wB.heap.size wB W7) := ⟨_, _, HQ7.out, HB7.out⟩;clear hq7 hb8 hb48
            cases jb with
            | true =>
             go_wp2;go_roundw
             case rel => exact ⟨k + 1, by omega, by go_num, HI3⟩
             case measure => simp [intOf]; omega
            | false =>
             by_cases hpf : pz = x.fr
             ·have hpe : (pz != x.fr) = false := (by simpa using hpf);clear hpf;go_wp2;go_roundw
              case rel => exact ⟨k + 1, by omega, by go_num, HI4⟩
              case measure => simp [intOf]; omega
             ·have hpe : (pz != x.fr) = true := (by simpa using hpf);clear hpf;go_wp2;go_roundw
              case rel => exact ⟨k + 1, by omega, by go_num, HI3⟩
              case measure => simp [intOf]; omega
   case rest =>
    obtain ⟨W, b0', b1', b2', b3, b4, rfl, HQz, HBz⟩ := hcut;have HRM := hz0q (hEC.out _ HBz.out);have HBF := hz0q (HBW.out.trans (HBz.out.mono (by have := HBW.out.size; omega)));clear HQA HBA HENDS0 BK HT0 HD0;have hbe : Below W.heap.size W (W.alloc (.cells #[.int .i64 12, .int .i64 10, .int .i64 15, .int .i64 14, .int .i64 12] 27)) := (Below.refl _ _).alloc (Nat.le_refl _) _;have hbx := zr W #[.int .i64 12, .int .i64 10, .int .i64 15, .int .i64 14, .int .i64 12] 27;have HQY := hz0q (zd HQz.out hbe);have HRY := hz0q (HRM.out.below hbe);have HBY := hz0q (HBF.out.trans (hbe.mono HBF.out.size));clear hbe;go_wp2;generalize (W.alloc (.cells #[.int .i64 12, .int .i64 10, .int .i64 15, .int .i64 14, .int .i64 12] 27)) = Y at *;obtain ⟨g, hg⟩ : ∃ g, g = W.heap.size := ⟨_, rfl⟩;rw [<- hg] at hbx;simp only [<- hg];clear hg;have z0 := za HQY.out 0 rfl;have z1 := za HQY.out 1 rfl;have z2 := za HQY.out 2 rfl;have z3 := za HQY.out 3 rfl;have z4 := za HQY.out 4 rfl;have y0 := za hbx 0 rfl;have y1 := za hbx 1 rfl;have y2 := za hbx 2 rfl;have y3 := za hbx 3 rfl;have y4 := za hbx 4 rfl;go_loop [23] (fun s23 => ∃ i : Int, 0 <= i /\ i <= 5 /\ s23 = .int .i64 i) (fun s23 => 5 - (intOf s23).toNat)
    case atStart => exact ⟨0, by omega, by omega, rfl⟩
    case round =>
     obtain ⟨i, h0, h5, rfl⟩ := hrel;have hi : i = 0 \/ i = 1 \/ i = 2 \/ i = 3 \/ i = 4 \/ i = 5 := (by omega);rcases hi with rfl | rfl | rfl | rfl | rfl | rfl
     ·cases b0' with
      | true =>
       go_wp2;go_quiet (fail)
       go_wp2;go_returns;exact .inl ⟨12, by decide, rfl, HBY.out.trans (zab _ _ _)⟩
      | false =>
       go_wp2;go_round
       case rel => exact ⟨1, by omega, by omega, rfl⟩
       case measure => simp [intOf]
     ·cases b1' with
      | true =>
       go_wp2;go_quiet (fail)
       go_wp2;go_returns;exact .inl ⟨10, by decide, rfl, HBY.out.trans (zab _ _ _)⟩
      | false =>
       go_wp2;go_round
       case rel => exact ⟨2, by omega, by omega, rfl⟩
       case measure => simp [intOf]
     ·cases b2' with
      | true =>
       go_wp2;go_quiet (fail)
       go_wp2;go_returns;exact .inl ⟨15, by decide, rfl, HBY.out.trans (zab _ _ _)⟩
      | false =>
       go_wp2;go_round
       case rel => exact ⟨3, by omega, by omega, rfl⟩
       case measure => simp [intOf]
     ·cases b3 with
      | true =>
       go_wp2;go_quiet (fail)
       go_wp2;go_returns;exact .inl ⟨14, by decide, rfl, HBY.out.trans (zab _ _ _)⟩
      | false =>
       go_wp2;go_round
       case rel => exact ⟨4, by omega, by omega, rfl⟩
       case measure => simp [intOf]
     ·cases b4 with
      | true =>
       go_wp2;go_quiet (fail)
       go_wp2;go_returns;exact .inl ⟨12, by decide, rfl, HBY.out.trans (zab _ _ _)⟩
      | false =>
       go_wp2;go_round
       case rel => exact ⟨5, by omega, by omega, rfl⟩
       case measure => simp [intOf]
     ·go_wp2;go_returns;exact .inr ⟨rp, os, _, A2, c, c2, rfl, HO.out, HRY.out, HBY.out⟩
end
end
end Go.Proofs.YtfdelmodmadoaaaGreatDoor
