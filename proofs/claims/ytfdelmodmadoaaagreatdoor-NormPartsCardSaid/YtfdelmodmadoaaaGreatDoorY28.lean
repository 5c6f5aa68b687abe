/- New: the base taken, both loops, and what is made: the code. Which characters are made of two: the document's code. Whether a character leads back to itself: plain words, and the document's code. -/
import Derived.Test.YtfdelmodmadoaaaGreatDoorY27
set_option linter.unusedSimpArgs false
set_option linter.unusedVariables false
set_option maxRecDepth 20000
set_option maxHeartbeats 4000000
namespace Go.Proofs.YtfdelmodmadoaaaGreatDoor
section
open Go.RowKit Go.Lib Go.Maps Go.Sort Go.Shelf
attribute [local go_sem] Oper.semAt_some
theorem TInv.toM {W0 w w' : World} {bp n : Nat} {a : BAddr} {rows : List RowS} (h : TInv W0 w bp a n rows w') (hV : MkV w a 0 (fun _ => none) (fun _ => none) (fun _ => none)) (ap : a.Apart) (ht : a.tn = 4353 * n) (hb : Below W0.heap.size W0 w') : BaseM w' bp a n (clsL rows) (prtL rows) (fun _ => none) (fun _ => none) (fun _ => none) := by
 obtain ⟨h1, h2, ⟨f, h3, h4⟩, h5⟩ := h;refine ⟨h1, by rw [ht]; exact h2, ⟨f, h3, fun r hr => (h4 r hr).below hb⟩, ?_, ?_, ?_⟩
 ·exact (hV.pr.at (h5.block _ hV.pr.lt (by rintro (e | e); exact ap.b2 e.symm; exact ap.p2 e.symm))).mono (Nat.zero_le _)
 ·exact (hV.md.at (h5.block _ hV.md.lt (by rintro (e | e); exact ap.b3 e.symm; exact ap.p3 e.symm))).mono (Nat.zero_le _)
 ·exact (hV.sc.at (h5.block _ hV.sc.lt (by rintro (e | e); exact ap.b4 e.symm; exact ap.p4 e.symm))).mono (Nat.zero_le _)
theorem zhm (q tn : Nat) : BAddr.Apart ⟨q + 1, q, q + 2, q + 3, q + 4, q + 5, tn⟩ := ⟨by simp, by simp, by simp, by simp, by simp, by simp, by simp, by simp, by simp, by simp⟩
theorem BaseM.wrote {w w' : World} {bp n : Nat} {a : BAddr} {cls : Int -> Int} {prt : Int -> Option (List UInt8 × List Int)} {pr : Int × Int -> Option Int} {md : Int -> Option (Int × Int)} {sc : Int -> Option Int} {S : Nat -> Prop} (h : BaseM w bp a n cls prt pr md sc) (hW : Wrote S w w')
  (hS : ∀ k, S k -> k ≠ bp /\ k ≠ a.tb /\ k ≠ a.mb /\ k ≠ a.m1 /\ k ≠ a.m2 /\ k ≠ a.m3 /\ k ≠ a.m4 /\ ∀ off z, w.cell? ⟨k, off, none⟩ ≠ some (.int .i32 z)) : BaseM w' bp a n cls prt pr md sc := by
 obtain ⟨h1, ⟨i1, g, i2, i3⟩, ⟨f, h3, h4⟩, h5, h6, h7⟩ := h;have ne : ∀ b, (∀ k, S k -> k ≠ b) -> ¬ S b := fun b hb hs => hb b hs rfl;refine ⟨hW.blk h1 (ne _ fun k hk => (hS k hk).1), ⟨hW.blk i1 (ne _ fun k hk => (hS k hk).2.1), g, i2.at (hW.block _ i2.lt (ne _ fun k hk => (hS k hk).2.2.1)), i3⟩, ⟨f, h3.at (hW.block _ h3.lt (ne _ fun k hk => (hS k hk).2.2.2.1)), fun r hr => ?_⟩, h5.at (hW.block _ h5.lt (ne _ fun k hk => (hS k hk).2.2.2.2.1)), h6.at (hW.block _ h6.lt (ne _ fun k hk => (hS k hk).2.2.2.2.2.1)), h7.at (hW.block _ h7.lt (ne _ fun k hk => (hS k hk).2.2.2.2.2.2.1))⟩;have hp := h4 r hr;generalize f r = p at hp;generalize prt r = q at hp
 cases p <;> cases q <;> first | exact hp | (refine ⟨hp.1, hp.2.1, hp.2.2.1, hp.2.2.2.1.wrote hW fun h0 ad had hSk => ?_, hp.2.2.2.2⟩)
 obtain ⟨b, off, e, _, hc⟩ := hp.2.2.2.1.at_ h0;rw [had] at e;injection e with e;subst e;have hl := hp.2.2.2.1.1;obtain ⟨u, hu⟩ : ∃ u, (Rs _)[0]? = some u := ⟨_, List.getElem?_eq_getElem (by rw [hl]; exact h0)⟩;have hc0 := hc 0 u hu;unfold Rs at hu;rw [List.getElem?_map] at hu;obtain ⟨z, _, rfl⟩ := Option.map_eq_some_iff.1 hu;exact (hS _ hSk).2.2.2.2.2.2.2 _ z hc0
theorem zku {w : World} {b : Nat} {t : TypeId} {v : Value} (h : Boxed w b t v) (hv : ∀ z, v ≠ .int .i32 z) : ∀ off z, w.cell? ⟨b, off, none⟩ ≠ some (.int .i32 z) := fun off z e => by
 unfold World.cell? at e;rw [show w.heap[b]? = _ from h] at e;simp only [] at e;match off with
 | 0 => simp at e; exact hv z e
 | off + 1 => simp at e
theorem znp {w : World} {b : Nat} {d : Option (List Deferred)} (h : w.heap[b]? = some (.deferred d)) : ∀ off z, w.cell? ⟨b, off, none⟩ ≠ some (.int .i32 z) := fun off z e => by
 unfold World.cell? at e;rw [h] at e;simp at e
section
variable {w : World}
theorem zka (s o : ByteArray) (hE : Env w) (hs : s.size <= 1073741824) (ho1 : o.size <= 1073741824) (h0 : (rowsS (bs s)).2.2 = 0) (h01 : (setsS (bs o)).2.2 = 0) (hbad : (rowsS (bs s)).1.any zao = true \/ ((rowsS (bs s)).1.any zao = false /\ (rowsS (bs s)).1.any formB = true)) : Calls Tryz.prog 9 #[.string s, .string o] w (zkz w) := by
 refine (callsIn_wide (n := 5)).1 ?_;have hro : Fence.wide.round = none := rfl;have h1 : 1 <= 5 := (by omega);refine callsIn_of_wp_marks Tryz.func9 rfl trivial ?_ hro;simp only [Tryz.ntmps9, List.size_toArray, List.length_cons, List.length_nil, Nat.reduceAdd, Nat.reduceSub, Array.replicate_succ, Array.replicate_zero, List.push_toArray, List.append_toArray, List.nil_append, List.cons_append];have RW := fun W (hb : Below w.heap.size w W) => zgb s W (hE.below hb) hs;have ST := fun W (hb : Below w.heap.size w W) => zi1 o W (hE.below hb) ho1;have hrl := zg7 (bs s);obtain ⟨⟨rows, ln, e0⟩, hR⟩ : ∃ R, R = rowsS (bs s) := ⟨_, rfl⟩;rw [<- hR] at RW h0 hrl hbad;simp only [] at h0 hrl hbad;subst h0;obtain ⟨⟨out, ln2, er⟩, hS⟩ : ∃ R, R = setsS (bs o) := ⟨_, rfl⟩;rw [<- hS] at ST h01;simp only [] at h01;subst h01;clear hR hS;obtain ⟨W0, hW0⟩ : ∃ W0, (w.alloc (.cells #[.pointer none] 26)).alloc (.cells #[.int .i64 0] 27) = W0 := ⟨_, rfl⟩;have hB0 : Below w.heap.size w W0 := (by rw [<- hW0]; exact ((Below.refl _ w).alloc (Nat.le_refl _) _).alloc (by simp) _);have bx1 : Boxed W0 w.heap.size 26 (.pointer none) := by rw [<- hW0]; exact (Boxed.new w _ _).alloc _
 have bx2 : Boxed W0 (w.heap.size + 1) 27 (.int .i64 0) := by
  rw [<- hW0];have := Boxed.new (w.alloc (.cells #[.pointer none] 26)) 27 (.int .i64 0);rwa [World.size_alloc] at this
 have RW0 := RW _ hB0;clear RW
 gi_wp2
 refine ⟨trivial, (callsIn_wide.2 RW0).mono ?_⟩;rintro e w1 ⟨os, A, c, ho, rfl, hat, hb1⟩;have hb := zb hB0 hb1;have ST1 := ST _ hb;have by1 := zg bx1 hb1;have by2 := zg bx2 hb1;simp only [] at ho;clear ST bx1 bx2 hb1 hB0 hW0 RW0
 gi_wp2
 refine ⟨trivial, (callsIn_wide.2 ST1).mono ?_⟩;rintro e w2 ⟨A2, c2, rfl, hown2, hb2⟩;have b1 := zg by1 hb2;have b2 := zg by2 hb2;have hbb := zb hb hb2;have hatR := hat.rd.below hb2
 have hnil : ∀ x ∈ os, x.2.1 = none -> x.1.il.length = 0 /\ x.2.2 = 0 := fun x hx hx0 => by
  have := hat.into x hx;unfold zf8 at this;rcases this.2 with ⟨hv, hz⟩ | ⟨g, cap, cur, hv, _⟩
  ·injection hv with e1 e2 e3;exact ⟨hz, e3⟩
  ·injection hv with e1 e2 e3;rw [hx0] at e1
   cases e1
 have TN := zgu w2;clear by1 by2 hb hb2 ST1 hat
 gi_wp2
 refine ⟨trivial, (callsIn_wide.2 TN).mono ?_⟩;rintro e w3 ⟨rfl, hT3, hb3, hz3⟩;have HOL : Hid (os.length = rows.length) := (by show _ = _; rw [<- ho, List.length_map]);have hoo : os.length <= 4096 := (by rw [HOL.out]; exact hrl);have HO := hz0q ho;obtain ⟨q, hq⟩ : ∃ q, q = w2.heap.size := ⟨_, rfl⟩;rw [<- hq] at hT3 hz3;obtain ⟨W, hWd, hTI, hV, hbx11, hbW, hzW⟩ := zit (4353 * rows.length) hq hT3 hb3 hz3;have b3 := zg b1 hbW;have b4 := zg b2 hbW;have hbbW := zb hbb hbW;have hcW := hbx11.cell;have HS3 := hz0q (And.intro hq hz3);have HZW := hz0q hzW;have HQW := hz0q hWd;simp only [<- hq];have hmm := @run_makeMap Tryz.prog;have BT := btakes_bad (bp := q + 6) hbW A os.length c os hatR rfl (by omega) (by rw [HO.out]; exact hbad);clear ho hbad hE hatR hown2 hnil hTI hV hT3 hb3 hq hzW TN hWd
 gi_wp2
 simp only [show q + 2 + 1 = q + 3 from rfl, show q + 3 + 1 = q + 4 from rfl, show q + 4 + 1 = q + 5 from rfl, show q + 5 + 1 = q + 6 from rfl, show q + 6 + 1 = q + 7 from rfl];rw [HQW.out];refine ⟨trivial, (callsIn_wide.2 BT).mono ?_⟩;rintro e w4 ⟨he, hb4⟩;have b5 := zg b3 hb4;have b6 := zg b4 hb4;have hbF := zb hbbW hb4;have c1 := (b5).cell;have f1 := (b5).frozen;have d1 := (zt (b6) (.pointer none) (show w.heap.size + 1 ≠ w.heap.size by omega)).cell;have f2 := (zt (b6) (.pointer none) (show w.heap.size + 1 ≠ w.heap.size by omega)).frozen;clear b1 b2 b3 b4 BT hb4 hbW hbbW hbx11 hcW;rcases he with rfl | rfl
 ·clear hmm
  gi_wp2
  have k1 := (zt ((b5).set (.pointer none)) (.int .i64 (12)) (show w.heap.size ≠ w.heap.size + 1 by omega)).cell;have k2 := ((zt (b6) (.pointer none) (show w.heap.size + 1 ≠ w.heap.size by omega)).set (.int .i64 (12))).cell;refine ⟨.tuple #[.pointer none, .int .i64 (12)], ?_, ⟨12, by decide, rfl⟩, ((hbF).setCell (p := ⟨w.heap.size, 0, none⟩) (Nat.le_refl _) _).setCell (p := ⟨w.heap.size + 1, 0, none⟩) (by simp) _⟩;simp [results, Tryz.f9, go_sem, k1, k2]
 ·clear hmm
  gi_wp2
  have k1 := (zt ((b5).set (.pointer none)) (.int .i64 (10)) (show w.heap.size ≠ w.heap.size + 1 by omega)).cell;have k2 := ((zt (b6) (.pointer none) (show w.heap.size + 1 ≠ w.heap.size by omega)).set (.int .i64 (10))).cell;refine ⟨.tuple #[.pointer none, .int .i64 (10)], ?_, ⟨10, by decide, rfl⟩, ((hbF).setCell (p := ⟨w.heap.size, 0, none⟩) (Nat.le_refl _) _).setCell (p := ⟨w.heap.size + 1, 0, none⟩) (by simp) _⟩;simp [results, Tryz.f9, go_sem, k1, k2]
end
end
section
open Go.RowKit
section
variable {w w' : World} {rp : Nat} {os : List RA} {out : List Int} {A A2 : Option Addr} {c c2 : Nat}
theorem zew (h : RefM w rp os out A A2 c c2) (g : RowsG (os.map (·.1))) (x : RA) (hx : x ∈ os) : Calls Tryz.prog 81 #[.pointer (some ⟨rp, 0, none⟩), rowAV x] w fun e w' => e = .returned (.bool (madeQ (clsL (os.map (·.1))) (prtL (os.map (·.1))) out x.1.fr)) /\ Below w.heap.size w w' := by
 rw [<- ze3 g out (List.mem_map_of_mem hx)];have hb : ∀ o, Below w.heap.size w (w.alloc o) := fun o => (Below.refl _ _).alloc (Nat.le_refl _) _;have hv := g.v x.1 (List.mem_map_of_mem hx);have hrd := h.rows.into x hx;have OUT := fun o => rout_any (h.below (hb o)) x.1.fr;have CLS := fun o u => zih (h.below (hb o)) g u;have HB := hz0q hb;obtain ⟨cls, hcls⟩ : ∃ f, f = clsL (os.map (·.1)) := ⟨_, rfl⟩;rw [<- hcls] at CLS ⊢;obtain ⟨⟨fr, up, nm, ct, cl, kd, il⟩, Ax, cx⟩ := x;simp only [rowAV] at hrd OUT ⊢;obtain ⟨res, hres⟩ : ∃ b, b = madeR cls out ⟨fr, up, nm, ct, cl, kd, il⟩ := ⟨_, rfl⟩;rw [<- hres];have HRES := hz0q hres;clear h g hx hcls hv hb hres
 by_cases hk : kd = []
 rotate_left
 ·have hte : (mk8 kd).toList.isEmpty = false := by
   rw [zj, zz]
   cases kd with
   | nil => exact absurd rfl hk
   | cons c t => rfl
  obtain rfl : res = false := (by rw [HRES.out]; unfold madeR; rw [decide_eq_false hk, Bool.false_and]);clear hk OUT CLS hrd;go_enter Tryz.func81, Tryz.ntmps81;go_wp2;go_returns;exact ⟨rfl, HB.out _⟩
 ·subst hk;have hte : (mk8 ([] : List UInt8)).toList.isEmpty = true := by rw [zj, zz]; rfl
  by_cases hl : il.length = 2
  rotate_left
  ·obtain rfl : res = false := (by rw [HRES.out]; unfold madeR; rw [decide_eq_false hl, Bool.false_and, Bool.and_false]);obtain ⟨m, hm⟩ : ∃ m, m = il.length := ⟨_, rfl⟩;rw [<- hm] at hl ⊢;have hl3 : ((m : Int) == 2) = false := (by simpa using fun e : (m : Int) = 2 => hl (by omega));clear hl OUT CLS hrd hm;go_enter Tryz.func81, Tryz.ntmps81;go_wp2;go_returns;first | exact ⟨rfl, HB.out _⟩ | exact ⟨zo (by simpa using hl3), HB.out _⟩
  ·obtain ⟨u, v, rfl⟩ : ∃ u v, il = [u, v] := by
    match il, hl with
    | [u, v], _ => exact ⟨u, v, rfl⟩
   have HRES2 : Hid (res = (!decide (fr ∈ out) && (decide (cl = 0) && decide (cls u = 0)))) := HRES.out.trans (by unfold madeR; rfl);rw [show ([u, v] : List Int).length = 2 from rfl] at hrd ⊢;clear hl;obtain ⟨b, off, rfl, hbl, hcx⟩ := hrd.at_ (by omega)
   have hu : ∀ o, (w.alloc o).cell? ⟨b, off, none⟩ = some (.int .i32 u) := fun o => by
    have := ((HB.out o).cell (p := ⟨b, off, none⟩) hbl).trans (hcx 0 (.int .i32 u) (by simp [Rs]));simpa using this
   obtain ⟨bo, hbo⟩ : ∃ bo : Bool, bo = decide (fr ∈ out) := ⟨_, rfl⟩;rw [<- hbo] at OUT;have HBO := hz0q hbo;have OU := OUT (.cells #[.int .i32 fr, .int .i32 up, .string (mk8 nm), .string (mk8 ct), .int .i64 cl, .string (mk8 []), .slice (some ⟨b, off, none⟩) 2 cx] 150);have CU := CLS (.cells #[.int .i32 fr, .int .i32 up, .string (mk8 nm), .string (mk8 ct), .int .i64 cl, .string (mk8 []), .slice (some ⟨b, off, none⟩) 2 cx] 150) u;obtain ⟨cu, hcu⟩ : ∃ z, z = cls u := ⟨_, rfl⟩;rw [<- hcu] at CU;have HCU := hz0q hcu;have hbF := HB.out (.cells #[.int .i32 fr, .int .i32 up, .string (mk8 nm), .string (mk8 ct), .int .i64 cl, .string (mk8 []), .slice (some ⟨b, off, none⟩) 2 cx] 150);have hu0 := hu (.cells #[.int .i32 fr, .int .i32 up, .string (mk8 nm), .string (mk8 ct), .int .i64 cl, .string (mk8 []), .slice (some ⟨b, off, none⟩) 2 cx] 150);have hbx := zr w #[.int .i32 fr, .int .i32 up, .string (mk8 nm), .string (mk8 ct), .int .i64 cl, .string (mk8 []), .slice (some ⟨b, off, none⟩) 2 cx] 150;clear hbo hcu OUT CLS hu hcx hrd
   cases bo with
   | true =>
    obtain rfl : res = false := (by rw [HRES2.out, <- HBO.out]; rfl);clear CU;go_enter Tryz.func81, Tryz.ntmps81;go_wp2_with (first | (go_at_call 119; refine OU.mono ?_; rintro e w1 ⟨rfl, rfl⟩) | go_in)
    go_returns;exact ⟨rfl, hbF⟩
   | false =>
    by_cases hc0 : cl = 0
    ·subst hc0;have HR3 : Hid (res = decide (cu = 0)) := (by show _ = _; rw [HRES2.out, <- HBO.out, HCU.out]; rfl);go_enter Tryz.func81, Tryz.ntmps81;go_wp2_with (first | (go_at_call 119; refine OU.mono ?_; rintro e w1 ⟨rfl, rfl⟩) | (go_at_call 89; refine CU.mono ?_; rintro e w1 ⟨rfl, rfl⟩) | go_in)
     go_returns;exact ⟨zo (by rw [HR3.out]; first | rfl | (rw [Bool.eq_iff_iff]; simp)), hbF⟩
    ·have hcc : (cl == 0) = false := (by simpa using hc0);obtain rfl : res = false := (by rw [HRES2.out, decide_eq_false hc0, Bool.false_and, Bool.and_false]);clear CU hc0;go_enter Tryz.func81, Tryz.ntmps81;go_wp2_with (first | (go_at_call 119; refine OU.mono ?_; rintro e w1 ⟨rfl, rfl⟩) | go_in)
     go_returns;first | exact ⟨rfl, hbF⟩ | exact ⟨zo (by simpa using hcc), hbF⟩
theorem ze2 {cls : Int -> Int} {out : List Int} {x : RowS} (h : madeR cls out x = true) : ∃ u v, x.il = [u, v] := by
 unfold madeR at h;simp only [Bool.and_eq_true, decide_eq_true_eq] at h;match hil : x.il, h.2.1 with
 | [u, v], _ => exact ⟨u, v, rfl⟩
theorem zg6 (h : RefM w rp os out A A2 c c2) (g : RowsG (os.map (·.1))) (x y : Int) (hx : R32 x) (hy : R32 y) : Calls Tryz.prog 83 #[.pointer (some ⟨rp, 0, none⟩), .int .i32 x, .int .i32 y] w fun e w' => e = .returned (zbm (pairH (prL (os.map (·.1)) out) x y)) /\ Below w.heap.size w w' := by
 have c0 := za h.box 0 rfl;have hl := h.len;have HH := hz0q h;have HG := hz0q g;obtain ⟨Q, hQ⟩ : ∃ Q : RowS -> Bool, Q = fun z => madeQ (clsL (os.map (·.1))) (prtL (os.map (·.1))) out z.fr && decide (zap (prtL (os.map (·.1))) z.fr = (x, y)) := ⟨_, rfl⟩;have HQ := hz0q hQ
 have HFIN : Hid (∀ k (z : RowS), (os.map (·.1))[k]? = some z -> Q z = true -> (∀ j t, j < k -> (os.map (·.1))[j]? = some t -> Q t = false) -> pairH (prL (os.map (·.1)) out) x y = some z.fr) := fun k z hz hq hfst => by
  unfold pairH prL;rw [<- HQ.out];rw [ziu hz hq hfst];rfl
 have HNO : Hid ((∀ j t, (os.map (·.1))[j]? = some t -> Q t = false) -> pairH (prL (os.map (·.1)) out) x y = if (joinH x y).2 = true then some (joinH x y).1 else none) := fun hno => by
  unfold pairH prL;rw [<- HQ.out]
  have : (os.map (·.1)).find? Q = none := List.find?_eq_none.2 fun t ht => by
   obtain ⟨j, hj⟩ := List.getElem?_of_mem ht;rw [hno j t hj]; simp
  rw [this];rfl
 have JN := fun W => zg8 x y W hx.1 (by have := hx.2; omega) hy.1 (by have := hy.2; omega);clear h g hQ;go_enter Tryz.func83, Tryz.ntmps83;go_wp2
 go_loopw [8] (fun i wr => ∃ k : Nat, k <= os.length /\ i = .int .i64 k /\ Hid (∀ j t, j < k -> (os.map (·.1))[j]? = some t -> Q t = false) /\ Below w.heap.size w wr) (fun i _ => os.length - (intOf i).toNat)
 case atStart => exact ⟨0, Nat.zero_le _, rfl, fun j t h _ => absurd h (by omega), Below.refl _ _⟩
 case round =>
  obtain ⟨k, hk, rfl, HF, hb⟩ := hrel;have hM := HH.out.below hb;have d0 := za hM.box 0 rfl
  by_cases hlt : k < os.length
  ·obtain ⟨z, hz⟩ : ∃ z, os[k]? = some z := ⟨_, List.getElem?_eq_getElem hlt⟩;have hzm := List.mem_of_getElem? hz;have MD := zew hM HG.out z hzm;obtain ⟨b, off, rfl, hbl, hc⟩ := hM.rows.at_ (by omega);obtain ⟨⟨fr, up, nm, ct, cl, kd, il⟩, Ax, cx⟩ := z;obtain ⟨e0, e1, e2, e3, e4, e5, e6⟩ := za9 hz hc;have hrd := hM.rows.into _ hzm;simp only [rowAV] at MD hrd e0 e1 e2 e3 e4 e5 e6;obtain ⟨md, hmd⟩ : ∃ md, md = madeQ (clsL (os.map (·.1))) (prtL (os.map (·.1))) out fr := ⟨_, rfl⟩;rw [<- hmd] at MD;have HMD := hz0q hmd;have HZ : Hid ((os.map (·.1))[k]? = some ⟨fr, up, nm, ct, cl, kd, il⟩) := (by show _ = _; rw [List.getElem?_map, hz]; rfl);have HZM := hz0q (List.mem_map_of_mem (f := (·.1)) hzm);have hi : (k : Int) < (os.length : Int) := (by omega);have HB := hz0q hb
   have HSTEP : Hid (Q ⟨fr, up, nm, ct, cl, kd, il⟩ = false -> ∀ j t, j < k + 1 -> (os.map (·.1))[j]? = some t -> Q t = false) := fun hq j t hj ht => by
    by_cases hjk : j < k
    ·exact HF.out j t hjk ht
    ·have : j = k := (by omega);subst this;rw [HZ.out] at ht;injection ht with ht;rw [<- ht];exact hq
   clear hmd hz hzm hc hb hM
   cases md with
   | false =>
    have hq : Q ⟨fr, up, nm, ct, cl, kd, il⟩ = false := (by rw [HQ.out]; simp only []; rw [<- HMD.out]; rfl);have HF2 := hz0q (HSTEP.out hq);clear hq hrd;go_wp2_with (first | (go_at_call 81; refine MD.mono ?_; rintro e w2 ⟨rfl, hb2⟩) | go_in)
    have hb3 := zb HB.out hb2;go_roundw
    case rel => exact ⟨k + 1, by omega, by go_num, HF2, hb3⟩
    case measure => simp [intOf]; omega
   | true =>
    have hil : ∃ u v, il = [u, v] := by
     have := ze3 HG.out out HZM.out;exact ze2 (this.trans HMD.out.symm)
    obtain ⟨u, v, rfl⟩ := hil;have HT := hz0q (zma HG.out HZM.out (u := u) (v := v) rfl);have hlen : ([u, v] : List Int).length = 2 := rfl;rw [hlen] at hrd e6 MD;clear hlen;obtain ⟨b2, off2, rfl, hbl2, hc2⟩ := hrd.at_ (by omega);have f0 : wr.cell? ⟨b2, off2, none⟩ = some (.int .i32 u) := (by have := hc2 0 (.int .i32 u) (by simp [Rs]); simpa using this);have f1 : wr.cell? ⟨b2, off2 + 1, none⟩ = some (.int .i32 v) := hc2 1 (.int .i32 v) (by simp [Rs])
    have HCE : Hid (∀ w2, Below wr.heap.size wr w2 -> w2.cell? ⟨rp, 0, none⟩ = some (.slice (some ⟨b, off, none⟩) os.length c) /\ w2.cell? ⟨b, off + k * 7, none⟩ = some (.int .i32 fr) /\ w2.cell? ⟨b, off + k * 7 + 6, none⟩ = some (.slice (some ⟨b2, off2, none⟩) 2 cx) /\ w2.cell? ⟨b2, off2, none⟩ = some (.int .i32 u) /\ w2.cell? ⟨b2, off2 + 1, none⟩ = some (.int .i32 v)) := fun w2 hb2 =>
     ⟨(hb2.cell (p := ⟨rp, 0, none⟩) (World.block_lt_of_cell? wr _ d0)).trans d0, (hb2.cell (p := ⟨b, off + k * 7, none⟩) hbl).trans e0, (hb2.cell (p := ⟨b, off + k * 7 + 6, none⟩) hbl).trans e6, (hb2.cell (p := ⟨b2, off2, none⟩) hbl2).trans f0, (hb2.cell (p := ⟨b2, off2 + 1, none⟩) hbl2).trans f1⟩
    clear hc2 hrd f0 f1
    by_cases hu : u = x
    ·by_cases hv : v = y
     ·have hq : Q ⟨fr, up, nm, ct, cl, kd, [u, v]⟩ = true := by
       rw [HQ.out];simp only [];rw [<- HMD.out, HT.out, hu, hv];simp
      have HP : Hid (zbm (pairH (prL (os.map (·.1)) out) x y) = .tuple #[.int .i32 fr, .bool true]) := by
       show _ = _;rw [HFIN.out k _ HZ.out hq HF.out];rfl
      have hu' : (u == x) = true := (by simpa using hu);have hv' : (v == y) = true := (by simpa using hv);clear hq hu hv;go_wp2_with (first | (go_at_call 81; refine MD.mono ?_; rintro e w2 ⟨rfl, hb2⟩; obtain ⟨t0, t1, t2, t3, t4⟩ := HCE.out w2 hb2; clear e0 e1 e2 e3 e4 e5 e6 d0) | go_in)
      have hb3 := zb HB.out hb2;go_returns;exact ⟨by rw [HP.out]; rfl, hb3⟩
     ·have hq : Q ⟨fr, up, nm, ct, cl, kd, [u, v]⟩ = false := by
       rw [HQ.out];simp only [];rw [HT.out, decide_eq_false (by intro e; injection e with e1 e2; exact hv e2)];simp
      have HF2 := hz0q (HSTEP.out hq);have hu' : (u == x) = true := (by simpa using hu);have hv' : (v == y) = false := (by simpa using hv);clear hq hu hv;go_wp2_with (first | (go_at_call 81; refine MD.mono ?_; rintro e w2 ⟨rfl, hb2⟩; obtain ⟨t0, t1, t2, t3, t4⟩ := HCE.out w2 hb2; clear e0 e1 e2 e3 e4 e5 e6 d0) | go_in)
      have hb3 := zb HB.out hb2;go_roundw
      case rel => exact ⟨k + 1, by omega, by go_num, HF2, hb3⟩
      case measure => simp [intOf]; omega
    ·have hq : Q ⟨fr, up, nm, ct, cl, kd, [u, v]⟩ = false := by
      rw [HQ.out];simp only [];rw [HT.out, decide_eq_false (by intro e; injection e with e1 e2; exact hu e1)];simp
     have HF2 := hz0q (HSTEP.out hq);have hu' : (u == x) = false := (by simpa using hu);clear hq hu;go_wp2_with (first | (go_at_call 81; refine MD.mono ?_; rintro e w2 ⟨rfl, hb2⟩; obtain ⟨t0, t1, t2, t3, t4⟩ := HCE.out w2 hb2; clear e0 e1 e2 e3 e4 e5 e6 d0) | go_in)
     have hb3 := zb HB.out hb2;go_roundw
     case rel => exact ⟨k + 1, by omega, by go_num, HF2, hb3⟩
     case measure => simp [intOf]; omega
  ·obtain rfl : k = os.length := (by omega);have hi : (os.length : Int) <= (os.length : Int) := Int.le_refl _
   have HP : Hid (zbm (pairH (prL (os.map (·.1)) out) x y) = .tuple #[.int .i32 (joinH x y).1, .bool (joinH x y).2]) := by
    show _ = _;rw [HNO.out fun j t ht => HF.out j t (by have := (List.getElem?_eq_some_iff.1 ht).1; simpa using this) ht]
    cases hj : (joinH x y).2 with
    | true => rfl
    | false => rw [zmd hj]; rfl
   have JN2 := JN wr;obtain ⟨jz, jb, hjz⟩ : ∃ (jz : Int) (jb : Bool), joinH x y = (jz, jb) := ⟨_, _, rfl⟩;rw [hjz] at JN2;have HJ := hz0q hjz;clear hM hjz;go_wp2_with (first | (go_at_call 82; refine JN2.mono ?_; rintro e w2 ⟨rfl, rfl⟩) | go_in)
   go_returns;exact ⟨by rw [HP.out, HJ.out]; rfl, hb⟩
end
end
section
open Go.RowKit
structure BkP (D : Int -> List Int) (r : Int) (todo : List Int) (i : Nat) : Prop where
 sub : ∀ y ∈ D r, y ∈ todo
 cl : ∀ (j : Nat) x, j < i -> todo[j]? = some x -> ∀ y ∈ D x, y ∈ todo
 ne : ∀ (j : Nat) x, j < i -> todo[j]? = some x -> x ≠ r
 shape : ∃ l0 rest : List Int, todo = l0 ++ rest /\ l0.length <= 18 /\ rest.Nodup /\ ∀ x ∈ rest, x ∈ allR
 all : ∀ x ∈ todo, x ∈ allR
section
variable {D : Int -> List Int} {r : Int} {todo : List Int} {i : Nat}
theorem BkP.start (hD : ∀ y ∈ D r, y ∈ allR) (hl : (D r).length <= 18) : BkP D r (D r) 0 := ⟨fun y hy => hy, fun j x h => absurd h (Nat.not_lt_zero _), fun j x h => absurd h (Nat.not_lt_zero _), ⟨D r, [], by simp, hl, List.nodup_nil, by simp⟩, hD⟩
theorem BkP.len (h : BkP D r todo i) : todo.length <= 1114130 := by
 obtain ⟨l0, rest, e, h1, h2, h3⟩ := h.shape;have := zl7 h2 h3;rw [zjl] at this;rw [e, List.length_append];omega
theorem BkP.push (h : BkP D r todo i) (hi : i < todo.length) {y : Int} (hy : y ∈ allR) (hn : y ∉ todo) : BkP D r (todo ++ [y]) i := by
 obtain ⟨l0, rest, e, h1, h2, h3⟩ := h.shape;have hlt : ∀ {j x}, j < i -> (todo ++ [y])[j]? = some x -> todo[j]? = some x := fun {j x} hj hx => by rwa [List.getElem?_append_left (by omega)] at hx
 refine ⟨fun z hz => List.mem_append.2 (.inl (h.sub z hz)), fun j x hj hx z hz => List.mem_append.2 (.inl (h.cl j x hj (hlt hj hx) z hz)), fun j x hj hx => h.ne j x hj (hlt hj hx), ⟨l0, rest ++ [y], by rw [e, List.append_assoc], h1, ?_, ?_⟩, ?_⟩
 ·rw [List.nodup_append];refine ⟨h2, by simp, fun a ha b hb => ?_⟩;rw [List.mem_singleton] at hb;subst hb;rintro rfl;exact hn (by rw [e]; exact List.mem_append.2 (.inr ha))
 ·intro x hx;rcases List.mem_append.1 hx with hx | hx
  ·exact h3 x hx
  ·rw [List.mem_singleton] at hx; subst hx; exact hy
 ·intro x hx;rcases List.mem_append.1 hx with hx | hx
  ·exact h.all x hx
  ·rw [List.mem_singleton] at hx; subst hx; exact hy
theorem BkP.next (h : BkP D r todo i) {x : Int} (hx : todo[i]? = some x) (hn : x ≠ r) (hc : ∀ y ∈ D x, y ∈ todo) : BkP D r todo (i + 1) := by
 refine ⟨h.sub, fun j z hj hz => ?_, fun j z hj hz => ?_, h.shape, h.all⟩
 ·by_cases e : j = i
  ·subst e; rw [hx] at hz; injection hz with hz; subst hz; exact hc
  ·exact h.cl j z (by omega) hz
 ·by_cases e : j = i
  ·subst e; rw [hx] at hz; injection hz with hz; subst hz; exact hn
  ·exact h.ne j z (by omega) hz
theorem BkP.done (h : BkP D r todo todo.length) : ¬ Down D r r := by
 have key : ∀ y, Down D r y -> y ∈ todo := fun y hy => by
  induction hy with
  | one hy => exact h.sub _ hy
  | more _ hz ih =>
   obtain ⟨j, hj⟩ := List.getElem?_of_mem ih;exact h.cl j _ (List.getElem?_eq_some_iff.1 hj).1 hj _ hz
 intro hd;obtain ⟨j, hj⟩ := List.getElem?_of_mem (key r hd);exact h.ne j r (List.getElem?_eq_some_iff.1 hj).1 hj rfl
end
def Apt (Am : Option Addr) (m : List Int) (v : Value) : Prop := ∀ g, v.ownBlock = some g -> ∀ a, Am = some a -> 0 < m.length -> a.block ≠ g
def BkM (w wr : World) (s7 : Value) (todo : List Int) : Prop := ∃ A c, s7 = .slice A todo.length c /\ wr.ownsRow w.heap.size 21 1 (.slice A todo.length c) todo.length (Rs todo) /\ Below w.heap.size w wr
def BackP (D : Int -> List Int) (r : Int) (w : World) (e : Ending) (w' : World) : Prop := (∃ b, e = .returned (.bool b) /\ (b = false -> ¬ Down D r r)) /\ Below w.heap.size w w'
section
variable {w w' : World} {rp : Nat} {os : List RA} {out : List Int} {A A2 : Option Addr} {c c2 : Nat}
theorem rback_any (h : RefM w rp os out A A2 c c2) (g : RowsG (os.map (·.1))) (r : Int) (hr : r ∈ allR) : Calls Tryz.prog 79 #[.pointer (some ⟨rp, 0, none⟩), .int .i32 r] w (BackP (fun x => (decH (prtL (os.map (·.1))) x).2) r w) := by
 obtain ⟨D, hD⟩ : ∃ D, D = fun x => (decH (prtL (os.map (·.1))) x).2 := ⟨_, rfl⟩
 have DC : Hid (∀ W z, Below w.heap.size w W -> R32 z -> Calls Tryz.prog 118 #[.pointer (some ⟨rp, 0, none⟩), .int .i32 z] W (RDecP w (decH (prtL (os.map (·.1))) z).1 (D z) W)) := fun W z hb hz => by
  rw [hD]; exact zej h hb g z hz
 have HA : Hid (∀ x, ∀ y ∈ D x, y ∈ allR) := fun x => by rw [hD]; exact zhq (fun r q hq => (g.into r q hq).2.1) x
 have HL : Hid (∀ x, (D x).length <= 18) := fun x => by rw [hD]; exact zjh (fun r q hq => (g.into r q hq).2.2.1) x
 rw [<- hD];have D0 := DC.out w r (Below.refl _ _) (zb9 hr);have hl0 := HL.out r;clear hD h g hr;obtain ⟨kd, hkd⟩ : ∃ kd, kd = (decH (prtL (os.map (·.1))) r).1 := ⟨_, rfl⟩;rw [<- hkd] at D0;clear hkd;have hone := zh0 (D r);have HONE := hz0q hone;clear hone;go_enter Tryz.func79, Tryz.ntmps79;go_wp2_with fail;refine D0.mono ?_;rintro e w1 ⟨Ad, cd, rfl, hrd, hb1, _⟩;clear D0;have hown0 : w1.ownsRow w.heap.size 21 1 (.slice none 0 0) 0 [] := World.ownsRow_nil _ _ _ _;go_wp2_with (at_builtin; refine z6 zaa _ rfl _ _ rfl w.heap.size rfl hown0 rfl hrd HONE.out (by omega) (by omega) hb1.size ?_)
 intro A3 c3 w3 hown3 hg3 hat3;have hb3 := za7 hb1 hb1.size hown0 hg3;have hM0 : BkM w w3 (.slice A3 (D r).length c3) (D r) := ⟨A3, c3, rfl, by simpa using hown3, hb3⟩;have HP0 := hz0q (BkP.start (HA.out r) hl0);clear hown3 hg3 hat3 hown0 hrd hb3 hb1;go_wp2
 go_loopw [7, 8] (fun s7 i wr => ∃ (todo : List Int) (k : Nat), i = .int .i64 k /\ k <= todo.length /\ Hid (BkP D r todo k) /\ BkM w wr s7 todo) (fun _ i _ => 1200000 - (intOf i).toNat)
 case atStart => exact ⟨D r, 0, rfl, Nat.zero_le _, HP0, hM0⟩
 case round =>
  obtain ⟨todo, k, rfl, hk, HP, A4, c4, rfl, hown, hb⟩ := hrel;have hlen := HP.out.len
  by_cases hlt : k < todo.length
  ·obtain ⟨x, hx⟩ : ∃ x, todo[k]? = some x := ⟨_, List.getElem?_eq_getElem hlt⟩;obtain ⟨A5, c5, he5, _, _, hrdt⟩ := Rd.of_own hown;injection he5 with e1 _ e3;subst e1 e3;obtain ⟨b, off, rfl, hbl, hc⟩ := hrdt.at_ (by omega);have c0 : wr.cell? ⟨b, off + k, none⟩ = some (.int .i32 x) := hc k _ (by simp [Rs, hx]);have hi : (k : Int) < (todo.length : Int) := (by omega);have HX := hz0q hx;have hxa := HP.out.all x (List.mem_of_getElem? hx)
   by_cases hxr : x = r
   ·have hxe : (x == r) = true := (by simpa using hxr);clear hx hc hxr hrdt hown;go_wp2;go_returns;exact ⟨⟨true, rfl, fun h => by cases h⟩, hb⟩
   ·have hxe : (x == r) = false := (by simpa using hxr);have HXR := hz0q hxr;have DX := DC.out wr x hb (zb9 hxa);obtain ⟨kx, hkx⟩ : ∃ kx, kx = (decH (prtL (os.map (·.1))) x).1 := ⟨_, rfl⟩;rw [<- hkx] at DX;obtain ⟨m, hm⟩ : ∃ m, m = D x := ⟨_, rfl⟩;rw [<- hm] at DX;have HMX := hz0q hm;have hml : m.length <= 18 := (by rw [hm]; exact HL.out x);clear hx hc hxr hkx hm hrdt;go_wp2_with fail;refine DX.mono ?_;rintro e w2 ⟨Am, cm, rfl, hrm, hb2, hloc⟩;have hown2 := z8 hown hb2;have hbb := zb hb hb2;have hob : ∀ v, wr.ownsRow w.heap.size 21 1 v todo.length (Rs todo) -> True := fun _ _ => trivial;have HLOC : Hid (∀ a, Am = some a -> 0 < m.length -> a.block < w.heap.size \/ wr.heap.size <= a.block) := hloc;have hs2 := hb2.size;clear DX c0 hown hloc hob;go_wp2
    have hA0 : Apt Am m (.slice (some ⟨b, off, none⟩) todo.length c4) := fun g hg a ha h0l => by
     rcases hown2.2 with ⟨hv, _⟩ | ⟨g', cap, cur, hv, hbase, hgb, _⟩
     ·cases hv
     ·injection hv with e1 _ _;injection e1 with e1;injection e1 with e1 _;simp [Value.ownBlock] at hg;have := HLOC.out a ha h0l;omega
    go_loopw [7, 11] (fun s7 i2 wr2 => ∃ (td2 : List Int) (k2 : Nat), i2 = .int .i64 k2 /\ k2 <= m.length /\ Hid (BkP D r td2 k /\ k < td2.length /\ td2[k]? = some x /\ ∀ y ∈ m.take k2, y ∈ td2) /\ BkM w wr2 s7 td2 /\ Rd wr2 Am m.length (Rs m) /\ Apt Am m s7) (fun _ i2 _ => m.length - (intOf i2).toNat)
    case atStart => exact ⟨todo, 0, rfl, Nat.zero_le _, ⟨HP.out, hlt, HX.out, by simp⟩, ⟨_, _, rfl, hown2, hbb⟩, hrm, hA0⟩
    case round =>
     obtain ⟨td2, k2, rfl, hk2, HB2, ⟨A6, c6, rfl, hown6, hb6⟩, hrm6, hap6⟩ := hrel;have hlen6 := HB2.out.1.len;have hk6 := HB2.out.2.1
     by_cases hlt2 : k2 < m.length
     ·obtain ⟨y, hy⟩ : ∃ y, m[k2]? = some y := ⟨_, List.getElem?_eq_getElem hlt2⟩;have hi2 : (k2 : Int) < (m.length : Int) := (by omega);obtain ⟨A7, c7, he7, _, _, hrd7⟩ := Rd.of_own hown6;injection he7 with e1 _ e3;subst e1 e3;obtain ⟨bm, om, rfl, hblm, hcm⟩ := hrm6.at_ (by omega);obtain ⟨bt, ot, rfl, hblt, hct⟩ := hrd7.at_ (by omega);have cm : wr.cell? ⟨bm, om + k2, none⟩ = some (.int .i32 y) := hcm k2 _ (by simp [Rs, hy]);have HCT := hz0q hct;have HY := hz0q hy;have HOW := hz0q hown6;have HRM := hz0q hrm6;have HAP := hz0q hap6;clear hct hcm hy hrd7 hown6 hrm6 hap6;obtain ⟨wo, hwo⟩ : ∃ wo, wo = wr := ⟨wr, rfl⟩;have HWO := hz0q hwo;clear hwo;go_wp2
      go_loopw [12, 13] (fun s12 s13 wr3 => ∃ j : Nat, j <= td2.length /\ s13 = .int .i64 j /\ s12 = .bool (decide (y ∈ td2.take j)) /\ Hid (Drew wo wr3)) (fun _ s13 _ => td2.length - (intOf s13).toNat)
      case atStart => exact ⟨0, Nat.zero_le _, rfl, by simp, by show Drew _ _; rw [HWO.out]; exact Drew.refl _⟩
      case round =>
       obtain ⟨j, hj, rfl, rfl, HDR⟩ := hrel;obtain ⟨nd, hnd⟩ := HDR.out;rw [HWO.out] at hnd
       by_cases hjl : j < td2.length
       ·obtain ⟨z, hz⟩ : ∃ z, td2[j]? = some z := ⟨_, List.getElem?_eq_getElem hjl⟩;have hij : (j : Int) < (td2.length : Int) := (by omega);have d1 : wr.cell? ⟨bt, ot + j, none⟩ = some (.int .i32 z) := (by rw [hnd]; exact HCT.out j _ (by simp [Rs, hz]));have d2 : wr.cell? ⟨bm, om + k2, none⟩ = some (.int .i32 y) := (by rw [hnd]; exact cm);have HZ := hz0q hz;have HND := hz0q hnd;clear hz hnd cm;obtain ⟨sb, hsb⟩ : ∃ sb, sb = decide (y ∈ td2.take j) := ⟨_, rfl⟩;rw [<- hsb];have HSB := hz0q hsb;clear hsb
        cases sb with
        | true =>
         have HN : Hid (decide (y ∈ td2.take (j + 1)) = true) := by
          show _ = _;have := of_decide_eq_true HSB.out.symm;refine decide_eq_true ?_;rw [List.take_add_one];exact List.mem_append.2 (.inl this)
         go_wp2;go_quiet (fail)
         go_wp2;go_roundw
         case rel => exact ⟨j + 1, by omega, by go_num, by rw [HN.out], HDR.out.trans ⟨_, rfl⟩⟩
         case measure => simp [intOf]; omega
        | false =>
         have hny := of_decide_eq_false HSB.out.symm
         by_cases hzy : z = y
         ·have HN : Hid (decide (y ∈ td2.take (j + 1)) = true) := by
           show _ = _;refine decide_eq_true ?_;rw [List.take_add_one, HZ.out, hzy];simp
          have hze : (z == y) = true := (by simpa using hzy);clear hny hzy;go_wp2;go_quiet (fail)
          go_wp2;go_roundw
          case rel => exact ⟨j + 1, by omega, by go_num, by rw [HN.out], HDR.out.trans ⟨_, rfl⟩⟩
          case measure => simp [intOf]; omega
         ·have HN : Hid (decide (y ∈ td2.take (j + 1)) = false) := by
           show _ = _;refine decide_eq_false ?_;rw [List.take_add_one, HZ.out];intro hm;rcases List.mem_append.1 hm with hm | hm
           ·exact hny hm
           ·simp at hm; exact hzy hm.symm
          have hze : (z == y) = false := (by simpa using hzy);clear hny hzy;go_wp2;go_quiet (fail)
          go_wp2;go_roundw
          case rel => exact ⟨j + 1, by omega, by go_num, by rw [HN.out], HDR.out.trans ⟨_, rfl⟩⟩
          case measure => simp [intOf]; omega
       ·obtain rfl : j = td2.length := (by omega);have hij : (td2.length : Int) <= (td2.length : Int) := Int.le_refl _;rw [List.take_length];have hbd : Below wo.heap.size wo wr := HDR.out.to;rw [HWO.out] at hbd;have hownD := z8 HOW.out hbd;have hrmD := HRM.out.below hbd;have hbW := zb hb6 hbd;have d2 := (hbd.cell (p := ⟨bm, om + k2, none⟩) hblm).trans cm;have hya : y ∈ allR := HA.out x y (by rw [<- HMX.out]; exact List.mem_of_getElem? HY.out);have HTK : Hid (m.take (k2 + 1) = m.take k2 ++ [y]) := (by show _ = _; rw [List.take_add_one, HY.out]; rfl);clear hbd cm hnd
        by_cases hym : y ∈ td2
        ·have hdt : decide (y ∈ td2) = true := decide_eq_true hym;rw [hdt]
         have HN : Hid (BkP D r td2 k /\ k < td2.length /\ td2[k]? = some x /\ ∀ y ∈ m.take (k2 + 1), y ∈ td2) := ⟨HB2.out.1, HB2.out.2.1, HB2.out.2.2.1, fun u hu => by
          rw [HTK.out] at hu;rcases List.mem_append.1 hu with hu | hu
          ·exact HB2.out.2.2.2 u hu
          ·rw [List.mem_singleton] at hu; subst hu; exact hym⟩
         have hM2 : BkM w wr (.slice (some ⟨bt, ot, none⟩) td2.length c6) td2 := ⟨_, c6, rfl, hownD, hbW⟩;have hap := HAP.out;clear hdt hym hownD hbW;go_wp2;go_roundw
         case rel => exact ⟨td2, k2 + 1, by go_num, by omega, HN, hM2, hrmD, hap⟩
         case measure => simp [intOf]; omega
        ·have hdt : decide (y ∈ td2) = false := decide_eq_false hym;rw [hdt]
         have HN : Hid (BkP D r (td2 ++ [y]) k /\ k < (td2 ++ [y]).length /\ (td2 ++ [y])[k]? = some x /\ ∀ z ∈ m.take (k2 + 1), z ∈ td2 ++ [y]) := ⟨HB2.out.1.push HB2.out.2.1 hya hym, by simp; omega, by rw [List.getElem?_append_left HB2.out.2.1]; exact HB2.out.2.2.1, fun u hu => by
          rw [HTK.out] at hu;rcases List.mem_append.1 hu with hu | hu
          ·exact List.mem_append.2 (.inl (HB2.out.2.2.2 u hu))
          ·exact List.mem_append.2 (.inr hu)⟩
         clear hdt hym;have hbs := hbW.size;go_wp2_with (at_builtin; refine z6 zaa _ rfl _ _ rfl w.heap.size rfl (hownD.alloc _) rfl (Rd.new1 _ _ _) (zb6 rfl) (by omega) (by omega) (by simp; omega) ?_)
         intro A9 c9 w9 hown9 hg9 hat9;have hb9 := za7 (hbW.alloc (by omega) _) (by simp; omega) (hownD.alloc _) hg9;have hM2 : BkM w w9 (.slice A9 (td2.length + 1) c9) (td2 ++ [y]) := ⟨A9, c9, by simp, by simpa [Rs] using hown9, hb9⟩
         have hrm9 : Rd w9 (some ⟨bm, om, none⟩) m.length (Rs m) := (hrmD.alloc _).grown hg9 (fun a ha e => by
          have := HAP.out bt (by simp [Value.ownBlock]) a ha (by omega);simp [Value.ownBlock] at e
          exact this e.symm)
         have hap9 : Apt (some ⟨bm, om, none⟩) m (.slice A9 (td2.length + 1) c9) := fun g hg a ha h0l => by
          rcases hat9 with h | h
          ·rw [h] at hg;exact HAP.out g hg a ha h0l
          ·rw [h] at hg;injection hg with hg;injection ha with ha;subst ha hg;have := hrmD.at_ h0l;obtain ⟨b', o', e, hlt', _⟩ := this;injection e with e;injection e with e _;simp;omega
         clear hown9 hg9 hat9 hownD hbW hrmD hb9;go_wp2;go_roundw
         case rel => exact ⟨td2 ++ [y], k2 + 1, by go_num, by omega, HN, hM2, hrm9, hap9⟩
         case measure => simp [intOf]; omega
     ·obtain rfl : k2 = m.length := (by omega);have hi2 : (m.length : Int) <= (m.length : Int) := Int.le_refl _;have hM2 : BkM w wr (.slice A6 td2.length c6) td2 := ⟨A6, c6, rfl, hown6, hb6⟩;have HN : Hid (BkP D r td2 (k + 1)) := HB2.out.1.next HB2.out.2.2.1 HXR.out fun y hy => HB2.out.2.2.2 y (by rw [List.take_length, HMX.out]; exact hy);clear hown6 hrm6 hap6;go_wp2;go_roundw
      case rel => exact ⟨td2, k + 1, by go_num, by omega, HN, hM2⟩
      case measure => simp [intOf]; omega
  ·obtain rfl : k = todo.length := (by omega);have hi : (todo.length : Int) <= (todo.length : Int) := Int.le_refl _;have HD := hz0q HP.out.done;go_wp2;go_returns;exact ⟨⟨false, rfl, fun _ => HD.out⟩, hb⟩
end
end
end Go.Proofs.YtfdelmodmadoaaaGreatDoor
