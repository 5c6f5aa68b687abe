/- New: the base taken, both loops, and what is made: the code. -/
import Derived.Test.YtolcabjkbefjgaaGreatDoorZ31
set_option linter.unusedSimpArgs false
set_option linter.unusedVariables false
set_option maxRecDepth 20000
set_option maxHeartbeats 4000000
namespace Go.Proofs.YtolcabjkbefjgaaGreatDoor
section
open Go.RowKit Go.Lib Go.Maps Go.Sort Go.Shelf
attribute [local go_sem] Oper.semAt_some
theorem TInv.toM {W0 w w' : World} {bp n : Nat} {a : BAddr} {rows : List RowS} (h : TInv W0 w bp a n rows w') (hV : MkV w a 0 (fun _ => none) (fun _ => none) (fun _ => none)) (ap : a.Apart) (ht : a.tn = 4353 * n) (hb : Below W0.heap.size W0 w') : BaseM w' bp a n (clsL rows) (prtL rows) (fun _ => none) (fun _ => none) (fun _ => none) := by
 obtain ⟨h1, h2, ⟨f, h3, h4⟩, h5⟩ := h;refine ⟨h1, by rw [ht]; exact h2, ⟨f, h3, fun r hr => (h4 r hr).below hb⟩, ?_, ?_, ?_⟩
 ·exact (hV.pr.at (h5.block _ hV.pr.lt (by rintro (e | e); exact ap.b2 e.symm; exact ap.p2 e.symm))).mono (Nat.zero_le _)
 ·exact (hV.md.at (h5.block _ hV.md.lt (by rintro (e | e); exact ap.b3 e.symm; exact ap.p3 e.symm))).mono (Nat.zero_le _)
 ·exact (hV.sc.at (h5.block _ hV.sc.lt (by rintro (e | e); exact ap.b4 e.symm; exact ap.p4 e.symm))).mono (Nat.zero_le _)
theorem zgv (q tn : Nat) : BAddr.Apart ⟨q + 1, q, q + 2, q + 3, q + 4, q + 5, tn⟩ := ⟨by simp, by simp, by simp, by simp, by simp, by simp, by simp, by simp, by simp, by simp⟩
theorem BaseM.wrote {w w' : World} {bp n : Nat} {a : BAddr} {cls : Int -> Int} {prt : Int -> Option (List UInt8 × List Int)} {pr : Int × Int -> Option Int} {md : Int -> Option (Int × Int)} {sc : Int -> Option Int} {S : Nat -> Prop} (h : BaseM w bp a n cls prt pr md sc) (hW : Wrote S w w')
  (hS : ∀ k, S k -> k ≠ bp /\ k ≠ a.tb /\ k ≠ a.mb /\ k ≠ a.m1 /\ k ≠ a.m2 /\ k ≠ a.m3 /\ k ≠ a.m4 /\ ∀ off z, w.cell? ⟨k, off, none⟩ ≠ some (.int .i32 z)) : BaseM w' bp a n cls prt pr md sc := by
 obtain ⟨h1, ⟨i1, g, i2, i3⟩, ⟨f, h3, h4⟩, h5, h6, h7⟩ := h;have ne : ∀ b, (∀ k, S k -> k ≠ b) -> ¬ S b := fun b hb hs => hb b hs rfl;refine ⟨hW.blk h1 (ne _ fun k hk => (hS k hk).1), ⟨hW.blk i1 (ne _ fun k hk => (hS k hk).2.1), g, i2.at (hW.block _ i2.lt (ne _ fun k hk => (hS k hk).2.2.1)), i3⟩, ⟨f, h3.at (hW.block _ h3.lt (ne _ fun k hk => (hS k hk).2.2.2.1)), fun r hr => ?_⟩, h5.at (hW.block _ h5.lt (ne _ fun k hk => (hS k hk).2.2.2.2.1)), h6.at (hW.block _ h6.lt (ne _ fun k hk => (hS k hk).2.2.2.2.2.1)), h7.at (hW.block _ h7.lt (ne _ fun k hk => (hS k hk).2.2.2.2.2.2.1))⟩;have hp := h4 r hr;generalize f r = p at hp;generalize prt r = q at hp
 cases p <;> cases q <;> first | exact hp | (refine ⟨hp.1, hp.2.1, hp.2.2.1, hp.2.2.2.1.wrote hW fun h0 ad had hSk => ?_, hp.2.2.2.2⟩)
 obtain ⟨b, off, e, _, hc⟩ := hp.2.2.2.1.at_ h0;rw [had] at e;injection e with e;subst e;have hl := hp.2.2.2.1.1;obtain ⟨u, hu⟩ : ∃ u, (Rs _)[0]? = some u := ⟨_, List.getElem?_eq_getElem (by rw [hl]; exact h0)⟩;have hc0 := hc 0 u hu;unfold Rs at hu;rw [List.getElem?_map] at hu;obtain ⟨z, _, rfl⟩ := Option.map_eq_some_iff.1 hu;exact (hS _ hSk).2.2.2.2.2.2.2 _ z hc0
theorem zjm {w : World} {b : Nat} {t : TypeId} {v : Value} (h : Boxed w b t v) (hv : ∀ z, v ≠ .int .i32 z) : ∀ off z, w.cell? ⟨b, off, none⟩ ≠ some (.int .i32 z) := fun off z e => by
 unfold World.cell? at e;rw [show w.heap[b]? = _ from h] at e;simp only [] at e;match off with
 | 0 => simp at e; exact hv z e
 | off + 1 => simp at e
theorem zmq {w : World} {b : Nat} {d : Option (List Deferred)} (h : w.heap[b]? = some (.deferred d)) : ∀ off z, w.cell? ⟨b, off, none⟩ ≠ some (.int .i32 z) := fun off z e => by
 unfold World.cell? at e;rw [h] at e;simp at e
section
variable {w : World}
theorem zi6 (s o : ByteArray) (hE : Env w) (hs : s.size <= 1073741824) (ho1 : o.size <= 1073741824) (h0 : (rowsS (bs s)).2.2 = 0) (h01 : (setsS (bs o)).2.2 = 0) (hbad : (rowsS (bs s)).1.any zbu = true \/ ((rowsS (bs s)).1.any zbu = false /\ (rowsS (bs s)).1.any formB = true)) : Calls Tryz.prog 8 #[.string s, .string o] w (zjr w) := by
 refine (callsIn_wide (n := 5)).1 ?_;have hro : Fence.wide.round = none := rfl;have h1 : 1 <= 5 := (by omega);refine callsIn_of_wp_marks Tryz.func8 rfl trivial ?_ hro;simp only [Tryz.ntmps8, List.size_toArray, List.length_cons, List.length_nil, Nat.reduceAdd, Nat.reduceSub, Array.replicate_succ, Array.replicate_zero, List.push_toArray, List.append_toArray, List.nil_append, List.cons_append];have RW := fun W (hb : Below w.heap.size w W) => zfn s W (hE.below hb) hs;have ST := fun W (hb : Below w.heap.size w W) => zhx o W (hE.below hb) ho1;have hrl := zit (bs s);obtain ⟨⟨rows, ln, e0⟩, hR⟩ : ∃ R, R = rowsS (bs s) := ⟨_, rfl⟩;rw [<- hR] at RW h0 hrl hbad;simp only [] at h0 hrl hbad;subst h0;obtain ⟨⟨out, ln2, er⟩, hS⟩ : ∃ R, R = setsS (bs o) := ⟨_, rfl⟩;rw [<- hS] at ST h01;simp only [] at h01;subst h01;clear hR hS;obtain ⟨W0, hW0⟩ : ∃ W0, (w.alloc (.cells #[.pointer none] 32)).alloc (.cells #[.int .i64 0] 33) = W0 := ⟨_, rfl⟩;have hB0 : Below w.heap.size w W0 := (by rw [<- hW0]; exact ((Below.refl _ w).alloc (Nat.le_refl _) _).alloc (by simp) _);have bx1 : Boxed W0 w.heap.size 32 (.pointer none) := by rw [<- hW0]; exact (Boxed.new w _ _).alloc _
 have bx2 : Boxed W0 (w.heap.size + 1) 33 (.int .i64 0) := by
  rw [<- hW0];have := Boxed.new (w.alloc (.cells #[.pointer none] 32)) 33 (.int .i64 0);rwa [World.size_alloc] at this
 have RW0 := RW _ hB0;clear RW
 gi_wp2
 refine ⟨trivial, (callsIn_wide.2 RW0).mono ?_⟩;rintro e w1 ⟨os, A, c, ho, rfl, hat, hb1⟩;have hb := zb hB0 hb1;have ST1 := ST _ hb;have by1 := zf bx1 hb1;have by2 := zf bx2 hb1;simp only [] at ho;clear ST bx1 bx2 hb1 hB0 hW0 RW0
 gi_wp2
 refine ⟨trivial, (callsIn_wide.2 ST1).mono ?_⟩;rintro e w2 ⟨A2, c2, rfl, hown2, hb2⟩;have b1 := zf by1 hb2;have b2 := zf by2 hb2;have hbb := zb hb hb2;have hatR := hat.rd.below hb2
 have hnil : ∀ x ∈ os, x.2.1 = none -> x.1.il.length = 0 /\ x.2.2 = 0 := fun x hx hx0 => by
  have := hat.into x hx;unfold zhs at this;rcases this.2 with ⟨hv, hz⟩ | ⟨g, cap, cur, hv, _⟩
  ·injection hv with e1 e2 e3;exact ⟨hz, e3⟩
  ·injection hv with e1 e2 e3;rw [hx0] at e1
   cases e1
 have TN := zfz w2;clear by1 by2 hb hb2 ST1 hat
 gi_wp2
 refine ⟨trivial, (callsIn_wide.2 TN).mono ?_⟩;rintro e w3 ⟨rfl, hT3, hb3, hz3⟩;have HOL : Hid (os.length = rows.length) := (by show _ = _; rw [<- ho, List.length_map]);have hoo : os.length <= 4096 := (by rw [HOL.out]; exact hrl);have HO := hz0q ho;obtain ⟨q, hq⟩ : ∃ q, q = w2.heap.size := ⟨_, rfl⟩;rw [<- hq] at hT3 hz3;obtain ⟨W, hWd, hTI, hV, hbx11, hbW, hzW⟩ := zhn (4353 * rows.length) hq hT3 hb3 hz3;have b3 := zf b1 hbW;have b4 := zf b2 hbW;have hbbW := zb hbb hbW;have hcW := hbx11.cell;have HS3 := hz0q (And.intro hq hz3);have HZW := hz0q hzW;have HQW := hz0q hWd;simp only [<- hq];have hmm := @run_makeMap Tryz.prog;have BT := btakes_bad (bp := q + 6) hbW A os.length c os hatR rfl (by omega) (by rw [HO.out]; exact hbad);clear ho hbad hE hatR hown2 hnil hTI hV hT3 hb3 hq hzW TN hWd
 gi_wp2
 simp only [show q + 2 + 1 = q + 3 from rfl, show q + 3 + 1 = q + 4 from rfl, show q + 4 + 1 = q + 5 from rfl, show q + 5 + 1 = q + 6 from rfl, show q + 6 + 1 = q + 7 from rfl];rw [HQW.out];refine ⟨trivial, (callsIn_wide.2 BT).mono ?_⟩;rintro e w4 ⟨he, hb4⟩;have b5 := zf b3 hb4;have b6 := zf b4 hb4;have hbF := zb hbbW hb4;have c1 := (b5).cell;have f1 := (b5).frozen;have d1 := (zo (b6) (.pointer none) (show w.heap.size + 1 ≠ w.heap.size by omega)).cell;have f2 := (zo (b6) (.pointer none) (show w.heap.size + 1 ≠ w.heap.size by omega)).frozen;clear b1 b2 b3 b4 BT hb4 hbW hbbW hbx11 hcW;rcases he with rfl | rfl
 ·clear hmm
  gi_wp2
  have k1 := (zo ((b5).set (.pointer none)) (.int .i64 (12)) (show w.heap.size ≠ w.heap.size + 1 by omega)).cell;have k2 := ((zo (b6) (.pointer none) (show w.heap.size + 1 ≠ w.heap.size by omega)).set (.int .i64 (12))).cell;refine ⟨.tuple #[.pointer none, .int .i64 (12)], ?_, ⟨12, by decide, rfl⟩, ((hbF).setCell (p := ⟨w.heap.size, 0, none⟩) (Nat.le_refl _) _).setCell (p := ⟨w.heap.size + 1, 0, none⟩) (by simp) _⟩;simp [results, Tryz.f8, go_sem, k1, k2]
 ·clear hmm
  gi_wp2
  have k1 := (zo ((b5).set (.pointer none)) (.int .i64 (10)) (show w.heap.size ≠ w.heap.size + 1 by omega)).cell;have k2 := ((zo (b6) (.pointer none) (show w.heap.size + 1 ≠ w.heap.size by omega)).set (.int .i64 (10))).cell;refine ⟨.tuple #[.pointer none, .int .i64 (10)], ?_, ⟨10, by decide, rfl⟩, ((hbF).setCell (p := ⟨w.heap.size, 0, none⟩) (Nat.le_refl _) _).setCell (p := ⟨w.heap.size + 1, 0, none⟩) (by simp) _⟩;simp [results, Tryz.f8, go_sem, k1, k2]
end
end
end Go.Proofs.YtolcabjkbefjgaaGreatDoor
