/- New's answers as bases; the chapter's example. The example of the chapter on what is told at once: true. Both: what lines tell, and the document's answer's: the code. -/
import Derived.Test.YtkocaoeednmkpaaGreatDoorH41
set_option linter.unusedSimpArgs false
set_option linter.unusedVariables false
set_option maxRecDepth 20000
set_option maxHeartbeats 4000000
namespace Go.Proofs.YtkocaoeednmkpaaGreatDoor
section
open Go.RowKit Go.Lib Go.Maps
def NewIs (B : BaseF) (w : World) (e : Ending) (w' : World) : Prop := ∃ bp, e = .returned (.tuple #[.pointer (some ⟨bp, 0, none⟩), .int .i64 0]) /\ zaj w' (.pointer (some ⟨bp, 0, none⟩)) B /\ Below w.heap.size w w'
theorem zpu {rows : List RowS} {out : List Int} (g : RowsG rows) (h : NewOk rows out) {w w' : World} {e : Ending} (hG : znk rows out w e w') : NewIs (baseF g h) w e w' := by
 obtain ⟨bp, a, n, ss, pr, md, sc, rfl, hM, _, hA, hI, _, hb⟩ := hG
 have hall : ∀ x, madeQ (clsL rows) (prtL rows) out x = true -> x ∈ ss := fun x hx => by
  have h1 := (zda hx).1;exact (hA.2 x).2 ⟨zcm (g.into x _ h1).1, by rw [h1]; rfl⟩
 obtain ⟨h1, h2⟩ := mk_pair h hI hall;refine ⟨bp, rfl, .inr ⟨bp, a, n, _, _, pr, md, sc, rfl, hM, fun _ => rfl, fun _ => rfl, fun x y => ?_, fun r => ?_⟩, hb⟩
 ·show pairH (prL rows out) x y = pairH pr x y;unfold pairH;rw [h1]
 ·show secH (scL rows out) r = secH sc r;exact (h2 r).symm
theorem zqi {s o : ByteArray} {rows : List RowS} {out : List Int} (g : RowsG rows) (h : NewOk rows out) (hr : rowsS (bs s) = (rows, 0, 0)) (ho : setsS (bs o) = (out, 0, 0)) (w : World) (hE : Env w) (hk : Kinds w) (hs : s.size <= 1073741824) (ho1 : o.size <= 1073741824) :
  Calls Tryz.prog 44 #[.string s, .string o] w (NewIs (baseF g h) w) := (zpm s o hE hk hs ho1).mono fun e w' hp => by
 rcases hp with ⟨hn, _⟩ | ⟨_, hg⟩
 ·refine absurd ?_ hn;unfold NewC;rw [hr, ho];exact ⟨rfl, rfl, h⟩
 ·rw [hr, ho] at hg;exact zpu g h hg
end
section
open Go.RowKit Go.Lib Go.Maps
def awBS : ByteArray := ⟨#[48, 48, 67, 48, 59, 65, 59, 76, 117, 59, 48, 59, 59, 48, 48, 52, 49, 32, 48, 51, 48, 48, 10, 48, 51, 48, 48, 59, 77, 59, 77, 110, 59, 50, 51, 48, 59, 59]⟩
def awBR : List RowS := [⟨192, 192, [65], [76, 117], 0, [], [65, 768]⟩, ⟨768, 768, [77], [77, 110], 230, [], []⟩]
theorem zky : rowsS (bs awBS) = (awBR, 0, 0) := by kernel_rfl
theorem zmq : newB awBR [] 2 = true := by kernel_rfl
theorem awB_g : RowsG awBR := by have := znu (bs awBS); rw [zky] at this; exact this
noncomputable def awBB : BaseF := baseF awB_g (zia zmq)
theorem znh {c : Bool} {r : Int} {l : List Int} (h : endsN (fun x => (decH (prtL awBR) x).2) 1 r = true) (hl : oneN (decH (prtL awBR)) c 2 r = l) : awBB.full c [r] = awBB.ord l := by
 have e := zpv (B := awBB) (c := c) (n := 1) (l := [r]) (fun x hx => by rw [List.mem_singleton] at hx; rw [hx]; exact h);rw [e];congr 1;show [r].flatMap (oneN (decH (prtL awBR)) c 2) = l;rw [List.flatMap_cons, List.flatMap_nil, List.append_nil, hl]
theorem znj : awBB.full false [192] = [65, 768] := (znh (l := [65, 768]) (by kernel_rfl) (by kernel_rfl)).trans (by kernel_rfl)
theorem zni : awBB.full false [768] = [768] := (znh (l := [768]) (by kernel_rfl) (by kernel_rfl)).trans (by kernel_rfl)
theorem zp4 : awBB.full false [66] = [66] := (znh (l := [66]) (by kernel_rfl) (by kernel_rfl)).trans (by kernel_rfl)
theorem awB_join : awBB.join [65, 768] = [192] := by kernel_rfl
theorem awB_join2 : awBB.join [768] = [768] := by kernel_rfl
theorem awB_sec65 : awBB.sec 65 = false := by kernel_rfl
theorem zmp : awBB.sec 66 = false := by kernel_rfl
theorem awB_sec768 : awBB.sec 768 = true := by kernel_rfl
theorem zmr : awBB.cls 66 = 0 := by kernel_rfl
theorem awB_cls768 : awBB.cls 768 = 230 := by kernel_rfl
theorem awB_k1 : awBB.kind false true 192 = 1 := by
 rw [zdp (x := 65) (t := [768]) (by show awBB.join (awBB.full false [192]) = [192]; rw [znj]; exact awB_join) znj, awB_sec65];rfl
theorem awB_k2 : awBB.kind false false 192 = 2 := zdb (by show awBB.full false [192] ≠ [192]; rw [znj]; decide)
theorem awB_k3 : awBB.kind false true 768 = 3 := by
 rw [zdp (x := 768) (t := []) (by show awBB.join (awBB.full false [768]) = [768]; rw [zni]; exact awB_join2) zni, awB_sec768];rfl
theorem awB_cut : CutAt awBB false true [65, 768, 66, 768] 2 := by
 refine ⟨.inr (by decide), fun _ r hr => ?_, fun k r hk hr => ?_⟩
 ·have : r = 66 := (by simpa using hr.symm);subst this;rw [zh0 zp4, zmr, zmp];rfl
 ·have hk4 := (List.getElem?_eq_some_iff.1 hr).1;have hk3 : k = 3 := (by simp at hk4; omega);subst hk3;have : r = 768 := (by simpa using hr.symm);subst this;rw [zh0 zni, awB_cls768];rfl
theorem zf (w : World) (hE : Env w) (hk : Kinds w) : Calls Tryz.prog 18 #[] w fun e w' => e = .returned (.bool true) /\ Below w.heap.size w w' := by
 have N1 := zqi (s := awBS) (o := ByteArray.empty) awB_g (zia zmq) zky zoz w hE hk (by decide) (by decide);have HBD : Hid (zac awBB) := zng awB_g (zia zmq);have HK := hz0q hk;unfold awBS at N1;go_enter Tryz.func18, Tryz.ntmps18;go_wp2_with fail;refine N1.mono ?_;rintro e w1 ⟨p, rfl, hp, hb1⟩;have HP : Hid (zaj w1 (.pointer (some ⟨p, 0, none⟩)) awBB) := hp;have HB1 := hz0q hb1;have K1 := zec HP.out (HK.out.below' HB1.out) HBD.out 2 192 (by unfold R32; omega);rw [show mayF 2 = true from rfl, if_pos rfl, if_pos rfl, show cB 2 = false from rfl, show jB 2 = true from rfl, awB_k1] at K1;clear N1 hp hb1 hE hk;go_wp2_with fail;refine K1.mono ?_;rintro e w2 ⟨rfl, hbn⟩;replace HP := hz0q (HP.out.below hbn);replace HB1 := hz0q (zb HB1.out hbn);have K2 := zec HP.out (HK.out.below' HB1.out) HBD.out 1 192 (by unfold R32; omega);rw [show mayF 1 = true from rfl, if_pos rfl, if_pos rfl, show cB 1 = false from rfl, show jB 1 = false from rfl, awB_k2] at K2;clear K1 hbn;go_wp2_with fail;refine K2.mono ?_;rintro e w3 ⟨rfl, hbn⟩;replace HP := hz0q (HP.out.below hbn);replace HB1 := hz0q (zb HB1.out hbn);have K3 := zec HP.out (HK.out.below' HB1.out) HBD.out 2 768 (by unfold R32; omega);rw [show mayF 2 = true from rfl, if_pos rfl, if_pos rfl, show cB 2 = false from rfl, show jB 2 = true from rfl, awB_k3] at K3;clear K2 hbn;go_wp2_with fail;refine K3.mono ?_;rintro e w4 ⟨rfl, hbn⟩;replace HP := hz0q (HP.out.below hbn);replace HB1 := hz0q (zb HB1.out hbn);clear K3 hbn;have hbx : Below w4.heap.size w4 (w4.alloc (.cells #[.int .i32 65, .int .i32 768, .int .i32 66, .int .i32 768] 21)) := (Below.refl _ _).alloc (Nat.le_refl _) _
 have CU := zes (HP.out.below hbx) (HK.out.below' (zb HB1.out hbx)) HBD.out 2 (some ⟨w4.heap.size, 0, none⟩) 4 4 [65, 768, 66, 768] (Rd.new _ _ [.int .i32 65, .int .i32 768, .int .i32 66, .int .i32 768]) rfl (by intro x hx; simp at hx; unfold R32; omega) (by omega);rw [show mayF 2 = true from rfl, show cB 2 = false from rfl, show jB 2 = true from rfl] at CU;replace HB1 := hz0q (zb HB1.out hbx);clear hbx;go_wp2_with fail;refine CU.mono ?_;rintro e w5 ⟨⟨m, hm, rfl⟩, hbn⟩;have hm2 : CutAt awBB false true [65, 768, 66, 768] m := (by simpa using hm);obtain rfl : m = 2 := zkw hm2 awB_cut;try rw [if_pos trivial]
 clear hm2;replace HB1 := hz0q (zb HB1.out hbn);clear CU hm hbn;go_wp2;go_returns;exact ⟨rfl, HB1.out⟩
end
section
open Go.RowKit
theorem zb8 (s o : ByteArray) (w : World) (hE : Env w) (hk : Kinds w) : Calls Tryz.prog 17 #[.agg #[.string s, .string o]] w (BothP w) := by
 obtain ⟨W0, hW0⟩ : ∃ W0, w.alloc (.cells #[.string s, .string o] 23) = W0 := ⟨_, rfl⟩
 have hB0 : Below w.heap.size w W0 := by
  rw [<- hW0];exact (Below.refl _ w).alloc (Nat.le_refl _) _
 have bx1 : W0.heap[w.heap.size]? = some (.cells #[.string s, .string o] 23 (0, 0)) := by
  rw [<- hW0];exact zl w _ _
 have hc0 := za bx1 0 rfl;have hc1 := za bx1 1 rfl;have HP : Hid (∀ e w', BothP w e w' -> BothP w e w') := fun _ _ h => h
 by_cases hf : s.size <= 3000 /\ o.size <= 500
 rotate_left
 ·have FW := few_no s o W0 hf;clear hf;go_enter Tryz.func17, Tryz.ntmps17;go_wp2_with fail;refine FW.mono ?_;rintro e w1 ⟨rfl, hb1⟩;have hb := zb hB0 hb1;clear FW;go_wp2;go_returns;exact .inl ⟨rfl, hb⟩
 have FW := few_yes s o W0 hf.1 hf.2;have RN := fun W => rnew_any (w := W) s o (by omega) (by omega);have NW := fun W (hb : Below W0.heap.size W0 W) => zpm (w := W) s o (hE.below (zb hB0 hb)) (hk.below' (zb hB0 hb)) (by omega) (by omega);have hg := znu (bs s);clear hf;go_enter Tryz.func17, Tryz.ntmps17;go_wp2_with fail;refine FW.mono ?_;rintro e w1 ⟨rfl, hb1⟩;have hc0 := za (zd bx1 hb1) 0 rfl;have hc1 := za (zd bx1 hb1) 1 rfl;have R1 := RN w1;clear FW RN hW0;go_wp2_with fail;refine R1.mono ?_;rintro e w2 (⟨er, her, rfl, hb2⟩ | ⟨rp, os, out, A2, c, c2, rfl, hos, hM, hb2⟩)
 ·have hb := zb hB0 (zb hb1 hb2);have hne : (er == 0) = false := (by simpa using her);have hne2 : (er != 0) = true := (by simpa using her);clear R1 NW her;go_wp2;go_returns;exact .inl ⟨rfl, hb⟩
 have hb12 := zb hb1 hb2;have hc0 := za (zd bx1 hb12) 0 rfl;have hc1 := za (zd bx1 hb12) 1 rfl;have N1 := NW w2 hb12;clear R1 NW hb1 hb2;go_wp2_with fail;refine N1.mono ?_;rintro e w3 (⟨_, ⟨er, her, rfl⟩, hb3⟩ | ⟨⟨_, _, hok⟩, hG⟩)
 ·have hb := zb hB0 (zb hb12 hb3);have hne : (er == 0) = false := (by simpa using her);have hne2 : (er != 0) = true := (by simpa using her);clear N1 her;go_wp2;go_returns;exact .inl ⟨rfl, hb⟩
 obtain ⟨bp, rfl, hB, hb3⟩ := zpu hg hok hG;have hb := zb hB0 (zb hb12 hb3);have hR : RefIs w3 (.pointer (some ⟨rp, 0, none⟩)) (baseF hg hok) := ⟨rp, os, _, _, _, _, _, rfl, hM.below hb3, by rw [hos]; exact hg, fun r => by rw [hos]; rfl, fun r => by rw [hos]; rfl, fun x y => by rw [hos]; rfl, fun r => by rw [hos]; rfl⟩;have hbd := zng hg hok;have HF : Hid (BothP w (.returned (.tuple #[.pointer (some ⟨bp, 0, none⟩), .pointer (some ⟨rp, 0, none⟩)])) w3) := .inr ⟨bp, _, _, rfl, hB, hR, hbd, hb⟩;clear N1 hG hos hM hB hR;go_wp2;go_returns;exact HF.out
end
end Go.Proofs.YtkocaoeednmkpaaGreatDoor
