/- The example of the chapter on forms: what is told of its base (plain). The writer, in memory; what is put to its queue, and taken from it: the code. NormEqual, NormAgain: the laws. -/
import Derived.Test.YtkocaoeednmkpaaGreatDoorH42
set_option linter.unusedSimpArgs false
set_option linter.unusedVariables false
set_option maxRecDepth 20000
set_option maxHeartbeats 4000000
namespace Go.Proofs.YtkocaoeednmkpaaGreatDoor
section
open Go.RowKit Go.Lib Go.Maps
theorem awB_many {c : Bool} {l m : List Int} (h : ∀ r ∈ l, endsN (fun x => (decH (prtL awBR) x).2) 1 r = true) (hl : l.flatMap (oneN (decH (prtL awBR)) c 2) = m) : awBB.full c l = awBB.ord m := by
 have e := zpv (B := awBB) (c := c) (n := 1) (l := l) h;rw [e];congr 1
theorem awB_e65 : endsN (fun x => (decH (prtL awBR) x).2) 1 65 = true := by kernel_rfl
theorem awB_e768 : endsN (fun x => (decH (prtL awBR) x).2) 1 768 = true := by kernel_rfl
theorem awC_full : awBB.full false [65, 768] = [65, 768] := (awB_many (m := [65, 768]) (fun x hx => by
 rcases (show x = 65 \/ x = 768 by simpa using hx) with rfl | rfl
 ·exact awB_e65
 ·exact awB_e768) (by kernel_rfl)).trans (by kernel_rfl)
theorem awC_one : awBB.form false true [65, 768] = [192] := by
 show awBB.join (awBB.full false [65, 768]) = [192];rw [awC_full];kernel_rfl
theorem awC_two : awBB.form false true [66] = [66] := by
 show awBB.join (awBB.full false [66]) = [66];rw [zp4];kernel_rfl
theorem awC_cut1 : CutAt awBB false true [65] 0 := ⟨.inl rfl, fun h => absurd h (by omega), fun k r hk hr => by have := (List.getElem?_eq_some_iff.1 hr).1; simp at this; omega⟩
theorem awC_cut2 : CutAt awBB false true [65, 768, 66] 2 := by
 refine ⟨.inr (by decide), fun _ r hr => ?_, fun k r hk hr => ?_⟩
 ·have : r = 66 := (by simpa using hr.symm);subst this;rw [zh0 zp4, zmr, zmp];rfl
 ·have hk4 := (List.getElem?_eq_some_iff.1 hr).1;simp at hk4;omega
end
section
open Go.RowKit
structure WrM (q : Nat) (w : World) (wp : Nat) (p : Option Addr) (f : Int) (ov : Bool) (G : Option Nat) (v : Value) (l : List Int) : Prop where
 box : w.heap[wp]? = some (.cells #[v, .pointer p, .int .i64 f, .bool ov] 89 (0, 0))
 own : OwnG q w G v l
 tb : q <= wp
theorem zj3 {W : World} {q : Nat} {cs : Array Value} {t : TypeId} {fr : Nat × Nat} (h : W.heap[q]? = some (.cells cs t fr)) (i : Nat) (v : Value) : (W.setCell ⟨q, i, none⟩ v).heap[q]? = some (.cells (cs.setIfInBounds i v) t fr) := by
 simp [World.setCell, Array.getElem?_modify, h]
theorem zk4 : (89 : TypeId) ≠ 21 := by decide
section
variable {q wp : Nat} {w w' w2 : World} {p : Option Addr} {f : Int} {ov : Bool} {G G' : Option Nat} {v v' : Value} {l l' : List Int}
theorem WrM.below (h : WrM q w wp p f ov G v l) (hb : Below w.heap.size w w') : WrM q w' wp p f ov G v l := ⟨zd h.box hb, h.own.below hb, h.tb⟩
theorem WrM.lt (h : WrM q w wp p f ov G v l) : wp < w.heap.size := (Array.getElem?_eq_some_iff.1 h.box).1
theorem WrM.ne (h : WrM q w wp p f ov G v l) : ∀ g, G = some g -> g ≠ wp := fun g hg e => h.own.not (g := wp) (by rw [<- e]; exact hg) h.box zk4
theorem WrM.setQ (h : WrM q w wp p f ov G v l) (hbox : w2.heap[wp]? = w.heap[wp]?) (hown : OwnG q w2 G' v' l') : WrM q (w2.setCell ⟨wp, 0, none⟩ v') wp p f ov G' v' l' := by
 have hb2 := hbox.trans h.box;refine ⟨?_, hown.blk fun g hg => Below.heap_setCell w2 ⟨wp, 0, none⟩ v' g fun e => hown.not (g := wp) (by rw [<- show g = wp from e]; exact hg) hb2 zk4, h.tb⟩
 have := zj3 hb2 0 v';simpa using this
theorem WrM.over (h : WrM q w wp p f ov G v l) (b : Bool) : WrM q (w.setCell ⟨wp, 3, none⟩ (.bool b)) wp p f b G v l := by
 refine ⟨?_, h.own.blk fun g hg => Below.heap_setCell w ⟨wp, 3, none⟩ _ g (h.ne g hg), h.tb⟩;have := zj3 h.box 3 (.bool b);simpa using this
theorem WrM.wrote {S : Nat -> Prop} (h : WrM q w wp p f ov G v l) (hw : Wrote S w w') (h1 : ¬ S wp) (h2 : ∀ g, G = some g -> ¬ S g) : WrM q w' wp p f ov G v l :=
 ⟨hw.blk h.box h1, h.own.blk fun g hg => hw.block g (h.own.lt hg).2 (h2 g hg), h.tb⟩
end
theorem zet (A : Option Addr) (n c : Nat) (xs : List Int) (w : World) (hrd : Rd w A n (Rs xs)) (hn : xs.length = n) (h2 : n <= 1000000) (hA : A = none -> n = 0 /\ c = 0) :
  Calls Tryz.prog 89 #[.slice A n c] w fun e w' => ∃ G v, e = .returned v /\ OwnG w.heap.size w' G v xs /\ Below w.heap.size w w' := by
 cases A with
 | none =>
  obtain ⟨rfl, rfl⟩ := hA rfl;obtain rfl : xs = [] := List.eq_nil_of_length_eq_zero hn;clear hrd hA hn;have hcmp := fun w => Lib.run_eql_slice_nil (P := Tryz.prog) w 38 21 none 0 0 0 0 Tryz.underlying38;simp only [Option.isNone] at hcmp;go_enter Tryz.func89, Tryz.ntmps89;go_wp2;go_returns;exact ⟨none, _, rfl, .nil _ _ none, Below.refl _ _⟩
 | some a =>
  have HB0 : Hid (Below w.heap.size w (w.alloc (.cells #[] 21))) := (Below.refl _ _).alloc (Nat.le_refl _) _;have HRD := hz0q (hrd.below HB0.out);have HN := hz0q hn;clear hrd hn hA;have hcmp := fun w => Lib.run_eql_slice_nil (P := Tryz.prog) w 38 21 (some a) n c 0 0 Tryz.underlying38;simp only [Option.isNone] at hcmp;go_enter Tryz.func89, Tryz.ntmps89;go_wp2_with (at_builtin; refine zbj zab _ rfl _ _ rfl w.heap.size rfl (OwnG.nil _ _ _) (show ([] : List Int).length = 0 from rfl) rfl HRD.out HN.out (by omega) (by omega) HB0.out.size ?_)
  intro A' c' w' G' hown hg hat;have HO := hz0q hown;have HB : Hid (Below w.heap.size w w') := HB0.out.grown hg HB0.out.size (fun k hk => by cases hk);clear hown hg hat;go_wp2;go_returns;exact ⟨G', _, rfl, by simpa using HO.out, HB.out⟩
section
variable {q wp : Nat} {w : World} {p : Option Addr} {f : Int} {ov : Bool} {G : Option Nat} {v : Value} {l : List Int}
theorem Rd.takeV {w : World} {A : Option Addr} {n : Nat} {xs : List Int} (h : Rd w A n (Rs xs)) {k : Nat} (hk : k <= n) : Rd w A k (Rs (xs.take k)) := by
 have hl : xs.length = n := (by have := h.1; simpa using this);refine ⟨by simp; omega, fun h0 => ?_⟩;obtain ⟨b, off, rfl, _, hc⟩ := h.at_ (by omega);refine ⟨b, off, rfl, fun j u hu => hc j u ?_⟩;have hj := (List.getElem?_eq_some_iff.1 hu).1;rw [<- hu];simp at hj;simp [List.getElem?_take];intro h;omega
def PutQ (q : Nat) (w : World) (wp : Nat) (p : Option Addr) (f : Int) (ov : Bool) (G : Option Nat) (l : List Int) (w' : World) : Prop :=
 ∃ G' v', WrM q w' wp p f ov G' v' l /\ Wrote (fun k => k = wp \/ G = some k) w w' /\ ∀ g, G' = some g -> G = some g \/ w.heap.size <= g
theorem qput_any (h : WrM q w wp p f ov G v l) (hq : q <= w.heap.size) (A : Option Addr) (n c : Nat) (zs : List Int) (hrd : Rd w A n (Rs zs)) (hn : zs.length = n) (h2 : l.length + n <= 1000000) :
  Calls Tryz.prog 59 #[.pointer (some ⟨wp, 0, none⟩), .slice A n c] w fun e w' => (∃ u, e = .returned u) /\ PutQ q w wp p f ov G (l ++ zs) w' := by
 obtain ⟨A0, c0, rfl, hnc, hcm, _⟩ := h.own.shape;have HW := hz0q h;have HRD := hz0q hrd;have HN := hz0q hn;have b0 := za h.box 0 rfl;obtain ⟨L, hL⟩ : ∃ L, L = l.length := ⟨_, rfl⟩;rw [<- hL] at b0 h2;have HL := hz0q hL;have hown := h.own;rw [<- hL] at hown;clear h hrd hn hnc hcm hL;go_enter Tryz.func59, Tryz.ntmps59;go_wp2_with (at_builtin; refine zbj zab _ rfl _ _ rfl q rfl hown HL.out.symm rfl HRD.out HN.out (by omega) (by omega) hq ?_)
 intro A' c' w' G' hown' hg hat;have hbx : w'.heap[wp]? = w.heap[wp]? := hg.block wp HW.out.lt fun e => HW.out.ne wp e.symm rfl;have bx := hbx.trans HW.out.box;have b0 := za bx 0 rfl;have f0 := zc bx 0;have HO := hz0q (HW.out.setQ hbx hown');have HWR : Hid (Wrote (fun k => k = wp \/ G = some k) w (w'.setCell ⟨wp, 0, none⟩ (.slice A' (L + n) c'))) := (Wrote.grown hg fun k hk => .inr hk).trans (Wrote.setCell (.inl (.inl rfl)) _);have HAT := hz0q hat;clear hown' hg hat hbx bx hown;go_wp2;first | go_returns | go_end0
 exact ⟨⟨_, rfl⟩, _, _, HO.out, HWR.out, HAT.out⟩
def TakeQ (q : Nat) (w : World) (wp : Nat) (p : Option Addr) (f : Int) (ov : Bool) (l : List Int) (n : Nat) (u : Value) (w' : World) : Prop :=
 ∃ G1 G' v', OwnG w.heap.size w' G1 u (l.take n) /\ WrM q w' wp p f ov G' v' (l.drop n) /\ Wrote (fun k => k = wp) w w' /\ ∀ g, G' = some g -> w.heap.size <= g
theorem OwnG.mono {q q' : Nat} {w : World} {G : Option Nat} {v : Value} {xs : List Int} (h : OwnG q w G v xs) (hq : q' <= q) : OwnG q' w G v xs := by
 rcases h with h | ⟨g, off, cap, h1, h2, h3, h4⟩
 ·exact .inl h
 ·exact .inr ⟨g, off, cap, h1, h2, Nat.le_trans hq h3, h4⟩
theorem zlo (h : WrM q w wp p f ov G v l) (hq : q <= w.heap.size) (n : Nat) (hn : n <= l.length) (h2 : l.length <= 1000000) :
  Calls Tryz.prog 60 #[.pointer (some ⟨wp, 0, none⟩), .int .i64 n] w fun e w' => ∃ u, e = .returned u /\ TakeQ q w wp p f ov l n u w' := by
 have HW := hz0q h;have HQ := hz0q hq;have hn1 : (n : Int) <= (l.length : Int) := (by omega);have hn0 : (0 : Int) <= (n : Int) := (by omega);obtain ⟨L, hL⟩ : ∃ L, L = l.length := ⟨_, rfl⟩;have HL := hz0q hL;rcases h.own with ⟨hG, hl, A1, hv⟩ | ⟨g, off, cap, hG, hv, hqg, hn2, hc2, hcur, hsm, hcx⟩
 ·subst hl;subst hv;obtain rfl : n = 0 := (by simpa using hn);have b0 := za h.box 0 rfl;have HE : Hid (([] : List Int).take 0 = [] /\ ([] : List Int).drop 0 = []) := ⟨rfl, rfl⟩;have CL : Hid (∀ W, Calls Tryz.prog 89 #[.slice A1 0 0] W fun e w' => ∃ G v, e = .returned v /\ OwnG W.heap.size w' G v [] /\ Below W.heap.size W w') := fun W => zet A1 0 0 [] W (Rd.nil _ _) rfl (by omega) (fun _ => ⟨rfl, rfl⟩);clear h hq hG hn hn1 hn0 hL h2
  cases A1 with
  | none =>
   have C1 := CL.out w;go_enter Tryz.func60, Tryz.ntmps60;go_wp2_with fail;refine C1.mono ?_;rintro e w1 ⟨G1, u1, rfl, ho1, hb1⟩;have HO1 := hz0q ho1;have HB1 := hz0q hb1;have HW1 := hz0q (HW.out.below hb1);have b0 := za HW1.out.box 0 rfl;have C2 := CL.out w1;clear C1 ho1 hb1;go_wp2_with fail;refine C2.mono ?_;rintro e w2 ⟨G2, u2, rfl, ho2, hb2⟩;obtain ⟨A9, c9, hu2, _, _, _⟩ := ho2.shape;subst hu2;have HO2 := hz0q ho2;have HB2 := hz0q hb2;have HW2 := hz0q (HW1.out.below hb2);have b0 := za HW2.out.box 0 rfl;have f0 := zc HW2.out.box 0;have HF := hz0q (HW2.out.setQ rfl (ho2.mono (Nat.le_trans HQ.out HB1.out.size)));have HU : Hid (OwnG w.heap.size (w2.setCell ⟨wp, 0, none⟩ (.slice A9 ([] : List Int).length c9)) G1 u1 []) := (HO1.out.below hb2).blk fun g hg => Below.heap_setCell w2 ⟨wp, 0, none⟩ _ g (fun e => by have h1 := (HO1.out.lt hg).1; have h2 := HW.out.lt; have e : g = wp := e; omega);have HWR : Hid (Wrote (fun k => k = wp) w (w2.setCell ⟨wp, 0, none⟩ (.slice A9 ([] : List Int).length c9))) := ((Wrote.of_below HB1.out).then_below HB2.out).trans (Wrote.setCell (S := fun k => k = wp) (.inl rfl) _);have HAT : Hid (∀ g, G2 = some g -> w.heap.size <= g) := fun g hg => Nat.le_trans HB1.out.size (HO2.out.lt hg).1;clear C2 ho2 hb2;go_wp2;go_returns;exact ⟨_, rfl, G1, G2, _, HU.out, HF.out, HWR.out, HAT.out⟩
  | some a1 =>
   have C1 := CL.out w;go_enter Tryz.func60, Tryz.ntmps60;go_wp2_with fail;refine C1.mono ?_;rintro e w1 ⟨G1, u1, rfl, ho1, hb1⟩;have HO1 := hz0q ho1;have HB1 := hz0q hb1;have HW1 := hz0q (HW.out.below hb1);have b0 := za HW1.out.box 0 rfl;have C2 := CL.out w1;clear C1 ho1 hb1;go_wp2_with fail;refine C2.mono ?_;rintro e w2 ⟨G2, u2, rfl, ho2, hb2⟩;obtain ⟨A9, c9, hu2, _, _, _⟩ := ho2.shape;subst hu2;have HO2 := hz0q ho2;have HB2 := hz0q hb2;have HW2 := hz0q (HW1.out.below hb2);have b0 := za HW2.out.box 0 rfl;have f0 := zc HW2.out.box 0;have HF := hz0q (HW2.out.setQ rfl (ho2.mono (Nat.le_trans HQ.out HB1.out.size)));have HU : Hid (OwnG w.heap.size (w2.setCell ⟨wp, 0, none⟩ (.slice A9 ([] : List Int).length c9)) G1 u1 []) := (HO1.out.below hb2).blk fun g hg => Below.heap_setCell w2 ⟨wp, 0, none⟩ _ g (fun e => by have h1 := (HO1.out.lt hg).1; have h2 := HW.out.lt; have e : g = wp := e; omega);have HWR : Hid (Wrote (fun k => k = wp) w (w2.setCell ⟨wp, 0, none⟩ (.slice A9 ([] : List Int).length c9))) := ((Wrote.of_below HB1.out).then_below HB2.out).trans (Wrote.setCell (S := fun k => k = wp) (.inl rfl) _);have HAT : Hid (∀ g, G2 = some g -> w.heap.size <= g) := fun g hg => Nat.le_trans HB1.out.size (HO2.out.lt hg).1;clear C2 ho2 hb2;go_wp2;go_returns;exact ⟨_, rfl, G1, G2, _, HU.out, HF.out, HWR.out, HAT.out⟩
 ·have hown := h.own;rw [hv] at hown;obtain ⟨A7, c7, e7, _, _, hrd7⟩ := hown.shape;injection e7 with e7 _ e8;subst e7 e8;obtain ⟨A8, c8, e8, _, _, hrd8⟩ := (hown.drop (A := none) hn).shape;injection e8 with e8 _ e9;subst e8 e9;subst hv;have b0 := za h.box 0 rfl;rw [<- hL] at b0 hn1 hn2 hn h2;rw [List.length_drop, <- hL] at hrd8;have C1 := zet (some ⟨g, off, none⟩) n cap (l.take n) w (Rd.takeV hrd7 (by omega)) (by rw [List.length_take, <- HL.out]; omega) (by omega) (fun e => by cases e)
  by_cases hnc : n = cap
  ·subst hnc;have hLn : L - n = 0 := (by omega);have hdn : l.drop n = [] := List.drop_eq_nil_of_le (by omega);have HR8 : Hid (Rd w (some ⟨g, off, none⟩) 0 (Rs (l.drop n))) := (by show Rd _ _ _ _; rw [hdn]; exact Rd.nil _ _);have HD0 : Hid ((l.drop n).length = 0) := (by show _ = _; rw [hdn]; rfl);clear hLn hdn;have hnn : (n : Int) <= (n : Int) := (by omega);have hLc : (L : Int) <= (n : Int) := (by omega);clear h hq hG hown hrd7 hrd8 hcur hsm hcx hqg hc2 hL;go_enter Tryz.func60, Tryz.ntmps60;go_wp2_with fail;refine C1.mono ?_;rintro e w1 ⟨G1, u1, rfl, ho1, hb1⟩;have HO1 := hz0q ho1;have HB1 := hz0q hb1;have HW1 := hz0q (HW.out.below hb1);have b0 := za HW1.out.box 0 rfl;rw [<- HL.out] at b0;have C2 := zet (some ⟨g, off, none⟩) 0 0 (l.drop n) w1 (HR8.out.below hb1) HD0.out (by omega) (fun e => by cases e);clear C1 ho1 hb1;go_wp2_with fail;refine C2.mono ?_;rintro e w2 ⟨G2, u2, rfl, ho2, hb2⟩;obtain ⟨A9, c9, hu2, _, _, _⟩ := ho2.shape;obtain ⟨d9, hd9⟩ : ∃ d9, d9 = (l.drop n).length := ⟨_, rfl⟩;rw [<- hd9] at hu2;subst hu2;clear hd9;have HO2 := hz0q ho2;have HB2 := hz0q hb2;have HW2 := hz0q (HW1.out.below hb2);have b0 := za HW2.out.box 0 rfl;have f0 := zc HW2.out.box 0;rw [<- HL.out] at b0;have HF := hz0q (HW2.out.setQ rfl (ho2.mono (Nat.le_trans HQ.out HB1.out.size)));have HU : Hid (OwnG w.heap.size (w2.setCell ⟨wp, 0, none⟩ (.slice A9 d9 c9)) G1 u1 (l.take n)) := (HO1.out.below hb2).blk fun g hg => Below.heap_setCell w2 ⟨wp, 0, none⟩ _ g (fun e => by have h1 := (HO1.out.lt hg).1; have h2 := HW.out.lt; have e : g = wp := e; omega)
   have HWR : Hid (Wrote (fun k => k = wp) w (w2.setCell ⟨wp, 0, none⟩ (.slice A9 d9 c9))) := ((Wrote.of_below HB1.out).then_below HB2.out).trans (Wrote.setCell (S := fun k => k = wp) (.inl rfl) _);have HAT : Hid (∀ g, G2 = some g -> w.heap.size <= g) := fun g hg => Nat.le_trans HB1.out.size (HO2.out.lt hg).1;clear C2 ho2 hb2;go_wp2;go_returns;exact ⟨_, rfl, G1, G2, _, HU.out, HF.out, HWR.out, HAT.out⟩
  ·have HR8 := hz0q hrd8;have hcap : (n : Int) <= (cap : Int) := (by omega);have hLc : (L : Int) <= (cap : Int) := (by omega);clear h hq hG hown hrd7 hrd8 hcur hsm hcx hqg hc2 hL;go_enter Tryz.func60, Tryz.ntmps60;go_wp2_with fail;refine C1.mono ?_;rintro e w1 ⟨G1, u1, rfl, ho1, hb1⟩;have HO1 := hz0q ho1;have HB1 := hz0q hb1;have HW1 := hz0q (HW.out.below hb1);have b0 := za HW1.out.box 0 rfl;rw [<- HL.out] at b0;have C2 := zet (some ⟨g, off + n, none⟩) (L - n) (cap - n) (l.drop n) w1 (HR8.out.below hb1) (by rw [List.length_drop, <- HL.out]) (by omega) (fun e => by cases e);clear C1 ho1 hb1;go_wp2_with fail;refine C2.mono ?_;rintro e w2 ⟨G2, u2, rfl, ho2, hb2⟩;obtain ⟨A9, c9, hu2, _, _, _⟩ := ho2.shape;obtain ⟨d9, hd9⟩ : ∃ d9, d9 = (l.drop n).length := ⟨_, rfl⟩;rw [<- hd9] at hu2;subst hu2;clear hd9;have HO2 := hz0q ho2;have HB2 := hz0q hb2;have HW2 := hz0q (HW1.out.below hb2);have b0 := za HW2.out.box 0 rfl;have f0 := zc HW2.out.box 0;rw [<- HL.out] at b0;have HF := hz0q (HW2.out.setQ rfl (ho2.mono (Nat.le_trans HQ.out HB1.out.size)));have HU : Hid (OwnG w.heap.size (w2.setCell ⟨wp, 0, none⟩ (.slice A9 d9 c9)) G1 u1 (l.take n)) := (HO1.out.below hb2).blk fun g hg => Below.heap_setCell w2 ⟨wp, 0, none⟩ _ g (fun e => by have h1 := (HO1.out.lt hg).1; have h2 := HW.out.lt; have e : g = wp := e; omega);have HWR : Hid (Wrote (fun k => k = wp) w (w2.setCell ⟨wp, 0, none⟩ (.slice A9 d9 c9))) := ((Wrote.of_below HB1.out).then_below HB2.out).trans (Wrote.setCell (S := fun k => k = wp) (.inl rfl) _)
   have HAT : Hid (∀ g, G2 = some g -> w.heap.size <= g) := fun g hg => Nat.le_trans HB1.out.size (HO2.out.lt hg).1;clear C2 ho2 hb2;go_wp2;go_returns;exact ⟨_, rfl, G1, G2, _, HU.out, HF.out, HWR.out, HAT.out⟩
end
end
section
open Go.RowKit Go.Lib
theorem may_k {k : Nat} (h1 : 1 <= k) (h2 : k <= 4) : mayF (k : Int) = true := by rw [zbz]; omega
theorem cB_k {k : Nat} (h1 : 1 <= k) (h2 : k <= 4) : decide (2 < (k : Int)) = cB (k : Int) := by
 unfold cB;rw [<- Bool.decide_or];exact decide_eq_decide.2 (by omega)
theorem zn7 {k : Nat} (h : k = 1 \/ k = 3) : cB ((k : Int) + 1) = cB (k : Int) /\ mayF ((k : Int) + 1) = true := by
 rcases h with rfl | rfl <;> exact ⟨rfl, rfl⟩
theorem zjo {k : Nat} (h : k = 2 \/ k = 4) : cB ((k : Int) - 1) = cB (k : Int) /\ mayF ((k : Int) - 1) = true := by
 rcases h with rfl | rfl <;> exact ⟨rfl, rfl⟩
theorem odd_k {k : Nat} (h : k = 1 \/ k = 3) : ((k : Int) % 2 == 0) = false := by
 rcases h with rfl | rfl <;> rfl
theorem even_k {k : Nat} (h : k = 2 \/ k = 4) : ((k : Int) % 2 == 0) = true := by
 rcases h with rfl | rfl <;> rfl
end
end Go.Proofs.YtkocaoeednmkpaaGreatDoor
