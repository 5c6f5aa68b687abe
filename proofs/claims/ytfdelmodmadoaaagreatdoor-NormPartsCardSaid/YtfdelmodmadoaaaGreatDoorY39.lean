/- The writer, in memory; what is put to its queue, and taken from it: the code. The writer: New, open, Waits, Feed, Close: the code. Writers among rows that a call owns. The example of the chapter on forms: true. The document's Head, Blocked and Join: the code. The document's One: the code. -/
import Derived.Test.YtfdelmodmadoaaaGreatDoorY38
set_option linter.unusedSimpArgs false
set_option linter.unusedVariables false
set_option maxRecDepth 20000
set_option maxHeartbeats 4000000
namespace Go.Proofs.YtfdelmodmadoaaaGreatDoor
section
open Go.RowKit
structure WrM (q : Nat) (w : World) (wp : Nat) (p : Option Addr) (f : Int) (ov : Bool) (G : Option Nat) (v : Value) (l : List Int) : Prop where
 box : w.heap[wp]? = some (.cells #[v, .pointer p, .int .i64 f, .bool ov] 98 (0, 0))
 own : OwnG q w G v l
 tb : q <= wp
theorem zix {W : World} {q : Nat} {cs : Array Value} {t : TypeId} {fr : Nat × Nat} (h : W.heap[q]? = some (.cells cs t fr)) (i : Nat) (v : Value) : (W.setCell ⟨q, i, none⟩ v).heap[q]? = some (.cells (cs.setIfInBounds i v) t fr) := by
 simp [World.setCell, Array.getElem?_modify, h]
theorem zcj : (98 : TypeId) ≠ 21 := by decide
section
variable {q wp : Nat} {w w' w2 : World} {p : Option Addr} {f : Int} {ov : Bool} {G G' : Option Nat} {v v' : Value} {l l' : List Int}
theorem WrM.below (h : WrM q w wp p f ov G v l) (hb : Below w.heap.size w w') : WrM q w' wp p f ov G v l := ⟨zd h.box hb, h.own.below hb, h.tb⟩
theorem WrM.lt (h : WrM q w wp p f ov G v l) : wp < w.heap.size := (Array.getElem?_eq_some_iff.1 h.box).1
theorem WrM.ne (h : WrM q w wp p f ov G v l) : ∀ g, G = some g -> g ≠ wp := fun g hg e => h.own.not (g := wp) (by rw [<- e]; exact hg) h.box zcj
theorem WrM.setQ (h : WrM q w wp p f ov G v l) (hbox : w2.heap[wp]? = w.heap[wp]?) (hown : OwnG q w2 G' v' l') : WrM q (w2.setCell ⟨wp, 0, none⟩ v') wp p f ov G' v' l' := by
 have hb2 := hbox.trans h.box;refine ⟨?_, hown.blk fun g hg => Below.heap_setCell w2 ⟨wp, 0, none⟩ v' g fun e => hown.not (g := wp) (by rw [<- show g = wp from e]; exact hg) hb2 zcj, h.tb⟩
 have := zix hb2 0 v';simpa using this
theorem WrM.over (h : WrM q w wp p f ov G v l) (b : Bool) : WrM q (w.setCell ⟨wp, 3, none⟩ (.bool b)) wp p f b G v l := by
 refine ⟨?_, h.own.blk fun g hg => Below.heap_setCell w ⟨wp, 3, none⟩ _ g (h.ne g hg), h.tb⟩;have := zix h.box 3 (.bool b);simpa using this
theorem WrM.wrote {S : Nat -> Prop} (h : WrM q w wp p f ov G v l) (hw : Wrote S w w') (h1 : ¬ S wp) (h2 : ∀ g, G = some g -> ¬ S g) : WrM q w' wp p f ov G v l :=
 ⟨hw.blk h.box h1, h.own.blk fun g hg => hw.block g (h.own.lt hg).2 (h2 g hg), h.tb⟩
end
theorem zd0 (A : Option Addr) (n c : Nat) (xs : List Int) (w : World) (hrd : Rd w A n (Rs xs)) (hn : xs.length = n) (h2 : n <= 1000000) (hA : A = none -> n = 0 /\ c = 0) :
  Calls Tryz.prog 40 #[.slice A n c] w fun e w' => ∃ G v, e = .returned v /\ OwnG w.heap.size w' G v xs /\ Below w.heap.size w w' := by
 cases A with
 | none =>
  obtain ⟨rfl, rfl⟩ := hA rfl;obtain rfl : xs = [] := List.eq_nil_of_length_eq_zero hn;clear hrd hA hn;have hcmp := fun w => Lib.run_eql_slice_nil (P := Tryz.prog) w 33 21 none 0 0 0 0 Tryz.underlying33;simp only [Option.isNone] at hcmp;go_enter Tryz.func40, Tryz.ntmps40;go_wp2;go_returns;exact ⟨none, _, rfl, .nil _ _ none, Below.refl _ _⟩
 | some a =>
  have HB0 : Hid (Below w.heap.size w (w.alloc (.cells #[] 21))) := (Below.refl _ _).alloc (Nat.le_refl _) _;have HRD := hz0q (hrd.below HB0.out);have HN := hz0q hn;clear hrd hn hA;have hcmp := fun w => Lib.run_eql_slice_nil (P := Tryz.prog) w 33 21 (some a) n c 0 0 Tryz.underlying33;simp only [Option.isNone] at hcmp;go_enter Tryz.func40, Tryz.ntmps40;go_wp2_with (at_builtin; refine zbc zaa _ rfl _ _ rfl w.heap.size rfl (OwnG.nil _ _ _) (show ([] : List Int).length = 0 from rfl) rfl HRD.out HN.out (by omega) (by omega) HB0.out.size ?_)
  intro A' c' w' G' hown hg hat;have HO := hz0q hown;have HB : Hid (Below w.heap.size w w') := HB0.out.grown hg HB0.out.size (fun k hk => by cases hk);clear hown hg hat;go_wp2;go_returns;exact ⟨G', _, rfl, by simpa using HO.out, HB.out⟩
section
variable {q wp : Nat} {w : World} {p : Option Addr} {f : Int} {ov : Bool} {G : Option Nat} {v : Value} {l : List Int}
theorem Rd.takeV {w : World} {A : Option Addr} {n : Nat} {xs : List Int} (h : Rd w A n (Rs xs)) {k : Nat} (hk : k <= n) : Rd w A k (Rs (xs.take k)) := by
 have hl : xs.length = n := (by have := h.1; simpa using this);refine ⟨by simp; omega, fun h0 => ?_⟩;obtain ⟨b, off, rfl, _, hc⟩ := h.at_ (by omega);refine ⟨b, off, rfl, fun j u hu => hc j u ?_⟩;have hj := (List.getElem?_eq_some_iff.1 hu).1;rw [<- hu];simp at hj;simp [List.getElem?_take];intro h;omega
def PutQ (q : Nat) (w : World) (wp : Nat) (p : Option Addr) (f : Int) (ov : Bool) (G : Option Nat) (l : List Int) (w' : World) : Prop :=
 ∃ G' v', WrM q w' wp p f ov G' v' l /\ Wrote (fun k => k = wp \/ G = some k) w w' /\ ∀ g, G' = some g -> G = some g \/ w.heap.size <= g
theorem qput_any (h : WrM q w wp p f ov G v l) (hq : q <= w.heap.size) (A : Option Addr) (n c : Nat) (zs : List Int) (hrd : Rd w A n (Rs zs)) (hn : zs.length = n) (h2 : l.length + n <= 1000000) :
  Calls Tryz.prog 46 #[.pointer (some ⟨wp, 0, none⟩), .slice A n c] w fun e w' => (∃ u, e = .returned u) /\ PutQ q w wp p f ov G (l ++ zs) w' := by
 obtain ⟨A0, c0, rfl, hnc, hcm, _⟩ := h.own.shape;have HW := hz0q h;have HRD := hz0q hrd;have HN := hz0q hn;have b0 := za h.box 0 rfl;obtain ⟨L, hL⟩ : ∃ L, L = l.length := ⟨_, rfl⟩;rw [<- hL] at b0 h2;have HL := hz0q hL;have hown := h.own;rw [<- hL] at hown;clear h hrd hn hnc hcm hL;go_enter Tryz.func46, Tryz.ntmps46;go_wp2_with (at_builtin; refine zbc zaa _ rfl _ _ rfl q rfl hown HL.out.symm rfl HRD.out HN.out (by omega) (by omega) hq ?_)
 intro A' c' w' G' hown' hg hat;have hbx : w'.heap[wp]? = w.heap[wp]? := hg.block wp HW.out.lt fun e => HW.out.ne wp e.symm rfl;have bx := hbx.trans HW.out.box;have b0 := za bx 0 rfl;have f0 := zc bx 0;have HO := hz0q (HW.out.setQ hbx hown');have HWR : Hid (Wrote (fun k => k = wp \/ G = some k) w (w'.setCell ⟨wp, 0, none⟩ (.slice A' (L + n) c'))) := (Wrote.grown hg fun k hk => .inr hk).trans (Wrote.setCell (.inl (.inl rfl)) _);have HAT := hz0q hat;clear hown' hg hat hbx bx hown;go_wp2;first | go_returns | go_end0
 exact ⟨⟨_, rfl⟩, _, _, HO.out, HWR.out, HAT.out⟩
def TakeQ (q : Nat) (w : World) (wp : Nat) (p : Option Addr) (f : Int) (ov : Bool) (l : List Int) (n : Nat) (u : Value) (w' : World) : Prop :=
 ∃ G1 G' v', OwnG w.heap.size w' G1 u (l.take n) /\ WrM q w' wp p f ov G' v' (l.drop n) /\ Wrote (fun k => k = wp) w w' /\ ∀ g, G' = some g -> w.heap.size <= g
theorem OwnG.mono {q q' : Nat} {w : World} {G : Option Nat} {v : Value} {xs : List Int} (h : OwnG q w G v xs) (hq : q' <= q) : OwnG q' w G v xs := by
 rcases h with h | ⟨g, off, cap, h1, h2, h3, h4⟩
 ·exact .inl h
 ·exact .inr ⟨g, off, cap, h1, h2, Nat.le_trans hq h3, h4⟩
theorem zj2 (h : WrM q w wp p f ov G v l) (hq : q <= w.heap.size) (n : Nat) (hn : n <= l.length) (h2 : l.length <= 1000000) :
  Calls Tryz.prog 48 #[.pointer (some ⟨wp, 0, none⟩), .int .i64 n] w fun e w' => ∃ u, e = .returned u /\ TakeQ q w wp p f ov l n u w' := by
 have HW := hz0q h;have HQ := hz0q hq;have hn1 : (n : Int) <= (l.length : Int) := (by omega);have hn0 : (0 : Int) <= (n : Int) := (by omega);obtain ⟨L, hL⟩ : ∃ L, L = l.length := ⟨_, rfl⟩;have HL := hz0q hL;rcases h.own with ⟨hG, hl, A1, hv⟩ | ⟨g, off, cap, hG, hv, hqg, hn2, hc2, hcur, hsm, hcx⟩
 ·subst hl;subst hv;obtain rfl : n = 0 := (by simpa using hn);have b0 := za h.box 0 rfl;have HE : Hid (([] : List Int).take 0 = [] /\ ([] : List Int).drop 0 = []) := ⟨rfl, rfl⟩;have CL : Hid (∀ W, Calls Tryz.prog 40 #[.slice A1 0 0] W fun e w' => ∃ G v, e = .returned v /\ OwnG W.heap.size w' G v [] /\ Below W.heap.size W w') := fun W => zd0 A1 0 0 [] W (Rd.nil _ _) rfl (by omega) (fun _ => ⟨rfl, rfl⟩);clear h hq hG hn hn1 hn0 hL h2
  cases A1 with
  | none =>
   have C1 := CL.out w;go_enter Tryz.func48, Tryz.ntmps48;go_wp2_with fail;refine C1.mono ?_;rintro e w1 ⟨G1, u1, rfl, ho1, hb1⟩;have HO1 := hz0q ho1;have HB1 := hz0q hb1;have HW1 := hz0q (HW.out.below hb1);have b0 := za HW1.out.box 0 rfl;have C2 := CL.out w1;clear C1 ho1 hb1;go_wp2_with fail;refine C2.mono ?_;rintro e w2 ⟨G2, u2, rfl, ho2, hb2⟩;obtain ⟨A9, c9, hu2, _, _, _⟩ := ho2.shape;subst hu2;have HO2 := hz0q ho2;have HB2 := hz0q hb2;have HW2 := hz0q (HW1.out.below hb2);have b0 := za HW2.out.box 0 rfl;have f0 := zc HW2.out.box 0;have HF := hz0q (HW2.out.setQ rfl (ho2.mono (Nat.le_trans HQ.out HB1.out.size)));have HU : Hid (OwnG w.heap.size (w2.setCell ⟨wp, 0, none⟩ (.slice A9 ([] : List Int).length c9)) G1 u1 []) := (HO1.out.below hb2).blk fun g hg => Below.heap_setCell w2 ⟨wp, 0, none⟩ _ g (fun e => by have h1 := (HO1.out.lt hg).1; have h2 := HW.out.lt; have e : g = wp := e; omega);have HWR : Hid (Wrote (fun k => k = wp) w (w2.setCell ⟨wp, 0, none⟩ (.slice A9 ([] : List Int).length c9))) := ((Wrote.of_below HB1.out).then_below HB2.out).trans (Wrote.setCell (S := fun k => k = wp) (.inl rfl) _);have HAT : Hid (∀ g, G2 = some g -> w.heap.size <= g) := fun g hg => Nat.le_trans HB1.out.size (HO2.out.lt hg).1;clear C2 ho2 hb2;go_wp2;go_returns;exact ⟨_, rfl, G1, G2, _, HU.out, HF.out, HWR.out, HAT.out⟩
  | some a1 =>
   have C1 := CL.out w;go_enter Tryz.func48, Tryz.ntmps48;go_wp2_with fail;refine C1.mono ?_;rintro e w1 ⟨G1, u1, rfl, ho1, hb1⟩;have HO1 := hz0q ho1;have HB1 := hz0q hb1;have HW1 := hz0q (HW.out.below hb1);have b0 := za HW1.out.box 0 rfl;have C2 := CL.out w1;clear C1 ho1 hb1;go_wp2_with fail;refine C2.mono ?_;rintro e w2 ⟨G2, u2, rfl, ho2, hb2⟩;obtain ⟨A9, c9, hu2, _, _, _⟩ := ho2.shape;subst hu2;have HO2 := hz0q ho2;have HB2 := hz0q hb2;have HW2 := hz0q (HW1.out.below hb2);have b0 := za HW2.out.box 0 rfl;have f0 := zc HW2.out.box 0;have HF := hz0q (HW2.out.setQ rfl (ho2.mono (Nat.le_trans HQ.out HB1.out.size)));have HU : Hid (OwnG w.heap.size (w2.setCell ⟨wp, 0, none⟩ (.slice A9 ([] : List Int).length c9)) G1 u1 []) := (HO1.out.below hb2).blk fun g hg => Below.heap_setCell w2 ⟨wp, 0, none⟩ _ g (fun e => by have h1 := (HO1.out.lt hg).1; have h2 := HW.out.lt; have e : g = wp := e; omega);have HWR : Hid (Wrote (fun k => k = wp) w (w2.setCell ⟨wp, 0, none⟩ (.slice A9 ([] : List Int).length c9))) := ((Wrote.of_below HB1.out).then_below HB2.out).trans (Wrote.setCell (S := fun k => k = wp) (.inl rfl) _);have HAT : Hid (∀ g, G2 = some g -> w.heap.size <= g) := fun g hg => Nat.le_trans HB1.out.size (HO2.out.lt hg).1;clear C2 ho2 hb2;go_wp2;go_returns;exact ⟨_, rfl, G1, G2, _, HU.out, HF.out, HWR.out, HAT.out⟩
 ·have hown := h.own;rw [hv] at hown;obtain ⟨A7, c7, e7, _, _, hrd7⟩ := hown.shape;injection e7 with e7 _ e8;subst e7 e8;obtain ⟨A8, c8, e8, _, _, hrd8⟩ := (hown.drop (A := none) hn).shape;injection e8 with e8 _ e9;subst e8 e9;subst hv;have b0 := za h.box 0 rfl;rw [<- hL] at b0 hn1 hn2 hn h2;rw [List.length_drop, <- hL] at hrd8;have C1 := zd0 (some ⟨g, off, none⟩) n cap (l.take n) w (Rd.takeV hrd7 (by omega)) (by rw [List.length_take, <- HL.out]; omega) (by omega) (fun e => by cases e)
  by_cases hnc : n = cap
  ·subst hnc;have hLn : L - n = 0 := (by omega);have hdn : l.drop n = [] := List.drop_eq_nil_of_le (by omega);have HR8 : Hid (Rd w (some ⟨g, off, none⟩) 0 (Rs (l.drop n))) := (by show Rd _ _ _ _; rw [hdn]; exact Rd.nil _ _);have HD0 : Hid ((l.drop n).length = 0) := (by show _ = _; rw [hdn]; rfl);clear hLn hdn;have hnn : (n : Int) <= (n : Int) := (by omega);have hLc : (L : Int) <= (n : Int) := (by omega);clear h hq hG hown hrd7 hrd8 hcur hsm hcx hqg hc2 hL;go_enter Tryz.func48, Tryz.ntmps48;go_wp2_with fail;refine C1.mono ?_;rintro e w1 ⟨G1, u1, rfl, ho1, hb1⟩;have HO1 := hz0q ho1;have HB1 := hz0q hb1;have HW1 := hz0q (HW.out.below hb1);have b0 := za HW1.out.box 0 rfl;rw [<- HL.out] at b0;have C2 := zd0 (some ⟨g, off, none⟩) 0 0 (l.drop n) w1 (HR8.out.below hb1) HD0.out (by omega) (fun e => by cases e);clear C1 ho1 hb1;go_wp2_with fail;refine C2.mono ?_;rintro e w2 ⟨G2, u2, rfl, ho2, hb2⟩;obtain ⟨A9, c9, hu2, _, _, _⟩ := ho2.shape;obtain ⟨d9, hd9⟩ : ∃ d9, d9 = (l.drop n).length := ⟨_, rfl⟩;rw [<- hd9] at hu2;subst hu2;clear hd9;have HO2 := hz0q ho2;have HB2 := hz0q hb2;have HW2 := hz0q (HW1.out.below hb2);have b0 := za HW2.out.box 0 rfl;have f0 := zc HW2.out.box 0;rw [<- HL.out] at b0;have HF := hz0q (HW2.out.setQ rfl (ho2.mono (Nat.le_trans HQ.out HB1.out.size)));have HU : Hid (OwnG w.heap.size (w2.setCell ⟨wp, 0, none⟩ (.slice A9 d9 c9)) G1 u1 (l.take n)) := (HO1.out.below hb2).blk fun g hg => Below.heap_setCell w2 ⟨wp, 0, none⟩ _ g (fun e => by have h1 := (HO1.out.lt hg).1; have h2 := HW.out.lt; have e : g = wp := e; omega)
   have HWR : Hid (Wrote (fun k => k = wp) w (w2.setCell ⟨wp, 0, none⟩ (.slice A9 d9 c9))) := ((Wrote.of_below HB1.out).then_below HB2.out).trans (Wrote.setCell (S := fun k => k = wp) (.inl rfl) _);have HAT : Hid (∀ g, G2 = some g -> w.heap.size <= g) := fun g hg => Nat.le_trans HB1.out.size (HO2.out.lt hg).1;clear C2 ho2 hb2;go_wp2;go_returns;exact ⟨_, rfl, G1, G2, _, HU.out, HF.out, HWR.out, HAT.out⟩
  ·have HR8 := hz0q hrd8;have hcap : (n : Int) <= (cap : Int) := (by omega);have hLc : (L : Int) <= (cap : Int) := (by omega);clear h hq hG hown hrd7 hrd8 hcur hsm hcx hqg hc2 hL;go_enter Tryz.func48, Tryz.ntmps48;go_wp2_with fail;refine C1.mono ?_;rintro e w1 ⟨G1, u1, rfl, ho1, hb1⟩;have HO1 := hz0q ho1;have HB1 := hz0q hb1;have HW1 := hz0q (HW.out.below hb1);have b0 := za HW1.out.box 0 rfl;rw [<- HL.out] at b0;have C2 := zd0 (some ⟨g, off + n, none⟩) (L - n) (cap - n) (l.drop n) w1 (HR8.out.below hb1) (by rw [List.length_drop, <- HL.out]) (by omega) (fun e => by cases e);clear C1 ho1 hb1;go_wp2_with fail;refine C2.mono ?_;rintro e w2 ⟨G2, u2, rfl, ho2, hb2⟩;obtain ⟨A9, c9, hu2, _, _, _⟩ := ho2.shape;obtain ⟨d9, hd9⟩ : ∃ d9, d9 = (l.drop n).length := ⟨_, rfl⟩;rw [<- hd9] at hu2;subst hu2;clear hd9;have HO2 := hz0q ho2;have HB2 := hz0q hb2;have HW2 := hz0q (HW1.out.below hb2);have b0 := za HW2.out.box 0 rfl;have f0 := zc HW2.out.box 0;rw [<- HL.out] at b0;have HF := hz0q (HW2.out.setQ rfl (ho2.mono (Nat.le_trans HQ.out HB1.out.size)));have HU : Hid (OwnG w.heap.size (w2.setCell ⟨wp, 0, none⟩ (.slice A9 d9 c9)) G1 u1 (l.take n)) := (HO1.out.below hb2).blk fun g hg => Below.heap_setCell w2 ⟨wp, 0, none⟩ _ g (fun e => by have h1 := (HO1.out.lt hg).1; have h2 := HW.out.lt; have e : g = wp := e; omega);have HWR : Hid (Wrote (fun k => k = wp) w (w2.setCell ⟨wp, 0, none⟩ (.slice A9 d9 c9))) := ((Wrote.of_below HB1.out).then_below HB2.out).trans (Wrote.setCell (S := fun k => k = wp) (.inl rfl) _)
   have HAT : Hid (∀ g, G2 = some g -> w.heap.size <= g) := fun g hg => Nat.le_trans HB1.out.size (HO2.out.lt hg).1;clear C2 ho2 hb2;go_wp2;go_returns;exact ⟨_, rfl, G1, G2, _, HU.out, HF.out, HWR.out, HAT.out⟩
end
end
section
open Go.RowKit
section
variable {q wp : Nat} {w w0 : World} {p : Option Addr} {f : Int} {ov : Bool} {G : Option Nat} {v : Value} {l : List Int} {B : BaseF}
theorem nnew_no (p : Option Addr) (f : Int) (w : World) (hf : mayF f = false) : Calls Tryz.prog 20 #[.pointer p, .int .i64 f] w fun e w' => e = .returned (.tuple #[.pointer none, .int .i64 16]) /\ Below w.heap.size w w' := by
 have h : f < 1 \/ 4 < f := by
  rcases zli f with h | rfl | rfl | rfl | rfl | h
  ·exact .inl h
  all_goals first | exact .inr h | (exact absurd hf (by decide))
 clear hf;rcases h with h | h
 ·go_enter Tryz.func20, Tryz.ntmps20;go_wp2;go_returns;exact ⟨rfl, Below.refl _ _⟩
 ·have h1 : ¬ f < 1 := (by omega);go_enter Tryz.func20, Tryz.ntmps20;go_wp2;go_returns;exact ⟨rfl, Below.refl _ _⟩
theorem nnew_yes (p : Option Addr) (f : Int) (w : World) (hf : mayF f = true) : Calls Tryz.prog 20 #[.pointer p, .int .i64 f] w fun e w' => e = .returned (.tuple #[.pointer (some ⟨w.heap.size, 0, none⟩), .int .i64 0]) /\ WrM w.heap.size w' w.heap.size p f false none (.slice none 0 0) [] /\ Below w.heap.size w w' := by
 have h := (ze1 f).1 hf;have h1 : ¬ f < 1 := (by omega);have h2 : ¬ 4 < f := (by omega);clear hf h;go_enter Tryz.func20, Tryz.ntmps20;go_wp2;go_returns;exact ⟨rfl, ⟨zr _ _ _, .nil _ _ none, Nat.le_refl _⟩, (Below.refl _ w).alloc (Nat.le_refl _) _⟩
theorem ze0 (h : WrM q w wp p f ov G v l) : Calls Tryz.prog 45 #[.pointer (some ⟨wp, 0, none⟩)] w fun e w' => e = .returned (.int .i64 (if ov = true then 21 else 0)) /\ w = w' := by
 have b3 := za h.box 3 rfl;clear h
 cases ov with
 | true =>
  go_enter Tryz.func45, Tryz.ntmps45;go_wp2;go_returns;exact ⟨rfl, rfl⟩
 | false =>
  go_enter Tryz.func45, Tryz.ntmps45;go_wp2;go_returns;exact ⟨rfl, rfl⟩
theorem zct (h : WrM q w wp p f ov G v l) : Calls Tryz.prog 27 #[.pointer (some ⟨wp, 0, none⟩)] w fun e w' => e = .returned (.int .i64 l.length) /\ w = w' := by
 obtain ⟨A0, c0, rfl, _, _, _⟩ := h.own.shape;have b0 := za h.box 0 rfl;clear h;go_enter Tryz.func27, Tryz.ntmps27;go_wp2;go_returns;exact ⟨rfl, rfl⟩
theorem nfeed_over (h : WrM q w wp p f true G v l) (A : Option Addr) (n c : Nat) : Calls Tryz.prog 21 #[.pointer (some ⟨wp, 0, none⟩), .slice A n c] w fun e w' => e = .returned (.tuple #[.slice none 0 0, .int .i64 21]) /\ w = w' := by
 have O := ze0 h;rw [if_pos rfl] at O;clear h;go_enter Tryz.func21, Tryz.ntmps21;go_wp2_with fail;refine O.mono ?_;rintro e w1 ⟨rfl, rfl⟩;go_wp2;go_returns;exact ⟨rfl, rfl⟩
theorem nclose_over (h : WrM q w wp p f true G v l) : Calls Tryz.prog 22 #[.pointer (some ⟨wp, 0, none⟩)] w fun e w' => e = .returned (.tuple #[.slice none 0 0, .int .i64 21]) /\ w = w' := by
 have O := ze0 h;rw [if_pos rfl] at O;clear h;go_enter Tryz.func22, Tryz.ntmps22;go_wp2_with fail;refine O.mono ?_;rintro e w1 ⟨rfl, rfl⟩;go_wp2;go_returns;exact ⟨rfl, rfl⟩
theorem zfr {B : BaseF} {f : Int} {xs : List Int} (h : mayF f = true) : formE B f xs = (B.form (cB f) (jB f) xs, 0) := if_pos h
def FeedP (B : BaseF) (c j : Bool) (q : Nat) (w : World) (wp : Nat) (p : Option Addr) (f : Int) (G : Option Nat) (l : List Int) (e : Ending) (w' : World) : Prop :=
 ∃ m A1 c1 G' v', CutAt B c j l m /\ e = .returned (.tuple #[.slice A1 (B.form c j (l.take m)).length c1, .int .i64 0]) /\ ArgR w' A1 (B.form c j (l.take m)).length c1 (B.form c j (l.take m)) /\
  WrM q w' wp p f false G' v' (l.drop m) /\ Wrote (fun k => k = wp \/ G = some k) w w' /\ ∀ g, G' = some g -> w.heap.size <= g
def zk4 (B : BaseF) (c j : Bool) (q : Nat) (w : World) (wp : Nat) (p : Option Addr) (f : Int) (G : Option Nat) (l : List Int) (e : Ending) (w' : World) : Prop :=
 ∃ A1 c1 G' v', e = .returned (.tuple #[.slice A1 (B.form c j l).length c1, .int .i64 0]) /\ ArgR w' A1 (B.form c j l).length c1 (B.form c j l) /\
  WrM q w' wp p f true G' v' [] /\ Wrote (fun k => k = wp) w w' /\ (∀ g, G' = some g -> w.heap.size <= g) /\ ∀ a, A1 = some a -> w.heap.size <= a.block
theorem za8.argF {w w' : World} {zs : List Int} {k : Int} {e : Ending} (h : za8 w (zs, k) e w') (hR : ∀ x ∈ zs, R32 x) : ∃ A c, e = .returned (.tuple #[.slice A zs.length c, .int .i64 k]) /\ ArgR w' A zs.length c zs /\ Below w.heap.size w w' := by
 obtain ⟨A, c, he, hown, hb⟩ := h;obtain ⟨A2, c2, h1, h2, h3⟩ := zag.arg (e := .returned (.slice A zs.length c)) ⟨A, c, rfl, hown, hb⟩ hR;injection h1 with h1;injection h1 with h1a _ h1c;subst h1a h1c;exact ⟨A, c, he, h2, h3⟩
theorem za8.argG {w w' : World} {zs : List Int} {k : Int} {e : Ending} (h : za8 w (zs, k) e w') (hR : ∀ x ∈ zs, R32 x) : ∃ A c, e = .returned (.tuple #[.slice A zs.length c, .int .i64 k]) /\ ArgR w' A zs.length c zs /\ Below w.heap.size w w' /\ ∀ a, A = some a -> w.heap.size <= a.block := by
 obtain ⟨A, c, he, h2, h3⟩ := h.argF hR;refine ⟨A, c, he, h2, h3, fun a ha => ?_⟩;obtain ⟨A', c', he', hown, _⟩ := h;have e := he.symm.trans he';injection e with e;injection e with e;have e := congrArg (fun l : Array Value => l[0]?) e;simp at e;rw [ha] at e;rcases hown.2 with ⟨hv, _⟩ | ⟨g, cap, cur, hv, hg, _⟩
 ·injection hv with hv _ _;rw [<- e.1] at hv
  cases hv
 ·injection hv with hv _ _;rw [<- e.1] at hv;injection hv with hv;rw [hv];exact hg
theorem zdn (HB : Hid (∀ W, Below q w0 W -> zax W (.pointer p) B)) (HK : Hid (∀ W, Below q w0 W -> Kinds W)) (hbd : zan B) (h : WrM q w wp p f false G v l) (hl : ∀ x ∈ l, R32 x) (hb : Below q w0 w) (hq : q <= w.heap.size) (hf : mayF f = true)
  (A : Option Addr) (n c : Nat) (zs : List Int) (hrd : Rd w A n (Rs zs)) (hn : zs.length = n) (hx : ∀ x ∈ zs, R32 x) (h2 : l.length + n <= 3300) :
  Calls Tryz.prog 21 #[.pointer (some ⟨wp, 0, none⟩), .slice A n c] w (FeedP B (cB f) (jB f) q w wp p f G (l ++ zs)) := by
 have O := ze0 h;rw [if_neg (by simp)] at O;have PU := qput_any (c := c) h hq A n zs hrd hn (by omega);have HW := hz0q h;have HX : Hid (∀ x ∈ l ++ zs, R32 x) := fun x hx2 => (List.mem_append.1 hx2).elim (hl x) (hx x);have hlz : (l ++ zs).length <= 3300 := (by rw [List.length_append, hn]; exact h2);obtain ⟨ls, hls⟩ : ∃ ls, ls = l ++ zs := ⟨_, rfl⟩;rw [<- hls] at PU HX hlz ⊢;have HBW := hz0q hb;have HQ := hz0q hq;have HBD := hz0q hbd;have HMT := hz0q hf;clear h hl hrd hn hx hls hb hq hbd hf h2;go_enter Tryz.func21, Tryz.ntmps21;go_wp2_with fail;refine O.mono ?_;rintro e w1 ⟨rfl, rfl⟩;clear O;go_wp2_with fail;refine PU.mono ?_;rintro e w1 ⟨⟨u, rfl⟩, G1, v1, hW1, hwr1, hat1⟩;have HW1 := hz0q hW1;have HWR1 := hz0q hwr1;have HAT1 := hz0q hat1;have HB1 : Hid (Below q w0 w1) := HBW.out.trans (hwr1.below (fun k hk => hk.elim (fun e => by rw [e]; exact HW.out.tb) fun e => (HW.out.own.lt e).1) HQ.out);have HQ1 : Hid (q <= w1.heap.size) := Nat.le_trans HQ.out hwr1.size;obtain ⟨A1, c1, rfl, hnc1, _, hrd1⟩ := hW1.own.shape;obtain ⟨L, hL⟩ : ∃ L, L = ls.length := ⟨_, rfl⟩;rw [<- hL] at hrd1 hlz hnc1;have HL := hz0q hL;have HRD1 := hz0q hrd1
 have CU : Hid (∀ W, Below w1.heap.size w1 W -> Calls Tryz.prog 47 #[.pointer p, .int .i64 f, .slice A1 L c1] W fun e w' => (∃ m : Nat, CutAt B (cB f) (jB f) ls m /\ e = .returned (.tuple #[.int .i64 m, .int .i64 0])) /\ Below W.heap.size W w') := fun W hW => by
  have h1 := HB1.out.trans (hW.mono HQ1.out);have := qcut_any (cp := c1) (HB.out W h1) (HK.out W h1) HBD.out f A1 L ls (HRD1.out.below hW) HL.out.symm HX.out (by omega);rw [if_pos HMT.out] at this;refine this.mono ?_;rintro e w' ⟨⟨m, h1, h2⟩, h3⟩;exact ⟨⟨m, by simpa [HMT.out] using h1, h2⟩, h3⟩
 have HMK : Hid (∀ w', Below w1.heap.size w1 w' -> ((w'.cell? ⟨wp, 0, none⟩ = some (.slice A1 L c1) /\ w'.cell? ⟨wp, 1, none⟩ = some (.pointer p)) /\ w'.cell? ⟨wp, 2, none⟩ = some (.int .i64 f)) /\ Below w1.heap.size w1 w') := fun w' h => by
  have hT := HW1.out.below h;have e0 := za hT.box 0 rfl;rw [<- HL.out] at e0;exact ⟨⟨⟨e0, za hT.box 1 rfl⟩, za hT.box 2 rfl⟩, h⟩
 clear PU hW1 hwr1 hat1 hrd1 hL;go_upto_region 5 with fail;refine wp_region_held_drew (S := fun w' => ((w'.cell? ⟨wp, 0, none⟩ = some (.slice A1 L c1) /\ w'.cell? ⟨wp, 1, none⟩ = some (.pointer p)) /\ w'.cell? ⟨wp, 2, none⟩ = some (.int .i64 f)) /\ Below w1.heap.size w1 w') (by kernel_rfl) (HMK.out _ (Drew.to ⟨1, rfl⟩)) (fun hH0 => ?_);refine tkH 0 (.pointer (some ⟨wp, 0, none⟩)) rfl hH0 ?_;try simp only [gA, gB, gC, Act.put, gD, gE, gF]
 refine tkH 1 (.pointer (some ⟨wp, 0, none⟩)) rfl hH0 ?_;try simp only [gA, gB, gC, Act.put, gD, gE, gF]
 refine tkH 2 (.pointer (some ⟨wp, 1, none⟩)) rfl hH0 ?_;try simp only [gA, gB, gC, Act.put, gD, gE, gF]
 refine tkH 3 (.pointer p) rfl hH0 ?_;try simp only [gA, gB, gC, Act.put, gD, gE, gF]
 refine tkH 4 (.pointer (some ⟨wp, 0, none⟩)) rfl hH0 ?_;try simp only [gA, gB, gC, Act.put, gD, gE, gF]
 refine tkH 5 (.pointer (some ⟨wp, 0, none⟩)) rfl hH0 ?_;try simp only [gA, gB, gC, Act.put, gD, gE, gF]
 refine tkH 6 (.pointer (some ⟨wp, 2, none⟩)) rfl hH0 ?_;try simp only [gA, gB, gC, Act.put, gD, gE, gF]
 refine tkH 7 (.int .i64 f) rfl hH0 ?_;try simp only [gA, gB, gC, Act.put, gD, gE, gF]
 refine tkH 8 (.pointer (some ⟨wp, 0, none⟩)) rfl hH0 ?_;try simp only [gA, gB, gC, Act.put, gD, gE, gF]
 refine tkH 9 (.pointer (some ⟨wp, 0, none⟩)) rfl hH0 ?_;try simp only [gA, gB, gC, Act.put, gD, gE, gF]
 refine tkH 10 (.pointer (some ⟨wp, 0, none⟩)) rfl hH0 ?_;try simp only [gA, gB, gC, Act.put, gD, gE, gF]
 refine tkH 11 (.pointer (some ⟨wp, 0, none⟩)) rfl hH0 ?_;try simp only [gA, gB, gC, Act.put, gD, gE, gF]
 refine tkH 12 (.slice A1 L c1) rfl hH0 ?_;try simp only [gA, gB, gC, Act.put, gD, gE, gF]
 refine wpAnyH_ready (rs := [13]) (by kernel_rfl) (by simp) ?_;refine AllReadyH.cons rfl (fun K hK => ?_) AllReadyH.nil;go_simp
 refine (CU.out _ hH0.2).mono ?_;rintro e w50 ⟨⟨m, hm, rfl⟩, hb2⟩;refine hK.out _ _ (HMK.out _ (zb hH0.2 hb2)) (fun hH1 => ?_);clear hK K hH0;try simp only [gA, gB, gC, Act.put, gD, gE, gF]
 refine tkH 14 (.tuple #[.int .i64 m, .int .i64 0]) rfl hH1 ?_;try simp only [gA, gB, gC, Act.put, gD, gE, gF]
 refine tkH 15 (.int .i64 m) rfl hH1 ?_;try simp only [gA, gB, gC, Act.put, gD, gE, gF]
 refine tkH 16 (.int .i64 0) rfl hH1 ?_;try simp only [gA, gB, gC, Act.put, gD, gE, gF]
 refine tkH 17 (.int .i64 m) rfl hH1 ?_;try simp only [gA, gB, gC, Act.put, gD, gE, gF]
 refine tkH 18 (.int .i64 0) rfl hH1 ?_;try simp only [gA, gB, gC, Act.put, gD, gE, gF]
 refine wpAnyH_done (by kernel_rfl) ?_ _;have HB2 := hz0q hH1.2;clear hH1;have HM := hz0q hm;have HW2 := hz0q (HW1.out.below HB2.out);have HB20 : Hid (Below q w0 w50) := HB1.out.trans (HB2.out.mono HQ1.out);have HQ2 : Hid (q <= w50.heap.size) := Nat.le_trans HQ1.out HB2.out.size;have hmL : m <= ls.length := (by rcases hm.lt with h | h <;> omega);have HMK2 : Hid (∀ w', Below q w0 w' -> w'.heap[wp]? = w50.heap[wp]? -> ((w'.cell? ⟨wp, 1, none⟩ = some (.pointer p) /\ w'.cell? ⟨wp, 2, none⟩ = some (.int .i64 f)) /\ Below q w0 w')) := fun w' h1 h2 => ⟨⟨za (h2.trans HW2.out.box) 1 rfl, za (h2.trans HW2.out.box) 2 rfl⟩, h1⟩;have hm33 : m <= 3300 := (by have := HL.out; omega);have HFR : Hid (∀ y ∈ B.form (cB f) (jB f) (ls.take m), R32 y) := znm HBD.out (cB f) (jB f) (fun y hy => HX.out y (List.mem_of_mem_take hy)) rfl;have TK : Hid (∀ W, Below w50.heap.size w50 W -> Calls Tryz.prog 48 #[.pointer (some ⟨wp, 0, none⟩), .int .i64 m] W fun e w' => ∃ u, e = .returned u /\ TakeQ q W wp p f false ls m u w') := fun W h => zj2 (HW2.out.below h) (Nat.le_trans HQ2.out h.size) m hmL (by rw [<- HL.out]; omega);obtain ⟨fs, hfs⟩ : ∃ fs, fs = B.form (cB f) (jB f) (ls.take m) := ⟨_, rfl⟩;rw [<- hfs] at HFR;have HFS := hz0q hfs
 have FO : Hid (∀ W A c, Below q w0 W -> Rd W A m (Rs (ls.take m)) -> Calls Tryz.prog 23 #[.pointer p, .int .i64 f, .slice A m c] W (za8 W (fs, 0))) := fun W A c h1 h2 => by
  have := zhd (cp := c) (HB.out W h1) (HK.out W h1) HBD.out f A m (ls.take m) h2 (by rw [List.length_take]; omega) (fun y hy => HX.out y (List.mem_of_mem_take hy)) (by omega);rwa [zfr HMT.out, <- hfs] at this
 obtain ⟨fl, hfl⟩ : ∃ fl, fl = fs.length := ⟨_, rfl⟩;have HFL := hz0q hfl;have HLT : Hid ((ls.take m).length = m) := (by show _ = _; rw [List.length_take]; omega);have HDR : Hid (Below w50.heap.size w50 w50.drew) := Drew.to ⟨1, rfl⟩;clear CU HMK hm hfs hfl hmL;go_upto_region 8 with fail;refine wp_region_held_drew (S := fun w' => (w'.cell? ⟨wp, 1, none⟩ = some (.pointer p) /\ w'.cell? ⟨wp, 2, none⟩ = some (.int .i64 f)) /\ Below q w0 w') (by kernel_rfl) ((HMK2.out _ (HB20.out.trans (HDR.out.mono HQ2.out)) rfl)) (fun hH0 => ?_);refine tkH 0 (.pointer (some ⟨wp, 0, none⟩)) rfl hH0 ?_;try simp only [gA, gB, gC, Act.put, gD, gE, gF]
 refine tkH 1 (.pointer (some ⟨wp, 0, none⟩)) rfl hH0 ?_;try simp only [gA, gB, gC, Act.put, gD, gE, gF]
 refine tkH 2 (.pointer (some ⟨wp, 1, none⟩)) rfl hH0 ?_;try simp only [gA, gB, gC, Act.put, gD, gE, gF]
 refine tkH 3 (.pointer p) rfl hH0 ?_;try simp only [gA, gB, gC, Act.put, gD, gE, gF]
 refine tkH 4 (.pointer (some ⟨wp, 0, none⟩)) rfl hH0 ?_;try simp only [gA, gB, gC, Act.put, gD, gE, gF]
 refine tkH 5 (.pointer (some ⟨wp, 0, none⟩)) rfl hH0 ?_;try simp only [gA, gB, gC, Act.put, gD, gE, gF]
 refine tkH 6 (.pointer (some ⟨wp, 2, none⟩)) rfl hH0 ?_;try simp only [gA, gB, gC, Act.put, gD, gE, gF]
 refine tkH 7 (.int .i64 f) rfl hH0 ?_;try simp only [gA, gB, gC, Act.put, gD, gE, gF]
 refine tkH 8 (.pointer (some ⟨wp, 0, none⟩)) rfl hH0 ?_;try simp only [gA, gB, gC, Act.put, gD, gE, gF]
 refine tkH 9 (.pointer (some ⟨wp, 0, none⟩)) rfl hH0 ?_;try simp only [gA, gB, gC, Act.put, gD, gE, gF]
 refine tkH 10 (.pointer (some ⟨wp, 0, none⟩)) rfl hH0 ?_;try simp only [gA, gB, gC, Act.put, gD, gE, gF]
 refine tkH 11 (.int .i64 m) rfl hH0 ?_;try simp only [gA, gB, gC, Act.put, gD, gE, gF]
 refine wpAnyH_ready (rs := [12]) (by kernel_rfl) (by simp) ?_;refine AllReadyH.cons rfl (fun K hK => ?_) AllReadyH.nil;go_simp
 refine (TK.out _ HDR.out).mono ?_;rintro e w60 ⟨u, rfl, G3, G4, v4, ho3, hW4, hwr4, hat4⟩;obtain ⟨A3, c3, hu3, _, _, hrd3⟩ := ho3.shape;rw [HLT.out] at hu3 hrd3;subst hu3;have hb60 : Below q w0 w60 := hH0.2.trans (hwr4.below (fun k hk => by rw [hk]; exact HW.out.tb) (Nat.le_trans HQ2.out HDR.out.size));have HW4 := hz0q hW4;have HWR4 := hz0q hwr4;have HAT4 := hz0q hat4;have HRD3 := hz0q hrd3;clear hW4 hwr4 hat4 hrd3 ho3;refine hK.out _ _ (⟨⟨za HW4.out.box 1 rfl, za HW4.out.box 2 rfl⟩, hb60⟩) (fun hH1 => ?_);clear hK K hH0;try simp only [gA, gB, gC, Act.put, gD, gE, gF]
 refine wpAnyH_ready (rs := [13]) (by kernel_rfl) (by simp) ?_;refine AllReadyH.cons rfl (fun K hK => ?_) AllReadyH.nil;go_simp
 refine (FO.out _ A3 c3 hH1.2 HRD3.out).mono ?_;rintro e w61 hf;obtain ⟨A5, c5, rfl, z5, hb7⟩ := hf.argF HFR.out;rw [<- HFL.out];have HZ5 := hz0q z5;have HB7 := hz0q hb7;have HW5 := hz0q (HW4.out.below hb7);have hb70 : Below q w0 w61 := hH1.2.trans (hb7.mono (Nat.le_trans HQ2.out (Nat.le_trans HDR.out.size HWR4.out.size)));clear hf z5 hb7;refine hK.out _ _ (⟨⟨za HW5.out.box 1 rfl, za HW5.out.box 2 rfl⟩, hb70⟩) (fun hH2 => ?_);clear hK K hH1;try simp only [gA, gB, gC, Act.put, gD, gE, gF]
 refine tkH 14 (.slice A5 fl c5) rfl hH2 ?_;try simp only [gA, gB, gC, Act.put, gD, gE, gF]
 refine tkH 15 (.int .i64 0) rfl hH2 ?_;try simp only [gA, gB, gC, Act.put, gD, gE, gF]
 refine tkH 16 (.slice A5 fl c5) rfl hH2 ?_;try simp only [gA, gB, gC, Act.put, gD, gE, gF]
 refine tkH 17 (.int .i64 0) rfl hH2 ?_;try simp only [gA, gB, gC, Act.put, gD, gE, gF]
 refine wpAnyH_done (by kernel_rfl) ?_ _;clear hH2;have HWR : Hid (Wrote (fun k => k = wp \/ G = some k) w w61) := (((HWR1.out.then_below HB2.out).then_below HDR.out).trans (HWR4.out.mono fun k _ e => .inl e)).then_below HB7.out;have HAT : Hid (∀ g, G4 = some g -> w.heap.size <= g) := fun g hg => Nat.le_trans HWR1.out.size (Nat.le_trans HB2.out.size (Nat.le_trans HDR.out.size (HAT4.out g hg)));go_wp2;go_returns;rw [HFL.out];have hz := HZ5.out;rw [HFS.out] at hz ⊢;exact ⟨m, A5, c5, G4, v4, HM.out, rfl, hz, HW5.out, HWR.out, HAT.out⟩
theorem zdz (HB : Hid (∀ W, Below q w0 W -> zax W (.pointer p) B)) (HK : Hid (∀ W, Below q w0 W -> Kinds W)) (hbd : zan B) (h : WrM q w wp p f false G v l) (hl : ∀ x ∈ l, R32 x) (hb : Below q w0 w) (hq : q <= w.heap.size) (hf : mayF f = true) (h2 : l.length <= 3300) :
  Calls Tryz.prog 22 #[.pointer (some ⟨wp, 0, none⟩)] w (zk4 B (cB f) (jB f) q w wp p f G l) := by
 have O := ze0 h;rw [if_neg (by simp)] at O;have HW := hz0q h;have HX := hz0q hl;have HBW := hz0q hb;have HQ := hz0q hq;have HBD := hz0q hbd;have HMT := hz0q hf;have bx := h.box;have f3 := zc h.box 3;have c3 := za h.box 3 rfl;clear h hl hb hq hbd hf bx;go_enter Tryz.func22, Tryz.ntmps22;go_wp2_with fail;refine O.mono ?_;rintro e w1 ⟨rfl, rfl⟩;clear O;have HWR1 : Hid (Wrote (fun k => k = wp) w (w.setCell ⟨wp, 3, none⟩ (.bool true))) := Wrote.setCell (S := fun k => k = wp) (.inl rfl) _;have HW1 := hz0q (HW.out.over true);obtain ⟨w1, hw1⟩ : ∃ w1, w1 = w.setCell ⟨wp, 3, none⟩ (.bool true) := ⟨_, rfl⟩;rw [<- hw1] at HWR1 HW1;have HB1 : Hid (Below q w0 w1) := HBW.out.trans (HWR1.out.below (fun k hk => by rw [hk]; exact HW.out.tb) HQ.out);have HQ1 : Hid (q <= w1.heap.size) := Nat.le_trans HQ.out HWR1.out.size;obtain ⟨A1, c1, hv1, hnc1, _, hrd1⟩ := HW1.out.own.shape;subst hv1;have HMK2 : Hid (∀ w', Below q w0 w' -> w'.heap[wp]? = w1.heap[wp]? -> ((w'.cell? ⟨wp, 1, none⟩ = some (.pointer p) /\ w'.cell? ⟨wp, 2, none⟩ = some (.int .i64 f)) /\ Below q w0 w')) := fun w' h1 h2 => ⟨⟨za (h2.trans HW1.out.box) 1 rfl, za (h2.trans HW1.out.box) 2 rfl⟩, h1⟩;have HFR : Hid (∀ y ∈ B.form (cB f) (jB f) l, R32 y) := znm HBD.out (cB f) (jB f) HX.out rfl;have TK : Hid (∀ W, Below w1.heap.size w1 W -> Calls Tryz.prog 48 #[.pointer (some ⟨wp, 0, none⟩), .int .i64 l.length] W fun e w' => ∃ u, e = .returned u /\ TakeQ q W wp p f true l l.length u w') := fun W h => zj2 (HW1.out.below h) (Nat.le_trans HQ1.out h.size) l.length (Nat.le_refl _) (by omega)
 obtain ⟨fs, hfs⟩ : ∃ fs, fs = B.form (cB f) (jB f) l := ⟨_, rfl⟩;rw [<- hfs] at HFR;have HFS := hz0q hfs;obtain ⟨m, hm⟩ : ∃ m, m = l.length := ⟨_, rfl⟩;have HM := hz0q hm
 have FO : Hid (∀ W A c, Below q w0 W -> Rd W A m (Rs l) -> Calls Tryz.prog 23 #[.pointer p, .int .i64 f, .slice A m c] W (za8 W (fs, 0))) := fun W A c h1 h3 => by
  have := zhd (cp := c) (HB.out W h1) (HK.out W h1) HBD.out f A m l h3 hm.symm HX.out (by omega);rwa [zfr HMT.out, <- hfs] at this
 obtain ⟨fl, hfl⟩ : ∃ fl, fl = fs.length := ⟨_, rfl⟩;have HFL := hz0q hfl;have HLT : Hid (l.take m = l /\ l.drop m = []) := ⟨List.take_of_length_le (by omega), List.drop_eq_nil_of_le (by omega)⟩;have HDR : Hid (Below w1.heap.size w1 w1.drew) := Drew.to ⟨1, rfl⟩
 have HC0 : Hid (w1.drew.cell? ⟨wp, 0, none⟩ = some (.slice A1 m c1)) := by
  show _ = _;have := za (HW1.out.below HDR.out).box 0 rfl;rwa [<- hm] at this
 rw [<- hm] at TK;clear hfs hfl hm hrd1 hnc1 h2;go_upto_region 5 with fail;rw [<- hw1];clear hw1;refine wp_region_held_drew (S := fun w' => (w'.cell? ⟨wp, 1, none⟩ = some (.pointer p) /\ w'.cell? ⟨wp, 2, none⟩ = some (.int .i64 f)) /\ Below q w0 w') (by kernel_rfl) ((HMK2.out _ (HB1.out.trans (HDR.out.mono HQ1.out)) rfl)) (fun hH0 => ?_);refine tkH 0 (.pointer (some ⟨wp, 0, none⟩)) rfl hH0 ?_;try simp only [gA, gB, gC, Act.put, gD, gE, gF]
 refine tkH 1 (.pointer (some ⟨wp, 0, none⟩)) rfl hH0 ?_;try simp only [gA, gB, gC, Act.put, gD, gE, gF]
 refine tkH 2 (.pointer (some ⟨wp, 1, none⟩)) rfl hH0 ?_;try simp only [gA, gB, gC, Act.put, gD, gE, gF]
 refine tkH 3 (.pointer p) rfl hH0 ?_;try simp only [gA, gB, gC, Act.put, gD, gE, gF]
 refine tkH 4 (.pointer (some ⟨wp, 0, none⟩)) rfl hH0 ?_;try simp only [gA, gB, gC, Act.put, gD, gE, gF]
 refine tkH 5 (.pointer (some ⟨wp, 0, none⟩)) rfl hH0 ?_;try simp only [gA, gB, gC, Act.put, gD, gE, gF]
 refine tkH 6 (.pointer (some ⟨wp, 2, none⟩)) rfl hH0 ?_;try simp only [gA, gB, gC, Act.put, gD, gE, gF]
 refine tkH 7 (.int .i64 f) rfl hH0 ?_;try simp only [gA, gB, gC, Act.put, gD, gE, gF]
 refine tkH 8 (.pointer (some ⟨wp, 0, none⟩)) rfl hH0 ?_;try simp only [gA, gB, gC, Act.put, gD, gE, gF]
 refine tkH 9 (.pointer (some ⟨wp, 0, none⟩)) rfl hH0 ?_;try simp only [gA, gB, gC, Act.put, gD, gE, gF]
 refine tkH 10 (.pointer (some ⟨wp, 0, none⟩)) rfl hH0 ?_;try simp only [gA, gB, gC, Act.put, gD, gE, gF]
 refine tkH 11 (.pointer (some ⟨wp, 0, none⟩)) rfl hH0 ?_;try simp only [gA, gB, gC, Act.put, gD, gE, gF]
 refine tkH 12 (.pointer (some ⟨wp, 0, none⟩)) rfl hH0 ?_;try simp only [gA, gB, gC, Act.put, gD, gE, gF]
 refine tkH 13 (.pointer (some ⟨wp, 0, none⟩)) rfl hH0 ?_;try simp only [gA, gB, gC, Act.put, gD, gE, gF]
 refine tkH 14 (.pointer (some ⟨wp, 0, none⟩)) rfl hH0 ?_;try simp only [gA, gB, gC, Act.put, gD, gE, gF]
 refine wpAnyH_ready (rs := [15]) (by kernel_rfl) (by simp) ?_;refine AllReadyH.cons rfl (fun K hK => ?_) AllReadyH.nil;have hc0 := HC0.out;go_simp
 refine hK.out _ _ (hH0) (fun hH1 => ?_);clear hK K hH0;try simp only [gA, gB, gC, Act.put, gD, gE, gF]
 refine tkH 16 (.int .i64 m) rfl hH1 ?_;try simp only [gA, gB, gC, Act.put, gD, gE, gF]
 refine wpAnyH_ready (rs := [17]) (by kernel_rfl) (by simp) ?_;refine AllReadyH.cons rfl (fun K hK => ?_) AllReadyH.nil;go_simp
 refine (TK.out _ HDR.out).mono ?_;rintro e w51 ⟨u, rfl, G3, G4, v4, ho3, hW4, hwr4, hat4⟩;rw [HLT.out.1] at ho3;rw [HLT.out.2] at hW4;obtain ⟨A3, c3, hu3, _, _, hrd3⟩ := ho3.shape;rw [<- HM.out] at hu3 hrd3;subst hu3;have hb60 : Below q w0 w51 := hH1.2.trans (hwr4.below (fun k hk => by rw [hk]; exact HW.out.tb) (Nat.le_trans HQ1.out HDR.out.size));have HW4 := hz0q hW4;have HWR4 := hz0q hwr4;have HAT4 := hz0q hat4;have HRD3 := hz0q hrd3;clear hW4 hwr4 hat4 hrd3 ho3;refine hK.out _ _ (⟨⟨za HW4.out.box 1 rfl, za HW4.out.box 2 rfl⟩, hb60⟩) (fun hH2 => ?_);clear hK K hH1;try simp only [gA, gB, gC, Act.put, gD, gE, gF]
 refine wpAnyH_ready (rs := [18]) (by kernel_rfl) (by simp) ?_;refine AllReadyH.cons rfl (fun K hK => ?_) AllReadyH.nil;go_simp
 refine (FO.out _ A3 c3 hH2.2 HRD3.out).mono ?_;rintro e w52 hf;obtain ⟨A5, c5, rfl, z5, hb7, hap5⟩ := hf.argG HFR.out;have HAP5 := hz0q hap5;rw [<- HFL.out];have HZ5 := hz0q z5;have HB7 := hz0q hb7;have HW5 := hz0q (HW4.out.below hb7);have hb70 : Below q w0 w52 := hH2.2.trans (hb7.mono (Nat.le_trans HQ1.out (Nat.le_trans HDR.out.size HWR4.out.size)));clear hf z5 hb7 hap5;refine hK.out _ _ (⟨⟨za HW5.out.box 1 rfl, za HW5.out.box 2 rfl⟩, hb70⟩) (fun hH3 => ?_);clear hK K hH2;try simp only [gA, gB, gC, Act.put, gD, gE, gF]
 refine tkH 19 (.slice A5 fl c5) rfl hH3 ?_;try simp only [gA, gB, gC, Act.put, gD, gE, gF]
 refine tkH 20 (.int .i64 0) rfl hH3 ?_;try simp only [gA, gB, gC, Act.put, gD, gE, gF]
 refine tkH 21 (.slice A5 fl c5) rfl hH3 ?_;try simp only [gA, gB, gC, Act.put, gD, gE, gF]
 refine tkH 22 (.int .i64 0) rfl hH3 ?_;try simp only [gA, gB, gC, Act.put, gD, gE, gF]
 refine wpAnyH_done (by kernel_rfl) ?_ _;clear hH3;have HWR : Hid (Wrote (fun k => k = wp) w w52) := ((HWR1.out.then_below HDR.out).trans HWR4.out).then_below HB7.out;have HAT : Hid (∀ g, G4 = some g -> w.heap.size <= g) := fun g hg => Nat.le_trans HWR1.out.size (Nat.le_trans HDR.out.size (HAT4.out g hg));have HAP : Hid (∀ a, A5 = some a -> w.heap.size <= a.block) := fun a ha => Nat.le_trans HWR1.out.size (Nat.le_trans HDR.out.size (Nat.le_trans HWR4.out.size (HAP5.out a ha)));go_wp2;go_returns;rw [HFL.out];have hz := HZ5.out;rw [HFS.out] at hz ⊢;exact ⟨A5, c5, G4, v4, rfl, hz, HW5.out, HWR.out, HAT.out, HAP.out⟩
end
end
section
open Go.RowKit
theorem FeedP.at_ {B : BaseF} {c j : Bool} {q wp m : Nat} {w w' : World} {p : Option Addr} {f : Int} {G : Option Nat} {l fs ds : List Int} {e : Ending} (h : FeedP B c j q w wp p f G l e w') (hc : CutAt B c j l m) (hf : B.form c j (l.take m) = fs) (hd : l.drop m = ds) :
  ∃ A1 c1 G' v', e = .returned (.tuple #[.slice A1 fs.length c1, .int .i64 0]) /\ ArgR w' A1 fs.length c1 fs /\ WrM q w' wp p f false G' v' ds /\ Wrote (fun k => k = wp \/ G = some k) w w' /\ ∀ g, G' = some g -> w.heap.size <= g := by
 obtain ⟨m2, A1, c1, G', v', h1, h2, h3, h4⟩ := h;obtain rfl : m2 = m := cut_one h1 hc;subst hf hd;exact ⟨A1, c1, G', v', h2, h3, h4⟩
theorem zk4.at_ {B : BaseF} {c j : Bool} {q wp : Nat} {w w' : World} {p : Option Addr} {f : Int} {G : Option Nat} {l fs : List Int} {e : Ending} (h : zk4 B c j q w wp p f G l e w') (hf : B.form c j l = fs) :
  ∃ A1 c1 G' v', e = .returned (.tuple #[.slice A1 fs.length c1, .int .i64 0]) /\ ArgR w' A1 fs.length c1 fs /\ WrM q w' wp p f true G' v' [] /\ Wrote (fun k => k = wp) w w' /\ ∀ g, G' = some g -> w.heap.size <= g := by
 subst hf;obtain ⟨A1, c1, G', v', h1, h2, h3, h4, h5, _⟩ := h;exact ⟨A1, c1, G', v', h1, h2, h3, h4, h5⟩
theorem zk4.at2 {B : BaseF} {c j : Bool} {q wp : Nat} {w w' : World} {p : Option Addr} {f : Int} {G : Option Nat} {l fs : List Int} {e : Ending} (h : zk4 B c j q w wp p f G l e w') (hf : B.form c j l = fs) :
  ∃ A1 c1 G' v', e = .returned (.tuple #[.slice A1 fs.length c1, .int .i64 0]) /\ ArgR w' A1 fs.length c1 fs /\ WrM q w' wp p f true G' v' [] /\ Wrote (fun k => k = wp) w w' /\ (∀ g, G' = some g -> w.heap.size <= g) /\ ∀ a, A1 = some a -> w.heap.size <= a.block := by
 subst hf;exact h
abbrev WBox (w : World) (wp : Nat) (v : Value) (p : Option Addr) (f : Int) (ov : Bool) : Prop := w.heap[wp]? = some (.cells #[v, .pointer p, .int .i64 f, .bool ov] 98 (0, 0))
section
variable {q wp wp2 i : Nat} {w w' : World} {p p2 : Option Addr} {f f2 : Int} {ov ov2 : Bool} {G G' : Option Nat} {v v' v2 : Value} {l l' : List Int} {F : List (Option Nat × Value × List Int)}
theorem FamO.wr (h : FamO q w F) (hi : F[i]? = some (G, v, l)) (bx : WBox w wp v p f ov) (ht : q <= wp) : WrM q w wp p f ov G v l := ⟨bx, h.own i _ hi, ht⟩
theorem FamO.fed (h : FamO q w F) (hi : F[i]? = some (G, v, l)) (bx : WBox w wp v p f ov) (hw : Wrote (fun k => k = wp \/ G = some k) w w') (h2 : WrM q w' wp p2 f2 ov2 G' v' l') (hat : ∀ g, G' = some g -> w.heap.size <= g) : FamO q w' (F.set i (G', v', l')) :=
 h.wrote hi hw (fun j a g ha hg hs => hs.elim (fun e => ((h.own j a ha).not (g := wp) (by rw [<- e]; exact hg) bx zcj).elim) id) h2.own fun g hg => .inr (hat g hg)
theorem FamO.box2 (h : FamO q w F) (hi : F[i]? = some (G, v, l)) (bx2 : WBox w wp2 v2 p2 f2 ov2) (hne : wp2 ≠ wp) (hw : Wrote (fun k => k = wp \/ G = some k) w w') : WBox w' wp2 v2 p2 f2 ov2 :=
 hw.blk bx2 fun hs => hs.elim hne fun e => (h.own i _ hi).not e bx2 zcj
theorem FamO.boxg (h : FamO q w F) (hi : F[i]? = some (G, v, l)) (bx2 : WBox w wp2 v2 p2 f2 ov2) (hg : w.grownBy w' G) : WBox w' wp2 v2 p2 f2 ov2 :=
 zu bx2 hg fun e => (h.own i _ hi).not e bx2 zcj
theorem Wrote.close (h : Wrote (fun k => k = wp) w w') : Wrote (fun k => k = wp \/ G = some k) w w' := h.mono fun k _ e => .inl e
theorem Rd.box {A : Option Addr} {n : Nat} {xs : List Int} (h : Rd w A n (Rs xs)) (hW : WrM q w wp p f ov G v l) : 0 < n -> ∀ a, A = some a -> ¬ a.block = wp := by
 intro hn a ha e;obtain ⟨b, off, rfl, _, hc⟩ := h.at_ hn;injection ha with ha;subst ha;have e : b = wp := e;subst e;have hl : xs.length = n := (by have := h.1; simpa using this);obtain ⟨x, hx⟩ : ∃ x, xs[0]? = some x := ⟨_, List.getElem?_eq_getElem (by omega)⟩;have h0 := hc 0 (.int .i32 x) (by simp [Rs, hx]);rw [Nat.add_zero, cell_of_row w b off _ _ (0, 0) hW.box] at h0;obtain ⟨A0, c0, rfl, _⟩ := hW.own.shape;match off, h0 with
 | 0, h0 => simp at h0
 | 1, h0 => simp at h0
 | 2, h0 => simp at h0
 | 3, h0 => simp at h0
 | n + 4, h0 => simp at h0
theorem ArgR.wrote {A : Option Addr} {n c : Nat} {zs : List Int} (h : ArgR w A n c zs) (hW : WrM q w wp p f ov G v l) (hw : Wrote (fun k => k = wp) w w') : ArgR w' A n c zs :=
 ⟨h.rd.wrote hw (h.rd.box hW), h.len, h.r, h.cap, h.mx, h.nil⟩
end
end
section
open Go.RowKit Go.Lib Go.Maps
theorem zbh (w : World) (hE : Env w) (hk : Kinds w) : Calls Tryz.prog 19 #[] w fun e w' => e = .returned (.bool true) /\ Below w.heap.size w w' := by
 have N1 := new_is (s := awBS) (o := ByteArray.empty) awB_g (zlf znw) zmu aw8_none w hE hk (by decide) (by decide);have HBD : Hid (zan awBB) := znv awB_g (zlf znw);have HK := hz0q hk;unfold awBS at N1;go_enter Tryz.func19, Tryz.ntmps19;go_wp2_with fail;refine N1.mono ?_;rintro e w1 ⟨p, rfl, hp, hb1⟩;have HP : Hid (zax w1 (.pointer (some ⟨p, 0, none⟩)) awBB) := hp;have HB1 := hz0q hb1;have N2 := nnew_yes (some ⟨p, 0, none⟩) 2 w1 rfl;obtain ⟨q, hq⟩ : ∃ q, q = w1.heap.size := ⟨_, rfl⟩;rw [<- hq] at N2;have HBq : Hid (∀ W, Below q w1 W -> zax W (.pointer (some ⟨p, 0, none⟩)) awBB) := fun W h => HP.out.below (by rw [hq] at h; exact h);have HKq : Hid (∀ W, Below q w1 W -> Kinds W) := fun W h => (HK.out.below' HB1.out).below' (by rw [hq] at h; exact h);have HFq : Hid (∀ W, Below q w1 W -> Below w.heap.size w W) := fun W h => zb HB1.out (by rw [hq] at h; exact h);clear N1 hp hb1 hE hk hq;go_wp2_with fail;refine N2.mono ?_;rintro e w2 ⟨rfl, hw2, hb2⟩;have HB2 := hz0q hb2;have HQ2 : Hid (q <= w2.heap.size) := Nat.le_of_lt hw2.lt;have hbx : Below w2.heap.size w2 (w2.alloc (.cells #[.int .i32 65] 21)) := (Below.refl _ _).alloc (Nat.le_refl _) _;have C := zdn HBq HKq HBD.out (hw2.below hbx) (by intro x hx; cases hx) (HB2.out.trans (hbx.mono HQ2.out)) (Nat.le_trans HQ2.out hbx.size) rfl (some ⟨w2.heap.size, 0, none⟩) 1 1 [65] (Rd.new1 _ _ _) rfl (by intro x hx; simp at hx; unfold R32; omega) (by simp);have HX2 := hz0q hbx;clear N2 hw2 hb2 hbx;go_wp2_with fail;refine C.mono ?_;intro e w3 hf;obtain ⟨A1, c1, G1, v1, rfl, hz1, hW1, hwr1, hat1⟩ := hf.at_ (fs := []) (ds := [65]) awC_cut1 (zml _ _) rfl
 have HW3 := hz0q hW1;have HB3 : Hid (Below q w1 w3) := HB2.out.trans ((HX2.out.mono HQ2.out).trans (hwr1.below (fun k hk => hk.elim (fun e => Nat.le_of_eq e.symm) fun e => by cases e) (Nat.le_trans HQ2.out HX2.out.size)));have HQ3 : Hid (q <= w3.heap.size) := Nat.le_of_lt hW1.lt;have hbx : Below w3.heap.size w3 (w3.alloc (.cells #[.int .i32 768, .int .i32 66] 21)) := (Below.refl _ _).alloc (Nat.le_refl _) _;have C2 := zdn HBq HKq HBD.out (hW1.below hbx) (by intro x hx; simp at hx; unfold R32; omega) (HB3.out.trans (hbx.mono HQ3.out)) (Nat.le_trans HQ3.out hbx.size) rfl (some ⟨w3.heap.size, 0, none⟩) 2 2 [768, 66] (Rd.new _ _ [.int .i32 768, .int .i32 66]) rfl (by intro x hx; simp at hx; unfold R32; omega) (by simp);have HX3 := hz0q hbx;clear C hf hz1 hW1 hwr1 hat1 hbx;go_wp2_with fail;refine C2.mono ?_;intro e w4 hf;obtain ⟨A2, c2, G2, v2, rfl, hz2, hW2, hwr2, hat2⟩ := hf.at_ (fs := [192]) (ds := [66]) awC_cut2 awC_one rfl;have HB4 : Hid (Below q w1 w4) := HB3.out.trans ((HX3.out.mono HQ3.out).trans (hwr2.below (fun k hk => hk.elim (fun e => Nat.le_of_eq e.symm) fun e => (HW3.out.own.lt e).1) (Nat.le_trans HQ3.out HX3.out.size)));have HQ4 : Hid (q <= w4.heap.size) := Nat.le_of_lt hW2.lt;have C3 := zdz HBq HKq HBD.out hW2 (by intro x hx; simp at hx; unfold R32; omega) HB4.out HQ4.out rfl (by simp);have HZ2 := hz0q hz2;have HW4 := hz0q hW2;clear C2 hf hz2 hW2 hwr2 hat2;go_wp2_with fail;refine C3.mono ?_;intro e w5 hf;obtain ⟨A3, c3, G3, v3, rfl, hz3, hW3, hwr3, hat3⟩ := hf.at_ awC_two
 have HB5 : Hid (Below q w1 w5) := HB4.out.trans (hwr3.below (fun k hk => Nat.le_of_eq (by rw [hk])) HQ4.out);have HQ5 : Hid (q <= w5.heap.size) := Nat.le_of_lt hW3.lt;have HZ3 := hz0q hz3;have HZ25 := hz0q (HZ2.out.wrote HW4.out hwr3);have hbx5 : Below w5.heap.size w5 (w5.alloc (.cells #[.int .i32 192] 21)) := (Below.refl _ _).alloc (Nat.le_refl _) _;have R1 := zb3 (ca := c2) (cb := 1) (HZ25.out.below hbx5).rd (Rd.new1 w5 21 (.int .i32 192) : Rd _ (some ⟨w5.heap.size, 0, none⟩) 1 (Rs [192])) rfl (by simp) (by omega);have HX5 := hz0q hbx5;clear C3 hf hz3 hW3 hwr3 hat3 hbx5;go_wp2_with fail;refine R1.mono ?_;rintro e w6 ⟨rfl, hb6⟩;have HB6 := hz0q (zb HX5.out hb6);have HZ36 := hz0q (HZ3.out.below HB6.out);have hbx6 : Below w6.heap.size w6 (w6.alloc (.cells #[.int .i32 66] 21)) := (Below.refl _ _).alloc (Nat.le_refl _) _;have R2 := zb3 (ca := c3) (cb := 1) (HZ36.out.below hbx6).rd (Rd.new1 w6 21 (.int .i32 66) : Rd _ (some ⟨w6.heap.size, 0, none⟩) 1 (Rs [66])) rfl (by simp) (by omega);have HX6 := hz0q hbx6;clear R1 hb6 hbx6;go_wp2_with fail;refine R2.mono ?_;rintro e w7 ⟨rfl, hb7⟩;have HB7 : Hid (Below w.heap.size w w7) := HFq.out w7 (HB5.out.trans ((zb HB6.out (zb HX6.out hb7)).mono HQ5.out));clear R2 hb7;go_wp2;go_returns;exact ⟨rfl, HB7.out⟩
end
section
open Go.RowKit Go.Sort
def SameW (a b : World) : Prop := a = b
section
variable {w : World} {pv : Value} {B : BaseF}
theorem zjz (hR : RefIs w pv B) (A : Option Addr) (n cp : Nat) (xs : List Int) (hrd : Rd w A n (Rs xs)) (hn : xs.length = n) (hn2 : n <= 1000000) (i : Nat) (hi : i <= n) :
  Calls Tryz.prog 93 #[pv, .slice A n cp, .int .i64 i] w fun e w' => e = .returned (.int .i64 (B.findS (xs.take i)).1) /\ w = w' := by
 have HN := hz0q hn;have HR := hz0q hR;have HRD := hz0q hrd;have hwn : IntKind.i64.wrap ((i : Int) - 1) = (i : Int) - 1 := IntWalk.i64_in _ (by omega);have HS0 : Hid ((B.findS (xs.take i)).1 = (B.findR ((xs.take i).take i).reverse 0).1) := (by show _ = _; rw [List.take_take, Nat.min_self]; rfl);have HW0 : Hid (SameW w w) := rfl;clear hrd hn hR;go_enter Tryz.func93, Tryz.ntmps93;go_wp2
 go_loopw [7] (fun s7 wr => ∃ (j : Nat) (z : Int), z + 1 = j /\ j <= i /\ s7 = .int .i64 z /\ Hid ((B.findS (xs.take i)).1 = (B.findR ((xs.take i).take j).reverse 0).1) /\ Hid (SameW w wr)) (fun s7 _ => (intOf s7 + 1).toNat)
 case atStart => exact ⟨i, (i : Int) - 1, by omega, Nat.le_refl _, rfl, HS0, HW0⟩
 case round =>
  obtain ⟨j, z, hzj, hji, rfl, HS, HWW⟩ := hrel;have hweq : w = wr := HWW.out;subst hweq
  by_cases hz : 0 <= z
  ·obtain ⟨m, rfl⟩ : ∃ m : Nat, z = m := ⟨z.toNat, by omega⟩;obtain rfl : j = m + 1 := (by omega);obtain ⟨r, hr⟩ : ∃ r, xs[m]? = some r := ⟨_, List.getElem?_eq_getElem (by rw [HN.out]; omega)⟩;have hr2 : (xs.take i)[m]? = some r := (by rw [List.getElem?_take, if_pos (by omega)]; exact hr);have HST := hz0q (find_step (B := B) hr2 0);obtain ⟨b, off, rfl, hbl, hcx⟩ := HRD.out.at_ (by omega);have cx := hcx m (.int .i32 r) (by simp [Rs, hr]);have C1 := zcp HR.out r;obtain ⟨cl, hcl⟩ : ∃ cl, cl = B.cls r := ⟨_, rfl⟩;rw [<- hcl] at C1;have HCL := hz0q hcl;have hmi : (0 : Int) <= (m : Int) := (by omega);have hmn : (m : Int) < (n : Int) := (by omega);have hwm : IntKind.i64.wrap ((m : Int) - 1) = (m : Int) - 1 := IntWalk.i64_in _ (by omega);clear hr hr2 hcx hcl hbl hz;go_wp2_with fail;refine C1.mono ?_;rintro e w1 ⟨rfl, rfl⟩;clear C1
   by_cases h0 : cl = 0
   ·subst h0;have HF : Hid ((B.findS (xs.take i)).1 = (m : Int)) := (by show _ = _; rw [HS.out, HST.out, if_pos HCL.out.symm]);go_wp2;go_returns;exact ⟨by rw [HF.out]; rfl, HWW.out⟩
   ·have hcb : (cl == 0) = false := (by simpa using h0);have HS2 : Hid ((B.findS (xs.take i)).1 = (B.findR ((xs.take i).take m).reverse 0).1) := (by show _ = _; rw [HS.out, HST.out, if_neg (fun e => h0 (HCL.out.trans e))]; exact zko _ _ _);clear h0;go_wp2;go_roundw
    case rel => exact ⟨m, (m : Int) - 1, by omega, by omega, rfl, HS2, HWW⟩
    case measure => simp [intOf] <;> omega
  ·obtain rfl : z = -1 := (by omega);obtain rfl : j = 0 := (by omega);have HF : Hid ((B.findS (xs.take i)).1 = -1) := (by show _ = _; rw [HS.out]; rfl);go_wp2;go_returns;exact ⟨by rw [HF.out]; rfl, HWW.out⟩
theorem rblocked_any (hR : RefIs w pv B) (A : Option Addr) (n cp : Nat) (xs : List Int) (hrd : Rd w A n (Rs xs)) (hn : xs.length = n) (hn2 : n <= 1000000) (z : Int) :
  Calls Tryz.prog 92 #[pv, .slice A n cp, .int .i64 z] w fun e w' => e = .returned (.bool (B.blocked xs z)) /\ Drew w w' := by
 have HN := hz0q hn
 by_cases hz0 : z < 0
 ·have HF : Hid (B.blocked xs z = true) := zhw xs z (.inl hz0);clear hn hrd hR;go_enter Tryz.func92, Tryz.ntmps92;go_wp2;go_returns;exact ⟨by rw [HF.out]; rfl, Drew.refl _⟩
 by_cases hzn : (n : Int) <= z
 ·have HF : Hid (B.blocked xs z = true) := zhw xs z (.inr (by rw [hn]; exact hzn));clear hn hrd hR;go_enter Tryz.func92, Tryz.ntmps92;go_wp2;go_returns;exact ⟨by rw [HF.out]; rfl, Drew.refl _⟩
 obtain ⟨i, rfl⟩ : ∃ i : Nat, z = i := ⟨z.toNat, by omega⟩;have hin : i < n := (by omega);obtain ⟨y, hy⟩ : ∃ y, xs[i]? = some y := ⟨_, List.getElem?_eq_getElem (by rw [hn]; exact hin)⟩;have HBK : Hid (B.blocked xs (i : Int) = B.blk (xs.take i) (B.cls y)) := ziy hy;have HD1 := zjz (cp := cp) hR A n xs hrd hn hn2 i (by omega);have hqlen : (xs.take i).length = i := (by rw [List.length_take, hn]; omega);rcases find_place (B := B) (xs.take i) with h1 | ⟨h, hh, hhi⟩
 ·have HF : Hid (B.blocked xs (i : Int) = true) := (by show _ = _; rw [HBK.out]; exact blk_no _ _ h1);rw [h1] at HD1;clear hn hrd hR h1 hy hqlen;go_enter Tryz.func92, Tryz.ntmps92;go_wp2_with fail;refine HD1.mono ?_;rintro e w1 ⟨rfl, rfl⟩;clear HD1;go_wp2;go_returns;exact ⟨by rw [HF.out]; rfl, Drew.refl _⟩
 rw [hqlen] at hhi;rw [hh] at HD1;have HBD : Hid (B.blocked xs (i : Int) = ((xs.take i).drop (h + 1)).any fun m => decide (B.cls y <= B.cls m)) := (by show _ = _; rw [HBK.out]; exact blk_drop _ _ hh);have hh0 : ¬ ((h : Int) < 0) := (by omega);have hwh : IntKind.i64.wrap ((h : Int) + 1) = (h : Int) + 1 := IntWalk.i64_in _ (by omega);obtain ⟨b, off, rfl, hbl, hcx⟩ := hrd.at_ (by omega);have cy := hcx i (.int .i32 y) (by simp [Rs, hy]);have HCX : Hid (∀ k u, xs[k]? = some u -> w.cell? ⟨b, off + k, none⟩ = some (.int .i32 u)) := fun k u hu => hcx k (.int .i32 u) (by simp [Rs, hu]);have CY := fun W (hb : Below w.heap.size w W) => zcp (hR.below hb) y;have HR := hz0q hR;obtain ⟨ci, hci⟩ : ∃ ci, ci = B.cls y := ⟨_, rfl⟩;have HCI := hz0q hci;have HQL := hz0q hqlen;rw [<- hci] at CY;rw [<- hci] at HBD;have HCY := hz0q CY;have hini : (i : Int) < (n : Int) := (by omega);clear hn hrd hR hh hy hqlen hcx CY hci hzn;go_enter Tryz.func92, Tryz.ntmps92;go_wp2_with fail;refine HD1.mono ?_;rintro e w1 ⟨rfl, rfl⟩;clear HD1;have HD0 : Hid (Drew w w) := Drew.refl _;go_wp2
 go_loopw [8] (fun s8 wr => ∃ k : Nat, k <= i /\ s8 = .int .i64 k /\ Hid (B.blocked xs (i : Int) = ((xs.take i).drop k).any fun m => decide (ci <= B.cls m)) /\ Hid (Drew w wr)) (fun s8 _ => i - (intOf s8).toNat)
 case atStart => exact ⟨h + 1, by omega, by go_num, HBD, HD0⟩
 case round =>
  obtain ⟨k, hk, rfl, HSB, HDW⟩ := hrel
  by_cases hlt : k < i
  ·obtain ⟨u, hu⟩ : ∃ u, xs[k]? = some u := ⟨_, List.getElem?_eq_getElem (by rw [HN.out]; omega)⟩;have hki : (k : Int) < (i : Int) := (by omega);have hkn : (k : Int) < (n : Int) := by omega
   have HSN : Hid (((xs.take i).drop k).any (fun m => decide (ci <= B.cls m)) = (decide (ci <= B.cls u) || ((xs.take i).drop (k + 1)).any fun m => decide (ci <= B.cls m))) := by
    show _ = _;have h1 : (xs.take i)[k]? = some u := (by rw [List.getElem?_take, if_pos hlt]; exact hu);obtain ⟨hkl, he⟩ := List.getElem?_eq_some_iff.1 h1;rw [List.drop_eq_getElem_cons hkl, he, List.any_cons]
   obtain ⟨cu, hcu⟩ : ∃ cu, cu = B.cls u := ⟨_, rfl⟩;have CU : Hid (∀ W, Below wr.heap.size wr W -> Calls Tryz.prog 89 #[pv, .int .i32 u] W fun e w' => e = .returned (.int .i64 (B.cls u)) /\ W = w') := fun W h => zcp (HR.out.below (zb (HDW.out.below _) h)) u;have CI : Hid (∀ W, Below wr.heap.size wr W -> Calls Tryz.prog 89 #[pv, .int .i32 y] W fun e w' => e = .returned (.int .i64 ci) /\ W = w') := fun W h => HCY.out _ (zb (HDW.out.below _) h);rw [<- hcu] at CU;rw [<- hcu] at HSN
   have HMK : Hid (∀ w', Below wr.heap.size wr w' -> (w'.cell? ⟨b, off + k, none⟩ = some (.int .i32 u) /\ w'.cell? ⟨b, off + i, none⟩ = some (.int .i32 y)) /\ Below wr.heap.size wr w') := fun w' h =>
    ⟨⟨((zb (HDW.out.below _) h).cell (p := ⟨b, off + k, none⟩) hbl).trans (HCX.out k u hu), ((zb (HDW.out.below _) h).cell (p := ⟨b, off + i, none⟩) hbl).trans cy⟩, h⟩
   have HDQ : Hid (Drew w wr.drew) := HDW.out.trans ⟨1, rfl⟩;clear hu hcu
   by_cases hle : ci <= cu
   ·have HF : Hid (B.blocked xs (i : Int) = true) := (by show _ = _; rw [HSB.out, HSN.out, decide_eq_true hle]; rfl);go_upto_region 9 with fail;refine wp_region_held_drew (S := fun w' => (w'.cell? ⟨b, off + k, none⟩ = some (.int .i32 u) /\ w'.cell? ⟨b, off + i, none⟩ = some (.int .i32 y)) /\ Below wr.heap.size wr w') (by kernel_rfl) (HMK.out _ (Drew.to ⟨1, rfl⟩)) (fun hH0 => ?_);refine tkH 0 pv rfl hH0 ?_;try simp only [gA, gB, gC, Act.put, gD, gE, gF]
    refine tkH 1 (.slice (some ⟨b, off, none⟩) n cp) rfl hH0 ?_;try simp only [gA, gB, gC, Act.put, gD, gE, gF]
    refine tkH 2 (.int .i64 k) rfl hH0 ?_;try simp only [gA, gB, gC, Act.put, gD, gE, gF]
    refine tkH 3 (.pointer (some ⟨b, off + k, none⟩)) rfl hH0 ?_;try simp only [gA, gB, gC, Act.put, gD, gE, gF]
    refine tkH 4 (.int .i32 u) rfl hH0 ?_;try simp only [gA, gB, gC, Act.put, gD, gE, gF]
    refine tkH 6 pv rfl hH0 ?_;try simp only [gA, gB, gC, Act.put, gD, gE, gF]
    refine tkH 7 (.slice (some ⟨b, off, none⟩) n cp) rfl hH0 ?_;try simp only [gA, gB, gC, Act.put, gD, gE, gF]
    refine tkH 8 (.int .i64 i) rfl hH0 ?_;try simp only [gA, gB, gC, Act.put, gD, gE, gF]
    refine tkH 9 (.pointer (some ⟨b, off + i, none⟩)) rfl hH0 ?_;try simp only [gA, gB, gC, Act.put, gD, gE, gF]
    refine tkH 10 (.int .i32 y) rfl hH0 ?_;try simp only [gA, gB, gC, Act.put, gD, gE, gF]
    refine wpAnyH_ready (rs := [5]) (by kernel_rfl) (by simp) ?_;refine AllReadyH.cons rfl (fun K hK => ?_) AllReadyH.nil;go_simp
    refine (CU.out _ hH0.2).mono ?_;rintro e w50 ⟨rfl, rfl⟩;refine hK.out _ _ (hH0) (fun hH1 => ?_);clear hK K hH0;try simp only [gA, gB, gC, Act.put, gD, gE, gF]
    refine wpAnyH_ready (rs := [11]) (by kernel_rfl) (by simp) ?_;refine AllReadyH.cons rfl (fun K hK => ?_) AllReadyH.nil;go_simp
    refine (CI.out _ hH1.2).mono ?_;rintro e w51 ⟨rfl, rfl⟩;refine hK.out _ _ (hH1) (fun hH2 => ?_);clear hK K hH1;try simp only [gA, gB, gC, Act.put, gD, gE, gF]
    refine tkH 12 (.bool true) rfl hH2 ?_;try simp only [gA, gB, gC, Act.put, gD, gE, gF]
    refine wpAnyH_done (by kernel_rfl) ?_ _;clear hH2;go_wp2;go_returns;exact ⟨by rw [HF.out]; rfl, HDQ.out⟩
   ·have HS2 : Hid (B.blocked xs (i : Int) = ((xs.take i).drop (k + 1)).any fun m => decide (ci <= B.cls m)) := (by show _ = _; rw [HSB.out, HSN.out, decide_eq_false hle, Bool.false_or]);go_upto_region 9 with fail;refine wp_region_held_drew (S := fun w' => (w'.cell? ⟨b, off + k, none⟩ = some (.int .i32 u) /\ w'.cell? ⟨b, off + i, none⟩ = some (.int .i32 y)) /\ Below wr.heap.size wr w') (by kernel_rfl) (HMK.out _ (Drew.to ⟨1, rfl⟩)) (fun hH0 => ?_);refine tkH 0 pv rfl hH0 ?_;try simp only [gA, gB, gC, Act.put, gD, gE, gF]
    refine tkH 1 (.slice (some ⟨b, off, none⟩) n cp) rfl hH0 ?_;try simp only [gA, gB, gC, Act.put, gD, gE, gF]
    refine tkH 2 (.int .i64 k) rfl hH0 ?_;try simp only [gA, gB, gC, Act.put, gD, gE, gF]
    refine tkH 3 (.pointer (some ⟨b, off + k, none⟩)) rfl hH0 ?_;try simp only [gA, gB, gC, Act.put, gD, gE, gF]
    refine tkH 4 (.int .i32 u) rfl hH0 ?_;try simp only [gA, gB, gC, Act.put, gD, gE, gF]
    refine tkH 6 pv rfl hH0 ?_;try simp only [gA, gB, gC, Act.put, gD, gE, gF]
    refine tkH 7 (.slice (some ⟨b, off, none⟩) n cp) rfl hH0 ?_;try simp only [gA, gB, gC, Act.put, gD, gE, gF]
    refine tkH 8 (.int .i64 i) rfl hH0 ?_;try simp only [gA, gB, gC, Act.put, gD, gE, gF]
    refine tkH 9 (.pointer (some ⟨b, off + i, none⟩)) rfl hH0 ?_;try simp only [gA, gB, gC, Act.put, gD, gE, gF]
    refine tkH 10 (.int .i32 y) rfl hH0 ?_;try simp only [gA, gB, gC, Act.put, gD, gE, gF]
    refine wpAnyH_ready (rs := [5]) (by kernel_rfl) (by simp) ?_;refine AllReadyH.cons rfl (fun K hK => ?_) AllReadyH.nil;go_simp
    refine (CU.out _ hH0.2).mono ?_;rintro e w50 ⟨rfl, rfl⟩;refine hK.out _ _ (hH0) (fun hH1 => ?_);clear hK K hH0;try simp only [gA, gB, gC, Act.put, gD, gE, gF]
    refine wpAnyH_ready (rs := [11]) (by kernel_rfl) (by simp) ?_;refine AllReadyH.cons rfl (fun K hK => ?_) AllReadyH.nil;go_simp
    refine (CI.out _ hH1.2).mono ?_;rintro e w51 ⟨rfl, rfl⟩;refine hK.out _ _ (hH1) (fun hH2 => ?_);clear hK K hH1;try simp only [gA, gB, gC, Act.put, gD, gE, gF]
    refine tkH 12 (.bool false) rfl hH2 ?_;try simp only [gA, gB, gC, Act.put, gD, gE, gF]
    refine wpAnyH_done (by kernel_rfl) ?_ _;clear hH2;go_wp2;go_roundw
    case rel => exact ⟨k + 1, by omega, by go_num, HS2, HDQ⟩
    case measure => simp [intOf] <;> omega
  ·obtain rfl : k = i := (by omega);have hki : (k : Int) <= (k : Int) := Int.le_refl _;have HF : Hid (B.blocked xs (k : Int) = false) := (by show _ = _; rw [HSB.out, List.drop_eq_nil_of_le (by rw [HQL.out]; exact Nat.le_refl _)]; rfl);go_wp2;go_returns;exact ⟨by rw [HF.out]; rfl, HDW.out⟩
theorem rcjoin_any (hR : RefIs w pv B) (hbd : zan B) (A : Option Addr) (n cp : Nat) (xs : List Int) (hrd : Rd w A n (Rs xs)) (hn : xs.length = n) (hx : ∀ x ∈ xs, R32 x) (hn2 : n <= 999999) :
  Calls Tryz.prog 54 #[pv, .slice A n cp] w (zag w (B.join xs)) := by
 have HN := hz0q hn;have HR := hz0q hR;have HRD := hz0q hrd;have HX := hz0q hx;have HBD := hz0q hbd;clear hrd hn hR hx hbd;go_enter Tryz.func54, Tryz.ntmps54;go_wp2
 go_loopw [5, 6] (fun s5 i wr => ∃ (k L : Nat) (out : List Int) (A9 : Option Addr) (c9 : Nat), k <= n /\ L <= k /\ i = .int .i64 k /\ s5 = .slice A9 L c9 /\ Hid (L = out.length) /\ Hid (out = (B.jn xs k).out) /\ Hid (wr.ownsRow w.heap.size 21 1 (.slice A9 L c9) L (Rs out)) /\ Hid (Below w.heap.size w wr)) (fun _ i _ => n - (intOf i).toNat)
 case atStart => exact ⟨0, 0, [], none, 0, Nat.zero_le _, Nat.le_refl _, rfl, rfl, rfl, rfl, World.ownsRow_nil _ _ _ _, Below.refl _ _⟩
 case round =>
  obtain ⟨k, L, out, A9, c9, hk, hLk, rfl, rfl, HL, HO, HOWN, HBW⟩ := hrel
  by_cases hlt : k < n
  ·obtain ⟨r, hr⟩ : ∃ r, xs[k]? = some r := ⟨_, List.getElem?_eq_getElem (by rw [HN.out]; exact hlt)⟩;obtain ⟨b, off, rfl, hbl, hcx⟩ := HRD.out.at_ (by omega);have c0 : wr.cell? ⟨b, off + k, none⟩ = some (.int .i32 r) := (HBW.out.cell (p := ⟨b, off + k, none⟩) hbl).trans (hcx k (.int .i32 r) (by simp [Rs, hr]));have HC0 : Hid (∀ W, Below w.heap.size w W -> W.cell? ⟨b, off + k, none⟩ = some (.int .i32 r)) := fun W h => (h.cell (p := ⟨b, off + k, none⟩) hbl).trans (hcx k (.int .i32 r) (by simp [Rs, hr]));have hki : (k : Int) < (n : Int) := (by omega);have HJS := hz0q (znh (B := B) hr);have HRR := hz0q (HX.out r (List.mem_of_getElem? hr));have hbx : Below wr.heap.size wr (wr.alloc (.cells #[.int .i32 r] 21)) := (Below.refl _ _).alloc (Nat.le_refl _) _;have hownx := z8 HOWN.out hbx;have hbX := zb HBW.out hbx;have hbsX := hbX.size;have HBL := hz0q hbl;clear hr hcx hbl;go_wp2_with (at_builtin; refine z6 zaa _ rfl _ _ rfl w.heap.size rfl hownx rfl (Rd.new1 _ _ _) (zb6 rfl) (by omega) (by omega) hbsX ?_)
   intro A4 c4 w4 hown4 hg4 hat4;have HB4 := hz0q (za7 hbX hbsX hownx hg4);have HOWN4 := hz0q hown4;have hlen4 : (out ++ [r]).length = L + 1 := (by rw [List.length_append, <- HL.out]; rfl);obtain ⟨Ay, cy, hvy, hLc, _, hrd4⟩ := Rd.of_own hown4;injection hvy with e1 _ e3;subst e1 e3;have hrd4' : Rd w4 A4 (L + 1) (Rs (out ++ [r])) := by simpa [Rs] using hrd4
   have HBK : Hid (B.blocked (out ++ [r]) (L : Int) = B.blk out (B.cls r)) := by
    show _ = _;have h1 : (out ++ [r])[L]? = some r := (by rw [HL.out]; simp);rw [ziy h1, HL.out, List.take_left]
   have RB := rblocked_any (cp := c4) (HR.out.below HB4.out) A4 (L + 1) (out ++ [r]) hrd4' hlen4 (by omega) (L : Int);rw [HBK.out] at RB;have hwL : IntKind.i64.wrap ((L : Int) + 1 - 1) = (L : Int) := (by rw [IntWalk.i64_in _ (by omega)]; omega);have HRD4 := hz0q hrd4';have HLN4 := hz0q hlen4;have HSB := step_blk (B := B) (jn_ok xs k) (zni xs k) r;have HSF := step_free (B := B) (jn_ok xs k) (zni xs k) r;rw [<- HO.out] at HSB HSF;have HSBH := hz0q HSB;have HSFH := hz0q HSF;obtain ⟨bk, hbk⟩ : ∃ bk, bk = B.blk out (B.cls r) := ⟨_, rfl⟩;rw [<- hbk] at RB;have HBB := hz0q hbk;clear hownx hbX hbsX hbx c0 hown4 hg4 hat4 hrd4 hrd4' hlen4 HSB HSF hbk;go_wp2_with fail;refine RB.mono ?_;rintro e w5 ⟨rfl, hd5⟩;have HB5 := hz0q (HB4.out.trans (hd5.below _));have HOWN5 := hz0q (z8 HOWN4.out (hd5.below _));have HRD5 := hz0q (HRD4.out.drewTo hd5);clear RB hd5
   cases bk with
   | true =>
    have HO4 : Hid (out ++ [r] = (B.jn xs (k + 1)).out) := (by show _ = _; rw [HJS.out, HSBH.out HBB.out.symm, zf1, <- HO.out]);have HL4 : Hid (L + 1 = (out ++ [r]).length) := HLN4.out.symm
    have HW4 : Hid (w5.ownsRow w.heap.size 21 1 (.slice A4 (L + 1) c4) (L + 1) (Rs (out ++ [r]))) := by
     have h9 := HOWN5.out;show w5.ownsRow _ _ _ _ _ _;simpa [Rs] using h9
    go_wp2;go_roundw
    case rel => exact ⟨k + 1, L + 1, _, A4, c4, by omega, by omega, by go_num, rfl, HL4, HO4, HW4, HB5⟩
    case measure => simp [intOf] <;> omega
   | false =>
    obtain ⟨c0, hc0, hst⟩ := HSFH.out HBB.out.symm;have HST := hz0q hst;obtain ⟨h, hh⟩ : ∃ h, h = (B.jn xs k).pre.length := ⟨_, rfl⟩;have hfo : (B.findS out).1 = (h : Int) := (by rw [HO.out, hh]; exact (find_out (jn_ok xs k) (zni xs k)).2 c0 hc0);have hat : out[h]? = some c0 := (by rw [HO.out, hh]; exact JS.out_at hc0);have hhL : h < L := (by rw [HL.out]; exact (List.getElem?_eq_some_iff.1 hat).1);have hat2 : (out ++ [r])[h]? = some c0 := (by rw [List.getElem?_append_left (by rw [<- HL.out]; exact hhL)]; exact hat);have RH := zjz (cp := c4) (HR.out.below HB5.out) A4 (L + 1) (out ++ [r]) HRD5.out HLN4.out (by omega) L (by omega);rw [HL.out, List.take_left, hfo, <- HL.out] at RH;have hc0R : R32 c0 := jn_R HBD.out HX.out k c0 (by rw [<- HO.out]; exact List.mem_of_getElem? hat);obtain ⟨g, hgA⟩ := zl4 HOWN5.out (zl1 HOWN5.out (m := L) rfl);subst hgA;have HG := hz0q (zl3 HOWN5.out);have HH := hz0q hh;have HC0N := hz0q hc0;have HAT2 := hz0q hat2;have HC0R := hz0q hc0R;have hhn : (h : Int) < (L : Int) + 1 := (by omega);clear hst hc0 hh hfo hat hat2 hc0R;go_wp2_with fail;refine RH.mono ?_;rintro e w6 ⟨rfl, rfl⟩;clear RH;have PR : Hid (∀ W, Below w5.heap.size w5 W -> Calls Tryz.prog 83 #[pv, .int .i32 c0, .int .i32 r] W fun e w' => e = .returned (zbm (B.pair c0 r)) /\ Below W.heap.size W w') := fun W hW => rpair_is (HR.out.below (zb HB5.out hW)) c0 r HC0R.out HRR.out
    have HMK : Hid (∀ w', Below w5.heap.size w5 w' -> (w'.cell? ⟨g, h, none⟩ = some (.int .i32 c0) /\ w'.cell? ⟨b, off + k, none⟩ = some (.int .i32 r)) /\ Below w5.heap.size w5 w') := fun w' hW => by
     refine ⟨⟨?_, HC0.out w' (zb HB5.out hW)⟩, hW⟩;obtain ⟨b', o', e, hc'⟩ := (HRD5.out.below hW).2 (by omega);injection e with e;injection e with e1 e2;subst e1 e2;have := hc' h (.int .i32 c0) (by rw [Rs, List.getElem?_map, HAT2.out]; rfl);rwa [Nat.zero_add] at this
    cases hpr : B.pair c0 r with
    | none =>
     have HO4 : Hid (out ++ [r] = (B.jn xs (k + 1)).out) := (by show _ = _; rw [HJS.out, HST.out, hpr, zf1, <- HO.out]);have HL4 : Hid (L + 1 = (out ++ [r]).length) := HLN4.out.symm;rw [hpr, show zbm none = .tuple #[.int .i32 0, .bool false] from rfl] at PR;clear hpr;go_upto_region 9 with fail;refine wp_region_held_drew (S := fun w' => (w'.cell? ⟨g, h, none⟩ = some (.int .i32 c0) /\ w'.cell? ⟨b, off + k, none⟩ = some (.int .i32 r)) /\ Below w5.heap.size w5 w') (by kernel_rfl) (HMK.out _ (Drew.to ⟨1, rfl⟩)) (fun hH0 => ?_);refine tkH 0 pv rfl hH0 ?_;try simp only [gA, gB, gC, Act.put, gD, gE, gF]
     refine tkH 1 (.slice (some ⟨g, 0, none⟩) (L + 1) c4) rfl hH0 ?_;try simp only [gA, gB, gC, Act.put, gD, gE, gF]
     refine tkH 2 (.int .i64 h) rfl hH0 ?_;try simp only [gA, gB, gC, Act.put, gD, gE, gF]
     refine tkH 3 (.pointer (some ⟨g, h, none⟩)) rfl hH0 ?_;try simp only [gA, gB, gC, Act.put, gD, gE, gF]
     refine tkH 4 (.int .i32 c0) rfl hH0 ?_;try simp only [gA, gB, gC, Act.put, gD, gE, gF]
     refine tkH 5 (.slice (some ⟨b, off, none⟩) n cp) rfl hH0 ?_;try simp only [gA, gB, gC, Act.put, gD, gE, gF]
     refine tkH 6 (.int .i64 k) rfl hH0 ?_;try simp only [gA, gB, gC, Act.put, gD, gE, gF]
     refine tkH 7 (.pointer (some ⟨b, off + k, none⟩)) rfl hH0 ?_;try simp only [gA, gB, gC, Act.put, gD, gE, gF]
     refine tkH 8 (.int .i32 r) rfl hH0 ?_;try simp only [gA, gB, gC, Act.put, gD, gE, gF]
     refine wpAnyH_ready (rs := [9]) (by kernel_rfl) (by simp) ?_;refine AllReadyH.cons rfl (fun K hK => ?_) AllReadyH.nil;go_simp
     refine (PR.out _ hH0.2).mono ?_;rintro e w50 ⟨rfl, hb6⟩;refine hK.out _ _ (HMK.out _ (zb hH0.2 hb6)) (fun hH1 => ?_);clear hK K hH0;try simp only [gA, gB, gC, Act.put, gD, gE, gF]
     refine tkH 10 (.tuple #[.int .i32 0, .bool false]) rfl hH1 ?_;try simp only [gA, gB, gC, Act.put, gD, gE, gF]
     refine tkH 11 (.int .i32 0) rfl hH1 ?_;try simp only [gA, gB, gC, Act.put, gD, gE, gF]
     refine tkH 12 (.bool false) rfl hH1 ?_;try simp only [gA, gB, gC, Act.put, gD, gE, gF]
     refine tkH 13 (.int .i32 0) rfl hH1 ?_;try simp only [gA, gB, gC, Act.put, gD, gE, gF]
     refine tkH 14 (.bool false) rfl hH1 ?_;try simp only [gA, gB, gC, Act.put, gD, gE, gF]
     refine wpAnyH_done (by kernel_rfl) ?_ _;have HB6 := hz0q hH1.2;clear hH1;have HB7 := hz0q (zb HB5.out HB6.out)
     have HW4 : Hid (w50.ownsRow w.heap.size 21 1 (.slice (some ⟨g, 0, none⟩) (L + 1) c4) (L + 1) (Rs (out ++ [r]))) := by
      have h9 := z8 HOWN5.out HB6.out;show w50.ownsRow _ _ _ _ _ _;simpa [Rs] using h9
     clear PR HMK;go_wp2;go_roundw
     case rel => exact ⟨k + 1, L + 1, _, _, c4, by omega, by omega, by go_num, rfl, HL4, HO4, HW4, HB7⟩
     case measure => simp [intOf] <;> omega
    | some c1 =>
     have HO4 : Hid (out.set h c1 = (B.jn xs (k + 1)).out) := by
      show _ = _;have hs : B.step (B.jn xs k) r = ⟨(B.jn xs k).pre, some c1, (B.jn xs k).ms⟩ := (by rw [HST.out, hpr]);have ho : out = (B.jn xs k).pre ++ ([c0] ++ (B.jn xs k).ms) := (by rw [HO.out]; unfold JS.out; rw [HC0N.out]; rfl);rw [HJS.out, hs, HH.out];rw [ho];show ((B.jn xs k).pre ++ ([c0] ++ (B.jn xs k).ms)).set (B.jn xs k).pre.length c1 = (B.jn xs k).pre ++ ([c1] ++ (B.jn xs k).ms);rw [List.set_append_right _ _ (Nat.le_refl _), Nat.sub_self];rfl
     rw [hpr, show zbm (some c1) = .tuple #[.int .i32 c1, .bool true] from rfl] at PR;clear hpr;go_upto_region 9 with fail;refine wp_region_held_drew (S := fun w' => (w'.cell? ⟨g, h, none⟩ = some (.int .i32 c0) /\ w'.cell? ⟨b, off + k, none⟩ = some (.int .i32 r)) /\ Below w5.heap.size w5 w') (by kernel_rfl) (HMK.out _ (Drew.to ⟨1, rfl⟩)) (fun hH0 => ?_);refine tkH 0 pv rfl hH0 ?_;try simp only [gA, gB, gC, Act.put, gD, gE, gF]
     refine tkH 1 (.slice (some ⟨g, 0, none⟩) (L + 1) c4) rfl hH0 ?_;try simp only [gA, gB, gC, Act.put, gD, gE, gF]
     refine tkH 2 (.int .i64 h) rfl hH0 ?_;try simp only [gA, gB, gC, Act.put, gD, gE, gF]
     refine tkH 3 (.pointer (some ⟨g, h, none⟩)) rfl hH0 ?_;try simp only [gA, gB, gC, Act.put, gD, gE, gF]
     refine tkH 4 (.int .i32 c0) rfl hH0 ?_;try simp only [gA, gB, gC, Act.put, gD, gE, gF]
     refine tkH 5 (.slice (some ⟨b, off, none⟩) n cp) rfl hH0 ?_;try simp only [gA, gB, gC, Act.put, gD, gE, gF]
     refine tkH 6 (.int .i64 k) rfl hH0 ?_;try simp only [gA, gB, gC, Act.put, gD, gE, gF]
     refine tkH 7 (.pointer (some ⟨b, off + k, none⟩)) rfl hH0 ?_;try simp only [gA, gB, gC, Act.put, gD, gE, gF]
     refine tkH 8 (.int .i32 r) rfl hH0 ?_;try simp only [gA, gB, gC, Act.put, gD, gE, gF]
     refine wpAnyH_ready (rs := [9]) (by kernel_rfl) (by simp) ?_;refine AllReadyH.cons rfl (fun K hK => ?_) AllReadyH.nil;go_simp
     refine (PR.out _ hH0.2).mono ?_;rintro e w50 ⟨rfl, hb6⟩;refine hK.out _ _ (HMK.out _ (zb hH0.2 hb6)) (fun hH1 => ?_);clear hK K hH0;try simp only [gA, gB, gC, Act.put, gD, gE, gF]
     refine tkH 10 (.tuple #[.int .i32 c1, .bool true]) rfl hH1 ?_;try simp only [gA, gB, gC, Act.put, gD, gE, gF]
     refine tkH 11 (.int .i32 c1) rfl hH1 ?_;try simp only [gA, gB, gC, Act.put, gD, gE, gF]
     refine tkH 12 (.bool true) rfl hH1 ?_;try simp only [gA, gB, gC, Act.put, gD, gE, gF]
     refine tkH 13 (.int .i32 c1) rfl hH1 ?_;try simp only [gA, gB, gC, Act.put, gD, gE, gF]
     refine tkH 14 (.bool true) rfl hH1 ?_;try simp only [gA, gB, gC, Act.put, gD, gE, gF]
     refine wpAnyH_done (by kernel_rfl) ?_ _;have HB6 := hz0q hH1.2;have hch := hH1.1.1;clear hH1;have HB7 := hz0q (zb HB5.out HB6.out);have how := z8 HOWN5.out HB6.out;have hfr : w50.frozen? ⟨g, h, none⟩ = false := (by obtain ⟨_, cur, hcu⟩ := zl3 how; exact zc hcu h);have hset := zj5 (j := h) how (by omega) (.int .i32 c1);have eset : (Rs out ++ [Value.int .i32 r]).set h (Value.int .i32 c1) = Rs (out.set h c1) ++ [Value.int .i32 r] := (by rw [List.set_append_left _ _ (by rw [zbo, <- HL.out]; exact hhL)]; simp [Rs, List.map_set]);rw [eset] at hset;have HW8 := hz0q (own_shrink hset (by rw [zbo, List.length_set, <- HL.out]));have HB8 : Hid (Below w.heap.size w (w50.setCell ⟨g, h, none⟩ (.int .i32 c1))) := Below.setCell (p := ⟨g, h, none⟩) HB7.out HG.out.1 _;have HL8 : Hid (L = (out.set h c1).length) := (by show _ = _; rw [List.length_set]; exact HL.out);have hc4 : L + 1 <= c4 := hLc;have hc4n : ¬ (c4 = 0) := (by omega);have hcL : (L : Int) <= (c4 : Int) := (by omega);clear PR HMK how hset eset;go_wp2;go_roundw
     case rel => exact ⟨k + 1, L, _, _, c4, by omega, by omega, by go_num, by simp, HL8, HO4, HW8, HB8⟩
     case measure => simp [intOf] <;> omega
  ·obtain rfl : k = n := (by omega);have hki : (k : Int) <= (k : Int) := Int.le_refl _
   have HF : Hid (zag w (B.join xs) (.returned (.slice A9 L c9)) wr) := by
    have h1 : out = B.join xs := (by rw [HO.out]; exact znj HN.out.symm);rw [<- h1];have h2 := HOWN.out;rw [HL.out] at h2;exact ⟨A9, c9, by rw [HL.out], h2, HBW.out⟩
   go_wp2;go_returns;exact HF.out
end
end
section
open Go.RowKit
section
variable {w0 : World} {v : Value} {B : BaseF} {c : Bool}
theorem rone_any (hR : RefIs w0 v B) (hbd : zan B) (r : Int) : R32 r -> ∀ w, Below w0.heap.size w0 w -> Calls Tryz.prog 127 #[v, .bool c, .int .i32 r] w (zag w (B.one c r)) := by
 induction r using B.wf.induction with
 | _ r ih =>
 intro hr w hw;have D1 := rdecomp_is (hR.below hw) (Below.refl _ _) r hr;obtain ⟨kd, il, hd⟩ : ∃ kd il, B.dec r = (kd, il) := ⟨_, _, rfl⟩;rw [hd] at D1;have hil : ∀ y ∈ il, R32 y := (by have := hbd.dec r; rw [hd] at this; exact this);have hl18 : il.length <= 18 := (by have := hbd.declen r; rw [hd] at this; exact this);have HIH : Hid (∀ y ∈ il, ∀ w, Below w0.heap.size w0 w -> Calls Tryz.prog 127 #[v, .bool c, .int .i32 y] w (zag w (B.one c y))) := fun y hy => ih y (by rw [hd]; exact hy) (hil y hy);have HPA : Hid (B.parts c r = if kd ≠ [] /\ c = false then [] else il) := (by show _ = _; unfold BaseF.parts; rw [hd]);have HLEN := hz0q (hbd.len c r);have HW := hz0q hw;clear ih hd hil hbd hw hR;go_enter Tryz.func127, Tryz.ntmps127;go_wp2_with fail;refine D1.mono ?_;rintro e w1 ⟨A, cp, rfl, hrd, hb1, _⟩;clear D1
 by_cases h0 : il = []
 ·subst h0;have HP : Hid (B.parts c r = []) := (by show _ = _; rw [HPA.out]; split <;> rfl);clear hrd;have hone : B.one c r = [r] := B.one_none HP.out
  have hown : (w1.alloc (.cells #[.int .i32 r] 21)).ownsRow w.heap.size 21 1 (.slice (some ⟨w1.heap.size, 0, none⟩) 1 1) 1 (Rs [r]) :=
   ⟨rfl, .inr ⟨w1.heap.size, 1, #[.int .i32 r], rfl, hb1.size, zr _ _ _, Nat.le_refl _, by unfold maxLen; omega, rfl, rfl⟩⟩
  have hb2 : Below w.heap.size w (w1.alloc (.cells #[.int .i32 r] 21)) := hb1.alloc hb1.size _
  have HF : Hid (zag w (B.one c r) (.returned (.slice (some ⟨w1.heap.size, 0, none⟩) 1 1)) (w1.alloc (.cells #[.int .i32 r] 21))) := by
   show zag _ _ _ _;rw [hone];exact ⟨_, _, rfl, hown, hb2⟩
  clear hone hown hb2 hb1;go_wp2;go_returns;exact HF.out
 ·have hpos : 0 < il.length := List.length_pos_iff.2 h0;obtain ⟨m, hm⟩ : ∃ m, m = il.length := ⟨_, rfl⟩;have hmz : ((m : Int) == 0) = false := (by simp; omega);have HM := hz0q hm;have HH0 := hz0q h0;clear h0
  by_cases hkc : kd ≠ [] /\ c = false
  ·have HP : Hid (B.parts c r = []) := (by show _ = _; rw [HPA.out, if_pos hkc]);obtain ⟨hk0, rfl⟩ := hkc
   have hte : (mk8 kd).toList.isEmpty = false := by
    rw [zj, zz]
    cases kd with
    | nil => exact absurd rfl hk0
    | cons a t => rfl
   rw [<- hm];clear hrd hk0 hm hpos;have hone : B.one false r = [r] := B.one_none HP.out
   have hown : (w1.alloc (.cells #[.int .i32 r] 21)).ownsRow w.heap.size 21 1 (.slice (some ⟨w1.heap.size, 0, none⟩) 1 1) 1 (Rs [r]) :=
    ⟨rfl, .inr ⟨w1.heap.size, 1, #[.int .i32 r], rfl, hb1.size, zr _ _ _, Nat.le_refl _, by unfold maxLen; omega, rfl, rfl⟩⟩
   have hb2 : Below w.heap.size w (w1.alloc (.cells #[.int .i32 r] 21)) := hb1.alloc hb1.size _
   have HF : Hid (zag w (B.one false r) (.returned (.slice (some ⟨w1.heap.size, 0, none⟩) 1 1)) (w1.alloc (.cells #[.int .i32 r] 21))) := by
    show zag _ _ _ _;rw [hone];exact ⟨_, _, rfl, hown, hb2⟩
   clear hone hown hb2 hb1;go_wp2;go_returns;exact HF.out
  ·have HP : Hid (B.one c r = il.flatMap (B.one c)) := by
    show _ = _;have hp : B.parts c r = il := (by rw [HPA.out, if_neg hkc]);rw [B.one_some (by rw [hp]; exact HH0.out), hp]
   have HRD := hz0q hrd;have hb1s := hb1.size;have HB1 := hz0q hb1;rw [<- hm];have hm18 : m <= 18 := by omega
   by_cases hk0 : kd = []
   ·subst hk0;have hte : (mk8 ([] : List UInt8)).toList.isEmpty = true := (by rw [zj, zz]; rfl);clear hrd hkc hm hb1 hl18 hpos;go_wp2
    go_loopw [9, 10] (fun s9 i wr => ∃ (k : Nat) (out : List Int) (A9 : Option Addr) (c9 : Nat), k <= m /\ i = .int .i64 k /\ s9 = .slice A9 out.length c9 /\ Hid (out = (il.take k).flatMap (B.one c)) /\ Hid (wr.ownsRow w1.heap.size 21 1 (.slice A9 out.length c9) out.length (Rs out)) /\ Hid (Below w1.heap.size w1 wr)) (fun _ i _ => m - (intOf i).toNat)
    case atStart => exact ⟨0, [], none, 0, Nat.zero_le _, rfl, rfl, rfl, World.ownsRow_nil _ _ _ _, Below.refl _ _⟩
    case round =>
     obtain ⟨k, out, A9, c9, hk, rfl, rfl, HOUT, HOWN, HBW⟩ := hrel
     have hol : out.length <= 54 := by
      have h1 := HLEN.out;rw [HP.out] at h1;have := zfs (f := B.one c) (l := il) k;rw [HOUT.out];omega
     by_cases hlt : k < m
     ·obtain ⟨y, hy⟩ : ∃ y, il[k]? = some y := ⟨_, List.getElem?_eq_getElem (by rw [<- HM.out]; exact hlt)⟩;have REC := HIH.out y (List.mem_of_getElem? hy) wr (zb HW.out (zb HB1.out HBW.out))
      have hly : (B.one c y).length <= 54 := by
       have h1 := HLEN.out;rw [HP.out] at h1;have h2 := zfs (f := B.one c) (l := il) (k + 1);rw [zbz hy, List.length_append] at h2;omega
      obtain ⟨b, off, rfl, _, hcx⟩ := (HRD.out.below HBW.out).at_ (by rw [<- HM.out]; omega);have c0 := hcx k (.int .i32 y) (by simp [Rs, hy]);have hki : (k : Int) < (m : Int) := (by omega);have HFT := hz0q (zbz (f := B.one c) hy);obtain ⟨ys, hys⟩ : ∃ ys, ys = B.one c y := ⟨_, rfl⟩;rw [<- hys] at REC hly;have HYS := hz0q hys;clear hy hcx hys;go_wp2_with fail;refine REC.mono ?_;rintro e w2 ⟨A2, c2, rfl, hown2, hb2⟩;obtain ⟨A3, c3, hv3, _, _, hrd2⟩ := Rd.of_own hown2;injection hv3 with e1 _ e3;subst e1 e3;have hownD := z8 HOWN.out hb2;have hbW := zb HBW.out hb2;have hbs := hbW.size;have hone := zh0 ys;clear hown2 REC c0 hb2;go_wp2_with (at_builtin; refine z6 zaa _ rfl _ _ rfl w1.heap.size rfl hownD rfl hrd2 hone (by omega) (by omega) hbs ?_)
      intro A4 c4 w4 hown4 hg4 hat4;have hb4 := za7 hbW hbs hownD hg4;have HO : Hid (out ++ ys = (il.take (k + 1)).flatMap (B.one c)) := (by show _ = _; rw [HFT.out, HOUT.out, HYS.out]);have hln : out.length + ys.length = (out ++ ys).length := by simp
      have HN : Hid (w4.ownsRow w1.heap.size 21 1 (.slice A4 (out ++ ys).length c4) (out ++ ys).length (Rs (out ++ ys))) := by
       show w4.ownsRow _ _ _ _ _ _;rw [<- hln];simpa [Rs] using hown4
      have HB4 := hz0q hb4;rw [hln];obtain ⟨o2, ho2⟩ : ∃ o2, o2 = out ++ ys := ⟨_, rfl⟩;rw [<- ho2] at HO HN ⊢;clear hown4 hg4 hat4 hownD hbW hrd2 hb4 hln hone ho2;go_wp2;go_roundw
      case rel => exact ⟨k + 1, o2, A4, c4, by omega, by go_num, rfl, HO, HN, HB4⟩
      case measure => simp [intOf]; omega
     ·obtain rfl : k = m := (by omega);have hki : (k : Int) <= (k : Int) := Int.le_refl _
      have HF : Hid (zag w (B.one c r) (.returned (.slice A9 out.length c9)) wr) := by
       show zag _ _ _ _;have h1 := HOUT.out;rw [HM.out, List.take_length] at h1;rw [HP.out, <- h1];exact ⟨_, _, rfl, za1 HOWN.out hb1s, zb HB1.out HBW.out⟩
      go_wp2;go_returns;exact HF.out
   ·obtain rfl : c = true := by
     cases c with
     | true => rfl
     | false => exact absurd ⟨hk0, rfl⟩ hkc
    have hte : (mk8 kd).toList.isEmpty = false := by
     rw [zj, zz]
     cases kd with
     | nil => exact absurd rfl hk0
     | cons a t => rfl
    clear hrd hkc hk0 hm hb1 hl18 hpos;go_wp2
    go_loopw [9, 10] (fun s9 i wr => ∃ (k : Nat) (out : List Int) (A9 : Option Addr) (c9 : Nat), k <= m /\ i = .int .i64 k /\ s9 = .slice A9 out.length c9 /\ Hid (out = (il.take k).flatMap (B.one true)) /\ Hid (wr.ownsRow w1.heap.size 21 1 (.slice A9 out.length c9) out.length (Rs out)) /\ Hid (Below w1.heap.size w1 wr)) (fun _ i _ => m - (intOf i).toNat)
    case atStart => exact ⟨0, [], none, 0, Nat.zero_le _, rfl, rfl, rfl, World.ownsRow_nil _ _ _ _, Below.refl _ _⟩
    case round =>
     obtain ⟨k, out, A9, c9, hk, rfl, rfl, HOUT, HOWN, HBW⟩ := hrel
     have hol : out.length <= 54 := by
      have h1 := HLEN.out;rw [HP.out] at h1;have := zfs (f := B.one true) (l := il) k;rw [HOUT.out];omega
     by_cases hlt : k < m
     ·obtain ⟨y, hy⟩ : ∃ y, il[k]? = some y := ⟨_, List.getElem?_eq_getElem (by rw [<- HM.out]; exact hlt)⟩;have REC := HIH.out y (List.mem_of_getElem? hy) wr (zb HW.out (zb HB1.out HBW.out))
      have hly : (B.one true y).length <= 54 := by
       have h1 := HLEN.out;rw [HP.out] at h1;have h2 := zfs (f := B.one true) (l := il) (k + 1);rw [zbz hy, List.length_append] at h2;omega
      obtain ⟨b, off, rfl, _, hcx⟩ := (HRD.out.below HBW.out).at_ (by rw [<- HM.out]; omega);have c0 := hcx k (.int .i32 y) (by simp [Rs, hy]);have hki : (k : Int) < (m : Int) := (by omega);have HFT := hz0q (zbz (f := B.one true) hy);obtain ⟨ys, hys⟩ : ∃ ys, ys = B.one true y := ⟨_, rfl⟩;rw [<- hys] at REC hly;have HYS := hz0q hys;clear hy hcx hys;go_wp2_with fail;refine REC.mono ?_;rintro e w2 ⟨A2, c2, rfl, hown2, hb2⟩;obtain ⟨A3, c3, hv3, _, _, hrd2⟩ := Rd.of_own hown2;injection hv3 with e1 _ e3;subst e1 e3;have hownD := z8 HOWN.out hb2;have hbW := zb HBW.out hb2;have hbs := hbW.size;have hone := zh0 ys;clear hown2 REC c0 hb2;go_wp2_with (at_builtin; refine z6 zaa _ rfl _ _ rfl w1.heap.size rfl hownD rfl hrd2 hone (by omega) (by omega) hbs ?_)
      intro A4 c4 w4 hown4 hg4 hat4;have hb4 := za7 hbW hbs hownD hg4;have HO : Hid (out ++ ys = (il.take (k + 1)).flatMap (B.one true)) := (by show _ = _; rw [HFT.out, HOUT.out, HYS.out]);have hln : out.length + ys.length = (out ++ ys).length := by simp
      have HN : Hid (w4.ownsRow w1.heap.size 21 1 (.slice A4 (out ++ ys).length c4) (out ++ ys).length (Rs (out ++ ys))) := by
       show w4.ownsRow _ _ _ _ _ _;rw [<- hln];simpa [Rs] using hown4
      have HB4 := hz0q hb4;rw [hln];obtain ⟨o2, ho2⟩ : ∃ o2, o2 = out ++ ys := ⟨_, rfl⟩;rw [<- ho2] at HO HN ⊢;clear hown4 hg4 hat4 hownD hbW hrd2 hb4 hln hone ho2;go_wp2;go_roundw
      case rel => exact ⟨k + 1, o2, A4, c4, by omega, by go_num, rfl, HO, HN, HB4⟩
      case measure => simp [intOf]; omega
     ·obtain rfl : k = m := (by omega);have hki : (k : Int) <= (k : Int) := Int.le_refl _
      have HF : Hid (zag w (B.one true r) (.returned (.slice A9 out.length c9)) wr) := by
       show zag _ _ _ _;have h1 := HOUT.out;rw [HM.out, List.take_length] at h1;rw [HP.out, <- h1];exact ⟨_, _, rfl, za1 HOWN.out hb1s, zb HB1.out HBW.out⟩
      go_wp2;go_returns;exact HF.out
end
end
end Go.Proofs.YtfdelmodmadoaaaGreatDoor
