/- What a law over both bases knows; two lists that are compared. The writer: New, open, Waits, Feed, Close: the code. Writers among rows that a call owns. The chapter's example, and what is not too much. A decoder, a writer, and what the law owns, in memory. -/
import Derived.Test.YtolcabjkbefjgaaGreatDoorZ40
import Derived.Test.YtolcabjkbefjgaaGreatDoorZ41
import Derived.Test.YtolcabjkbefjgaaGreatDoorZ34
set_option linter.unusedSimpArgs false
set_option linter.unusedVariables false
set_option maxRecDepth 20000
set_option maxHeartbeats 4000000
namespace Go.Proofs.YtolcabjkbefjgaaGreatDoor
section
open Go.RowKit Go.Lib
theorem runes_same {A A2 : Option Addr} {n m ca cb : Nat} {xs ys : List Int} {w : World} (hx : Rd w A n (Rs xs)) (hy : Rd w A2 m (Rs ys)) (he : xs = ys) (hn : n <= 1099511627776) (hm : m <= 1099511627776) :
  Calls Tryz.prog 17 #[.slice A n ca, .slice A2 m cb] w fun e w' => e = .returned (.bool true) /\ Below w.heap.size w w' :=
 (runes_any A A2 n m ca cb xs ys w hx hy hn hm).mono fun _ _ ⟨h1, h2⟩ => ⟨by rw [h1, decide_eq_true he], h2.below _⟩
theorem zb7.arg {w w' : World} {zs : List Int} {e : Ending} (h : zb7 w zs e w') (hR : ∀ x ∈ zs, R32 x) : ∃ A c, e = .returned (.slice A zs.length c) /\ ArgR w' A zs.length c zs /\ Below w.heap.size w w' := by
 obtain ⟨A, c, he, hown, hb⟩ := h;obtain ⟨A', c', e2, h1, h2, hr⟩ := Rd.of_own hown;injection e2 with e2a _ e2c;subst e2a e2c;refine ⟨A, c, he, ⟨hr, rfl, hR, h1, h2, fun hA => ?_⟩, hb⟩;rcases hown.2 with ⟨hv, h0⟩ | ⟨g, cap, cur, hv, _⟩
 ·injection hv with _ _ hc;exact ⟨h0, hc⟩
 ·injection hv with hv _ _;rw [hA] at hv
  cases hv
section
variable {B : BaseF}
end
end
section
open Go.RowKit
section
variable {q wp : Nat} {w w0 : World} {p : Option Addr} {f : Int} {ov : Bool} {G : Option Nat} {v : Value} {l : List Int} {B : BaseF}
theorem nnew_yes (p : Option Addr) (f : Int) (w : World) (hf : mayF f = true) : Calls Tryz.prog 10 #[.pointer p, .int .i64 f] w fun e w' => e = .returned (.tuple #[.pointer (some ⟨w.heap.size, 0, none⟩), .int .i64 0]) /\ WrM w.heap.size w' w.heap.size p f false none (.slice none 0 0) [] /\ Below w.heap.size w w' := by
 have h := (zh5 f).1 hf;have h1 : ¬ f < 1 := (by omega);have h2 : ¬ 4 < f := (by omega);clear hf h;go_enter Tryz.func10, Tryz.ntmps10;go_wp2;go_returns;exact ⟨rfl, ⟨zj _ _ _, .nil _ _ none, Nat.le_refl _⟩, (Below.refl _ w).alloc (Nat.le_refl _) _⟩
theorem zi4 (h : WrM q w wp p f ov G v l) : Calls Tryz.prog 36 #[.pointer (some ⟨wp, 0, none⟩)] w fun e w' => e = .returned (.int .i64 (if ov = true then 21 else 0)) /\ w = w' := by
 have b3 := za h.box 3 rfl;clear h
 cases ov with
 | true =>
  go_enter Tryz.func36, Tryz.ntmps36;go_wp2;go_returns;exact ⟨rfl, rfl⟩
 | false =>
  go_enter Tryz.func36, Tryz.ntmps36;go_wp2;go_returns;exact ⟨rfl, rfl⟩
theorem zdw {B : BaseF} {f : Int} {xs : List Int} (h : mayF f = true) : formE B f xs = (B.form (cB f) (jB f) xs, 0) := if_pos h
def FeedP (B : BaseF) (c j : Bool) (q : Nat) (w : World) (wp : Nat) (p : Option Addr) (f : Int) (G : Option Nat) (l : List Int) (e : Ending) (w' : World) : Prop :=
 ∃ m A1 c1 G' v', CutAt B c j l m /\ e = .returned (.tuple #[.slice A1 (B.form c j (l.take m)).length c1, .int .i64 0]) /\ ArgR w' A1 (B.form c j (l.take m)).length c1 (B.form c j (l.take m)) /\
  WrM q w' wp p f false G' v' (l.drop m) /\ Wrote (fun k => k = wp \/ G = some k) w w' /\ ∀ g, G' = some g -> w.heap.size <= g
def zjt (B : BaseF) (c j : Bool) (q : Nat) (w : World) (wp : Nat) (p : Option Addr) (f : Int) (G : Option Nat) (l : List Int) (e : Ending) (w' : World) : Prop :=
 ∃ A1 c1 G' v', e = .returned (.tuple #[.slice A1 (B.form c j l).length c1, .int .i64 0]) /\ ArgR w' A1 (B.form c j l).length c1 (B.form c j l) /\
  WrM q w' wp p f true G' v' [] /\ Wrote (fun k => k = wp) w w' /\ (∀ g, G' = some g -> w.heap.size <= g) /\ ∀ a, A1 = some a -> w.heap.size <= a.block
theorem zbg.argF {w w' : World} {zs : List Int} {k : Int} {e : Ending} (h : zbg w (zs, k) e w') (hR : ∀ x ∈ zs, R32 x) : ∃ A c, e = .returned (.tuple #[.slice A zs.length c, .int .i64 k]) /\ ArgR w' A zs.length c zs /\ Below w.heap.size w w' := by
 obtain ⟨A, c, he, hown, hb⟩ := h;obtain ⟨A2, c2, h1, h2, h3⟩ := zb7.arg (e := .returned (.slice A zs.length c)) ⟨A, c, rfl, hown, hb⟩ hR;injection h1 with h1;injection h1 with h1a _ h1c;subst h1a h1c;exact ⟨A, c, he, h2, h3⟩
theorem zbg.argG {w w' : World} {zs : List Int} {k : Int} {e : Ending} (h : zbg w (zs, k) e w') (hR : ∀ x ∈ zs, R32 x) : ∃ A c, e = .returned (.tuple #[.slice A zs.length c, .int .i64 k]) /\ ArgR w' A zs.length c zs /\ Below w.heap.size w w' /\ ∀ a, A = some a -> w.heap.size <= a.block := by
 obtain ⟨A, c, he, h2, h3⟩ := h.argF hR;refine ⟨A, c, he, h2, h3, fun a ha => ?_⟩;obtain ⟨A', c', he', hown, _⟩ := h;have e := he.symm.trans he';injection e with e;injection e with e;have e := congrArg (fun l : Array Value => l[0]?) e;simp at e;rw [ha] at e;rcases hown.2 with ⟨hv, _⟩ | ⟨g, cap, cur, hv, hg, _⟩
 ·injection hv with hv _ _;rw [<- e.1] at hv
  cases hv
 ·injection hv with hv _ _;rw [<- e.1] at hv;injection hv with hv;rw [hv];exact hg
theorem zi5 (HB : Hid (∀ W, Below q w0 W -> zar W (.pointer p) B)) (HK : Hid (∀ W, Below q w0 W -> Kinds W)) (hbd : zau B) (h : WrM q w wp p f false G v l) (hl : ∀ x ∈ l, R32 x) (hb : Below q w0 w) (hq : q <= w.heap.size) (hf : mayF f = true)
  (A : Option Addr) (n c : Nat) (zs : List Int) (hrd : Rd w A n (Rs zs)) (hn : zs.length = n) (hx : ∀ x ∈ zs, R32 x) (h2 : l.length + n <= 240000) :
  Calls Tryz.prog 12 #[.pointer (some ⟨wp, 0, none⟩), .slice A n c] w (FeedP B (cB f) (jB f) q w wp p f G (l ++ zs)) := by
 have O := zi4 h;rw [if_neg (by simp)] at O;have PU := qput_any (c := c) h hq A n zs hrd hn (by omega);have HW := hz0q h;have HX : Hid (∀ x ∈ l ++ zs, R32 x) := fun x hx2 => (List.mem_append.1 hx2).elim (hl x) (hx x);have hlz : (l ++ zs).length <= 240000 := (by rw [List.length_append, hn]; exact h2);obtain ⟨ls, hls⟩ : ∃ ls, ls = l ++ zs := ⟨_, rfl⟩;rw [<- hls] at PU HX hlz ⊢;have HBW := hz0q hb;have HQ := hz0q hq;have HBD := hz0q hbd;have HMT := hz0q hf;clear h hl hrd hn hx hls hb hq hbd hf h2;go_enter Tryz.func12, Tryz.ntmps12;go_wp2_with fail;refine O.mono ?_;rintro e w1 ⟨rfl, rfl⟩;clear O;go_wp2_with fail;refine PU.mono ?_;rintro e w1 ⟨⟨u, rfl⟩, G1, v1, hW1, hwr1, hat1⟩;have HW1 := hz0q hW1;have HWR1 := hz0q hwr1;have HAT1 := hz0q hat1;have HB1 : Hid (Below q w0 w1) := HBW.out.trans (hwr1.below (fun k hk => hk.elim (fun e => by rw [e]; exact HW.out.tb) fun e => (HW.out.own.lt e).1) HQ.out);have HQ1 : Hid (q <= w1.heap.size) := Nat.le_trans HQ.out hwr1.size;obtain ⟨A1, c1, rfl, hnc1, _, hrd1⟩ := hW1.own.shape;obtain ⟨L, hL⟩ : ∃ L, L = ls.length := ⟨_, rfl⟩;rw [<- hL] at hrd1 hlz hnc1;have HL := hz0q hL;have HRD1 := hz0q hrd1
 have CU : Hid (∀ W, Below w1.heap.size w1 W -> Calls Tryz.prog 38 #[.pointer p, .int .i64 f, .slice A1 L c1] W fun e w' => (∃ m : Nat, CutAt B (cB f) (jB f) ls m /\ e = .returned (.tuple #[.int .i64 m, .int .i64 0])) /\ Below W.heap.size W w') := fun W hW => by
  have h1 := HB1.out.trans (hW.mono HQ1.out);have := qcut_any (cp := c1) (HB.out W h1) (HK.out W h1) HBD.out f A1 L ls (HRD1.out.below hW) HL.out.symm HX.out (by omega);rw [if_pos HMT.out] at this;refine this.mono ?_;rintro e w' ⟨⟨m, h1, h2⟩, h3⟩;exact ⟨⟨m, by simpa [HMT.out] using h1, h2⟩, h3⟩
 have HMK : Hid (∀ w', Below w1.heap.size w1 w' -> ((w'.cell? ⟨wp, 0, none⟩ = some (.slice A1 L c1) /\ w'.cell? ⟨wp, 1, none⟩ = some (.pointer p)) /\ w'.cell? ⟨wp, 2, none⟩ = some (.int .i64 f)) /\ Below w1.heap.size w1 w') := fun w' h => by
  have hT := HW1.out.below h;have e0 := za hT.box 0 rfl;rw [<- HL.out] at e0;exact ⟨⟨⟨e0, za hT.box 1 rfl⟩, za hT.box 2 rfl⟩, h⟩
 clear PU hW1 hwr1 hat1 hrd1 hL;go_upto_region 5 with fail;refine wp_region_held_drew (S := fun w' => ((w'.cell? ⟨wp, 0, none⟩ = some (.slice A1 L c1) /\ w'.cell? ⟨wp, 1, none⟩ = some (.pointer p)) /\ w'.cell? ⟨wp, 2, none⟩ = some (.int .i64 f)) /\ Below w1.heap.size w1 w') (by kernel_rfl) (HMK.out _ (Drew.to ⟨1, rfl⟩)) (fun hH0 => ?_);refine tkH 0 (.pointer (some ⟨wp, 0, none⟩)) rfl hH0 ?_;try simp only [gA, gB, gC, Act.put, gD, gE, gF]
 refine tkH 1 (.pointer (some ⟨wp, 0, none⟩)) rfl hH0 ?_;try simp only [gA, gB, gC, Act.put, gD, gE, gF]
 refine tkH 2 (.pointer (some ⟨wp, 1, none⟩)) rfl hH0 ?_;try simp only [gA, gB, gC, Act.put, gD, gE, gF]
 refine tkH 3 (.pointer p) rfl hH0 ?_;try simp only [gA, gB, gC, Act.put, gD, gE, gF]
 refine tkH 4 (.pointer (some ⟨wp, 0, none⟩)) rfl hH0 ?_;try simp only [gA, gB, gC, Act.put, gD, gE, gF]
 refine tkH 5 (.pointer (some ⟨wp, 0, none⟩)) rfl hH0 ?_;try simp only [gA, gB, gC, Act.put, gD, gE, gF]
 refine tkH 6 (.pointer (some ⟨wp, 2, none⟩)) rfl hH0 ?_;try simp only [gA, gB, gC, Act.put, gD, gE, gF]
 refine tkH 7 (.int .i64 f) rfl hH0 ?_;try simp only [gA, gB, gC, Act.put, gD, gE, gF]
 refine tkH 8 (.pointer (some ⟨wp, 0, none⟩)) rfl hH0 ?_;try simp only [gA, gB, gC, Act.put, gD, gE, gF]
 refine tkH 9 (.pointer (some ⟨wp, 0, none⟩)) rfl hH0 ?_;try simp only [gA, gB, gC, Act.put, gD, gE, gF]
 refine tkH 10 (.pointer (some ⟨wp, 0, none⟩)) rfl hH0 ?_;try simp only [gA, gB, gC, Act.put, gD, gE, gF]
 refine tkH 11 (.pointer (some ⟨wp, 0, none⟩)) rfl hH0 ?_;try simp only [gA, gB, gC, Act.put, gD, gE, gF]
 refine tkH 12 (.slice A1 L c1) rfl hH0 ?_;try simp only [gA, gB, gC, Act.put, gD, gE, gF]
 refine wpAnyH_ready (rs := [13]) (by kernel_rfl) (by simp) ?_;refine AllReadyH.cons rfl (fun K hK => ?_) AllReadyH.nil;go_simp
 refine (CU.out _ hH0.2).mono ?_;rintro e w50 ⟨⟨m, hm, rfl⟩, hb2⟩;refine hK.out _ _ (HMK.out _ (zb hH0.2 hb2)) (fun hH1 => ?_);clear hK K hH0;try simp only [gA, gB, gC, Act.put, gD, gE, gF]
 refine tkH 14 (.tuple #[.int .i64 m, .int .i64 0]) rfl hH1 ?_;try simp only [gA, gB, gC, Act.put, gD, gE, gF]
 refine tkH 15 (.int .i64 m) rfl hH1 ?_;try simp only [gA, gB, gC, Act.put, gD, gE, gF]
 refine tkH 16 (.int .i64 0) rfl hH1 ?_;try simp only [gA, gB, gC, Act.put, gD, gE, gF]
 refine tkH 17 (.int .i64 m) rfl hH1 ?_;try simp only [gA, gB, gC, Act.put, gD, gE, gF]
 refine tkH 18 (.int .i64 0) rfl hH1 ?_;try simp only [gA, gB, gC, Act.put, gD, gE, gF]
 refine wpAnyH_done (by kernel_rfl) ?_ _;have HB2 := hz0q hH1.2;clear hH1;have HM := hz0q hm;have HW2 := hz0q (HW1.out.below HB2.out);have HB20 : Hid (Below q w0 w50) := HB1.out.trans (HB2.out.mono HQ1.out);have HQ2 : Hid (q <= w50.heap.size) := Nat.le_trans HQ1.out HB2.out.size;have hmL : m <= ls.length := (by rcases hm.lt with h | h <;> omega);have HMK2 : Hid (∀ w', Below q w0 w' -> w'.heap[wp]? = w50.heap[wp]? -> ((w'.cell? ⟨wp, 1, none⟩ = some (.pointer p) /\ w'.cell? ⟨wp, 2, none⟩ = some (.int .i64 f)) /\ Below q w0 w')) := fun w' h1 h2 => ⟨⟨za (h2.trans HW2.out.box) 1 rfl, za (h2.trans HW2.out.box) 2 rfl⟩, h1⟩;have hm33 : m <= 240000 := (by have := HL.out; omega);have HFR : Hid (∀ y ∈ B.form (cB f) (jB f) (ls.take m), R32 y) := zmn HBD.out (cB f) (jB f) (fun y hy => HX.out y (List.mem_of_mem_take hy)) rfl;have TK : Hid (∀ W, Below w50.heap.size w50 W -> Calls Tryz.prog 39 #[.pointer (some ⟨wp, 0, none⟩), .int .i64 m] W fun e w' => ∃ u, e = .returned u /\ TakeQ q W wp p f false ls m u w') := fun W h => ziy (HW2.out.below h) (Nat.le_trans HQ2.out h.size) m hmL (by rw [<- HL.out]; omega);obtain ⟨fs, hfs⟩ : ∃ fs, fs = B.form (cB f) (jB f) (ls.take m) := ⟨_, rfl⟩;rw [<- hfs] at HFR;have HFS := hz0q hfs
 have FO : Hid (∀ W A c, Below q w0 W -> Rd W A m (Rs (ls.take m)) -> Calls Tryz.prog 16 #[.pointer p, .int .i64 f, .slice A m c] W (zbg W (fs, 0))) := fun W A c h1 h2 => by
  have := zes (cp := c) (HB.out W h1) (HK.out W h1) HBD.out f A m (ls.take m) h2 (by rw [List.length_take]; omega) (fun y hy => HX.out y (List.mem_of_mem_take hy)) (by omega);rwa [zdw HMT.out, <- hfs] at this
 obtain ⟨fl, hfl⟩ : ∃ fl, fl = fs.length := ⟨_, rfl⟩;have HFL := hz0q hfl;have HLT : Hid ((ls.take m).length = m) := (by show _ = _; rw [List.length_take]; omega);have HDR : Hid (Below w50.heap.size w50 w50.drew) := Drew.to ⟨1, rfl⟩;clear CU HMK hm hfs hfl hmL;go_upto_region 8 with fail;refine wp_region_held_drew (S := fun w' => (w'.cell? ⟨wp, 1, none⟩ = some (.pointer p) /\ w'.cell? ⟨wp, 2, none⟩ = some (.int .i64 f)) /\ Below q w0 w') (by kernel_rfl) ((HMK2.out _ (HB20.out.trans (HDR.out.mono HQ2.out)) rfl)) (fun hH0 => ?_);refine tkH 0 (.pointer (some ⟨wp, 0, none⟩)) rfl hH0 ?_;try simp only [gA, gB, gC, Act.put, gD, gE, gF]
 refine tkH 1 (.pointer (some ⟨wp, 0, none⟩)) rfl hH0 ?_;try simp only [gA, gB, gC, Act.put, gD, gE, gF]
 refine tkH 2 (.pointer (some ⟨wp, 1, none⟩)) rfl hH0 ?_;try simp only [gA, gB, gC, Act.put, gD, gE, gF]
 refine tkH 3 (.pointer p) rfl hH0 ?_;try simp only [gA, gB, gC, Act.put, gD, gE, gF]
 refine tkH 4 (.pointer (some ⟨wp, 0, none⟩)) rfl hH0 ?_;try simp only [gA, gB, gC, Act.put, gD, gE, gF]
 refine tkH 5 (.pointer (some ⟨wp, 0, none⟩)) rfl hH0 ?_;try simp only [gA, gB, gC, Act.put, gD, gE, gF]
 refine tkH 6 (.pointer (some ⟨wp, 2, none⟩)) rfl hH0 ?_;try simp only [gA, gB, gC, Act.put, gD, gE, gF]
 refine tkH 7 (.int .i64 f) rfl hH0 ?_;try simp only [gA, gB, gC, Act.put, gD, gE, gF]
 refine tkH 8 (.pointer (some ⟨wp, 0, none⟩)) rfl hH0 ?_;try simp only [gA, gB, gC, Act.put, gD, gE, gF]
 refine tkH 9 (.pointer (some ⟨wp, 0, none⟩)) rfl hH0 ?_;try simp only [gA, gB, gC, Act.put, gD, gE, gF]
 refine tkH 10 (.pointer (some ⟨wp, 0, none⟩)) rfl hH0 ?_;try simp only [gA, gB, gC, Act.put, gD, gE, gF]
 refine tkH 11 (.int .i64 m) rfl hH0 ?_;try simp only [gA, gB, gC, Act.put, gD, gE, gF]
 refine wpAnyH_ready (rs := [12]) (by kernel_rfl) (by simp) ?_;refine AllReadyH.cons rfl (fun K hK => ?_) AllReadyH.nil;go_simp
 refine (TK.out _ HDR.out).mono ?_;rintro e w60 ⟨u, rfl, G3, G4, v4, ho3, hW4, hwr4, hat4⟩;obtain ⟨A3, c3, hu3, _, _, hrd3⟩ := ho3.shape;rw [HLT.out] at hu3 hrd3;subst hu3;have hb60 : Below q w0 w60 := hH0.2.trans (hwr4.below (fun k hk => by rw [hk]; exact HW.out.tb) (Nat.le_trans HQ2.out HDR.out.size));have HW4 := hz0q hW4;have HWR4 := hz0q hwr4;have HAT4 := hz0q hat4;have HRD3 := hz0q hrd3;clear hW4 hwr4 hat4 hrd3 ho3;refine hK.out _ _ (⟨⟨za HW4.out.box 1 rfl, za HW4.out.box 2 rfl⟩, hb60⟩) (fun hH1 => ?_);clear hK K hH0;try simp only [gA, gB, gC, Act.put, gD, gE, gF]
 refine wpAnyH_ready (rs := [13]) (by kernel_rfl) (by simp) ?_;refine AllReadyH.cons rfl (fun K hK => ?_) AllReadyH.nil;go_simp
 refine (FO.out _ A3 c3 hH1.2 HRD3.out).mono ?_;rintro e w61 hf;obtain ⟨A5, c5, rfl, z5, hb7⟩ := hf.argF HFR.out;rw [<- HFL.out];have HZ5 := hz0q z5;have HB7 := hz0q hb7;have HW5 := hz0q (HW4.out.below hb7);have hb70 : Below q w0 w61 := hH1.2.trans (hb7.mono (Nat.le_trans HQ2.out (Nat.le_trans HDR.out.size HWR4.out.size)));clear hf z5 hb7;refine hK.out _ _ (⟨⟨za HW5.out.box 1 rfl, za HW5.out.box 2 rfl⟩, hb70⟩) (fun hH2 => ?_);clear hK K hH1;try simp only [gA, gB, gC, Act.put, gD, gE, gF]
 refine tkH 14 (.slice A5 fl c5) rfl hH2 ?_;try simp only [gA, gB, gC, Act.put, gD, gE, gF]
 refine tkH 15 (.int .i64 0) rfl hH2 ?_;try simp only [gA, gB, gC, Act.put, gD, gE, gF]
 refine tkH 16 (.slice A5 fl c5) rfl hH2 ?_;try simp only [gA, gB, gC, Act.put, gD, gE, gF]
 refine tkH 17 (.int .i64 0) rfl hH2 ?_;try simp only [gA, gB, gC, Act.put, gD, gE, gF]
 refine wpAnyH_done (by kernel_rfl) ?_ _;clear hH2;have HWR : Hid (Wrote (fun k => k = wp \/ G = some k) w w61) := (((HWR1.out.then_below HB2.out).then_below HDR.out).trans (HWR4.out.mono fun k _ e => .inl e)).then_below HB7.out;have HAT : Hid (∀ g, G4 = some g -> w.heap.size <= g) := fun g hg => Nat.le_trans HWR1.out.size (Nat.le_trans HB2.out.size (Nat.le_trans HDR.out.size (HAT4.out g hg)));go_wp2;go_returns;rw [HFL.out];have hz := HZ5.out;rw [HFS.out] at hz ⊢;exact ⟨m, A5, c5, G4, v4, HM.out, rfl, hz, HW5.out, HWR.out, HAT.out⟩
theorem nclose_any (HB : Hid (∀ W, Below q w0 W -> zar W (.pointer p) B)) (HK : Hid (∀ W, Below q w0 W -> Kinds W)) (hbd : zau B) (h : WrM q w wp p f false G v l) (hl : ∀ x ∈ l, R32 x) (hb : Below q w0 w) (hq : q <= w.heap.size) (hf : mayF f = true) (h2 : l.length <= 240000) :
  Calls Tryz.prog 14 #[.pointer (some ⟨wp, 0, none⟩)] w (zjt B (cB f) (jB f) q w wp p f G l) := by
 have O := zi4 h;rw [if_neg (by simp)] at O;have HW := hz0q h;have HX := hz0q hl;have HBW := hz0q hb;have HQ := hz0q hq;have HBD := hz0q hbd;have HMT := hz0q hf;have bx := h.box;have f3 := zc h.box 3;have c3 := za h.box 3 rfl;clear h hl hb hq hbd hf bx;go_enter Tryz.func14, Tryz.ntmps14;go_wp2_with fail;refine O.mono ?_;rintro e w1 ⟨rfl, rfl⟩;clear O;have HWR1 : Hid (Wrote (fun k => k = wp) w (w.setCell ⟨wp, 3, none⟩ (.bool true))) := Wrote.setCell (S := fun k => k = wp) (.inl rfl) _;have HW1 := hz0q (HW.out.over true);obtain ⟨w1, hw1⟩ : ∃ w1, w1 = w.setCell ⟨wp, 3, none⟩ (.bool true) := ⟨_, rfl⟩;rw [<- hw1] at HWR1 HW1;have HB1 : Hid (Below q w0 w1) := HBW.out.trans (HWR1.out.below (fun k hk => by rw [hk]; exact HW.out.tb) HQ.out);have HQ1 : Hid (q <= w1.heap.size) := Nat.le_trans HQ.out HWR1.out.size;obtain ⟨A1, c1, hv1, hnc1, _, hrd1⟩ := HW1.out.own.shape;subst hv1;have HMK2 : Hid (∀ w', Below q w0 w' -> w'.heap[wp]? = w1.heap[wp]? -> ((w'.cell? ⟨wp, 1, none⟩ = some (.pointer p) /\ w'.cell? ⟨wp, 2, none⟩ = some (.int .i64 f)) /\ Below q w0 w')) := fun w' h1 h2 => ⟨⟨za (h2.trans HW1.out.box) 1 rfl, za (h2.trans HW1.out.box) 2 rfl⟩, h1⟩;have HFR : Hid (∀ y ∈ B.form (cB f) (jB f) l, R32 y) := zmn HBD.out (cB f) (jB f) HX.out rfl;have TK : Hid (∀ W, Below w1.heap.size w1 W -> Calls Tryz.prog 39 #[.pointer (some ⟨wp, 0, none⟩), .int .i64 l.length] W fun e w' => ∃ u, e = .returned u /\ TakeQ q W wp p f true l l.length u w') := fun W h => ziy (HW1.out.below h) (Nat.le_trans HQ1.out h.size) l.length (Nat.le_refl _) (by omega)
 obtain ⟨fs, hfs⟩ : ∃ fs, fs = B.form (cB f) (jB f) l := ⟨_, rfl⟩;rw [<- hfs] at HFR;have HFS := hz0q hfs;obtain ⟨m, hm⟩ : ∃ m, m = l.length := ⟨_, rfl⟩;have HM := hz0q hm
 have FO : Hid (∀ W A c, Below q w0 W -> Rd W A m (Rs l) -> Calls Tryz.prog 16 #[.pointer p, .int .i64 f, .slice A m c] W (zbg W (fs, 0))) := fun W A c h1 h3 => by
  have := zes (cp := c) (HB.out W h1) (HK.out W h1) HBD.out f A m l h3 hm.symm HX.out (by omega);rwa [zdw HMT.out, <- hfs] at this
 obtain ⟨fl, hfl⟩ : ∃ fl, fl = fs.length := ⟨_, rfl⟩;have HFL := hz0q hfl;have HLT : Hid (l.take m = l /\ l.drop m = []) := ⟨List.take_of_length_le (by omega), List.drop_eq_nil_of_le (by omega)⟩;have HDR : Hid (Below w1.heap.size w1 w1.drew) := Drew.to ⟨1, rfl⟩
 have HC0 : Hid (w1.drew.cell? ⟨wp, 0, none⟩ = some (.slice A1 m c1)) := by
  show _ = _;have := za (HW1.out.below HDR.out).box 0 rfl;rwa [<- hm] at this
 rw [<- hm] at TK;clear hfs hfl hm hrd1 hnc1 h2;go_upto_region 5 with fail;rw [<- hw1];clear hw1;refine wp_region_held_drew (S := fun w' => (w'.cell? ⟨wp, 1, none⟩ = some (.pointer p) /\ w'.cell? ⟨wp, 2, none⟩ = some (.int .i64 f)) /\ Below q w0 w') (by kernel_rfl) ((HMK2.out _ (HB1.out.trans (HDR.out.mono HQ1.out)) rfl)) (fun hH0 => ?_);refine tkH 0 (.pointer (some ⟨wp, 0, none⟩)) rfl hH0 ?_;try simp only [gA, gB, gC, Act.put, gD, gE, gF]
 refine tkH 1 (.pointer (some ⟨wp, 0, none⟩)) rfl hH0 ?_;try simp only [gA, gB, gC, Act.put, gD, gE, gF]
 refine tkH 2 (.pointer (some ⟨wp, 1, none⟩)) rfl hH0 ?_;try simp only [gA, gB, gC, Act.put, gD, gE, gF]
 refine tkH 3 (.pointer p) rfl hH0 ?_;try simp only [gA, gB, gC, Act.put, gD, gE, gF]
 refine tkH 4 (.pointer (some ⟨wp, 0, none⟩)) rfl hH0 ?_;try simp only [gA, gB, gC, Act.put, gD, gE, gF]
 refine tkH 5 (.pointer (some ⟨wp, 0, none⟩)) rfl hH0 ?_;try simp only [gA, gB, gC, Act.put, gD, gE, gF]
 refine tkH 6 (.pointer (some ⟨wp, 2, none⟩)) rfl hH0 ?_;try simp only [gA, gB, gC, Act.put, gD, gE, gF]
 refine tkH 7 (.int .i64 f) rfl hH0 ?_;try simp only [gA, gB, gC, Act.put, gD, gE, gF]
 refine tkH 8 (.pointer (some ⟨wp, 0, none⟩)) rfl hH0 ?_;try simp only [gA, gB, gC, Act.put, gD, gE, gF]
 refine tkH 9 (.pointer (some ⟨wp, 0, none⟩)) rfl hH0 ?_;try simp only [gA, gB, gC, Act.put, gD, gE, gF]
 refine tkH 10 (.pointer (some ⟨wp, 0, none⟩)) rfl hH0 ?_;try simp only [gA, gB, gC, Act.put, gD, gE, gF]
 refine tkH 11 (.pointer (some ⟨wp, 0, none⟩)) rfl hH0 ?_;try simp only [gA, gB, gC, Act.put, gD, gE, gF]
 refine tkH 12 (.pointer (some ⟨wp, 0, none⟩)) rfl hH0 ?_;try simp only [gA, gB, gC, Act.put, gD, gE, gF]
 refine tkH 13 (.pointer (some ⟨wp, 0, none⟩)) rfl hH0 ?_;try simp only [gA, gB, gC, Act.put, gD, gE, gF]
 refine tkH 14 (.pointer (some ⟨wp, 0, none⟩)) rfl hH0 ?_;try simp only [gA, gB, gC, Act.put, gD, gE, gF]
 refine wpAnyH_ready (rs := [15]) (by kernel_rfl) (by simp) ?_;refine AllReadyH.cons rfl (fun K hK => ?_) AllReadyH.nil;have hc0 := HC0.out;go_simp
 refine hK.out _ _ (hH0) (fun hH1 => ?_);clear hK K hH0;try simp only [gA, gB, gC, Act.put, gD, gE, gF]
 refine tkH 16 (.int .i64 m) rfl hH1 ?_;try simp only [gA, gB, gC, Act.put, gD, gE, gF]
 refine wpAnyH_ready (rs := [17]) (by kernel_rfl) (by simp) ?_;refine AllReadyH.cons rfl (fun K hK => ?_) AllReadyH.nil;go_simp
 refine (TK.out _ HDR.out).mono ?_;rintro e w51 ⟨u, rfl, G3, G4, v4, ho3, hW4, hwr4, hat4⟩;rw [HLT.out.1] at ho3;rw [HLT.out.2] at hW4;obtain ⟨A3, c3, hu3, _, _, hrd3⟩ := ho3.shape;rw [<- HM.out] at hu3 hrd3;subst hu3;have hb60 : Below q w0 w51 := hH1.2.trans (hwr4.below (fun k hk => by rw [hk]; exact HW.out.tb) (Nat.le_trans HQ1.out HDR.out.size));have HW4 := hz0q hW4;have HWR4 := hz0q hwr4;have HAT4 := hz0q hat4;have HRD3 := hz0q hrd3;clear hW4 hwr4 hat4 hrd3 ho3;refine hK.out _ _ (⟨⟨za HW4.out.box 1 rfl, za HW4.out.box 2 rfl⟩, hb60⟩) (fun hH2 => ?_);clear hK K hH1;try simp only [gA, gB, gC, Act.put, gD, gE, gF]
 refine wpAnyH_ready (rs := [18]) (by kernel_rfl) (by simp) ?_;refine AllReadyH.cons rfl (fun K hK => ?_) AllReadyH.nil;go_simp
 refine (FO.out _ A3 c3 hH2.2 HRD3.out).mono ?_;rintro e w52 hf;obtain ⟨A5, c5, rfl, z5, hb7, hap5⟩ := hf.argG HFR.out;have HAP5 := hz0q hap5;rw [<- HFL.out];have HZ5 := hz0q z5;have HB7 := hz0q hb7;have HW5 := hz0q (HW4.out.below hb7);have hb70 : Below q w0 w52 := hH2.2.trans (hb7.mono (Nat.le_trans HQ1.out (Nat.le_trans HDR.out.size HWR4.out.size)));clear hf z5 hb7 hap5;refine hK.out _ _ (⟨⟨za HW5.out.box 1 rfl, za HW5.out.box 2 rfl⟩, hb70⟩) (fun hH3 => ?_);clear hK K hH2;try simp only [gA, gB, gC, Act.put, gD, gE, gF]
 refine tkH 19 (.slice A5 fl c5) rfl hH3 ?_;try simp only [gA, gB, gC, Act.put, gD, gE, gF]
 refine tkH 20 (.int .i64 0) rfl hH3 ?_;try simp only [gA, gB, gC, Act.put, gD, gE, gF]
 refine tkH 21 (.slice A5 fl c5) rfl hH3 ?_;try simp only [gA, gB, gC, Act.put, gD, gE, gF]
 refine tkH 22 (.int .i64 0) rfl hH3 ?_;try simp only [gA, gB, gC, Act.put, gD, gE, gF]
 refine wpAnyH_done (by kernel_rfl) ?_ _;clear hH3;have HWR : Hid (Wrote (fun k => k = wp) w w52) := ((HWR1.out.then_below HDR.out).trans HWR4.out).then_below HB7.out;have HAT : Hid (∀ g, G4 = some g -> w.heap.size <= g) := fun g hg => Nat.le_trans HWR1.out.size (Nat.le_trans HDR.out.size (HAT4.out g hg));have HAP : Hid (∀ a, A5 = some a -> w.heap.size <= a.block) := fun a ha => Nat.le_trans HWR1.out.size (Nat.le_trans HDR.out.size (Nat.le_trans HWR4.out.size (HAP5.out a ha)));go_wp2;go_returns;rw [HFL.out];have hz := HZ5.out;rw [HFS.out] at hz ⊢;exact ⟨A5, c5, G4, v4, rfl, hz, HW5.out, HWR.out, HAT.out, HAP.out⟩
end
end
section
open Go.RowKit
theorem FeedP.at_ {B : BaseF} {c j : Bool} {q wp m : Nat} {w w' : World} {p : Option Addr} {f : Int} {G : Option Nat} {l fs ds : List Int} {e : Ending} (h : FeedP B c j q w wp p f G l e w') (hc : CutAt B c j l m) (hf : B.form c j (l.take m) = fs) (hd : l.drop m = ds) :
  ∃ A1 c1 G' v', e = .returned (.tuple #[.slice A1 fs.length c1, .int .i64 0]) /\ ArgR w' A1 fs.length c1 fs /\ WrM q w' wp p f false G' v' ds /\ Wrote (fun k => k = wp \/ G = some k) w w' /\ ∀ g, G' = some g -> w.heap.size <= g := by
 obtain ⟨m2, A1, c1, G', v', h1, h2, h3, h4⟩ := h;obtain rfl : m2 = m := cut_one h1 hc;subst hf hd;exact ⟨A1, c1, G', v', h2, h3, h4⟩
theorem zjt.at_ {B : BaseF} {c j : Bool} {q wp : Nat} {w w' : World} {p : Option Addr} {f : Int} {G : Option Nat} {l fs : List Int} {e : Ending} (h : zjt B c j q w wp p f G l e w') (hf : B.form c j l = fs) :
  ∃ A1 c1 G' v', e = .returned (.tuple #[.slice A1 fs.length c1, .int .i64 0]) /\ ArgR w' A1 fs.length c1 fs /\ WrM q w' wp p f true G' v' [] /\ Wrote (fun k => k = wp) w w' /\ ∀ g, G' = some g -> w.heap.size <= g := by
 subst hf;obtain ⟨A1, c1, G', v', h1, h2, h3, h4, h5, _⟩ := h;exact ⟨A1, c1, G', v', h1, h2, h3, h4, h5⟩
theorem zjt.at2 {B : BaseF} {c j : Bool} {q wp : Nat} {w w' : World} {p : Option Addr} {f : Int} {G : Option Nat} {l fs : List Int} {e : Ending} (h : zjt B c j q w wp p f G l e w') (hf : B.form c j l = fs) :
  ∃ A1 c1 G' v', e = .returned (.tuple #[.slice A1 fs.length c1, .int .i64 0]) /\ ArgR w' A1 fs.length c1 fs /\ WrM q w' wp p f true G' v' [] /\ Wrote (fun k => k = wp) w w' /\ (∀ g, G' = some g -> w.heap.size <= g) /\ ∀ a, A1 = some a -> w.heap.size <= a.block := by
 subst hf;exact h
abbrev WBox (w : World) (wp : Nat) (v : Value) (p : Option Addr) (f : Int) (ov : Bool) : Prop := w.heap[wp]? = some (.cells #[v, .pointer p, .int .i64 f, .bool ov] 97 (0, 0))
section
variable {q wp wp2 i : Nat} {w w' : World} {p p2 : Option Addr} {f f2 : Int} {ov ov2 : Bool} {G G' : Option Nat} {v v' v2 : Value} {l l' : List Int} {F : List (Option Nat × Value × List Int)}
theorem FamO.wr (h : FamO q w F) (hi : F[i]? = some (G, v, l)) (bx : WBox w wp v p f ov) (ht : q <= wp) : WrM q w wp p f ov G v l := ⟨bx, h.own i _ hi, ht⟩
theorem FamO.fed (h : FamO q w F) (hi : F[i]? = some (G, v, l)) (bx : WBox w wp v p f ov) (hw : Wrote (fun k => k = wp \/ G = some k) w w') (h2 : WrM q w' wp p2 f2 ov2 G' v' l') (hat : ∀ g, G' = some g -> w.heap.size <= g) : FamO q w' (F.set i (G', v', l')) :=
 h.wrote hi hw (fun j a g ha hg hs => hs.elim (fun e => ((h.own j a ha).not (g := wp) (by rw [<- e]; exact hg) bx zeg).elim) id) h2.own fun g hg => .inr (hat g hg)
theorem FamO.boxg (h : FamO q w F) (hi : F[i]? = some (G, v, l)) (bx2 : WBox w wp2 v2 p2 f2 ov2) (hg : w.grownBy w' G) : WBox w' wp2 v2 p2 f2 ov2 :=
 zt bx2 hg fun e => (h.own i _ hi).not e bx2 zeg
theorem Wrote.close (h : Wrote (fun k => k = wp) w w') : Wrote (fun k => k = wp \/ G = some k) w w' := h.mono fun k _ e => .inl e
theorem Rd.box {A : Option Addr} {n : Nat} {xs : List Int} (h : Rd w A n (Rs xs)) (hW : WrM q w wp p f ov G v l) : 0 < n -> ∀ a, A = some a -> ¬ a.block = wp := by
 intro hn a ha e;obtain ⟨b, off, rfl, _, hc⟩ := h.at_ hn;injection ha with ha;subst ha;have e : b = wp := e;subst e;have hl : xs.length = n := (by have := h.1; simpa using this);obtain ⟨x, hx⟩ : ∃ x, xs[0]? = some x := ⟨_, List.getElem?_eq_getElem (by omega)⟩;have h0 := hc 0 (.int .i32 x) (by simp [Rs, hx]);rw [Nat.add_zero, cell_of_row w b off _ _ (0, 0) hW.box] at h0;obtain ⟨A0, c0, rfl, _⟩ := hW.own.shape;match off, h0 with
 | 0, h0 => simp at h0
 | 1, h0 => simp at h0
 | 2, h0 => simp at h0
 | 3, h0 => simp at h0
 | n + 4, h0 => simp at h0
theorem ArgR.wrote {A : Option Addr} {n c : Nat} {zs : List Int} (h : ArgR w A n c zs) (hW : WrM q w wp p f ov G v l) (hw : Wrote (fun k => k = wp) w w') : ArgR w' A n c zs :=
 ⟨h.rd.wrote hw (h.rd.box hW), h.len, h.r, h.cap, h.mx, h.nil⟩
end
end
section
open Go.RowKit Go.Lib
theorem awT_whole : zb9 5 1 true [239, 187, 191, 65, 204, 128] = [65, 768] := by kernel_rfl
theorem awT_ok : okW 5 1 true [239, 187, 191, 65, 204, 128] = true := by kernel_rfl
theorem zbh (w : World) (hE : Env w) (hk : Kinds w) (hU : RowsU w) : Calls Tryz.prog 7 #[] w fun e w' => e = .returned (.bool true) /\ Below w.heap.size w w' := by
 have N1 := new_is (s := awBS) (o := ByteArray.empty) awB_g (zj3 zmu) zlm aw8_none w hE hk (by decide) (by decide);have HBD : Hid (zau awBB) := zmt awB_g (zj3 zmu);have HK := hz0q hk;have HU := hz0q hU;unfold awBS at N1;go_enter Tryz.func7, Tryz.ntmps7;go_wp2_with fail;refine N1.mono ?_;rintro e w1 ⟨p, rfl, hp, hb1⟩;have HP : Hid (zar w1 (.pointer (some ⟨p, 0, none⟩)) awBB) := hp;have HB1 := hz0q hb1;have WH := zij 5 1 true (by decide) ⟨#[239, 187, 191, 65, 204, 128]⟩ w1 (HU.out.below hb1) (by decide);clear N1 hp hb1 hE hk hU;go_wp2_with fail;refine WH.mono ?_;intro e w2 hf;obtain ⟨zs, A, c, v2, k2, rfl, ho, hz, hb2⟩ := hf;rw [show bs ⟨#[239, 187, 191, 65, 204, 128]⟩ = [239, 187, 191, 65, 204, 128] from rfl, awT_whole] at hz;subst hz;rw [show bs ⟨#[239, 187, 191, 65, 204, 128]⟩ = [239, 187, 191, 65, 204, 128] from rfl, awT_ok];have HB2 := hz0q (zb HB1.out hb2);obtain ⟨A', c', hv, _, _, hrd⟩ := Rd.of_own ho;injection hv with e1 _ e3;subst e1 e3;have C := zes (cp := c) (HP.out.below hb2) ((HK.out.below' HB1.out).below' hb2) HBD.out 2 A 2 [65, 768] hrd rfl (by intro x hx; simp at hx; unfold R32; omega) (by decide);rw [zdw (show mayF 2 = true from rfl), show cB 2 = false from rfl, show jB 2 = true from rfl, awC_one] at C;clear WH ho hb2 hrd;go_wp2_with fail;refine C.mono ?_;intro e w3 hf;obtain ⟨A3, c3, rfl, hz3, hb3⟩ := hf.argF (by intro x hx; simp at hx; unfold R32; omega);have HB3 := hz0q (zb HB2.out hb3);have EN := enc192 A3 c3 w3 hz3.rd (HU.out.below HB3.out);clear C hf hz3 hb3
 go_wp2_with fail;refine EN.mono ?_;rintro e w4 ⟨rfl, hb4⟩;have HB4 := hz0q (zb HB3.out hb4);clear EN hb4;go_wp2;go_returns;exact ⟨rfl, HB4.out⟩
end
section
open Go.RowKit Go.Lib
section
variable {q db wp i : Nat} {v0 wr w' : World} {p : Option Addr} {f k0 pl : Int} {g0 : Bool} {vv v v' : Value} {F : List (Option Nat × Value × List Int)} {G G' : Option Nat} {xs xs' : List Int} {all all' : List UInt8} {out out' : List Int}
theorem OwnG.cur (h : OwnG q wr G v xs) {g : Nat} (hg : G = some g) : ∃ cur, wr.heap[g]? = some (.cells cur 21 (0, 0)) := by
 rcases h with ⟨h, _⟩ | ⟨g', off, cap, h, _, _, _, _, hc, _⟩
 ·rw [h] at hg; cases hg
 ·rw [h] at hg; injection hg with hg; subst hg; exact hc
theorem OwnG.keptD (h : OwnG q wr G v xs) (hk : zi wr w') : OwnG q w' G v xs := h.blk fun g hg => by
 obtain ⟨cur, hh⟩ := h.cur hg;rw [hh];exact hk.2 g _ hh (fun c f e => by injection e with _ e; exact absurd e (by decide)) (fun c f e => by injection e with _ e; exact absurd e (by decide))
theorem WBox.keptD (h : WBox wr wp v p f false) (hk : zi wr w') : WBox w' wp v p f false :=
 hk.2 wp _ h (fun c f e => by injection e with _ e; exact absurd e (by decide)) (fun c f e => by injection e with _ e; exact absurd e (by decide))
theorem DecT.keep (h : DecT q wr db k0 pl g0 all out) (hb : ∀ (b : Nat) (o : Obj), wr.heap[b]? = some o -> ((∃ cur fr, o = .cells cur 93 fr) \/ ∃ cur fr, o = .cells cur 128 fr) -> w'.heap[b]? = some o) : DecT q w' db k0 pl g0 all out := by
 obtain ⟨rest, a, k, g, ov, nf, A, c, fs, hd, h1, h2, h3, h4, h5⟩ := h;refine ⟨rest, a, k, g, ov, nf, A, c, fs, hd.keep ?_ ?_, h1, h2, h3, h4, h5⟩
 ·rw [hd.box]; exact hb db _ hd.box (.inl ⟨_, _, rfl⟩)
 ·intro b hb2;rcases hd.own.2 with ⟨hv, _⟩ | ⟨g, cap, cur, hv, _, hh, _⟩
  ·rw [hv] at hb2; cases hb2
  ·rw [hv] at hb2;injection hb2 with hb2;subst hb2;show w'.heap[g]? = wr.heap[g]?;rw [hh];exact hb g _ hh (.inr ⟨_, _, rfl⟩)
theorem DecT.below (h : DecT q wr db k0 pl g0 all out) (hb : Below wr.heap.size wr w') : DecT q w' db k0 pl g0 all out := h.keep fun b o ho _ => (hb.block b (Array.getElem?_eq_some_iff.1 ho).1).trans ho
structure PartT (q : Nat) (v0 wr : World) (db wp : Nat) (p : Option Addr) (f k0 pl : Int) (g0 : Bool) (vv : Value) (F : List (Option Nat × Value × List Int)) (all : List UInt8) (out : List Int) : Prop where
 fam : FamO q wr F
 bx : WBox wr wp vv p f false
 dt : DecT q wr db k0 pl g0 all out
 hb : Below q v0 wr
 sz : q <= wr.heap.size
 le : q <= wp
theorem PartT.below (h : PartT q v0 wr db wp p f k0 pl g0 vv F all out) (hb : Below wr.heap.size wr w') : PartT q v0 w' db wp p f k0 pl g0 vv F all out :=
 ⟨h.fam.below hb, zd h.bx hb, h.dt.below hb, h.hb.trans (hb.mono h.sz), Nat.le_trans h.sz hb.size, h.le⟩
theorem PartT.read (h : PartT q v0 wr db wp p f k0 pl g0 vv F all out) (hk : zi wr w') (hb : Below q wr w') (hd : DecT q w' db k0 pl g0 all' out') : PartT q v0 w' db wp p f k0 pl g0 vv F all' out' :=
 ⟨⟨fun i a ha => (h.fam.own i a ha).keptD hk, h.fam.apart⟩, WBox.keptD h.bx hk, hd, h.hb.trans hb, Nat.le_trans h.sz hb.size, h.le⟩
theorem PartT.app (h : PartT q v0 wr db wp p f k0 pl g0 vv F all out) (hi : F[i]? = some (G, v, xs)) (hown : OwnG q w' G' v' xs') (hg : wr.grownBy w' G) (hat : ∀ g, G' = some g -> G = some g \/ wr.heap.size <= g) : PartT q v0 w' db wp p f k0 pl g0 vv (F.set i (G', v', xs')) all out :=
 ⟨h.fam.app hi hown hg hat, h.fam.boxg hi h.bx hg, h.dt.keep fun b o ho hT => (hg.block b (Array.getElem?_eq_some_iff.1 ho).1 fun e => by
  obtain ⟨cur, hh⟩ := (h.fam.own i _ hi).cur e.symm;rw [ho] at hh;injection hh with hh
  rcases hT with ⟨c, fr, rfl⟩ | ⟨c, fr, rfl⟩ <;> (injection hh with _ hh; exact absurd hh (by decide))).trans ho, h.hb.trans ((Below.refl q wr).grown hg h.sz fun j hj => ((h.fam.own i _ hi).lt hj).1), Nat.le_trans h.sz hg.size, h.le⟩
theorem PartT.feed (h : PartT q v0 wr db wp p f k0 pl g0 vv F all out) (hi : F[0]? = some (G, vv, xs)) (hw : Wrote (fun k => k = wp \/ G = some k) wr w') (hW : WrM q w' wp p f false G' v' xs') (hat : ∀ g, G' = some g -> wr.heap.size <= g) : PartT q v0 w' db wp p f k0 pl g0 v' (F.set 0 (G', v', xs')) all out :=
 ⟨h.fam.fed hi h.bx hw hW hat, hW.box, h.dt.keep fun b o ho hT => (hw.block b (Array.getElem?_eq_some_iff.1 ho).1 fun e => by
  rcases e with rfl | e
  ·have hh := h.bx;have hh := ho.symm.trans hh;injection hh with hh;rcases hT with ⟨c, fr, rfl⟩ | ⟨c, fr, rfl⟩ <;> (injection hh with _ hh; exact absurd hh (by decide))
  ·obtain ⟨cur, hh⟩ := (h.fam.own 0 _ hi).cur e;rw [ho] at hh;injection hh with hh
   rcases hT with ⟨c, fr, rfl⟩ | ⟨c, fr, rfl⟩ <;> (injection hh with _ hh; exact absurd hh (by decide))).trans ho, h.hb.trans (hw.below (fun j hj => hj.elim (fun e => by rw [e]; exact h.le) fun e => ((h.fam.own 0 _ hi).lt e).1) h.sz), Nat.le_trans h.sz hw.size, h.le⟩
theorem PartT.w (h : PartT q v0 wr db wp p f k0 pl g0 vv F all out) (hi : F[0]? = some (G, vv, xs)) : WrM q wr wp p f false G vv xs := h.fam.wr hi h.bx h.le
end
theorem zed {B : BaseF} (hbd : zau B) (c j : Bool) {xs fs : List Int} (h : fs = B.form c j xs) : fs.length <= 54 * xs.length := by
 have h1 := zk5 hbd c xs;rw [h];unfold BaseF.form;split
 ·have := zh9 (B := B) (B.full c xs); omega
 ·omega
theorem Fed.out_lenT {B : BaseF} {c j : Bool} {all out wt : List Int} (hbd : zau B) (h : Fed B c j all out wt) : out.length <= 54 * all.length := by
 have h1 := zed hbd c j (xs := all) rfl;rw [<- h.close, List.length_append] at h1;omega
theorem OwnG.argvT {q n c : Nat} {w : World} {G : Option Nat} {A : Option Addr} {xs : List Int} (h : OwnG q w G (.slice A n c) xs) : xs.length = n /\ Rd w A n (Rs xs) := by
 obtain ⟨A', c', e, h1, h2, h3⟩ := h.shape;injection e with e1 e2 e3;subst e1 e2 e3;exact ⟨rfl, h3⟩
end
end Go.Proofs.YtolcabjkbefjgaaGreatDoor
