/- The writer: New, open, Waits, Feed, Close: the code. Writers among rows that a call owns. The example of the chapter on forms: true. -/
import Derived.Test.YtkocaoeednmkpaaGreatDoorZ44
import Derived.Test.YtkocaoeednmkpaaGreatDoorH45
set_option linter.unusedSimpArgs false
set_option linter.unusedVariables false
set_option maxRecDepth 20000
set_option maxHeartbeats 4000000
namespace Go.Proofs.YtkocaoeednmkpaaGreatDoor
section
open Go.RowKit
section
variable {q wp : Nat} {w w0 : World} {p : Option Addr} {f : Int} {ov : Bool} {G : Option Nat} {v : Value} {l : List Int} {B : BaseF}
theorem nnew_yes (p : Option Addr) (f : Int) (w : World) (hf : mayF f = true) : Calls Tryz.prog 32 #[.pointer p, .int .i64 f] w fun e w' => e = .returned (.tuple #[.pointer (some ⟨w.heap.size, 0, none⟩), .int .i64 0]) /\ WrM w.heap.size w' w.heap.size p f false none (.slice none 0 0) [] /\ Below w.heap.size w w' := by
 have h := (zbz f).1 hf;have h1 : ¬ f < 1 := (by omega);have h2 : ¬ 4 < f := (by omega);clear hf h;go_enter Tryz.func32, Tryz.ntmps32;go_wp2;go_returns;exact ⟨rfl, ⟨zl _ _ _, .nil _ _ none, Nat.le_refl _⟩, (Below.refl _ w).alloc (Nat.le_refl _) _⟩
theorem zlw (w : World) : Calls Tryz.prog 58 #[.pointer none] w fun e w' => e = .returned (.int .i64 2) /\ w = w' := by
 go_enter Tryz.func58, Tryz.ntmps58;go_wp2;go_returns;exact ⟨rfl, rfl⟩
theorem zlx (h : WrM q w wp p f ov G v l) : Calls Tryz.prog 58 #[.pointer (some ⟨wp, 0, none⟩)] w fun e w' => e = .returned (.int .i64 (if ov = true then 21 else 0)) /\ w = w' := by
 have b3 := za h.box 3 rfl;clear h
 cases ov with
 | true =>
  go_enter Tryz.func58, Tryz.ntmps58;go_wp2;go_returns;exact ⟨rfl, rfl⟩
 | false =>
  go_enter Tryz.func58, Tryz.ntmps58;go_wp2;go_returns;exact ⟨rfl, rfl⟩
theorem nwaits_nil (w : World) : Calls Tryz.prog 37 #[.pointer none] w fun e w' => e = .returned (.int .i64 0) /\ w = w' := by
 go_enter Tryz.func37, Tryz.ntmps37;go_wp2;go_returns;exact ⟨rfl, rfl⟩
theorem nfeed_nil (A : Option Addr) (n c : Nat) (w : World) : Calls Tryz.prog 33 #[.pointer none, .slice A n c] w fun e w' => e = .returned (.tuple #[.slice none 0 0, .int .i64 2]) /\ w = w' := by
 have O := zlw w;go_enter Tryz.func33, Tryz.ntmps33;go_wp2_with fail;refine O.mono ?_;rintro e w1 ⟨rfl, rfl⟩;go_wp2;go_returns;exact ⟨rfl, rfl⟩
theorem nclose_nil (w : World) : Calls Tryz.prog 34 #[.pointer none] w fun e w' => e = .returned (.tuple #[.slice none 0 0, .int .i64 2]) /\ w = w' := by
 have O := zlw w;go_enter Tryz.func34, Tryz.ntmps34;go_wp2_with fail;refine O.mono ?_;rintro e w1 ⟨rfl, rfl⟩;go_wp2;go_returns;exact ⟨rfl, rfl⟩
theorem zjy {B : BaseF} {f : Int} {xs : List Int} (h : mayF f = true) : formE B f xs = (B.form (cB f) (jB f) xs, 0) := if_pos h
def FeedP (B : BaseF) (c j : Bool) (q : Nat) (w : World) (wp : Nat) (p : Option Addr) (f : Int) (G : Option Nat) (l : List Int) (e : Ending) (w' : World) : Prop :=
 ∃ m A1 c1 G' v', CutAt B c j l m /\ e = .returned (.tuple #[.slice A1 (B.form c j (l.take m)).length c1, .int .i64 0]) /\ ArgR w' A1 (B.form c j (l.take m)).length c1 (B.form c j (l.take m)) /\
  WrM q w' wp p f false G' v' (l.drop m) /\ Wrote (fun k => k = wp \/ G = some k) w w' /\ ∀ g, G' = some g -> w.heap.size <= g
def zp8 (B : BaseF) (c j : Bool) (q : Nat) (w : World) (wp : Nat) (p : Option Addr) (f : Int) (G : Option Nat) (l : List Int) (e : Ending) (w' : World) : Prop :=
 ∃ A1 c1 G' v', e = .returned (.tuple #[.slice A1 (B.form c j l).length c1, .int .i64 0]) /\ ArgR w' A1 (B.form c j l).length c1 (B.form c j l) /\
  WrM q w' wp p f true G' v' [] /\ Wrote (fun k => k = wp) w w' /\ ∀ g, G' = some g -> w.heap.size <= g
theorem zbi.argF {w w' : World} {zs : List Int} {k : Int} {e : Ending} (h : zbi w (zs, k) e w') (hR : ∀ x ∈ zs, R32 x) : ∃ A c, e = .returned (.tuple #[.slice A zs.length c, .int .i64 k]) /\ ArgR w' A zs.length c zs /\ Below w.heap.size w w' := by
 obtain ⟨A, c, he, hown, hb⟩ := h;obtain ⟨A2, c2, h1, h2, h3⟩ := zae.arg (e := .returned (.slice A zs.length c)) ⟨A, c, rfl, hown, hb⟩ hR;injection h1 with h1;injection h1 with h1a _ h1c;subst h1a h1c;exact ⟨A, c, he, h2, h3⟩
theorem zly (HB : Hid (∀ W, Below q w0 W -> zaj W (.pointer p) B)) (HK : Hid (∀ W, Below q w0 W -> Kinds W)) (hbd : zac B) (h : WrM q w wp p f false G v l) (hl : ∀ x ∈ l, R32 x) (hb : Below q w0 w) (hq : q <= w.heap.size) (hf : mayF f = true)
  (A : Option Addr) (n c : Nat) (zs : List Int) (hrd : Rd w A n (Rs zs)) (hn : zs.length = n) (hx : ∀ x ∈ zs, R32 x) (h2 : l.length + n <= 3300) :
  Calls Tryz.prog 33 #[.pointer (some ⟨wp, 0, none⟩), .slice A n c] w (FeedP B (cB f) (jB f) q w wp p f G (l ++ zs)) := by
 have O := zlx h;rw [if_neg (by simp)] at O;have PU := qput_any (c := c) h hq A n zs hrd hn (by omega);have HW := hz0q h;have HX : Hid (∀ x ∈ l ++ zs, R32 x) := fun x hx2 => (List.mem_append.1 hx2).elim (hl x) (hx x);have hlz : (l ++ zs).length <= 3300 := (by rw [List.length_append, hn]; exact h2);obtain ⟨ls, hls⟩ : ∃ ls, ls = l ++ zs := ⟨_, rfl⟩;rw [<- hls] at PU HX hlz ⊢;have HBW := hz0q hb;have HQ := hz0q hq;have HBD := hz0q hbd;have HMT := hz0q hf;clear h hl hrd hn hx hls hb hq hbd hf h2;go_enter Tryz.func33, Tryz.ntmps33;go_wp2_with fail;refine O.mono ?_;rintro e w1 ⟨rfl, rfl⟩;clear O;go_wp2_with fail;refine PU.mono ?_;rintro e w1 ⟨⟨u, rfl⟩, G1, v1, hW1, hwr1, hat1⟩;have HW1 := hz0q hW1;have HWR1 := hz0q hwr1;have HAT1 := hz0q hat1;have HB1 : Hid (Below q w0 w1) := HBW.out.trans (hwr1.below (fun k hk => hk.elim (fun e => by rw [e]; exact HW.out.tb) fun e => (HW.out.own.lt e).1) HQ.out);have HQ1 : Hid (q <= w1.heap.size) := Nat.le_trans HQ.out hwr1.size;obtain ⟨A1, c1, rfl, hnc1, _, hrd1⟩ := hW1.own.shape;obtain ⟨L, hL⟩ : ∃ L, L = ls.length := ⟨_, rfl⟩;rw [<- hL] at hrd1 hlz hnc1;have HL := hz0q hL;have HRD1 := hz0q hrd1
 have CU : Hid (∀ W, Below w1.heap.size w1 W -> Calls Tryz.prog 26 #[.pointer p, .int .i64 f, .slice A1 L c1] W fun e w' => (∃ m : Nat, CutAt B (cB f) (jB f) ls m /\ e = .returned (.tuple #[.int .i64 m, .int .i64 0])) /\ Below W.heap.size W w') := fun W hW => by
  have h1 := HB1.out.trans (hW.mono HQ1.out);have := zes (cp := c1) (HB.out W h1) (HK.out W h1) HBD.out f A1 L ls (HRD1.out.below hW) HL.out.symm HX.out (by omega);rw [if_pos HMT.out] at this;refine this.mono ?_;rintro e w' ⟨⟨m, h1, h2⟩, h3⟩;exact ⟨⟨m, by simpa [HMT.out] using h1, h2⟩, h3⟩
 have HMK : Hid (∀ w', Below w1.heap.size w1 w' -> ((w'.cell? ⟨wp, 0, none⟩ = some (.slice A1 L c1) /\ w'.cell? ⟨wp, 1, none⟩ = some (.pointer p)) /\ w'.cell? ⟨wp, 2, none⟩ = some (.int .i64 f)) /\ Below w1.heap.size w1 w') := fun w' h => by
  have hT := HW1.out.below h;have e0 := za hT.box 0 rfl;rw [<- HL.out] at e0;exact ⟨⟨⟨e0, za hT.box 1 rfl⟩, za hT.box 2 rfl⟩, h⟩
 clear PU hW1 hwr1 hat1 hrd1 hL;go_upto_region 5 with fail;refine wp_region_held_drew (S := fun w' => ((w'.cell? ⟨wp, 0, none⟩ = some (.slice A1 L c1) /\ w'.cell? ⟨wp, 1, none⟩ = some (.pointer p)) /\ w'.cell? ⟨wp, 2, none⟩ = some (.int .i64 f)) /\ Below w1.heap.size w1 w') (by kernel_rfl) (HMK.out _ (Drew.to ⟨1, rfl⟩)) (fun hH0 => ?_);refine tkH 0 (.pointer (some ⟨wp, 0, none⟩)) rfl hH0 ?_;try simp only [gA, gB, gC, Act.put, gD, gE, gF]
 refine tkH 1 (.pointer (some ⟨wp, 0, none⟩)) rfl hH0 ?_;try simp only [gA, gB, gC, Act.put, gD, gE, gF]
 refine tkH 2 (.pointer (some ⟨wp, 1, none⟩)) rfl hH0 ?_;try simp only [gA, gB, gC, Act.put, gD, gE, gF]
 refine tkH 3 (.pointer p) rfl hH0 ?_;try simp only [gA, gB, gC, Act.put, gD, gE, gF]
 refine tkH 4 (.pointer (some ⟨wp, 0, none⟩)) rfl hH0 ?_;try simp only [gA, gB, gC, Act.put, gD, gE, gF]
 refine tkH 5 (.pointer (some ⟨wp, 0, none⟩)) rfl hH0 ?_;try simp only [gA, gB, gC, Act.put, gD, gE, gF]
 refine tkH 6 (.pointer (some ⟨wp, 2, none⟩)) rfl hH0 ?_;try simp only [gA, gB, gC, Act.put, gD, gE, gF]
 refine tkH 7 (.int .i64 f) rfl hH0 ?_;try simp only [gA, gB, gC, Act.put, gD, gE, gF]
 refine tkH 8 (.pointer (some ⟨wp, 0, none⟩)) rfl hH0 ?_;try simp only [gA, gB, gC, Act.put, gD, gE, gF]
 refine tkH 9 (.pointer (some ⟨wp, 0, none⟩)) rfl hH0 ?_;try simp only [gA, gB, gC, Act.put, gD, gE, gF]
 refine tkH 10 (.pointer (some ⟨wp, 0, none⟩)) rfl hH0 ?_;try simp only [gA, gB, gC, Act.put, gD, gE, gF]
 refine tkH 11 (.pointer (some ⟨wp, 0, none⟩)) rfl hH0 ?_;try simp only [gA, gB, gC, Act.put, gD, gE, gF]
 refine tkH 12 (.slice A1 L c1) rfl hH0 ?_;try simp only [gA, gB, gC, Act.put, gD, gE, gF]
 refine wpAnyH_ready (rs := [13]) (by kernel_rfl) (by simp) ?_;refine AllReadyH.cons rfl (fun K hK => ?_) AllReadyH.nil;go_simp
 refine (CU.out _ hH0.2).mono ?_;rintro e w50 ⟨⟨m, hm, rfl⟩, hb2⟩;refine hK.out _ _ (HMK.out _ (zb hH0.2 hb2)) (fun hH1 => ?_);clear hK K hH0;try simp only [gA, gB, gC, Act.put, gD, gE, gF]
 refine tkH 14 (.tuple #[.int .i64 m, .int .i64 0]) rfl hH1 ?_;try simp only [gA, gB, gC, Act.put, gD, gE, gF]
 refine tkH 15 (.int .i64 m) rfl hH1 ?_;try simp only [gA, gB, gC, Act.put, gD, gE, gF]
 refine tkH 16 (.int .i64 0) rfl hH1 ?_;try simp only [gA, gB, gC, Act.put, gD, gE, gF]
 refine tkH 17 (.int .i64 m) rfl hH1 ?_;try simp only [gA, gB, gC, Act.put, gD, gE, gF]
 refine tkH 18 (.int .i64 0) rfl hH1 ?_;try simp only [gA, gB, gC, Act.put, gD, gE, gF]
 refine wpAnyH_done (by kernel_rfl) ?_ _;have HB2 := hz0q hH1.2;clear hH1;have HM := hz0q hm;have HW2 := hz0q (HW1.out.below HB2.out);have HB20 : Hid (Below q w0 w50) := HB1.out.trans (HB2.out.mono HQ1.out);have HQ2 : Hid (q <= w50.heap.size) := Nat.le_trans HQ1.out HB2.out.size;have hmL : m <= ls.length := (by rcases hm.lt with h | h <;> omega);have HMK2 : Hid (∀ w', Below q w0 w' -> w'.heap[wp]? = w50.heap[wp]? -> ((w'.cell? ⟨wp, 1, none⟩ = some (.pointer p) /\ w'.cell? ⟨wp, 2, none⟩ = some (.int .i64 f)) /\ Below q w0 w')) := fun w' h1 h2 => ⟨⟨za (h2.trans HW2.out.box) 1 rfl, za (h2.trans HW2.out.box) 2 rfl⟩, h1⟩;have hm33 : m <= 3300 := (by have := HL.out; omega);have HFR : Hid (∀ y ∈ B.form (cB f) (jB f) (ls.take m), R32 y) := zcd HBD.out (cB f) (jB f) (fun y hy => HX.out y (List.mem_of_mem_take hy)) rfl;have TK : Hid (∀ W, Below w50.heap.size w50 W -> Calls Tryz.prog 60 #[.pointer (some ⟨wp, 0, none⟩), .int .i64 m] W fun e w' => ∃ u, e = .returned u /\ TakeQ q W wp p f false ls m u w') := fun W h => zlo (HW2.out.below h) (Nat.le_trans HQ2.out h.size) m hmL (by rw [<- HL.out]; omega);obtain ⟨fs, hfs⟩ : ∃ fs, fs = B.form (cB f) (jB f) (ls.take m) := ⟨_, rfl⟩;rw [<- hfs] at HFR;have HFS := hz0q hfs
 have FO : Hid (∀ W A c, Below q w0 W -> Rd W A m (Rs (ls.take m)) -> Calls Tryz.prog 35 #[.pointer p, .int .i64 f, .slice A m c] W (zbi W (fs, 0))) := fun W A c h1 h2 => by
  have := zao (cp := c) (HB.out W h1) (HK.out W h1) HBD.out f A m (ls.take m) h2 (by rw [List.length_take]; omega) (fun y hy => HX.out y (List.mem_of_mem_take hy)) (by omega);rwa [zjy HMT.out, <- hfs] at this
 obtain ⟨fl, hfl⟩ : ∃ fl, fl = fs.length := ⟨_, rfl⟩;have HFL := hz0q hfl;have HLT : Hid ((ls.take m).length = m) := (by show _ = _; rw [List.length_take]; omega);have HDR : Hid (Below w50.heap.size w50 w50.drew) := Drew.to ⟨1, rfl⟩;clear CU HMK hm hfs hfl hmL;go_upto_region 8 with fail;refine wp_region_held_drew (S := fun w' => (w'.cell? ⟨wp, 1, none⟩ = some (.pointer p) /\ w'.cell? ⟨wp, 2, none⟩ = some (.int .i64 f)) /\ Below q w0 w') (by kernel_rfl) ((HMK2.out _ (HB20.out.trans (HDR.out.mono HQ2.out)) rfl)) (fun hH0 => ?_);refine tkH 0 (.pointer (some ⟨wp, 0, none⟩)) rfl hH0 ?_;try simp only [gA, gB, gC, Act.put, gD, gE, gF]
 refine tkH 1 (.pointer (some ⟨wp, 0, none⟩)) rfl hH0 ?_;try simp only [gA, gB, gC, Act.put, gD, gE, gF]
 refine tkH 2 (.pointer (some ⟨wp, 1, none⟩)) rfl hH0 ?_;try simp only [gA, gB, gC, Act.put, gD, gE, gF]
 refine tkH 3 (.pointer p) rfl hH0 ?_;try simp only [gA, gB, gC, Act.put, gD, gE, gF]
 refine tkH 4 (.pointer (some ⟨wp, 0, none⟩)) rfl hH0 ?_;try simp only [gA, gB, gC, Act.put, gD, gE, gF]
 refine tkH 5 (.pointer (some ⟨wp, 0, none⟩)) rfl hH0 ?_;try simp only [gA, gB, gC, Act.put, gD, gE, gF]
 refine tkH 6 (.pointer (some ⟨wp, 2, none⟩)) rfl hH0 ?_;try simp only [gA, gB, gC, Act.put, gD, gE, gF]
 refine tkH 7 (.int .i64 f) rfl hH0 ?_;try simp only [gA, gB, gC, Act.put, gD, gE, gF]
 refine tkH 8 (.pointer (some ⟨wp, 0, none⟩)) rfl hH0 ?_;try simp only [gA, gB, gC, Act.put, gD, gE, gF]
 refine tkH 9 (.pointer (some ⟨wp, 0, none⟩)) rfl hH0 ?_;try simp only [gA, gB, gC, Act.put, gD, gE, gF]
 refine tkH 10 (.pointer (some ⟨wp, 0, none⟩)) rfl hH0 ?_;try simp only [gA, gB, gC, Act.put, gD, gE, gF]
 refine tkH 11 (.int .i64 m) rfl hH0 ?_;try simp only [gA, gB, gC, Act.put, gD, gE, gF]
 refine wpAnyH_ready (rs := [12]) (by kernel_rfl) (by simp) ?_;refine AllReadyH.cons rfl (fun K hK => ?_) AllReadyH.nil;go_simp
 refine (TK.out _ HDR.out).mono ?_;rintro e w60 ⟨u, rfl, G3, G4, v4, ho3, hW4, hwr4, hat4⟩;obtain ⟨A3, c3, hu3, _, _, hrd3⟩ := ho3.shape;rw [HLT.out] at hu3 hrd3;subst hu3;have hb60 : Below q w0 w60 := hH0.2.trans (hwr4.below (fun k hk => by rw [hk]; exact HW.out.tb) (Nat.le_trans HQ2.out HDR.out.size));have HW4 := hz0q hW4;have HWR4 := hz0q hwr4;have HAT4 := hz0q hat4;have HRD3 := hz0q hrd3;clear hW4 hwr4 hat4 hrd3 ho3;refine hK.out _ _ (⟨⟨za HW4.out.box 1 rfl, za HW4.out.box 2 rfl⟩, hb60⟩) (fun hH1 => ?_);clear hK K hH0;try simp only [gA, gB, gC, Act.put, gD, gE, gF]
 refine wpAnyH_ready (rs := [13]) (by kernel_rfl) (by simp) ?_;refine AllReadyH.cons rfl (fun K hK => ?_) AllReadyH.nil;go_simp
 refine (FO.out _ A3 c3 hH1.2 HRD3.out).mono ?_;rintro e w61 hf;obtain ⟨A5, c5, rfl, z5, hb7⟩ := hf.argF HFR.out;rw [<- HFL.out];have HZ5 := hz0q z5;have HB7 := hz0q hb7;have HW5 := hz0q (HW4.out.below hb7);have hb70 : Below q w0 w61 := hH1.2.trans (hb7.mono (Nat.le_trans HQ2.out (Nat.le_trans HDR.out.size HWR4.out.size)));clear hf z5 hb7;refine hK.out _ _ (⟨⟨za HW5.out.box 1 rfl, za HW5.out.box 2 rfl⟩, hb70⟩) (fun hH2 => ?_);clear hK K hH1;try simp only [gA, gB, gC, Act.put, gD, gE, gF]
 refine tkH 14 (.slice A5 fl c5) rfl hH2 ?_;try simp only [gA, gB, gC, Act.put, gD, gE, gF]
 refine tkH 15 (.int .i64 0) rfl hH2 ?_;try simp only [gA, gB, gC, Act.put, gD, gE, gF]
 refine tkH 16 (.slice A5 fl c5) rfl hH2 ?_;try simp only [gA, gB, gC, Act.put, gD, gE, gF]
 refine tkH 17 (.int .i64 0) rfl hH2 ?_;try simp only [gA, gB, gC, Act.put, gD, gE, gF]
 refine wpAnyH_done (by kernel_rfl) ?_ _;clear hH2;have HWR : Hid (Wrote (fun k => k = wp \/ G = some k) w w61) := (((HWR1.out.then_below HB2.out).then_below HDR.out).trans (HWR4.out.mono fun k _ e => .inl e)).then_below HB7.out;have HAT : Hid (∀ g, G4 = some g -> w.heap.size <= g) := fun g hg => Nat.le_trans HWR1.out.size (Nat.le_trans HB2.out.size (Nat.le_trans HDR.out.size (HAT4.out g hg)));go_wp2;go_returns;rw [HFL.out];have hz := HZ5.out;rw [HFS.out] at hz ⊢;exact ⟨m, A5, c5, G4, v4, HM.out, rfl, hz, HW5.out, HWR.out, HAT.out⟩
theorem nclose_any (HB : Hid (∀ W, Below q w0 W -> zaj W (.pointer p) B)) (HK : Hid (∀ W, Below q w0 W -> Kinds W)) (hbd : zac B) (h : WrM q w wp p f false G v l) (hl : ∀ x ∈ l, R32 x) (hb : Below q w0 w) (hq : q <= w.heap.size) (hf : mayF f = true) (h2 : l.length <= 3300) :
  Calls Tryz.prog 34 #[.pointer (some ⟨wp, 0, none⟩)] w (zp8 B (cB f) (jB f) q w wp p f G l) := by
 have O := zlx h;rw [if_neg (by simp)] at O;have HW := hz0q h;have HX := hz0q hl;have HBW := hz0q hb;have HQ := hz0q hq;have HBD := hz0q hbd;have HMT := hz0q hf;have bx := h.box;have f3 := zc h.box 3;have c3 := za h.box 3 rfl;clear h hl hb hq hbd hf bx;go_enter Tryz.func34, Tryz.ntmps34;go_wp2_with fail;refine O.mono ?_;rintro e w1 ⟨rfl, rfl⟩;clear O;have HWR1 : Hid (Wrote (fun k => k = wp) w (w.setCell ⟨wp, 3, none⟩ (.bool true))) := Wrote.setCell (S := fun k => k = wp) (.inl rfl) _;have HW1 := hz0q (HW.out.over true);obtain ⟨w1, hw1⟩ : ∃ w1, w1 = w.setCell ⟨wp, 3, none⟩ (.bool true) := ⟨_, rfl⟩;rw [<- hw1] at HWR1 HW1;have HB1 : Hid (Below q w0 w1) := HBW.out.trans (HWR1.out.below (fun k hk => by rw [hk]; exact HW.out.tb) HQ.out);have HQ1 : Hid (q <= w1.heap.size) := Nat.le_trans HQ.out HWR1.out.size;obtain ⟨A1, c1, hv1, hnc1, _, hrd1⟩ := HW1.out.own.shape;subst hv1;have HMK2 : Hid (∀ w', Below q w0 w' -> w'.heap[wp]? = w1.heap[wp]? -> ((w'.cell? ⟨wp, 1, none⟩ = some (.pointer p) /\ w'.cell? ⟨wp, 2, none⟩ = some (.int .i64 f)) /\ Below q w0 w')) := fun w' h1 h2 => ⟨⟨za (h2.trans HW1.out.box) 1 rfl, za (h2.trans HW1.out.box) 2 rfl⟩, h1⟩;have HFR : Hid (∀ y ∈ B.form (cB f) (jB f) l, R32 y) := zcd HBD.out (cB f) (jB f) HX.out rfl;have TK : Hid (∀ W, Below w1.heap.size w1 W -> Calls Tryz.prog 60 #[.pointer (some ⟨wp, 0, none⟩), .int .i64 l.length] W fun e w' => ∃ u, e = .returned u /\ TakeQ q W wp p f true l l.length u w') := fun W h => zlo (HW1.out.below h) (Nat.le_trans HQ1.out h.size) l.length (Nat.le_refl _) (by omega)
 obtain ⟨fs, hfs⟩ : ∃ fs, fs = B.form (cB f) (jB f) l := ⟨_, rfl⟩;rw [<- hfs] at HFR;have HFS := hz0q hfs;obtain ⟨m, hm⟩ : ∃ m, m = l.length := ⟨_, rfl⟩;have HM := hz0q hm
 have FO : Hid (∀ W A c, Below q w0 W -> Rd W A m (Rs l) -> Calls Tryz.prog 35 #[.pointer p, .int .i64 f, .slice A m c] W (zbi W (fs, 0))) := fun W A c h1 h3 => by
  have := zao (cp := c) (HB.out W h1) (HK.out W h1) HBD.out f A m l h3 hm.symm HX.out (by omega);rwa [zjy HMT.out, <- hfs] at this
 obtain ⟨fl, hfl⟩ : ∃ fl, fl = fs.length := ⟨_, rfl⟩;have HFL := hz0q hfl;have HLT : Hid (l.take m = l /\ l.drop m = []) := ⟨List.take_of_length_le (by omega), List.drop_eq_nil_of_le (by omega)⟩;have HDR : Hid (Below w1.heap.size w1 w1.drew) := Drew.to ⟨1, rfl⟩
 have HC0 : Hid (w1.drew.cell? ⟨wp, 0, none⟩ = some (.slice A1 m c1)) := by
  show _ = _;have := za (HW1.out.below HDR.out).box 0 rfl;rwa [<- hm] at this
 rw [<- hm] at TK;clear hfs hfl hm hrd1 hnc1 h2;go_upto_region 5 with fail;rw [<- hw1];clear hw1;refine wp_region_held_drew (S := fun w' => (w'.cell? ⟨wp, 1, none⟩ = some (.pointer p) /\ w'.cell? ⟨wp, 2, none⟩ = some (.int .i64 f)) /\ Below q w0 w') (by kernel_rfl) ((HMK2.out _ (HB1.out.trans (HDR.out.mono HQ1.out)) rfl)) (fun hH0 => ?_);refine tkH 0 (.pointer (some ⟨wp, 0, none⟩)) rfl hH0 ?_;try simp only [gA, gB, gC, Act.put, gD, gE, gF]
 refine tkH 1 (.pointer (some ⟨wp, 0, none⟩)) rfl hH0 ?_;try simp only [gA, gB, gC, Act.put, gD, gE, gF]
 refine tkH 2 (.pointer (some ⟨wp, 1, none⟩)) rfl hH0 ?_;try simp only [gA, gB, gC, Act.put, gD, gE, gF]
 refine tkH 3 (.pointer p) rfl hH0 ?_;try simp only [gA, gB, gC, Act.put, gD, gE, gF]
 refine tkH 4 (.pointer (some ⟨wp, 0, none⟩)) rfl hH0 ?_;try simp only [gA, gB, gC, Act.put, gD, gE, gF]
 refine tkH 5 (.pointer (some ⟨wp, 0, none⟩)) rfl hH0 ?_;try simp only [gA, gB, gC, Act.put, gD, gE, gF]
 refine tkH 6 (.pointer (some ⟨wp, 2, none⟩)) rfl hH0 ?_;try simp only [gA, gB, gC, Act.put, gD, gE, gF]
 refine tkH 7 (.int .i64 f) rfl hH0 ?_;try simp only [gA, gB, gC, Act.put, gD, gE, gF]
 refine tkH 8 (.pointer (some ⟨wp, 0, none⟩)) rfl hH0 ?_;try simp only [gA, gB, gC, Act.put, gD, gE, gF]
 refine tkH 9 (.pointer (some ⟨wp, 0, none⟩)) rfl hH0 ?_;try simp only [gA, gB, gC, Act.put, gD, gE, gF]
 refine tkH 10 (.pointer (some ⟨wp, 0, none⟩)) rfl hH0 ?_;try simp only [gA, gB, gC, Act.put, gD, gE, gF]
 refine tkH 11 (.pointer (some ⟨wp, 0, none⟩)) rfl hH0 ?_;try simp only [gA, gB, gC, Act.put, gD, gE, gF]
 refine tkH 12 (.pointer (some ⟨wp, 0, none⟩)) rfl hH0 ?_;try simp only [gA, gB, gC, Act.put, gD, gE, gF]
 refine tkH 13 (.pointer (some ⟨wp, 0, none⟩)) rfl hH0 ?_;try simp only [gA, gB, gC, Act.put, gD, gE, gF]
 refine tkH 14 (.pointer (some ⟨wp, 0, none⟩)) rfl hH0 ?_;try simp only [gA, gB, gC, Act.put, gD, gE, gF]
 refine wpAnyH_ready (rs := [15]) (by kernel_rfl) (by simp) ?_;refine AllReadyH.cons rfl (fun K hK => ?_) AllReadyH.nil;have hc0 := HC0.out;go_simp
 refine hK.out _ _ (hH0) (fun hH1 => ?_);clear hK K hH0;try simp only [gA, gB, gC, Act.put, gD, gE, gF]
 refine tkH 16 (.int .i64 m) rfl hH1 ?_;try simp only [gA, gB, gC, Act.put, gD, gE, gF]
 refine wpAnyH_ready (rs := [17]) (by kernel_rfl) (by simp) ?_;refine AllReadyH.cons rfl (fun K hK => ?_) AllReadyH.nil;go_simp
 refine (TK.out _ HDR.out).mono ?_;rintro e w51 ⟨u, rfl, G3, G4, v4, ho3, hW4, hwr4, hat4⟩;rw [HLT.out.1] at ho3;rw [HLT.out.2] at hW4;obtain ⟨A3, c3, hu3, _, _, hrd3⟩ := ho3.shape;rw [<- HM.out] at hu3 hrd3;subst hu3;have hb60 : Below q w0 w51 := hH1.2.trans (hwr4.below (fun k hk => by rw [hk]; exact HW.out.tb) (Nat.le_trans HQ1.out HDR.out.size));have HW4 := hz0q hW4;have HWR4 := hz0q hwr4;have HAT4 := hz0q hat4;have HRD3 := hz0q hrd3;clear hW4 hwr4 hat4 hrd3 ho3;refine hK.out _ _ (⟨⟨za HW4.out.box 1 rfl, za HW4.out.box 2 rfl⟩, hb60⟩) (fun hH2 => ?_);clear hK K hH1;try simp only [gA, gB, gC, Act.put, gD, gE, gF]
 refine wpAnyH_ready (rs := [18]) (by kernel_rfl) (by simp) ?_;refine AllReadyH.cons rfl (fun K hK => ?_) AllReadyH.nil;go_simp
 refine (FO.out _ A3 c3 hH2.2 HRD3.out).mono ?_;rintro e w52 hf;obtain ⟨A5, c5, rfl, z5, hb7⟩ := hf.argF HFR.out;rw [<- HFL.out];have HZ5 := hz0q z5;have HB7 := hz0q hb7;have HW5 := hz0q (HW4.out.below hb7);have hb70 : Below q w0 w52 := hH2.2.trans (hb7.mono (Nat.le_trans HQ1.out (Nat.le_trans HDR.out.size HWR4.out.size)));clear hf z5 hb7;refine hK.out _ _ (⟨⟨za HW5.out.box 1 rfl, za HW5.out.box 2 rfl⟩, hb70⟩) (fun hH3 => ?_);clear hK K hH2;try simp only [gA, gB, gC, Act.put, gD, gE, gF]
 refine tkH 19 (.slice A5 fl c5) rfl hH3 ?_;try simp only [gA, gB, gC, Act.put, gD, gE, gF]
 refine tkH 20 (.int .i64 0) rfl hH3 ?_;try simp only [gA, gB, gC, Act.put, gD, gE, gF]
 refine tkH 21 (.slice A5 fl c5) rfl hH3 ?_;try simp only [gA, gB, gC, Act.put, gD, gE, gF]
 refine tkH 22 (.int .i64 0) rfl hH3 ?_;try simp only [gA, gB, gC, Act.put, gD, gE, gF]
 refine wpAnyH_done (by kernel_rfl) ?_ _;clear hH3;have HWR : Hid (Wrote (fun k => k = wp) w w52) := ((HWR1.out.then_below HDR.out).trans HWR4.out).then_below HB7.out;have HAT : Hid (∀ g, G4 = some g -> w.heap.size <= g) := fun g hg => Nat.le_trans HWR1.out.size (Nat.le_trans HDR.out.size (HAT4.out g hg));go_wp2;go_returns;rw [HFL.out];have hz := HZ5.out;rw [HFS.out] at hz ⊢;exact ⟨A5, c5, G4, v4, rfl, hz, HW5.out, HWR.out, HAT.out⟩
end
end
section
open Go.RowKit
theorem FeedP.at_ {B : BaseF} {c j : Bool} {q wp m : Nat} {w w' : World} {p : Option Addr} {f : Int} {G : Option Nat} {l fs ds : List Int} {e : Ending} (h : FeedP B c j q w wp p f G l e w') (hc : CutAt B c j l m) (hf : B.form c j (l.take m) = fs) (hd : l.drop m = ds) :
  ∃ A1 c1 G' v', e = .returned (.tuple #[.slice A1 fs.length c1, .int .i64 0]) /\ ArgR w' A1 fs.length c1 fs /\ WrM q w' wp p f false G' v' ds /\ Wrote (fun k => k = wp \/ G = some k) w w' /\ ∀ g, G' = some g -> w.heap.size <= g := by
 obtain ⟨m2, A1, c1, G', v', h1, h2, h3, h4⟩ := h;obtain rfl : m2 = m := zkw h1 hc;subst hf hd;exact ⟨A1, c1, G', v', h2, h3, h4⟩
theorem zp8.at_ {B : BaseF} {c j : Bool} {q wp : Nat} {w w' : World} {p : Option Addr} {f : Int} {G : Option Nat} {l fs : List Int} {e : Ending} (h : zp8 B c j q w wp p f G l e w') (hf : B.form c j l = fs) :
  ∃ A1 c1 G' v', e = .returned (.tuple #[.slice A1 fs.length c1, .int .i64 0]) /\ ArgR w' A1 fs.length c1 fs /\ WrM q w' wp p f true G' v' [] /\ Wrote (fun k => k = wp) w w' /\ ∀ g, G' = some g -> w.heap.size <= g := by
 subst hf;exact h
section
variable {q wp wp2 i : Nat} {w w' : World} {p p2 : Option Addr} {f f2 : Int} {ov ov2 : Bool} {G G' : Option Nat} {v v' v2 : Value} {l l' : List Int} {F : List (Option Nat × Value × List Int)}
theorem Rd.box {A : Option Addr} {n : Nat} {xs : List Int} (h : Rd w A n (Rs xs)) (hW : WrM q w wp p f ov G v l) : 0 < n -> ∀ a, A = some a -> ¬ a.block = wp := by
 intro hn a ha e;obtain ⟨b, off, rfl, _, hc⟩ := h.at_ hn;injection ha with ha;subst ha;have e : b = wp := e;subst e;have hl : xs.length = n := (by have := h.1; simpa using this);obtain ⟨x, hx⟩ : ∃ x, xs[0]? = some x := ⟨_, List.getElem?_eq_getElem (by omega)⟩;have h0 := hc 0 (.int .i32 x) (by simp [Rs, hx]);rw [Nat.add_zero, cell_of_row w b off _ _ (0, 0) hW.box] at h0;obtain ⟨A0, c0, rfl, _⟩ := hW.own.shape;match off, h0 with
 | 0, h0 => simp at h0
 | 1, h0 => simp at h0
 | 2, h0 => simp at h0
 | 3, h0 => simp at h0
 | n + 4, h0 => simp at h0
theorem ArgR.wrote {A : Option Addr} {n c : Nat} {zs : List Int} (h : ArgR w A n c zs) (hW : WrM q w wp p f ov G v l) (hw : Wrote (fun k => k = wp) w w') : ArgR w' A n c zs :=
 ⟨h.rd.wrote hw (h.rd.box hW), h.len, h.r, h.cap, h.mx, h.nil⟩
end
end
section
open Go.RowKit Go.Lib Go.Maps
theorem zaa (w : World) (hE : Env w) (hk : Kinds w) : Calls Tryz.prog 31 #[] w fun e w' => e = .returned (.bool true) /\ Below w.heap.size w w' := by
 have N1 := zqi (s := awBS) (o := ByteArray.empty) awB_g (zia zmq) zky zoz w hE hk (by decide) (by decide);have HBD : Hid (zac awBB) := zng awB_g (zia zmq);have HK := hz0q hk;unfold awBS at N1;go_enter Tryz.func31, Tryz.ntmps31;go_wp2_with fail;refine N1.mono ?_;rintro e w1 ⟨p, rfl, hp, hb1⟩;have HP : Hid (zaj w1 (.pointer (some ⟨p, 0, none⟩)) awBB) := hp;have HB1 := hz0q hb1;have N2 := nnew_yes (some ⟨p, 0, none⟩) 2 w1 rfl;obtain ⟨q, hq⟩ : ∃ q, q = w1.heap.size := ⟨_, rfl⟩;rw [<- hq] at N2;have HBq : Hid (∀ W, Below q w1 W -> zaj W (.pointer (some ⟨p, 0, none⟩)) awBB) := fun W h => HP.out.below (by rw [hq] at h; exact h);have HKq : Hid (∀ W, Below q w1 W -> Kinds W) := fun W h => (HK.out.below' HB1.out).below' (by rw [hq] at h; exact h);have HFq : Hid (∀ W, Below q w1 W -> Below w.heap.size w W) := fun W h => zb HB1.out (by rw [hq] at h; exact h);clear N1 hp hb1 hE hk hq;go_wp2_with fail;refine N2.mono ?_;rintro e w2 ⟨rfl, hw2, hb2⟩;have HB2 := hz0q hb2;have HQ2 : Hid (q <= w2.heap.size) := Nat.le_of_lt hw2.lt;have hbx : Below w2.heap.size w2 (w2.alloc (.cells #[.int .i32 65] 21)) := (Below.refl _ _).alloc (Nat.le_refl _) _;have C := zly HBq HKq HBD.out (hw2.below hbx) (by intro x hx; cases hx) (HB2.out.trans (hbx.mono HQ2.out)) (Nat.le_trans HQ2.out hbx.size) rfl (some ⟨w2.heap.size, 0, none⟩) 1 1 [65] (Rd.new1 _ _ _) rfl (by intro x hx; simp at hx; unfold R32; omega) (by simp);have HX2 := hz0q hbx;clear N2 hw2 hb2 hbx;go_wp2_with fail;refine C.mono ?_;intro e w3 hf;obtain ⟨A1, c1, G1, v1, rfl, hz1, hW1, hwr1, hat1⟩ := hf.at_ (fs := []) (ds := [65]) awC_cut1 (zkr _ _) rfl
 have HW3 := hz0q hW1;have HB3 : Hid (Below q w1 w3) := HB2.out.trans ((HX2.out.mono HQ2.out).trans (hwr1.below (fun k hk => hk.elim (fun e => Nat.le_of_eq e.symm) fun e => by cases e) (Nat.le_trans HQ2.out HX2.out.size)));have HQ3 : Hid (q <= w3.heap.size) := Nat.le_of_lt hW1.lt;have hbx : Below w3.heap.size w3 (w3.alloc (.cells #[.int .i32 768, .int .i32 66] 21)) := (Below.refl _ _).alloc (Nat.le_refl _) _;have C2 := zly HBq HKq HBD.out (hW1.below hbx) (by intro x hx; simp at hx; unfold R32; omega) (HB3.out.trans (hbx.mono HQ3.out)) (Nat.le_trans HQ3.out hbx.size) rfl (some ⟨w3.heap.size, 0, none⟩) 2 2 [768, 66] (Rd.new _ _ [.int .i32 768, .int .i32 66]) rfl (by intro x hx; simp at hx; unfold R32; omega) (by simp);have HX3 := hz0q hbx;clear C hf hz1 hW1 hwr1 hat1 hbx;go_wp2_with fail;refine C2.mono ?_;intro e w4 hf;obtain ⟨A2, c2, G2, v2, rfl, hz2, hW2, hwr2, hat2⟩ := hf.at_ (fs := [192]) (ds := [66]) awC_cut2 awC_one rfl;have HB4 : Hid (Below q w1 w4) := HB3.out.trans ((HX3.out.mono HQ3.out).trans (hwr2.below (fun k hk => hk.elim (fun e => Nat.le_of_eq e.symm) fun e => (HW3.out.own.lt e).1) (Nat.le_trans HQ3.out HX3.out.size)));have HQ4 : Hid (q <= w4.heap.size) := Nat.le_of_lt hW2.lt;have C3 := nclose_any HBq HKq HBD.out hW2 (by intro x hx; simp at hx; unfold R32; omega) HB4.out HQ4.out rfl (by simp);have HZ2 := hz0q hz2;have HW4 := hz0q hW2;clear C2 hf hz2 hW2 hwr2 hat2;go_wp2_with fail;refine C3.mono ?_;intro e w5 hf;obtain ⟨A3, c3, G3, v3, rfl, hz3, hW3, hwr3, hat3⟩ := hf.at_ awC_two
 have HB5 : Hid (Below q w1 w5) := HB4.out.trans (hwr3.below (fun k hk => Nat.le_of_eq (by rw [hk])) HQ4.out);have HQ5 : Hid (q <= w5.heap.size) := Nat.le_of_lt hW3.lt;have HZ3 := hz0q hz3;have HZ25 := hz0q (HZ2.out.wrote HW4.out hwr3);have hbx5 : Below w5.heap.size w5 (w5.alloc (.cells #[.int .i32 192] 21)) := (Below.refl _ _).alloc (Nat.le_refl _) _;have R1 := zbg (ca := c2) (cb := 1) (HZ25.out.below hbx5).rd (Rd.new1 w5 21 (.int .i32 192) : Rd _ (some ⟨w5.heap.size, 0, none⟩) 1 (Rs [192])) rfl (by simp) (by omega);have HX5 := hz0q hbx5;clear C3 hf hz3 hW3 hwr3 hat3 hbx5;go_wp2_with fail;refine R1.mono ?_;rintro e w6 ⟨rfl, hb6⟩;have HB6 := hz0q (zb HX5.out hb6);have HZ36 := hz0q (HZ3.out.below HB6.out);have hbx6 : Below w6.heap.size w6 (w6.alloc (.cells #[.int .i32 66] 21)) := (Below.refl _ _).alloc (Nat.le_refl _) _;have R2 := zbg (ca := c3) (cb := 1) (HZ36.out.below hbx6).rd (Rd.new1 w6 21 (.int .i32 66) : Rd _ (some ⟨w6.heap.size, 0, none⟩) 1 (Rs [66])) rfl (by simp) (by omega);have HX6 := hz0q hbx6;clear R1 hb6 hbx6;go_wp2_with fail;refine R2.mono ?_;rintro e w7 ⟨rfl, hb7⟩;have HB7 : Hid (Below w.heap.size w w7) := HFq.out w7 (HB5.out.trans ((zb HB6.out (zb HX6.out hb7)).mono HQ5.out));clear R2 hb7;go_wp2;go_returns;exact ⟨rfl, HB7.out⟩
end
end Go.Proofs.YtkocaoeednmkpaaGreatDoor
