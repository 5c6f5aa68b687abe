/- What a law over both bases knows; two lists that are compared. The writer: New, open, Waits, Feed, Close: the code. Writers among rows that a call owns. A decoder, a writer, and what the law owns, in memory. -/
import Derived.Test.YtolcabjkbefjgaaGreatDoorY35
set_option linter.unusedSimpArgs false
set_option linter.unusedVariables false
set_option maxRecDepth 20000
set_option maxHeartbeats 4000000
namespace Go.Proofs.YtolcabjkbefjgaaGreatDoor
section
open Go.RowKit Go.Lib
theorem runes_b (A A2 : Option Addr) (n m ca cb : Nat) (xs ys : List Int) (w : World) (hx : Rd w A n (Rs xs)) (hy : Rd w A2 m (Rs ys)) (hn : n <= 1099511627776) (hm : m <= 1099511627776) :
  Calls Tryz.prog 17 #[.slice A n ca,.slice A2 m cb] w fun e w' => e = .returned (.bool (decide (xs = ys))) /\ Below w.heap.size w w' :=
 (zi8 A A2 n m ca cb xs ys w hx hy hn hm).mono fun _ _ ⟨h1,h2⟩ => ⟨h1,h2.below _⟩
theorem runes_same {A A2 : Option Addr} {n m ca cb : Nat} {xs ys : List Int} {w : World} (hx : Rd w A n (Rs xs)) (hy : Rd w A2 m (Rs ys)) (he : xs = ys) (hn : n <= 1099511627776) (hm : m <= 1099511627776) :
  Calls Tryz.prog 17 #[.slice A n ca,.slice A2 m cb] w fun e w' => e = .returned (.bool true) /\ Below w.heap.size w w' :=
 (zi8 A A2 n m ca cb xs ys w hx hy hn hm).mono fun _ _ ⟨h1,h2⟩ => ⟨by rw [h1,decide_eq_true he],h2.below _⟩
theorem zbx.arg {w w' : World} {zs : List Int} {e : Ending} (h : zbx w zs e w') (hR : ∀ x ∈ zs,R32 x) : ∃ A c,e = .returned (.slice A zs.length c) /\ ArgR w' A zs.length c zs /\ Below w.heap.size w w':=by
 obtain ⟨A,c,he,hown,hb⟩:=h;obtain ⟨A',c',e2,h1,h2,hr⟩:=Rd.of_own hown;injection e2 with e2a _ e2c;subst e2a e2c;refine ⟨A,c,he,⟨hr,rfl,hR,h1,h2,fun hA => ?_⟩,hb⟩;rcases hown.2 with ⟨hv,h0⟩ | ⟨g,cap,cur,hv,_⟩
 ·injection hv with _ _ hc;exact ⟨h0,hc⟩
 ·injection hv with hv _ _;rw [hA] at hv
  cases hv
section
variable {B : BaseF}
end
end
section
open Go.RowKit
section
variable {q wp : Nat} {w w0 : World} {p : Option Addr} {f : Int} {ov : Bool} {G : Option Nat} {v : Value} {l : List Int} {B : BaseF}
theorem nnew_yes (p : Option Addr) (f : Int) (w : World) (hf : mayF f = true) : Calls Tryz.prog 10 #[.pointer p,.int .i64 f] w fun e w' => e = .returned (.tuple #[.pointer (some ⟨w.heap.size,0,none⟩),.int .i64 0]) /\ WrM w.heap.size w' w.heap.size p f false none (.slice none 0 0) [] /\ Below w.heap.size w w':=by
 have h:=(zii f).1 hf;have h1 : ¬ f < 1:=(by omega);have h2 : ¬ 4 < f:=(by omega);clear hf h;go_enter Tryz.func10,Tryz.ntmps10;go_wp2;go_returns;exact ⟨rfl,⟨zm _ _ _,.nil _ _ none,Nat.le_refl _⟩,(Below.refl _ w).alloc (Nat.le_refl _) _⟩
theorem zjo (h : WrM q w wp p f ov G v l) : Calls Tryz.prog 36 #[.pointer (some ⟨wp,0,none⟩)] w fun e w' => e = .returned (.int .i64 (if ov = true then 21 else 0)) /\ w = w':=by
 have b3:=za h.box 3 rfl;clear h
 cases ov with
 | true =>
  go_enter Tryz.func36,Tryz.ntmps36;go_wp2;go_returns;exact ⟨rfl,rfl⟩
 | false =>
  go_enter Tryz.func36,Tryz.ntmps36;go_wp2;go_returns;exact ⟨rfl,rfl⟩
theorem zd2 {B : BaseF} {f : Int} {xs : List Int} (h : mayF f = true) : formE B f xs = (B.form (cB f) (jB f) xs,0):=if_pos h
def FeedP (B : BaseF) (c j : Bool) (q : Nat) (w : World) (wp : Nat) (p : Option Addr) (f : Int) (G : Option Nat) (l : List Int) (e : Ending) (w' : World) : Prop :=
 ∃ m A1 c1 G' v',CutAt B c j l m /\ e = .returned (.tuple #[.slice A1 (B.form c j (l.take m)).length c1,.int .i64 0]) /\ ArgR w' A1 (B.form c j (l.take m)).length c1 (B.form c j (l.take m)) /\
  WrM q w' wp p f false G' v' (l.drop m) /\ Wrote (fun k => k = wp \/ G = some k) w w' /\ ∀ g,G' = some g -> w.heap.size <= g
def znh (B : BaseF) (c j : Bool) (q : Nat) (w : World) (wp : Nat) (p : Option Addr) (f : Int) (G : Option Nat) (l : List Int) (e : Ending) (w' : World) : Prop :=
 ∃ A1 c1 G' v',e = .returned (.tuple #[.slice A1 (B.form c j l).length c1,.int .i64 0]) /\ ArgR w' A1 (B.form c j l).length c1 (B.form c j l) /\
  WrM q w' wp p f true G' v' [] /\ Wrote (fun k => k = wp) w w' /\ (∀ g,G' = some g -> w.heap.size <= g) /\ ∀ a,A1 = some a -> w.heap.size <= a.block
theorem zbo.argF {w w' : World} {zs : List Int} {k : Int} {e : Ending} (h : zbo w (zs,k) e w') (hR : ∀ x ∈ zs,R32 x) : ∃ A c,e = .returned (.tuple #[.slice A zs.length c,.int .i64 k]) /\ ArgR w' A zs.length c zs /\ Below w.heap.size w w':=by
 obtain ⟨A,c,he,hown,hb⟩:=h;obtain ⟨A2,c2,h1,h2,h3⟩:=zbx.arg (e:=.returned (.slice A zs.length c)) ⟨A,c,rfl,hown,hb⟩ hR;injection h1 with h1;injection h1 with h1a _ h1c;subst h1a h1c;exact ⟨A,c,he,h2,h3⟩
theorem zbo.argG {w w' : World} {zs : List Int} {k : Int} {e : Ending} (h : zbo w (zs,k) e w') (hR : ∀ x ∈ zs,R32 x) : ∃ A c,e = .returned (.tuple #[.slice A zs.length c,.int .i64 k]) /\ ArgR w' A zs.length c zs /\ Below w.heap.size w w' /\ ∀ a,A = some a -> w.heap.size <= a.block:=by
 obtain ⟨A,c,he,h2,h3⟩:=h.argF hR;refine ⟨A,c,he,h2,h3,fun a ha => ?_⟩;obtain ⟨A',c',he',hown,_⟩:=h;have e:=he.symm.trans he';injection e with e;injection e with e;have e:=congrArg (fun l : Array Value => l[0]?) e;simp at e;rw [ha] at e;rcases hown.2 with ⟨hv,_⟩ | ⟨g,cap,cur,hv,hg,_⟩
 ·injection hv with hv _ _;rw [<- e.1] at hv
  cases hv
 ·injection hv with hv _ _;rw [<- e.1] at hv;injection hv with hv;rw [hv];exact hg
theorem nfeed_any (HB : Hid (∀ W,Below q w0 W -> zac W (.pointer p) B)) (HK : Hid (∀ W,Below q w0 W -> Kinds W)) (hbd : zap B) (h : WrM q w wp p f false G v l) (hl : ∀ x ∈ l,R32 x) (hb : Below q w0 w) (hq : q <= w.heap.size) (hf : mayF f = true)
  (A : Option Addr) (n c : Nat) (zs : List Int) (hrd : Rd w A n (Rs zs)) (hn : zs.length = n) (hx : ∀ x ∈ zs,R32 x) (h2 : l.length + n <= 240000) :
  Calls Tryz.prog 12 #[.pointer (some ⟨wp,0,none⟩),.slice A n c] w (FeedP B (cB f) (jB f) q w wp p f G (l ++ zs)):=by
 have O:=zjo h;rw [if_neg (by simp)] at O;have PU:=qput_any (c:=c) h hq A n zs hrd hn (by omega);have HW:=hz0q h;have HX : Hid (∀ x ∈ l ++ zs,R32 x):=fun x hx2 => (List.mem_append.1 hx2).elim (hl x) (hx x);have hlz : (l ++ zs).length <= 240000:=(by rw [List.length_append,hn]; exact h2);obtain ⟨ls,hls⟩ : ∃ ls,ls = l ++ zs:=⟨_,rfl⟩;rw [<- hls] at PU HX hlz ⊢;have HBW:=hz0q hb;have HQ:=hz0q hq;have HBD:=hz0q hbd;have HMT:=hz0q hf;clear h hl hrd hn hx hls hb hq hbd hf h2;go_enter Tryz.func12,Tryz.ntmps12;go_wp2_with fail;refine O.mono ?_;rintro e w1 ⟨rfl,rfl⟩;clear O;go_wp2_with fail;refine PU.mono ?_;rintro e w1 ⟨⟨u,rfl⟩,G1,v1,hW1,hwr1,hat1⟩;have HW1:=hz0q hW1;have HWR1:=hz0q hwr1;have HAT1:=hz0q hat1;have HB1 : Hid (Below q w0 w1):=HBW.out.trans (hwr1.below (fun k hk => hk.elim (fun e => by rw [e]; exact HW.out.tb) fun e => (HW.out.own.lt e).1) HQ.out);have HQ1 : Hid (q <= w1.heap.size):=Nat.le_trans HQ.out hwr1.size;obtain ⟨A1,c1,rfl,hnc1,_,hrd1⟩:=hW1.own.shape;obtain ⟨L,hL⟩ : ∃ L,L = ls.length:=⟨_,rfl⟩;rw [<- hL] at hrd1 hlz hnc1;have HL:=hz0q hL;have HRD1:=hz0q hrd1
 have CU : Hid (∀ W,Below w1.heap.size w1 W -> Calls Tryz.prog 38 #[.pointer p,.int .i64 f,.slice A1 L c1] W fun e w' => (∃ m : Nat,CutAt B (cB f) (jB f) ls m /\ e = .returned (.tuple #[.int .i64 m,.int .i64 0])) /\ Below W.heap.size W w'):=fun W hW => by
  have h1:=HB1.out.trans (hW.mono HQ1.out);have:=qcut_any (cp:=c1) (HB.out W h1) (HK.out W h1) HBD.out f A1 L ls (HRD1.out.below hW) HL.out.symm HX.out (by omega);rw [if_pos HMT.out] at this;refine this.mono ?_;rintro e w' ⟨⟨m,h1,h2⟩,h3⟩;exact ⟨⟨m,by simpa [HMT.out] using h1,h2⟩,h3⟩
 have HMK : Hid (∀ w',Below w1.heap.size w1 w' -> ((w'.cell? ⟨wp,0,none⟩ = some (.slice A1 L c1) /\ w'.cell? ⟨wp,1,none⟩ = some (.pointer p)) /\ w'.cell? ⟨wp,2,none⟩ = some (.int .i64 f)) /\ Below w1.heap.size w1 w'):=fun w' h => by
  have hT:=HW1.out.below h;have e0:=za hT.box 0 rfl;rw [<- HL.out] at e0;exact ⟨⟨⟨e0,za hT.box 1 rfl⟩,za hT.box 2 rfl⟩,h⟩
 clear PU hW1 hwr1 hat1 hrd1 hL;go_upto_region 5 with fail;refine wp_region_held_drew (S:=fun w' => ((w'.cell? ⟨wp,0,none⟩ = some (.slice A1 L c1) /\ w'.cell? ⟨wp,1,none⟩ = some (.pointer p)) /\ w'.cell? ⟨wp,2,none⟩ = some (.int .i64 f)) /\ Below w1.heap.size w1 w') (by kernel_rfl) (HMK.out _ (Drew.to ⟨1,rfl⟩)) (fun hH0 => ?_);refine tkH 0 (.pointer (some ⟨wp,0,none⟩)) rfl hH0 ?_;try simp only [gA,gB,gC,Act.put,gD,gE,gF]
 refine tkH 1 (.pointer (some ⟨wp,0,none⟩)) rfl hH0 ?_;try simp only [gA,gB,gC,Act.put,gD,gE,gF]
 refine tkH 2 (.pointer (some ⟨wp,1,none⟩)) rfl hH0 ?_;try simp only [gA,gB,gC,Act.put,gD,gE,gF]
 refine tkH 3 (.pointer p) rfl hH0 ?_;try simp only [gA,gB,gC,Act.put,gD,gE,gF]
 refine tkH 4 (.pointer (some ⟨wp,0,none⟩)) rfl hH0 ?_;try simp only [gA,gB,gC,Act.put,gD,gE,gF]
 refine tkH 5 (.pointer (some ⟨wp,0,none⟩)) rfl hH0 ?_;try simp only [gA,gB,gC,Act.put,gD,gE,gF]
 refine tkH 6 (.pointer (some ⟨wp,2,none⟩)) rfl hH0 ?_;try simp only [gA,gB,gC,Act.put,gD,gE,gF]
 refine tkH 7 (.int .i64 f) rfl hH0 ?_;try simp only [gA,gB,gC,Act.put,gD,gE,gF]
 refine tkH 8 (.pointer (some ⟨wp,0,none⟩)) rfl hH0 ?_;try simp only [gA,gB,gC,Act.put,gD,gE,gF]
 refine tkH 9 (.pointer (some ⟨wp,0,none⟩)) rfl hH0 ?_;try simp only [gA,gB,gC,Act.put,gD,gE,gF]
 refine tkH 10 (.pointer (some ⟨wp,0,none⟩)) rfl hH0 ?_;try simp only [gA,gB,gC,Act.put,gD,gE,gF]
 refine tkH 11 (.pointer (some ⟨wp,0,none⟩)) rfl hH0 ?_;try simp only [gA,gB,gC,Act.put,gD,gE,gF]
 refine tkH 12 (.slice A1 L c1) rfl hH0 ?_;try simp only [gA,gB,gC,Act.put,gD,gE,gF]
 refine wpAnyH_ready (rs:=[13]) (by kernel_rfl) (by simp) ?_;refine AllReadyH.cons rfl (fun K hK => ?_) AllReadyH.nil;go_simp
 refine (CU.out _ hH0.2).mono ?_;rintro e w50 ⟨⟨m,hm,rfl⟩,hb2⟩;refine hK.out _ _ (HMK.out _ (zb hH0.2 hb2)) (fun hH1 => ?_);clear hK K hH0;try simp only [gA,gB,gC,Act.put,gD,gE,gF]
 refine tkH 14 (.tuple #[.int .i64 m,.int .i64 0]) rfl hH1 ?_;try simp only [gA,gB,gC,Act.put,gD,gE,gF]
 refine tkH 15 (.int .i64 m) rfl hH1 ?_;try simp only [gA,gB,gC,Act.put,gD,gE,gF]
 refine tkH 16 (.int .i64 0) rfl hH1 ?_;try simp only [gA,gB,gC,Act.put,gD,gE,gF]
 refine tkH 17 (.int .i64 m) rfl hH1 ?_;try simp only [gA,gB,gC,Act.put,gD,gE,gF]
 refine tkH 18 (.int .i64 0) rfl hH1 ?_;try simp only [gA,gB,gC,Act.put,gD,gE,gF]
 refine wpAnyH_done (by kernel_rfl) ?_ _;have HB2:=hz0q hH1.2;clear hH1;have HM:=hz0q hm;have HW2:=hz0q (HW1.out.below HB2.out);have HB20 : Hid (Below q w0 w50):=HB1.out.trans (HB2.out.mono HQ1.out);have HQ2 : Hid (q <= w50.heap.size):=Nat.le_trans HQ1.out HB2.out.size;have hmL : m <= ls.length:=(by rcases hm.lt with h | h <;> omega);have HMK2 : Hid (∀ w',Below q w0 w' -> w'.heap[wp]? = w50.heap[wp]? -> ((w'.cell? ⟨wp,1,none⟩ = some (.pointer p) /\ w'.cell? ⟨wp,2,none⟩ = some (.int .i64 f)) /\ Below q w0 w')):=fun w' h1 h2 => ⟨⟨za (h2.trans HW2.out.box) 1 rfl,za (h2.trans HW2.out.box) 2 rfl⟩,h1⟩;have hm33 : m <= 240000:=(by have:=HL.out; omega);have HFR : Hid (∀ y ∈ B.form (cB f) (jB f) (ls.take m),R32 y):=zm3 HBD.out (cB f) (jB f) (fun y hy => HX.out y (List.mem_of_mem_take hy)) rfl;have TK : Hid (∀ W,Below w50.heap.size w50 W -> Calls Tryz.prog 39 #[.pointer (some ⟨wp,0,none⟩),.int .i64 m] W fun e w' => ∃ u,e = .returned u /\ TakeQ q W wp p f false ls m u w'):=fun W h => zjg (HW2.out.below h) (Nat.le_trans HQ2.out h.size) m hmL (by rw [<- HL.out]; omega);obtain ⟨fs,hfs⟩ : ∃ fs,fs = B.form (cB f) (jB f) (ls.take m):=⟨_,rfl⟩;rw [<- hfs] at HFR;have HFS:=hz0q hfs
 have FO : Hid (∀ W A c,Below q w0 W -> Rd W A m (Rs (ls.take m)) -> Calls Tryz.prog 16 #[.pointer p,.int .i64 f,.slice A m c] W (zbo W (fs,0))):=fun W A c h1 h2 => by
  have:=zev (cp:=c) (HB.out W h1) (HK.out W h1) HBD.out f A m (ls.take m) h2 (by rw [List.length_take]; omega) (fun y hy => HX.out y (List.mem_of_mem_take hy)) (by omega);rwa [zd2 HMT.out,<- hfs] at this
 obtain ⟨fl,hfl⟩ : ∃ fl,fl = fs.length:=⟨_,rfl⟩;have HFL:=hz0q hfl;have HLT : Hid ((ls.take m).length = m):=(by show _ = _; rw [List.length_take]; omega);have HDR : Hid (Below w50.heap.size w50 w50.drew):=Drew.to ⟨1,rfl⟩;clear CU HMK hm hfs hfl hmL;go_upto_region 8 with fail;refine wp_region_held_drew (S:=fun w' => (w'.cell? ⟨wp,1,none⟩ = some (.pointer p) /\ w'.cell? ⟨wp,2,none⟩ = some (.int .i64 f)) /\ Below q w0 w') (by kernel_rfl) ((HMK2.out _ (HB20.out.trans (HDR.out.mono HQ2.out)) rfl)) (fun hH0 => ?_);refine tkH 0 (.pointer (some ⟨wp,0,none⟩)) rfl hH0 ?_;try simp only [gA,gB,gC,Act.put,gD,gE,gF]
 refine tkH 1 (.pointer (some ⟨wp,0,none⟩)) rfl hH0 ?_;try simp only [gA,gB,gC,Act.put,gD,gE,gF]
 refine tkH 2 (.pointer (some ⟨wp,1,none⟩)) rfl hH0 ?_;try simp only [gA,gB,gC,Act.put,gD,gE,gF]
 refine tkH 3 (.pointer p) rfl hH0 ?_;try simp only [gA,gB,gC,Act.put,gD,gE,gF]
 refine tkH 4 (.pointer (some ⟨wp,0,none⟩)) rfl hH0 ?_;try simp only [gA,gB,gC,Act.put,gD,gE,gF]
 refine tkH 5 (.pointer (some ⟨wp,0,none⟩)) rfl hH0 ?_;try simp only [gA,gB,gC,Act.put,gD,gE,gF]
 refine tkH 6 (.pointer (some ⟨wp,2,none⟩)) rfl hH0 ?_;try simp only [gA,gB,gC,Act.put,gD,gE,gF]
 refine tkH 7 (.int .i64 f) rfl hH0 ?_;try simp only [gA,gB,gC,Act.put,gD,gE,gF]
 refine tkH 8 (.pointer (some ⟨wp,0,none⟩)) rfl hH0 ?_;try simp only [gA,gB,gC,Act.put,gD,gE,gF]
 refine tkH 9 (.pointer (some ⟨wp,0,none⟩)) rfl hH0 ?_;try simp only [gA,gB,gC,Act.put,gD,gE,gF]
 refine tkH 10 (.pointer (some ⟨wp,0,none⟩)) rfl hH0 ?_;try simp only [gA,gB,gC,Act.put,gD,gE,gF]
 refine tkH 11 (.int .i64 m) rfl hH0 ?_;try simp only [gA,gB,gC,Act.put,gD,gE,gF]
 refine wpAnyH_ready (rs:=[12]) (by kernel_rfl) (by simp) ?_;refine AllReadyH.cons rfl (fun K hK => ?_) AllReadyH.nil;go_simp
 refine (TK.out _ HDR.out).mono ?_;rintro e w60 ⟨u,rfl,G3,G4,v4,ho3,hW4,hwr4,hat4⟩;obtain ⟨A3,c3,hu3,_,_,hrd3⟩:=ho3.shape;rw [HLT.out] at hu3 hrd3;subst hu3;have hb60 : Below q w0 w60:=hH0.2.trans (hwr4.below (fun k hk => by rw [hk]; exact HW.out.tb) (Nat.le_trans HQ2.out HDR.out.size));have HW4:=hz0q hW4;have HWR4:=hz0q hwr4;have HAT4:=hz0q hat4;have HRD3:=hz0q hrd3;clear hW4 hwr4 hat4 hrd3 ho3;refine hK.out _ _ (⟨⟨za HW4.out.box 1 rfl,za HW4.out.box 2 rfl⟩,hb60⟩) (fun hH1 => ?_);clear hK K hH0;try simp only [gA,gB,gC,Act.put,gD,gE,gF]
 refine wpAnyH_ready (rs:=[13]) (by kernel_rfl) (by simp) ?_;refine AllReadyH.cons rfl (fun K hK => ?_) AllReadyH.nil;go_simp
 refine (FO.out _ A3 c3 hH1.2 HRD3.out).mono ?_;rintro e w61 hf;obtain ⟨A5,c5,rfl,z5,hb7⟩:=hf.argF HFR.out;rw [<- HFL.out];have HZ5:=hz0q z5;have HB7:=hz0q hb7;have HW5:=hz0q (HW4.out.below hb7);have hb70 : Below q w0 w61:=hH1.2.trans (hb7.mono (Nat.le_trans HQ2.out (Nat.le_trans HDR.out.size HWR4.out.size)));clear hf z5 hb7;refine hK.out _ _ (⟨⟨za HW5.out.box 1 rfl,za HW5.out.box 2 rfl⟩,hb70⟩) (fun hH2 => ?_);clear hK K hH1;try simp only [gA,gB,gC,Act.put,gD,gE,gF]
 refine tkH 14 (.slice A5 fl c5) rfl hH2 ?_;try simp only [gA,gB,gC,Act.put,gD,gE,gF]
 refine tkH 15 (.int .i64 0) rfl hH2 ?_;try simp only [gA,gB,gC,Act.put,gD,gE,gF]
 refine tkH 16 (.slice A5 fl c5) rfl hH2 ?_;try simp only [gA,gB,gC,Act.put,gD,gE,gF]
 refine tkH 17 (.int .i64 0) rfl hH2 ?_;try simp only [gA,gB,gC,Act.put,gD,gE,gF]
 refine wpAnyH_done (by kernel_rfl) ?_ _;clear hH2;have HWR : Hid (Wrote (fun k => k = wp \/ G = some k) w w61):=(((HWR1.out.then_below HB2.out).then_below HDR.out).trans (HWR4.out.mono fun k _ e => .inl e)).then_below HB7.out;have HAT : Hid (∀ g,G4 = some g -> w.heap.size <= g):=fun g hg => Nat.le_trans HWR1.out.size (Nat.le_trans HB2.out.size (Nat.le_trans HDR.out.size (HAT4.out g hg)));go_wp2;go_returns;rw [HFL.out];have hz:=HZ5.out;rw [HFS.out] at hz ⊢;exact ⟨m,A5,c5,G4,v4,HM.out,rfl,hz,HW5.out,HWR.out,HAT.out⟩
theorem nclose_any (HB : Hid (∀ W,Below q w0 W -> zac W (.pointer p) B)) (HK : Hid (∀ W,Below q w0 W -> Kinds W)) (hbd : zap B) (h : WrM q w wp p f false G v l) (hl : ∀ x ∈ l,R32 x) (hb : Below q w0 w) (hq : q <= w.heap.size) (hf : mayF f = true) (h2 : l.length <= 240000) :
  Calls Tryz.prog 14 #[.pointer (some ⟨wp,0,none⟩)] w (znh B (cB f) (jB f) q w wp p f G l):=by
 have O:=zjo h;rw [if_neg (by simp)] at O;have HW:=hz0q h;have HX:=hz0q hl;have HBW:=hz0q hb;have HQ:=hz0q hq;have HBD:=hz0q hbd;have HMT:=hz0q hf;have bx:=h.box;have f3:=zc h.box 3;have c3:=za h.box 3 rfl;clear h hl hb hq hbd hf bx;go_enter Tryz.func14,Tryz.ntmps14;go_wp2_with fail;refine O.mono ?_;rintro e w1 ⟨rfl,rfl⟩;clear O;have HWR1 : Hid (Wrote (fun k => k = wp) w (w.setCell ⟨wp,3,none⟩ (.bool true))):=Wrote.setCell (S:=fun k => k = wp) (.inl rfl) _;have HW1:=hz0q (HW.out.over true);obtain ⟨w1,hw1⟩ : ∃ w1,w1 = w.setCell ⟨wp,3,none⟩ (.bool true):=⟨_,rfl⟩;rw [<- hw1] at HWR1 HW1;have HB1 : Hid (Below q w0 w1):=HBW.out.trans (HWR1.out.below (fun k hk => by rw [hk]; exact HW.out.tb) HQ.out);have HQ1 : Hid (q <= w1.heap.size):=Nat.le_trans HQ.out HWR1.out.size;obtain ⟨A1,c1,hv1,hnc1,_,hrd1⟩:=HW1.out.own.shape;subst hv1;have HMK2 : Hid (∀ w',Below q w0 w' -> w'.heap[wp]? = w1.heap[wp]? -> ((w'.cell? ⟨wp,1,none⟩ = some (.pointer p) /\ w'.cell? ⟨wp,2,none⟩ = some (.int .i64 f)) /\ Below q w0 w')):=fun w' h1 h2 => ⟨⟨za (h2.trans HW1.out.box) 1 rfl,za (h2.trans HW1.out.box) 2 rfl⟩,h1⟩;have HFR : Hid (∀ y ∈ B.form (cB f) (jB f) l,R32 y):=zm3 HBD.out (cB f) (jB f) HX.out rfl;have TK : Hid (∀ W,Below w1.heap.size w1 W -> Calls Tryz.prog 39 #[.pointer (some ⟨wp,0,none⟩),.int .i64 l.length] W fun e w' => ∃ u,e = .returned u /\ TakeQ q W wp p f true l l.length u w'):=fun W h => zjg (HW1.out.below h) (Nat.le_trans HQ1.out h.size) l.length (Nat.le_refl _) (by omega)
 obtain ⟨fs,hfs⟩ : ∃ fs,fs = B.form (cB f) (jB f) l:=⟨_,rfl⟩;rw [<- hfs] at HFR;have HFS:=hz0q hfs;obtain ⟨m,hm⟩ : ∃ m,m = l.length:=⟨_,rfl⟩;have HM:=hz0q hm
 have FO : Hid (∀ W A c,Below q w0 W -> Rd W A m (Rs l) -> Calls Tryz.prog 16 #[.pointer p,.int .i64 f,.slice A m c] W (zbo W (fs,0))):=fun W A c h1 h3 => by
  have:=zev (cp:=c) (HB.out W h1) (HK.out W h1) HBD.out f A m l h3 hm.symm HX.out (by omega);rwa [zd2 HMT.out,<- hfs] at this
 obtain ⟨fl,hfl⟩ : ∃ fl,fl = fs.length:=⟨_,rfl⟩;have HFL:=hz0q hfl;have HLT : Hid (l.take m = l /\ l.drop m = []):=⟨List.take_of_length_le (by omega),List.drop_eq_nil_of_le (by omega)⟩;have HDR : Hid (Below w1.heap.size w1 w1.drew):=Drew.to ⟨1,rfl⟩
 have HC0 : Hid (w1.drew.cell? ⟨wp,0,none⟩ = some (.slice A1 m c1)):=by
  show _ = _;have:=za (HW1.out.below HDR.out).box 0 rfl;rwa [<- hm] at this
 rw [<- hm] at TK;clear hfs hfl hm hrd1 hnc1 h2;go_upto_region 5 with fail;rw [<- hw1];clear hw1;refine wp_region_held_drew (S:=fun w' => (w'.cell? ⟨wp,1,none⟩ = some (.pointer p) /\ w'.cell? ⟨wp,2,none⟩ = some (.int .i64 f)) /\ Below q w0 w') (by kernel_rfl) ((HMK2.out _ (HB1.out.trans (HDR.out.mono HQ1.out)) rfl)) (fun hH0 => ?_);refine tkH 0 (.pointer (some ⟨wp,0,none⟩)) rfl hH0 ?_;try simp only [gA,gB,gC,Act.put,gD,gE,gF]
 refine tkH 1 (.pointer (some ⟨wp,0,none⟩)) rfl hH0 ?_;try simp only [gA,gB,gC,Act.put,gD,gE,gF]
 refine tkH 2 (.pointer (some ⟨wp,1,none⟩)) rfl hH0 ?_;try simp only [gA,gB,gC,Act.put,gD,gE,gF]
 refine tkH 3 (.pointer p) rfl hH0 ?_;try simp only [gA,gB,gC,Act.put,gD,gE,gF]
 refine tkH 4 (.pointer (some ⟨wp,0,none⟩)) rfl hH0 ?_;try simp only [gA,gB,gC,Act.put,gD,gE,gF]
 refine tkH 5 (.pointer (some ⟨wp,0,none⟩)) rfl hH0 ?_;try simp only [gA,gB,gC,Act.put,gD,gE,gF]
 refine tkH 6 (.pointer (some ⟨wp,2,none⟩)) rfl hH0 ?_;try simp only [gA,gB,gC,Act.put,gD,gE,gF]
 refine tkH 7 (.int .i64 f) rfl hH0 ?_;try simp only [gA,gB,gC,Act.put,gD,gE,gF]
 refine tkH 8 (.pointer (some ⟨wp,0,none⟩)) rfl hH0 ?_;try simp only [gA,gB,gC,Act.put,gD,gE,gF]
 refine tkH 9 (.pointer (some ⟨wp,0,none⟩)) rfl hH0 ?_;try simp only [gA,gB,gC,Act.put,gD,gE,gF]
 refine tkH 10 (.pointer (some ⟨wp,0,none⟩)) rfl hH0 ?_;try simp only [gA,gB,gC,Act.put,gD,gE,gF]
 refine tkH 11 (.pointer (some ⟨wp,0,none⟩)) rfl hH0 ?_;try simp only [gA,gB,gC,Act.put,gD,gE,gF]
 refine tkH 12 (.pointer (some ⟨wp,0,none⟩)) rfl hH0 ?_;try simp only [gA,gB,gC,Act.put,gD,gE,gF]
 refine tkH 13 (.pointer (some ⟨wp,0,none⟩)) rfl hH0 ?_;try simp only [gA,gB,gC,Act.put,gD,gE,gF]
 refine tkH 14 (.pointer (some ⟨wp,0,none⟩)) rfl hH0 ?_;try simp only [gA,gB,gC,Act.put,gD,gE,gF]
 refine wpAnyH_ready (rs:=[15]) (by kernel_rfl) (by simp) ?_;refine AllReadyH.cons rfl (fun K hK => ?_) AllReadyH.nil;have hc0:=HC0.out;go_simp
 refine hK.out _ _ (hH0) (fun hH1 => ?_);clear hK K hH0;try simp only [gA,gB,gC,Act.put,gD,gE,gF]
 refine tkH 16 (.int .i64 m) rfl hH1 ?_;try simp only [gA,gB,gC,Act.put,gD,gE,gF]
 refine wpAnyH_ready (rs:=[17]) (by kernel_rfl) (by simp) ?_;refine AllReadyH.cons rfl (fun K hK => ?_) AllReadyH.nil;go_simp
 refine (TK.out _ HDR.out).mono ?_;rintro e w51 ⟨u,rfl,G3,G4,v4,ho3,hW4,hwr4,hat4⟩;rw [HLT.out.1] at ho3;rw [HLT.out.2] at hW4;obtain ⟨A3,c3,hu3,_,_,hrd3⟩:=ho3.shape;rw [<- HM.out] at hu3 hrd3;subst hu3;have hb60 : Below q w0 w51:=hH1.2.trans (hwr4.below (fun k hk => by rw [hk]; exact HW.out.tb) (Nat.le_trans HQ1.out HDR.out.size));have HW4:=hz0q hW4;have HWR4:=hz0q hwr4;have HAT4:=hz0q hat4;have HRD3:=hz0q hrd3;clear hW4 hwr4 hat4 hrd3 ho3;refine hK.out _ _ (⟨⟨za HW4.out.box 1 rfl,za HW4.out.box 2 rfl⟩,hb60⟩) (fun hH2 => ?_);clear hK K hH1;try simp only [gA,gB,gC,Act.put,gD,gE,gF]
 refine wpAnyH_ready (rs:=[18]) (by kernel_rfl) (by simp) ?_;refine AllReadyH.cons rfl (fun K hK => ?_) AllReadyH.nil;go_simp
 refine (FO.out _ A3 c3 hH2.2 HRD3.out).mono ?_;rintro e w52 hf;obtain ⟨A5,c5,rfl,z5,hb7,hap5⟩:=hf.argG HFR.out;have HAP5:=hz0q hap5;rw [<- HFL.out];have HZ5:=hz0q z5;have HB7:=hz0q hb7;have HW5:=hz0q (HW4.out.below hb7);have hb70 : Below q w0 w52:=hH2.2.trans (hb7.mono (Nat.le_trans HQ1.out (Nat.le_trans HDR.out.size HWR4.out.size)));clear hf z5 hb7 hap5;refine hK.out _ _ (⟨⟨za HW5.out.box 1 rfl,za HW5.out.box 2 rfl⟩,hb70⟩) (fun hH3 => ?_);clear hK K hH2;try simp only [gA,gB,gC,Act.put,gD,gE,gF]
 refine tkH 19 (.slice A5 fl c5) rfl hH3 ?_;try simp only [gA,gB,gC,Act.put,gD,gE,gF]
 refine tkH 20 (.int .i64 0) rfl hH3 ?_;try simp only [gA,gB,gC,Act.put,gD,gE,gF]
 refine tkH 21 (.slice A5 fl c5) rfl hH3 ?_;try simp only [gA,gB,gC,Act.put,gD,gE,gF]
 refine tkH 22 (.int .i64 0) rfl hH3 ?_;try simp only [gA,gB,gC,Act.put,gD,gE,gF]
 refine wpAnyH_done (by kernel_rfl) ?_ _;clear hH3;have HWR : Hid (Wrote (fun k => k = wp) w w52):=((HWR1.out.then_below HDR.out).trans HWR4.out).then_below HB7.out;have HAT : Hid (∀ g,G4 = some g -> w.heap.size <= g):=fun g hg => Nat.le_trans HWR1.out.size (Nat.le_trans HDR.out.size (HAT4.out g hg));have HAP : Hid (∀ a,A5 = some a -> w.heap.size <= a.block):=fun a ha => Nat.le_trans HWR1.out.size (Nat.le_trans HDR.out.size (Nat.le_trans HWR4.out.size (HAP5.out a ha)));go_wp2;go_returns;rw [HFL.out];have hz:=HZ5.out;rw [HFS.out] at hz ⊢;exact ⟨A5,c5,G4,v4,rfl,hz,HW5.out,HWR.out,HAT.out,HAP.out⟩
end
end
section
open Go.RowKit
theorem znh.at2 {B : BaseF} {c j : Bool} {q wp : Nat} {w w' : World} {p : Option Addr} {f : Int} {G : Option Nat} {l fs : List Int} {e : Ending} (h : znh B c j q w wp p f G l e w') (hf : B.form c j l = fs) :
  ∃ A1 c1 G' v',e = .returned (.tuple #[.slice A1 fs.length c1,.int .i64 0]) /\ ArgR w' A1 fs.length c1 fs /\ WrM q w' wp p f true G' v' [] /\ Wrote (fun k => k = wp) w w' /\ (∀ g,G' = some g -> w.heap.size <= g) /\ ∀ a,A1 = some a -> w.heap.size <= a.block:=by
 subst hf;exact h
abbrev WBox (w : World) (wp : Nat) (v : Value) (p : Option Addr) (f : Int) (ov : Bool) : Prop:=w.heap[wp]? = some (.cells #[v,.pointer p,.int .i64 f,.bool ov] 97 (0,0))
section
variable {q wp wp2 i : Nat} {w w' : World} {p p2 : Option Addr} {f f2 : Int} {ov ov2 : Bool} {G G' : Option Nat} {v v' v2 : Value} {l l' : List Int} {F : List (Option Nat × Value × List Int)}
theorem FamO.wr (h : FamO q w F) (hi : F[i]? = some (G,v,l)) (bx : WBox w wp v p f ov) (ht : q <= wp) : WrM q w wp p f ov G v l:=⟨bx,h.own i _ hi,ht⟩
theorem FamO.fed (h : FamO q w F) (hi : F[i]? = some (G,v,l)) (bx : WBox w wp v p f ov) (hw : Wrote (fun k => k = wp \/ G = some k) w w') (h2 : WrM q w' wp p2 f2 ov2 G' v' l') (hat : ∀ g,G' = some g -> w.heap.size <= g) : FamO q w' (F.set i (G',v',l')) :=
 h.wrote hi hw (fun j a g ha hg hs => hs.elim (fun e => ((h.own j a ha).not (g:=wp) (by rw [<- e]; exact hg) bx zel).elim) id) h2.own fun g hg => .inr (hat g hg)
theorem FamO.boxg (h : FamO q w F) (hi : F[i]? = some (G,v,l)) (bx2 : WBox w wp2 v2 p2 f2 ov2) (hg : w.grownBy w' G) : WBox w' wp2 v2 p2 f2 ov2 :=
 zq bx2 hg fun e => (h.own i _ hi).not e bx2 zel
theorem Wrote.close (h : Wrote (fun k => k = wp) w w') : Wrote (fun k => k = wp \/ G = some k) w w':=h.mono fun k _ e => .inl e
end
end
section
open Go.RowKit Go.Lib
section
variable {q db wp i : Nat} {v0 wr w' : World} {p : Option Addr} {f k0 pl : Int} {g0 : Bool} {vv v v' : Value} {F : List (Option Nat × Value × List Int)} {G G' : Option Nat} {xs xs' : List Int} {all all' : List UInt8} {out out' : List Int}
end
theorem zej {B : BaseF} (hbd : zap B) (c j : Bool) {xs fs : List Int} (h : fs = B.form c j xs) : fs.length <= 54 * xs.length:=by
 have h1:=zl0 hbd c xs;rw [h];unfold BaseF.form;split
 ·have:=zil (B:=B) (B.full c xs); omega
 ·omega
theorem Fed.out_lenT {B : BaseF} {c j : Bool} {all out wt : List Int} (hbd : zap B) (h : Fed B c j all out wt) : out.length <= 54 * all.length:=by
 have h1:=zej hbd c j (xs:=all) rfl;rw [<- h.close,List.length_append] at h1;omega
theorem OwnG.argvT {q n c : Nat} {w : World} {G : Option Nat} {A : Option Addr} {xs : List Int} (h : OwnG q w G (.slice A n c) xs) : xs.length = n /\ Rd w A n (Rs xs):=by
 obtain ⟨A',c',e,h1,h2,h3⟩:=h.shape;injection e with e1 e2 e3;subst e1 e2 e3;exact ⟨rfl,h3⟩
end
end Go.Proofs.YtolcabjkbefjgaaGreatDoor
