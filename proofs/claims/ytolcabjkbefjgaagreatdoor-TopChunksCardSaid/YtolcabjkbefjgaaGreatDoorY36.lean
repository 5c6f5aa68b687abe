/- charset: which of two rows is better; a row is taken. Sorting by classes, as far as it is wanted: the row stays a row; all else stands. marks.Sort, cover.wrong, cover.plain: no more than is wanted: they come back, and what there was stands. cover.wrong, cover.plain: no more than is wanted. -/
import Derived.Test.YtolcabjkbefjgaaGreatDoorY35
set_option linter.unusedSimpArgs false
set_option linter.unusedVariables false
set_option maxRecDepth 20000
set_option maxHeartbeats 4000000
namespace Go.Proofs.YtolcabjkbefjgaaGreatDoor
section
open Go.RowKit Go.Lib Go.Maps
theorem cmpor_any (A : Option Addr) (x y z : Int) (cp : Nat) (w : World) (hr : Rd w A 3 [.int .i64 x,.int .i64 y,.int .i64 z]) : Calls Tryz.prog 137 #[.slice A 3 cp] w fun e w' => (∃ k,e = .returned (.int .i64 k)) /\ SameT w w':=by
 obtain ⟨b,off,rfl,_,hc⟩:=hr.at_ (by decide);have c0:=hc 0 _ rfl;have c1:=hc 1 _ rfl;have c2:=hc 2 _ rfl;have HC:=hz0q (And.intro c0 (And.intro c1 c2));clear hc hr c0 c1 c2;go_enter Tryz.func137,Tryz.ntmps137;go_wp2
 go_loopw [8] (fun v8 wr => ∃ k : Nat,k <= 3 /\ v8 = .int .i64 k /\ SameT w wr) (fun v8 _ => 3 - (intOf v8).toNat)
 case atStart => exact ⟨0,Nat.zero_le _,rfl,(rfl : w = w)⟩
 case round =>
  obtain ⟨k,hk,rfl,hsm⟩:=hrel;obtain rfl : w = wr:=hsm
  by_cases hlt : k < 3
  ·have hki : (k : Int) < 3:=by omega
   obtain ⟨v,hv⟩ : ∃ v : Int,w.cell? ⟨b,off + k,none⟩ = some (.int .i64 v):=by
    match k,hlt with
    | 0,_ => exact ⟨_,HC.out.1⟩
    | 1,_ => exact ⟨_,HC.out.2.1⟩
    | 2,_ => exact ⟨_,HC.out.2.2⟩
   by_cases hv0 : v = 0
   ·subst hv0;go_wp2;go_roundw
    case rel => exact ⟨k + 1,by omega,by go_num,(rfl : w = w)⟩
    case measure => simp [intOf] <;> omega
   ·have r0 : (v != 0) = true:=(by simp [hv0]);go_wp2;go_returns;exact ⟨⟨_,rfl⟩,rfl⟩
  ·obtain rfl : k = 3:=(by omega);go_wp2;go_returns;exact ⟨⟨_,rfl⟩,rfl⟩
section
variable {w : World}
theorem better_any (ra rb : MR) (hsa : ra.cd.size <= 200) (hsb : rb.cd.size <= 200) (w : World) : Calls Tryz.prog 92 #[mrV ra,mrV rb] w fun e w' => (∃ k : Bool,e = .returned (.bool k)) /\ Below w.heap.size w w':=by
 obtain ⟨ca,ta,fa⟩:=ra;obtain ⟨cb,tb,fb⟩:=rb;have hsa : ca.size <= 200:=hsa;have hsb : cb.size <= 200:=hsb;obtain ⟨Wa,hWa⟩ : ∃ Wa,w.alloc (.cells (mrC ⟨ca,ta,fa⟩) 197) = Wa:=⟨_,rfl⟩;obtain ⟨Wb,hWb⟩ : ∃ Wb,Wa.alloc (.cells (mrC ⟨cb,tb,fb⟩) 197) = Wb:=⟨_,rfl⟩;obtain ⟨xa,hxa⟩ : ∃ xa,w.heap.size = xa:=⟨_,rfl⟩;obtain ⟨xb,hxb⟩ : ∃ xb,Wa.heap.size = xb:=⟨_,rfl⟩;have b1 : Below w.heap.size w Wa:=(by rw [<- hWa]; exact (Below.refl _ _).alloc (Nat.le_refl _) _);have b2 : Below Wa.heap.size Wa Wb:=(by rw [<- hWb]; exact (Below.refl _ _).alloc (Nat.le_refl _) _);have x1 : Wa.heap[xa]? = some (.cells (mrC ⟨ca,ta,fa⟩) 197 (0,0)):=(by rw [<- hWa,<- hxa]; exact zm _ _ _);have x2 : Wb.heap[xb]? = some (.cells (mrC ⟨cb,tb,fb⟩) 197 (0,0)):=(by rw [<- hWb,<- hxb]; exact zm _ _ _);have x3:=zd x1 b2;have BA:=hz0q (zb b1 b2);have XA:=hz0q x3;have XB:=hz0q x2;have CI:=Tryz.cmp_Compare_int fa fb Wb;obtain ⟨ci,hci⟩ : ∃ ci,Lib.compareInt fa fb = ci:=⟨_,rfl⟩;rw [hci] at CI;have d0:=za x3 2 rfl;have d1:=za x2 2 rfl;clear b1 b2 x1 x2 x3 hci;go_enter Tryz.func92,Tryz.ntmps92;go_wp2_with fail;refine CI.mono ?_;rintro e w1 ⟨rfl,rfl⟩;clear hWa hWb hxa hxb CI d0 d1;obtain ⟨cs,hcs⟩ : ∃ cs,Lib.compareBytes ca.data.toList cb.data.toList = cs:=⟨_,rfl⟩;have SC : ∀ W,Calls Tryz.prog 138 #[.string ca,.string cb] W fun e w' => e = .returned (.int .i64 cs) /\ w' = W:=fun W => by rw [<- hcs]; exact Tryz.strings_Compare ca cb W
 have HSC:=hz0q SC;obtain ⟨df,hdf⟩ : ∃ df,IntKind.i64.wrap ((ca.size : Int) - (cb.size : Int)) = df:=⟨_,rfl⟩;have hdf2 : (ca.size : Int) - (cb.size : Int) = df:=(by rw [<- hdf]; exact (IntWalk.i64_in _ (by omega)).symm);have HDF:=hz0q (And.intro hdf hdf2);have HS0 : Hid ((w1.drew.heap[xa]? = some (.cells (mrC ⟨ca,ta,fa⟩) 197 (0,0)) /\ w1.drew.heap[xb]? = some (.cells (mrC ⟨cb,tb,fb⟩) 197 (0,0))) /\ Below w1.heap.size w1 w1.drew):=⟨⟨XA.out,XB.out⟩,(show Drew w1 w1.drew from ⟨1,rfl⟩).to⟩
 have HMK : ∀ W o,((W.heap[xa]? = some (.cells (mrC ⟨ca,ta,fa⟩) 197 (0,0)) /\ W.heap[xb]? = some (.cells (mrC ⟨cb,tb,fb⟩) 197 (0,0))) /\ Below w1.heap.size w1 W) -> (((W.alloc o).heap[xa]? = some (.cells (mrC ⟨ca,ta,fa⟩) 197 (0,0)) /\ (W.alloc o).heap[xb]? = some (.cells (mrC ⟨cb,tb,fb⟩) 197 (0,0))) /\ Below w1.heap.size w1 (W.alloc o)):=fun W o h =>
  have hb : Below W.heap.size W (W.alloc o):=(Below.refl _ _).alloc (Nat.le_refl _) _;⟨⟨zd h.1.1 hb,zd h.1.2 hb⟩,zb h.2 hb⟩
 have HKK:=hz0q HMK;clear hcs SC hdf hdf2 HMK;go_upto_region 2 with fail;refine wp_region_held_drew (S:=fun w' => (w'.heap[xa]? = some (.cells (mrC ⟨ca,ta,fa⟩) 197 (0,0)) /\ w'.heap[xb]? = some (.cells (mrC ⟨cb,tb,fb⟩) 197 (0,0))) /\ Below w1.heap.size w1 w') (by kernel_rfl) (HS0.out) (fun hH0 => ?_);refine wpAnyH_take (i:=0) (v:=.int .i64 ci) rfl (by kernel_rfl) (by kernel_rfl) (by kernel_rfl) (fun _ _ _ h => h) (Or.inl ⟨by kernel_rfl,?_⟩) hH0 ?_
 ·intro w hSw;obtain ⟨⟨s1,s2⟩,s0⟩:=hSw;have s3:=za s1 0 rfl;have s4:=za s2 0 rfl;have s5:=HDF.out.1;have s6:=HDF.out.2;go_simp
  all_goals try first | with_reducible rfl | omega | (rw [s6] at s5; exact s5)
 try simp only [gA,gB,gC,Act.put,gD,gE,gF]
 refine wpAnyH_take (i:=1) (v:=.pointer (some ⟨xa,0,none⟩)) rfl (by kernel_rfl) (by kernel_rfl) (by kernel_rfl) (fun _ _ _ h => h) (Or.inl ⟨by kernel_rfl,?_⟩) hH0 ?_
 ·intro w hSw;obtain ⟨⟨s1,s2⟩,s0⟩:=hSw;have s3:=za s1 0 rfl;have s4:=za s2 0 rfl;have s5:=HDF.out.1;have s6:=HDF.out.2;go_simp
  all_goals try first | with_reducible rfl | omega | (rw [s6] at s5; exact s5)
 try simp only [gA,gB,gC,Act.put,gD,gE,gF]
 refine wpAnyH_take (i:=2) (v:=.string ca) rfl (by kernel_rfl) (by kernel_rfl) (by kernel_rfl) (fun _ _ _ h => h) (Or.inl ⟨by kernel_rfl,?_⟩) hH0 ?_
 ·intro w hSw;obtain ⟨⟨s1,s2⟩,s0⟩:=hSw;have s3:=za s1 0 rfl;have s4:=za s2 0 rfl;have s5:=HDF.out.1;have s6:=HDF.out.2;go_simp
  all_goals try first | with_reducible rfl | omega | (rw [s6] at s5; exact s5)
 try simp only [gA,gB,gC,Act.put,gD,gE,gF]
 refine wpAnyH_take (i:=3) (v:=.int .i64 (ca.size : Int)) rfl (by kernel_rfl) (by kernel_rfl) (by kernel_rfl) (fun _ _ _ h => h) (Or.inl ⟨by kernel_rfl,?_⟩) hH0 ?_
 ·intro w hSw;obtain ⟨⟨s1,s2⟩,s0⟩:=hSw;have s3:=za s1 0 rfl;have s4:=za s2 0 rfl;have s5:=HDF.out.1;have s6:=HDF.out.2;go_simp
  all_goals try first | with_reducible rfl | omega | (rw [s6] at s5; exact s5)
 try simp only [gA,gB,gC,Act.put,gD,gE,gF]
 refine wpAnyH_take (i:=4) (v:=.pointer (some ⟨xb,0,none⟩)) rfl (by kernel_rfl) (by kernel_rfl) (by kernel_rfl) (fun _ _ _ h => h) (Or.inl ⟨by kernel_rfl,?_⟩) hH0 ?_
 ·intro w hSw;obtain ⟨⟨s1,s2⟩,s0⟩:=hSw;have s3:=za s1 0 rfl;have s4:=za s2 0 rfl;have s5:=HDF.out.1;have s6:=HDF.out.2;go_simp
  all_goals try first | with_reducible rfl | omega | (rw [s6] at s5; exact s5)
 try simp only [gA,gB,gC,Act.put,gD,gE,gF]
 refine wpAnyH_take (i:=5) (v:=.string cb) rfl (by kernel_rfl) (by kernel_rfl) (by kernel_rfl) (fun _ _ _ h => h) (Or.inl ⟨by kernel_rfl,?_⟩) hH0 ?_
 ·intro w hSw;obtain ⟨⟨s1,s2⟩,s0⟩:=hSw;have s3:=za s1 0 rfl;have s4:=za s2 0 rfl;have s5:=HDF.out.1;have s6:=HDF.out.2;go_simp
  all_goals try first | with_reducible rfl | omega | (rw [s6] at s5; exact s5)
 try simp only [gA,gB,gC,Act.put,gD,gE,gF]
 refine wpAnyH_take (i:=6) (v:=.int .i64 (cb.size : Int)) rfl (by kernel_rfl) (by kernel_rfl) (by kernel_rfl) (fun _ _ _ h => h) (Or.inl ⟨by kernel_rfl,?_⟩) hH0 ?_
 ·intro w hSw;obtain ⟨⟨s1,s2⟩,s0⟩:=hSw;have s3:=za s1 0 rfl;have s4:=za s2 0 rfl;have s5:=HDF.out.1;have s6:=HDF.out.2;go_simp
  all_goals try first | with_reducible rfl | omega | (rw [s6] at s5; exact s5)
 try simp only [gA,gB,gC,Act.put,gD,gE,gF]
 refine wpAnyH_take (i:=7) (v:=.int .i64 df) rfl (by kernel_rfl) (by kernel_rfl) (by kernel_rfl) (fun _ _ _ h => h) (Or.inl ⟨by kernel_rfl,?_⟩) hH0 ?_
 ·intro w hSw;obtain ⟨⟨s1,s2⟩,s0⟩:=hSw;have s3:=za s1 0 rfl;have s4:=za s2 0 rfl;have s5:=HDF.out.1;have s6:=HDF.out.2;go_simp
  all_goals try first | with_reducible rfl | omega | (rw [s6] at s5; exact s5)
 try simp only [gA,gB,gC,Act.put,gD,gE,gF]
 refine wpAnyH_take (i:=8) (v:=.pointer (some ⟨xa,0,none⟩)) rfl (by kernel_rfl) (by kernel_rfl) (by kernel_rfl) (fun _ _ _ h => h) (Or.inl ⟨by kernel_rfl,?_⟩) hH0 ?_
 ·intro w hSw;obtain ⟨⟨s1,s2⟩,s0⟩:=hSw;have s3:=za s1 0 rfl;have s4:=za s2 0 rfl;have s5:=HDF.out.1;have s6:=HDF.out.2;go_simp
  all_goals try first | with_reducible rfl | omega | (rw [s6] at s5; exact s5)
 try simp only [gA,gB,gC,Act.put,gD,gE,gF]
 refine wpAnyH_take (i:=9) (v:=.string ca) rfl (by kernel_rfl) (by kernel_rfl) (by kernel_rfl) (fun _ _ _ h => h) (Or.inl ⟨by kernel_rfl,?_⟩) hH0 ?_
 ·intro w hSw;obtain ⟨⟨s1,s2⟩,s0⟩:=hSw;have s3:=za s1 0 rfl;have s4:=za s2 0 rfl;have s5:=HDF.out.1;have s6:=HDF.out.2;go_simp
  all_goals try first | with_reducible rfl | omega | (rw [s6] at s5; exact s5)
 try simp only [gA,gB,gC,Act.put,gD,gE,gF]
 refine wpAnyH_take (i:=10) (v:=.pointer (some ⟨xb,0,none⟩)) rfl (by kernel_rfl) (by kernel_rfl) (by kernel_rfl) (fun _ _ _ h => h) (Or.inl ⟨by kernel_rfl,?_⟩) hH0 ?_
 ·intro w hSw;obtain ⟨⟨s1,s2⟩,s0⟩:=hSw;have s3:=za s1 0 rfl;have s4:=za s2 0 rfl;have s5:=HDF.out.1;have s6:=HDF.out.2;go_simp
  all_goals try first | with_reducible rfl | omega | (rw [s6] at s5; exact s5)
 try simp only [gA,gB,gC,Act.put,gD,gE,gF]
 refine wpAnyH_take (i:=11) (v:=.string cb) rfl (by kernel_rfl) (by kernel_rfl) (by kernel_rfl) (fun _ _ _ h => h) (Or.inl ⟨by kernel_rfl,?_⟩) hH0 ?_
 ·intro w hSw;obtain ⟨⟨s1,s2⟩,s0⟩:=hSw;have s3:=za s1 0 rfl;have s4:=za s2 0 rfl;have s5:=HDF.out.1;have s6:=HDF.out.2;go_simp
  all_goals try first | with_reducible rfl | omega | (rw [s6] at s5; exact s5)
 try simp only [gA,gB,gC,Act.put,gD,gE,gF]
 refine wpAnyH_ready (rs:=[12]) (by kernel_rfl) (by simp) ?_;refine AllReadyH.cons rfl (fun K hK => ?_) AllReadyH.nil;go_simp
 refine (HSC.out _).mono ?_;rintro e w50 ⟨rfl,rfl⟩;refine hK.out _ _ (hH0) (fun hH1 => ?_);clear hK K hH0;try simp only [gA,gB,gC,Act.put,gD,gE,gF]
 refine wpAnyH_ready (rs:=[13]) (by kernel_rfl) (by simp) ?_;refine AllReadyH.cons rfl (fun K hK => ?_) AllReadyH.nil;go_simp
 refine hK.out _ _ (HKK.out _ _ hH1) (fun hH2 => ?_);clear hK K hH1;try simp only [gA,gB,gC,Act.put,gD,gE,gF]
 refine wpAnyH_ready (rs:=[14]) (by kernel_rfl) (by simp) ?_;refine AllReadyH.cons rfl (fun K hK => ?_) AllReadyH.nil;go_simp
 refine (cmpor_any _ ci df cs 3 _ ((Rd.new w1 _ [.int .i64 ci,.int .i64 df,.int .i64 cs]).below (Drew.to ⟨1,rfl⟩))).mono ?_;rintro e w52 ⟨⟨k,rfl⟩,rfl⟩;refine hK.out _ _ (hH2) (fun hH3 => ?_);clear hK K hH2;try simp only [gA,gB,gC,Act.put,gD,gE,gF]
 refine wpAnyH_take (i:=15) (v:=.bool (decide (k < 0))) rfl (by kernel_rfl) (by kernel_rfl) (by kernel_rfl) (fun _ _ _ h => h) (Or.inl ⟨by kernel_rfl,?_⟩) hH3 ?_
 ·intro w hSw;obtain ⟨⟨s1,s2⟩,s0⟩:=hSw;have s3:=za s1 0 rfl;have s4:=za s2 0 rfl;have s5:=HDF.out.1;have s6:=HDF.out.2;go_simp
  all_goals try first | with_reducible rfl | omega | (rw [s6] at s5; exact s5)
 try simp only [gA,gB,gC,Act.put,gD,gE,gF]
 refine wpAnyH_take (i:=16) (v:=.bool (decide (k < 0))) rfl (by kernel_rfl) (by kernel_rfl) (by kernel_rfl) (fun _ _ _ h => h) (Or.inl ⟨by kernel_rfl,?_⟩) hH3 ?_
 ·intro w hSw;obtain ⟨⟨s1,s2⟩,s0⟩:=hSw;have s3:=za s1 0 rfl;have s4:=za s2 0 rfl;have s5:=HDF.out.1;have s6:=HDF.out.2;go_simp
  all_goals try first | with_reducible rfl | omega | (rw [s6] at s5; exact s5)
 try simp only [gA,gB,gC,Act.put,gD,gE,gF]
 refine wpAnyH_done (by kernel_rfl) ?_ _;have HF:=hz0q (zb BA.out hH3.2);clear hH3;go_wp2;go_returns;exact ⟨⟨_,rfl⟩,HF.out⟩
end
end
section
open Go.RowKit Go.Lib
theorem keepB_first {w : World} {p : Addr} {u : Value} (h : w.cell? p = some u) : w.drew.cell? p = some u /\ Below w.heap.size w w.drew:=⟨h,(show Drew w w.drew from ⟨1,rfl⟩).to⟩
theorem zhy {w0 w w' : World} {p : Addr} {u : Value} (h : w.cell? p = some u /\ Below w0.heap.size w0 w) (hb : Below w.heap.size w w') : w'.cell? p = some u /\ Below w0.heap.size w0 w':=⟨(hb.cell (World.block_lt_of_cell? w _ h.1)).trans h.1,zb h.2 hb⟩
section
variable {w : World} {p : Option Addr} {B : BaseF}
theorem zc8 (p : Option Addr) (w : World) : (method 467 112 (wlC p) "Class").run Tryz.prog w = .ok (257,wlC p) w:=by kernel_rfl
def CmpOk (g bx : Nat) (w : World) : Prop:=∀ W,OrdW g w W -> ∀ x y,R32 x -> R32 y -> Calls Tryz.prog 224 #[.int .i32 x,.int .i32 y,.pointer (some ⟨bx,0,none⟩)] W fun e W' => (∃ k,e = .returned (.int .i64 k)) /\ Below W.heap.size W W'
theorem zir (hB : zac w (.pointer p) B) (bx : Nat) (hbx : w.cell? ⟨bx,0,none⟩ = some (wlV p)) (x y : Int) (hx : R32 x) (hy : R32 y) :
  Calls Tryz.prog 224 #[.int .i32 x,.int .i32 y,.pointer (some ⟨bx,0,none⟩)] w fun e w' => (∃ k,e = .returned (.int .i64 k)) /\ Below w.heap.size w w':=by
 obtain ⟨cx,hcx⟩ : ∃ cx,cx = B.cls x:=⟨_,rfl⟩;obtain ⟨cy,hcy⟩ : ∃ cy,cy = B.cls y:=⟨_,rfl⟩;obtain ⟨d,hd⟩ : ∃ d,d = IntKind.i64.wrap (cx - cy):=⟨_,rfl⟩;have HCX:=fun W (hb : Below w.heap.size w W) => zdk (hB.below hb) x hx;have HCY:=fun W (hb : Below w.heap.size w W) => zdk (hB.below hb) y hy;rw [<- hcx] at HCX;rw [<- hcy] at HCY;have HX:=hz0q HCX;have HY:=hz0q HCY;have HD:=hz0q hd;have MC:=zc8 p;clear HCX HCY hB hcx hcy hd;go_enter Tryz.func224,Tryz.ntmps224;go_upto_region 1 with fail;refine wp_region_held_drew (S:=fun w' => w'.cell? ⟨bx,0,none⟩ = some (wlV p) /\ Below w.heap.size w w') (by kernel_rfl) (keepB_first hbx) (fun hH0 => ?_);refine wpAnyH_take (i:=0) (v:=wlV p) rfl (by kernel_rfl) (by kernel_rfl) (by kernel_rfl) (fun _ _ _ h => h) (Or.inl ⟨by kernel_rfl,?_⟩) hH0 ?_
 ·intro w hSw;obtain ⟨s1,s2⟩:=hSw;go_simp
  all_goals try with_reducible rfl
 try simp only [gA,gB,gC,Act.put,gD,gE,gF]
 refine wpAnyH_take (i:=1) (v:=.int .i32 x) rfl (by kernel_rfl) (by kernel_rfl) (by kernel_rfl) (fun _ _ _ h => h) (Or.inl ⟨by kernel_rfl,?_⟩) hH0 ?_
 ·intro w hSw;obtain ⟨s1,s2⟩:=hSw;go_simp
  all_goals try with_reducible rfl
 try simp only [gA,gB,gC,Act.put,gD,gE,gF]
 refine wpAnyH_take (i:=3) (v:=wlV p) rfl (by kernel_rfl) (by kernel_rfl) (by kernel_rfl) (fun _ _ _ h => h) (Or.inl ⟨by kernel_rfl,?_⟩) hH0 ?_
 ·intro w hSw;obtain ⟨s1,s2⟩:=hSw;go_simp
  all_goals try with_reducible rfl
 try simp only [gA,gB,gC,Act.put,gD,gE,gF]
 refine wpAnyH_take (i:=4) (v:=.int .i32 y) rfl (by kernel_rfl) (by kernel_rfl) (by kernel_rfl) (fun _ _ _ h => h) (Or.inl ⟨by kernel_rfl,?_⟩) hH0 ?_
 ·intro w hSw;obtain ⟨s1,s2⟩:=hSw;go_simp
  all_goals try with_reducible rfl
 try simp only [gA,gB,gC,Act.put,gD,gE,gF]
 refine wpAnyH_ready (rs:=[2]) (by kernel_rfl) (by simp) ?_;refine AllReadyH.cons rfl (fun K hK => ?_) AllReadyH.nil;go_simp
 refine (HX.out _ hH0.2).mono ?_;rintro e w50 ⟨rfl,hb⟩;refine hK.out _ _ (zhy hH0 hb) (fun hH1 => ?_);clear hK K hH0;try simp only [gA,gB,gC,Act.put,gD,gE,gF]
 refine wpAnyH_ready (rs:=[5]) (by kernel_rfl) (by simp) ?_;refine AllReadyH.cons rfl (fun K hK => ?_) AllReadyH.nil;go_simp
 refine (HY.out _ hH1.2).mono ?_;rintro e w51 ⟨rfl,hb⟩;refine hK.out _ _ (zhy hH1 hb) (fun hH2 => ?_);clear hK K hH1;try simp only [gA,gB,gC,Act.put,gD,gE,gF]
 refine wpAnyH_take (i:=6) (v:=.int .i64 d) rfl (by kernel_rfl) (by kernel_rfl) (by kernel_rfl) (fun _ _ _ h => h) (Or.inl ⟨by kernel_rfl,?_⟩) hH2 ?_
 ·intro w hSw;have HD1:=HD.out;go_simp
  all_goals first | with_reducible rfl | simp [HD1]
 try simp only [gA,gB,gC,Act.put,gD,gE,gF]
 refine wpAnyH_take (i:=7) (v:=.int .i64 d) rfl (by kernel_rfl) (by kernel_rfl) (by kernel_rfl) (fun _ _ _ h => h) (Or.inl ⟨by kernel_rfl,?_⟩) hH2 ?_
 ·intro w hSw;obtain ⟨s1,s2⟩:=hSw;go_simp
  all_goals try with_reducible rfl
 try simp only [gA,gB,gC,Act.put,gD,gE,gF]
 refine wpAnyH_done (by kernel_rfl) ?_ _;have HF:=hz0q hH2.2;clear hH2;go_wp2;go_returns;exact ⟨⟨d,rfl⟩,HF.out⟩
def SrtP (g N : Nat) (w w' : World) : Prop:=∃ ys : List Int,ys.length = N /\ (∀ y ∈ ys,R32 y) /\ zaf w' g 0 ys /\ OrdW g w w'
theorem zdc {w : World} {g i : Nat} {l : List Int} {x : Int} (h : zaf w g 0 l) (hx : l[i]? = some x) : w.cell? ⟨g,i,none⟩ = some (.int .i32 x) /\ w.frozen? ⟨g,i,none⟩ = false:=by
 have:=h i x hx;rw [Nat.zero_add] at this;exact this
theorem zg3 {w : World} {g i : Nat} {l : List Int} (h : zaf w g 0 l) (x : Int) (hi : i < l.length) : zaf (w.setCell ⟨g,i,none⟩ (.int .i32 x)) g 0 (l.set i x):=by
 have:=zfc h i x hi;rw [Nat.zero_add] at this;exact this
theorem inscmp_any (g off n N cap bx : Nat) (xs : List Int) (w : World) (hH : zaf w g 0 xs) (hx : ∀ x ∈ xs,R32 x) (hn : xs.length = N) (hnN : off + n <= N) (hn2 : n <= 1000) (hC : CmpOk g bx w) :
  Calls Tryz.prog 232 #[.slice (some ⟨g,off,none⟩) n cap,.int .i64 0,.int .i64 n,.func (.func 224) #[] #[.pointer (some ⟨bx,0,none⟩)]] w fun e w' => e = .returned (.tuple #[]) /\ SrtP g N w w':=by
 have en : ∀ args w,(callFunc 224 args).run Tryz.prog w = .ok (.enter 224 args) w:=enters_of Tryz.func224 (by kernel_rfl) rfl;have HC:=hz0q hC;have HX:=hz0q (And.intro hn hx);have HH:=hz0q hH;clear hC hH hx hn;go_enter Tryz.func232,Tryz.ntmps232;go_wp2
 go_loopw [8] (fun v8 wr => ∃ (i : Nat) (ys : List Int),v8 = .int .i64 i /\ 1 <= i /\ i <= n + 1 /\ Hid (ys.length = N /\ ∀ y ∈ ys,R32 y) /\ Hid (zaf wr g 0 ys) /\ Hid (OrdW g w wr)) (fun v8 _ => n + 1 - (intOf v8).toNat)
 case atStart => exact ⟨1,xs,by go_num,Nat.le_refl _,by omega,HX,HH,OrdW.refl _ _⟩
 case round =>
  obtain ⟨i,ys,rfl,hi1,hin,HY,HM,HW⟩:=hrel
  by_cases hlt : i < n
  ·have hii : (i : Int) < (n : Int):=(by omega);go_wp2
   go_loopw [9] (fun v9 w2 => ∃ (j : Nat) (ys : List Int),v9 = .int .i64 j /\ j <= i /\ Hid (ys.length = N /\ ∀ y ∈ ys,R32 y) /\ Hid (zaf w2 g 0 ys) /\ Hid (OrdW g w w2)) (fun v9 _ => (intOf v9).toNat)
   case atStart => exact ⟨i,ys,rfl,Nat.le_refl _,HY,HM,HW⟩
   case round =>
    obtain ⟨j,zs,rfl,hji,HZ,HN,HV⟩:=hrel;obtain ⟨wo,rfl⟩ : ∃ wo,wo = wr:=⟨wr,rfl⟩
    cases j with
    | zero =>
     go_upto_region 4 with fail;refine wp_region_held_drew (S:=fun w' => Below wo.heap.size wo w') (by kernel_rfl) ((show Drew wo wo.drew from ⟨1,rfl⟩).to) (fun hH0 => ?_)
     refine wpAnyH_take (i:=0) (v:=.int .i64 0) rfl (by kernel_rfl) (by kernel_rfl) (by kernel_rfl) (fun _ _ _ h => h) (Or.inl ⟨by kernel_rfl,?_⟩) hH0 ?_
     ·intro w hSw;have s1:=hSw;go_simp
      all_goals try with_reducible rfl
     try simp only [gA,gB,gC,Act.put,gD,gE,gF]
     refine wpAnyH_take (i:=1) (v:=.int .i64 0) rfl (by kernel_rfl) (by kernel_rfl) (by kernel_rfl) (fun _ _ _ h => h) (Or.inl ⟨by kernel_rfl,?_⟩) hH0 ?_
     ·intro w hSw;have s1:=hSw;go_simp
      all_goals try with_reducible rfl
     try simp only [gA,gB,gC,Act.put,gD,gE,gF]
     refine wpAnyH_take (i:=2) (v:=.bool false) rfl (by kernel_rfl) (by kernel_rfl) (by kernel_rfl) (fun _ _ _ h => h) (Or.inl ⟨by kernel_rfl,?_⟩) hH0 ?_
     ·intro w hSw;have s1:=hSw;go_simp
      all_goals try with_reducible rfl
     try simp only [gA,gB,gC,Act.put,gD,gE,gF]
     refine wpAnyH_take (i:=3) (v:=.bool false) rfl (by kernel_rfl) (by kernel_rfl) (by kernel_rfl) (fun _ _ _ h => h) (Or.inl ⟨by kernel_rfl,?_⟩) hH0 ?_
     ·intro w hSw;have s1:=hSw;go_simp
      all_goals try with_reducible rfl
     try simp only [gA,gB,gC,Act.put,gD,gE,gF]
     refine psH 4 rfl hH0 ?_;try simp only [gA,gB,gC,Act.put,gD,gE,gF]
     refine psH 5 rfl hH0 ?_;try simp only [gA,gB,gC,Act.put,gD,gE,gF]
     refine psH 6 rfl hH0 ?_;try simp only [gA,gB,gC,Act.put,gD,gE,gF]
     refine psH 7 rfl hH0 ?_;try simp only [gA,gB,gC,Act.put,gD,gE,gF]
     refine psH 8 rfl hH0 ?_;try simp only [gA,gB,gC,Act.put,gD,gE,gF]
     refine psH 9 rfl hH0 ?_;try simp only [gA,gB,gC,Act.put,gD,gE,gF]
     refine psH 10 rfl hH0 ?_;try simp only [gA,gB,gC,Act.put,gD,gE,gF]
     refine psH 11 rfl hH0 ?_;try simp only [gA,gB,gC,Act.put,gD,gE,gF]
     refine psH 12 rfl hH0 ?_;try simp only [gA,gB,gC,Act.put,gD,gE,gF]
     refine psH 13 rfl hH0 ?_;try simp only [gA,gB,gC,Act.put,gD,gE,gF]
     refine psH 14 rfl hH0 ?_;try simp only [gA,gB,gC,Act.put,gD,gE,gF]
     refine psH 15 rfl hH0 ?_;try simp only [gA,gB,gC,Act.put,gD,gE,gF]
     refine wpAnyH_take (i:=16) (v:=.bool false) rfl (by kernel_rfl) (by kernel_rfl) (by kernel_rfl) (fun _ _ _ h => h) (Or.inl ⟨by kernel_rfl,?_⟩) hH0 ?_
     ·intro w hSw;have s1:=hSw;go_simp
      all_goals try with_reducible rfl
     try simp only [gA,gB,gC,Act.put,gD,gE,gF]
     refine wpAnyH_done (by kernel_rfl) ?_ _;have HV5:=hz0q (HV.out.trans (.of_below hH0));have HN5:=hz0q (zau HN.out hH0);clear hH0;obtain ⟨W5,hW5⟩ : ∃ W5,wo.drew = W5:=⟨_,rfl⟩;rw [hW5] at HV5 HN5 ⊢;clear hW5;go_wp2;go_roundw
     case rel => exact ⟨i + 1,zs,by go_num,by omega,by omega,HZ,HN5,HV5⟩
     case measure => simp [intOf]; omega
    | succ t =>
     have ht1 : t + 1 < n:=(by omega);obtain ⟨x,hx⟩ : ∃ x,zs[off + (t + 1)]? = some x:=⟨_,List.getElem?_eq_getElem (by rw [HZ.out.1]; omega)⟩;obtain ⟨y,hy⟩ : ∃ y,zs[off + t]? = some y:=⟨_,List.getElem?_eq_getElem (by rw [HZ.out.1]; omega)⟩;have hxR:=HZ.out.2 x (List.mem_of_getElem? hx);have hyR:=HZ.out.2 y (List.mem_of_getElem? hy);have cx:=zdc HN.out hx;have cy:=zdc HN.out hy;have HS0 : Hid ((wo.drew.cell? ⟨g,off + (t + 1),none⟩ = some (.int .i32 x) /\ wo.drew.cell? ⟨g,off + t,none⟩ = some (.int .i32 y)) /\ Below wo.heap.size wo wo.drew):=⟨⟨cx.1,cy.1⟩,(show Drew wo wo.drew from ⟨1,rfl⟩).to⟩
     have HCC : Hid (∀ W,Below wo.heap.size wo W -> Calls Tryz.prog 224 #[.int .i32 x,.int .i32 y,.pointer (some ⟨bx,0,none⟩)] W fun e W' => (∃ k,e = .returned (.int .i64 k)) /\ Below W.heap.size W W'):=fun W hW => HC.out W (HV.out.trans (.of_below hW)) x y hxR hyR;have htz : (0 : Int) < ((t + 1 : Nat) : Int):=(by omega);have htn : ((t + 1 : Nat) : Int) < (n : Int):=(by omega);have htn0 : ((t : Nat) : Int) < (n : Int):=(by omega);have hwt : IntKind.i64.wrap (((t + 1 : Nat) : Int) - 1) = (t : Int):=(by rw [show (((t + 1 : Nat) : Int) - 1) = (t : Int) by omega]; exact IntWalk.i64_in _ (by omega));have HXY:=hz0q (And.intro hx hy);clear hx hy hxR hyR cx cy;go_upto_region 4 with fail;refine wp_region_held_drew (S:=fun w' => (w'.cell? ⟨g,off + (t + 1),none⟩ = some (.int .i32 x) /\ w'.cell? ⟨g,off + t,none⟩ = some (.int .i32 y)) /\ Below wo.heap.size wo w') (by kernel_rfl) (HS0.out) (fun hH0 => ?_);refine wpAnyH_take (i:=0) (v:=.int .i64 ((t + 1 : Nat) : Int)) rfl (by kernel_rfl) (by kernel_rfl) (by kernel_rfl) (fun _ _ _ h => h) (Or.inl ⟨by kernel_rfl,?_⟩) hH0 ?_
     ·intro w hSw;obtain ⟨⟨s1,s2⟩,s3⟩:=hSw;go_simp
      all_goals try first | with_reducible rfl | (intro hq; exfalso; omega) | exact IntWalk.i64_in _ (by omega)
     try simp only [gA,gB,gC,Act.put,gD,gE,gF]
     refine wpAnyH_take (i:=1) (v:=.int .i64 0) rfl (by kernel_rfl) (by kernel_rfl) (by kernel_rfl) (fun _ _ _ h => h) (Or.inl ⟨by kernel_rfl,?_⟩) hH0 ?_
     ·intro w hSw;obtain ⟨⟨s1,s2⟩,s3⟩:=hSw;go_simp
      all_goals try first | with_reducible rfl | (intro hq; exfalso; omega) | exact IntWalk.i64_in _ (by omega)
     try simp only [gA,gB,gC,Act.put,gD,gE,gF]
     refine wpAnyH_take (i:=2) (v:=.bool true) rfl (by kernel_rfl) (by kernel_rfl) (by kernel_rfl) (fun _ _ _ h => h) (Or.inl ⟨by kernel_rfl,?_⟩) hH0 ?_
     ·intro w hSw;obtain ⟨⟨s1,s2⟩,s3⟩:=hSw;go_simp
      all_goals try first | with_reducible rfl | (intro hq; exfalso; omega) | exact IntWalk.i64_in _ (by omega)
     try simp only [gA,gB,gC,Act.put,gD,gE,gF]
     refine wpAnyH_take (i:=3) (v:=.bool true) rfl (by kernel_rfl) (by kernel_rfl) (by kernel_rfl) (fun _ _ _ h => h) (Or.inl ⟨by kernel_rfl,?_⟩) hH0 ?_
     ·intro w hSw;obtain ⟨⟨s1,s2⟩,s3⟩:=hSw;go_simp
      all_goals try first | with_reducible rfl | (intro hq; exfalso; omega) | exact IntWalk.i64_in _ (by omega)
     try simp only [gA,gB,gC,Act.put,gD,gE,gF]
     refine wpAnyH_take (i:=4) (v:=.func (.func 224) #[] #[.pointer (some ⟨bx,0,none⟩)]) rfl (by kernel_rfl) (by kernel_rfl) (by kernel_rfl) (fun _ _ _ h => h) (Or.inl ⟨by kernel_rfl,?_⟩) hH0 ?_
     ·intro w hSw;obtain ⟨⟨s1,s2⟩,s3⟩:=hSw;go_simp
      all_goals try first | with_reducible rfl | (intro hq; exfalso; omega) | exact IntWalk.i64_in _ (by omega)
     try simp only [gA,gB,gC,Act.put,gD,gE,gF]
     refine wpAnyH_take (i:=5) (v:=.slice (some ⟨g,off,none⟩) n cap) rfl (by kernel_rfl) (by kernel_rfl) (by kernel_rfl) (fun _ _ _ h => h) (Or.inl ⟨by kernel_rfl,?_⟩) hH0 ?_
     ·intro w hSw;obtain ⟨⟨s1,s2⟩,s3⟩:=hSw;go_simp
      all_goals try first | with_reducible rfl | (intro hq; exfalso; omega) | exact IntWalk.i64_in _ (by omega)
     try simp only [gA,gB,gC,Act.put,gD,gE,gF]
     refine wpAnyH_take (i:=6) (v:=.int .i64 ((t + 1 : Nat) : Int)) rfl (by kernel_rfl) (by kernel_rfl) (by kernel_rfl) (fun _ _ _ h => h) (Or.inl ⟨by kernel_rfl,?_⟩) hH0 ?_
     ·intro w hSw;obtain ⟨⟨s1,s2⟩,s3⟩:=hSw;go_simp
      all_goals try first | with_reducible rfl | (intro hq; exfalso; omega) | exact IntWalk.i64_in _ (by omega)
     try simp only [gA,gB,gC,Act.put,gD,gE,gF]
     refine wpAnyH_take (i:=7) (v:=.pointer (some ⟨g,off + (t + 1),none⟩)) rfl (by kernel_rfl) (by kernel_rfl) (by kernel_rfl) (fun _ _ _ h => h) (Or.inl ⟨by kernel_rfl,?_⟩) hH0 ?_
     ·intro w hSw;obtain ⟨⟨s1,s2⟩,s3⟩:=hSw;go_simp
      all_goals try first | with_reducible rfl | (intro hq; exfalso; omega) | exact IntWalk.i64_in _ (by omega)
     try simp only [gA,gB,gC,Act.put,gD,gE,gF]
     refine wpAnyH_take (i:=8) (v:=.int .i32 x) rfl (by kernel_rfl) (by kernel_rfl) (by kernel_rfl) (fun _ _ _ h => h) (Or.inl ⟨by kernel_rfl,?_⟩) hH0 ?_
     ·intro w hSw;obtain ⟨⟨s1,s2⟩,s3⟩:=hSw;go_simp
      all_goals try first | with_reducible rfl | (intro hq; exfalso; omega) | exact IntWalk.i64_in _ (by omega)
     try simp only [gA,gB,gC,Act.put,gD,gE,gF]
     refine wpAnyH_take (i:=9) (v:=.slice (some ⟨g,off,none⟩) n cap) rfl (by kernel_rfl) (by kernel_rfl) (by kernel_rfl) (fun _ _ _ h => h) (Or.inl ⟨by kernel_rfl,?_⟩) hH0 ?_
     ·intro w hSw;obtain ⟨⟨s1,s2⟩,s3⟩:=hSw;go_simp
      all_goals try first | with_reducible rfl | (intro hq; exfalso; omega) | exact IntWalk.i64_in _ (by omega)
     try simp only [gA,gB,gC,Act.put,gD,gE,gF]
     refine wpAnyH_take (i:=10) (v:=.int .i64 ((t + 1 : Nat) : Int)) rfl (by kernel_rfl) (by kernel_rfl) (by kernel_rfl) (fun _ _ _ h => h) (Or.inl ⟨by kernel_rfl,?_⟩) hH0 ?_
     ·intro w hSw;obtain ⟨⟨s1,s2⟩,s3⟩:=hSw;go_simp
      all_goals try first | with_reducible rfl | (intro hq; exfalso; omega) | exact IntWalk.i64_in _ (by omega)
     try simp only [gA,gB,gC,Act.put,gD,gE,gF]
     refine wpAnyH_take (i:=11) (v:=.int .i64 (t : Int)) rfl (by kernel_rfl) (by kernel_rfl) (by kernel_rfl) (fun _ _ _ h => h) (Or.inl ⟨by kernel_rfl,?_⟩) hH0 ?_
     ·intro w hSw;obtain ⟨⟨s1,s2⟩,s3⟩:=hSw;go_simp
      all_goals try first | with_reducible rfl | (intro hq; exfalso; omega) | exact IntWalk.i64_in _ (by omega)
     try simp only [gA,gB,gC,Act.put,gD,gE,gF]
     refine wpAnyH_take (i:=12) (v:=.pointer (some ⟨g,off + t,none⟩)) rfl (by kernel_rfl) (by kernel_rfl) (by kernel_rfl) (fun _ _ _ h => h) (Or.inl ⟨by kernel_rfl,?_⟩) hH0 ?_
     ·intro w hSw;obtain ⟨⟨s1,s2⟩,s3⟩:=hSw;go_simp
      all_goals try first | with_reducible rfl | (intro hq; exfalso; omega) | exact IntWalk.i64_in _ (by omega)
     try simp only [gA,gB,gC,Act.put,gD,gE,gF]
     refine wpAnyH_take (i:=13) (v:=.int .i32 y) rfl (by kernel_rfl) (by kernel_rfl) (by kernel_rfl) (fun _ _ _ h => h) (Or.inl ⟨by kernel_rfl,?_⟩) hH0 ?_
     ·intro w hSw;obtain ⟨⟨s1,s2⟩,s3⟩:=hSw;go_simp
      all_goals try first | with_reducible rfl | (intro hq; exfalso; omega) | exact IntWalk.i64_in _ (by omega)
     try simp only [gA,gB,gC,Act.put,gD,gE,gF]
     refine wpAnyH_ready (rs:=[14]) (by kernel_rfl) (by simp) ?_;refine AllReadyH.cons rfl (fun K hK => ?_) AllReadyH.nil;go_simp
     refine (HCC.out _ hH0.2).mono ?_;rintro e w50 ⟨⟨k,rfl⟩,hb⟩;refine hK.out _ _ (⟨⟨(hb.cell (World.block_lt_of_cell? _ _ hH0.1.1)).trans hH0.1.1,(hb.cell (World.block_lt_of_cell? _ _ hH0.1.2)).trans hH0.1.2⟩,zb hH0.2 hb⟩) (fun hH1 => ?_);clear hK K hH0;try simp only [gA,gB,gC,Act.put,gD,gE,gF]
     refine wpAnyH_take (i:=15) (v:=.bool (decide (k < 0))) rfl (by kernel_rfl) (by kernel_rfl) (by kernel_rfl) (fun _ _ _ h => h) (Or.inl ⟨by kernel_rfl,?_⟩) hH1 ?_
     ·intro w hSw;obtain ⟨⟨s1,s2⟩,s3⟩:=hSw;go_simp
      all_goals try first | with_reducible rfl | (intro hq; exfalso; omega) | exact IntWalk.i64_in _ (by omega)
     try simp only [gA,gB,gC,Act.put,gD,gE,gF]
     refine wpAnyH_take (i:=16) (v:=.bool (decide (k < 0))) rfl (by kernel_rfl) (by kernel_rfl) (by kernel_rfl) (fun _ _ _ h => h) (Or.inl ⟨by kernel_rfl,?_⟩) hH1 ?_
     ·intro w hSw;obtain ⟨⟨s1,s2⟩,s3⟩:=hSw;go_simp
      all_goals try first | with_reducible rfl | (intro hq; exfalso; omega) | exact IntWalk.i64_in _ (by omega)
     try simp only [gA,gB,gC,Act.put,gD,gE,gF]
     refine wpAnyH_done (by kernel_rfl) ?_ _;have HV5:=hz0q (HV.out.trans (.of_below hH1.2));have HN5:=hz0q (zau HN.out hH1.2);clear hH1 hb
     by_cases hk : k < 0
     ·have hkd : decide (k < 0) = true:=(by simp [hk]);rw [hkd];have h1:=zdc HN5.out HXY.out.1;have h0:=zdc HN5.out HXY.out.2;obtain ⟨c1,f1⟩:=h1;obtain ⟨c0,f0⟩:=h0;have htl : off + (t + 1) < zs.length:=(by rw [HZ.out.1]; omega);have hdr : ∀ X : World,Below X.heap.size X X.drew:=fun X => Drew.to ⟨1,rfl⟩;have HSW : Hid (zaf ((w50.setCell ⟨g,off + (t + 1),none⟩ (.int .i32 y)).setCell ⟨g,off + t,none⟩ (.int .i32 x)).drew g 0 ((zs.set (off + (t + 1)) y).set (off + t) x)):=hz0q (zau (zg3 (zg3 HN5.out y htl) x (by rw [List.length_set]; omega)) (hdr _));have HVW : Hid (OrdW g w ((w50.setCell ⟨g,off + (t + 1),none⟩ (.int .i32 y)).setCell ⟨g,off + t,none⟩ (.int .i32 x)).drew):=hz0q (((HV5.out.trans (OrdW.setCell _ _ _)).trans (OrdW.setCell _ _ _)).trans (.of_below (hdr _)))
      have HZ2 : Hid (((zs.set (off + (t + 1)) y).set (off + t) x).length = N /\ ∀ u ∈ (zs.set (off + (t + 1)) y).set (off + t) x,R32 u):=hz0q ⟨by rw [List.length_set,List.length_set]; exact HZ.out.1,fun u hu => by
       rcases List.mem_or_eq_of_mem_set hu with hu | rfl
       ·rcases List.mem_or_eq_of_mem_set hu with hu | rfl
        ·exact HZ.out.2 u hu
        ·exact HZ.out.2 _ (List.mem_of_getElem? HXY.out.2)
       ·exact HZ.out.2 _ (List.mem_of_getElem? HXY.out.1)⟩
      clear hdr hkd hk htl;go_wp2
      go_region
      all_goals go_wp2
      go_roundw
      case rel => exact ⟨t,_,by go_num,by omega,HZ2,HSW,HVW⟩
      case measure => simp [intOf]
     ·have hkd : decide (k < 0) = false:=(by simp [hk]);rw [hkd];clear hkd hk;go_wp2;go_roundw
      case rel => exact ⟨i + 1,zs,by go_num,by omega,by omega,HZ,HN5,HV5⟩
      case measure => simp [intOf]; omega
  ·have hii : ¬ ((i : Int) < (n : Int)):=(by omega);go_wp2;go_end0;exact ⟨rfl,ys,HY.out.1,HY.out.2,HM.out,HW.out⟩
theorem stbcmp_any (g off n N cap bx : Nat) (xs : List Int) (w : World) (hH : zaf w g 0 xs) (hx : ∀ x ∈ xs,R32 x) (hn : xs.length = N) (hnN : off + n <= N) (hn2 : n <= 18) (hC : CmpOk g bx w) :
  Calls Tryz.prog 231 #[.slice (some ⟨g,off,none⟩) n cap,.int .i64 n,.func (.func 224) #[] #[.pointer (some ⟨bx,0,none⟩)]] w fun e w' => e = .returned (.tuple #[]) /\ SrtP g N w w':=by
 have I:=inscmp_any g off n N cap bx xs w hH hx hn hnN (by omega) hC;have hn20 : ¬ ((20 : Int) <= (n : Int)):=(by omega);have hn21 : ¬ ((20 : Int) < (n : Int)):=(by omega);clear hH hx hn hC;go_enter Tryz.func231,Tryz.ntmps231;go_wp2
 go_loopw [7,8] (fun v7 v8 wr => v7 = .int .i64 0 /\ v8 = .int .i64 20 /\ wr = w) (fun _ _ _ => 0)
 case atStart => exact ⟨rfl,rfl,rfl⟩
 case round =>
  obtain ⟨rfl,rfl,rfl⟩:=hrel;go_wp2_with fail;refine I.mono ?_;rintro e w1 ⟨rfl,hP⟩;have HP:=hz0q hP;clear I hP;go_wp2
  go_loopw [6] (fun v6 wr => v6 = .int .i64 20 /\ wr = w1) (fun _ _ => 0)
  case atStart => exact ⟨rfl,rfl⟩
  case round =>
   obtain ⟨rfl,rfl⟩:=hrel;go_wp2;go_end0;exact ⟨rfl,HP.out⟩
theorem zfw (g off n N cap bx : Nat) (xs : List Int) (w : World) (hH : zaf w g 0 xs) (hx : ∀ x ∈ xs,R32 x) (hn : xs.length = N) (hnN : off + n <= N) (hn2 : n <= 18) (hC : CmpOk g bx w) :
  Calls Tryz.prog 223 #[.slice (some ⟨g,off,none⟩) n cap,.func (.func 224) #[] #[.pointer (some ⟨bx,0,none⟩)]] w fun e w' => e = .returned (.tuple #[]) /\ SrtP g N w w':=by
 have I:=stbcmp_any g off n N cap bx xs w hH hx hn hnN hn2 hC;clear hH hx hn hC;go_enter Tryz.func223,Tryz.ntmps223;go_wp2_with fail;refine I.mono ?_;rintro e w1 ⟨rfl,hP⟩;have HP:=hz0q hP;clear I hP;go_wp2;go_end0;exact ⟨rfl,HP.out⟩
end
end
section
open Go.RowKit Go.Lib
section
variable {w : World} {p : Option Addr} {B : BaseF}
def MsrtP (n : Nat) (w : World) (e : Ending) (w' : World) : Prop:=∃ A' c' ys,e = .returned (.tuple #[.slice A' n c',.int .i64 0]) /\ ys.length = n /\ (∀ y ∈ ys,R32 y) /\ Rd w' A' n (Rs ys) /\ Below w.heap.size w w'
theorem zd6 (p : Option Addr) (w : World) : (nilAhead 467 112 (wlC p) "Class").run Tryz.prog w = .ok (some false) w:=by kernel_rfl
theorem msort_any (hB : Hid (∀ W,Below w.heap.size w W -> zac W (.pointer p) B)) (A : Option Addr) (n cp : Nat) (xs : List Int) (hrd : Rd w A n (Rs xs)) (hn : xs.length = n) (hx : ∀ x ∈ xs,R32 x) (h1 : 1 <= n) (h18 : n <= 18) :
  Calls Tryz.prog 210 #[wlV p,.slice A n cp] w (MsrtP n w):=by
 obtain ⟨Wb,hWb⟩ : ∃ Wb,w.alloc (.cells #[wlV p] 260) = Wb:=⟨_,rfl⟩;obtain ⟨bx,hbx⟩ : ∃ bx,w.heap.size = bx:=⟨_,rfl⟩;have hbb : Below w.heap.size w Wb:=(by rw [<- hWb]; exact (Below.refl _ _).alloc (Nat.le_refl _) _);have hxb : Wb.heap[bx]? = some (.cells #[wlV p] 260 (0,0)):=(by rw [<- hWb,<- hbx]; exact zm _ _ _);have hsz : Wb.heap.size = bx + 1:=by rw [<- hWb,<- hbx]; simp
 have CL:=zdv A n cp xs Wb (hrd.below hbb) (fun e => by
  obtain ⟨b,off,rfl,_⟩:=hrd.at_ (by omega)
  cases e) (by omega)
 have qn : ∀ w : World,(binOp .eql 260 (wlV p) .nilIface).run Tryz.prog w = .ok (.bool false) w:=fun _ => rfl;have c0:=za hxb 0 rfl;have HBB:=hz0q hbb;have HXB:=hz0q hxb;have HSZ:=hz0q hsz;have HX:=hz0q (And.intro hn hx);have HBX:=hz0q hbx;clear hbb hxb hsz hrd hn hx;go_enter Tryz.func210,Tryz.ntmps210;go_wp2_with fail;refine CL.mono ?_;rintro e w2 ⟨A2,c2,rfl,hown,hb2⟩
 obtain ⟨g,hA2⟩ : ∃ g,A2 = some ⟨g,0,none⟩:=by
  obtain ⟨m,hm⟩ : ∃ m,n = m + 1:=⟨n - 1,by omega⟩;rw [hm] at hown;obtain ⟨g,cap,hv⟩:=ownsRow_succ hown;injection hv with hv;exact ⟨g,hv⟩
 subst hA2;have hg:=(hown.lt g rfl).1
 have hc2 : n <= c2:=by
  rcases hown.2 with ⟨hv,hz⟩ | ⟨g',cap',cur,hv,_,_,hnc,_⟩
  ·omega
  ·injection hv with _ _ hv; omega
 have hown' : w2.ownsRow Wb.heap.size 21 1 (.slice (some ⟨g,0,none⟩) xs.length c2) xs.length (Rs xs):=(by rw [HX.out.1]; exact hown);have HH0:=hz0q (zjm hown');have HOW:=hz0q hown';have hgb : bx < g:=by have:=HSZ.out; omega
 have HBW : Hid (∀ W,OrdW g w2 W -> (zac W (.pointer p) B /\ W.cell? ⟨bx,0,none⟩ = some (wlV p)) /\ Below w.heap.size w W):=fun W hW => by
  have hs2 : w.heap.size <= w2.heap.size:=(by have:=HBB.out.size; have:=hb2.size; omega);have k1 : Below w.heap.size w W:=(zb HBB.out hb2).trans (hW.1.below (fun k e => by have:=HBX.out; rw [e]; omega) hs2);refine ⟨⟨hB.out W k1,?_⟩,k1⟩;have h3:=zd HXB.out hb2;exact za (hW.1.blk h3 (by show ¬ bx = g; omega)) 0 rfl
 clear CL c0 hown hown' hb2 hg hWb hbx;go_wp2_with fail
 go_loopw [7,8] (fun v7 v8 wr => ∃ (fr i : Nat) (ys : List Int),v7 = .int .i64 fr /\ v8 = .int .i64 i /\ i <= n + 1 /\ (i <= n -> fr <= i) /\ Hid (ys.length = n /\ ∀ y ∈ ys,R32 y) /\ Hid (zaf wr g 0 ys) /\ Hid (OrdW g w2 wr)) (fun _ v8 _ => n + 1 - (intOf v8).toNat)
 case atStart => exact ⟨0,0,xs,rfl,rfl,by omega,fun _ => Nat.le_refl _,HX,HH0,OrdW.refl _ _⟩
 case round =>
  obtain ⟨fr,i,ys,rfl,rfl,hin,hfr,HY,HM,HV⟩:=hrel;obtain ⟨wo,rfl⟩ : ∃ wo,wo = wr:=⟨wr,rfl⟩
  by_cases hlt : i <= n
  ·have hfri : fr <= i:=hfr hlt;have hii : (i : Int) <= (n : Int):=(by omega);clear hfr
   by_cases hni : i = n
   ·subst hni;go_upto_region 8 with fail;refine wp_region_held_drew (S:=fun w' => Below wo.heap.size wo w') (by kernel_rfl) ((show Drew wo wo.drew from ⟨1,rfl⟩).to) (fun hH0 => ?_)
    refine wpAnyH_take (i:=0) (v:=.int .i64 i) rfl (by kernel_rfl) (by kernel_rfl) (by kernel_rfl) (fun _ _ _ h => h) (Or.inl ⟨by kernel_rfl,?_⟩) hH0 ?_
    ·intro w hSw;have s1:=hSw;go_simp
     all_goals try first | with_reducible rfl | (intro hq; exfalso; omega)
    try simp only [gA,gB,gC,Act.put,gD,gE,gF]
    refine wpAnyH_take (i:=1) (v:=.slice (some ⟨g,0,none⟩) i c2) rfl (by kernel_rfl) (by kernel_rfl) (by kernel_rfl) (fun _ _ _ h => h) (Or.inl ⟨by kernel_rfl,?_⟩) hH0 ?_
    ·intro w hSw;have s1:=hSw;go_simp
     all_goals try first | with_reducible rfl | (intro hq; exfalso; omega)
    try simp only [gA,gB,gC,Act.put,gD,gE,gF]
    refine wpAnyH_take (i:=2) (v:=.int .i64 i) rfl (by kernel_rfl) (by kernel_rfl) (by kernel_rfl) (fun _ _ _ h => h) (Or.inl ⟨by kernel_rfl,?_⟩) hH0 ?_
    ·intro w hSw;have s1:=hSw;go_simp
     all_goals try first | with_reducible rfl | (intro hq; exfalso; omega)
    try simp only [gA,gB,gC,Act.put,gD,gE,gF]
    refine wpAnyH_take (i:=3) (v:=.bool true) rfl (by kernel_rfl) (by kernel_rfl) (by kernel_rfl) (fun _ _ _ h => h) (Or.inl ⟨by kernel_rfl,?_⟩) hH0 ?_
    ·intro w hSw;have s1:=hSw;go_simp
     all_goals try first | with_reducible rfl | (intro hq; exfalso; omega)
    try simp only [gA,gB,gC,Act.put,gD,gE,gF]
    refine wpAnyH_take (i:=4) (v:=.bool true) rfl (by kernel_rfl) (by kernel_rfl) (by kernel_rfl) (fun _ _ _ h => h) (Or.inl ⟨by kernel_rfl,?_⟩) hH0 ?_
    ·intro w hSw;have s1:=hSw;go_simp
     all_goals try first | with_reducible rfl | (intro hq; exfalso; omega)
    try simp only [gA,gB,gC,Act.put,gD,gE,gF]
    refine psH 5 rfl hH0 ?_;try simp only [gA,gB,gC,Act.put,gD,gE,gF]
    refine psH 6 rfl hH0 ?_;try simp only [gA,gB,gC,Act.put,gD,gE,gF]
    refine psH 7 rfl hH0 ?_;try simp only [gA,gB,gC,Act.put,gD,gE,gF]
    refine psH 8 rfl hH0 ?_;try simp only [gA,gB,gC,Act.put,gD,gE,gF]
    refine psH 9 rfl hH0 ?_;try simp only [gA,gB,gC,Act.put,gD,gE,gF]
    refine psH 10 rfl hH0 ?_;try simp only [gA,gB,gC,Act.put,gD,gE,gF]
    refine psH 11 rfl hH0 ?_;try simp only [gA,gB,gC,Act.put,gD,gE,gF]
    refine psH 12 rfl hH0 ?_;try simp only [gA,gB,gC,Act.put,gD,gE,gF]
    refine psH 13 rfl hH0 ?_;try simp only [gA,gB,gC,Act.put,gD,gE,gF]
    refine psH 14 rfl hH0 ?_;try simp only [gA,gB,gC,Act.put,gD,gE,gF]
    refine wpAnyH_take (i:=15) (v:=.bool true) rfl (by kernel_rfl) (by kernel_rfl) (by kernel_rfl) (fun _ _ _ h => h) (Or.inl ⟨by kernel_rfl,?_⟩) hH0 ?_
    ·intro w hSw;have s1:=hSw;go_simp
     all_goals try first | with_reducible rfl | (intro hq; exfalso; omega)
    try simp only [gA,gB,gC,Act.put,gD,gE,gF]
    refine wpAnyH_done (by kernel_rfl) ?_ _;have HV5:=hz0q (HV.out.trans (.of_below hH0));have HN5:=hz0q (zau HM.out hH0);clear hH0;obtain ⟨W5,hW5⟩ : ∃ W5,wo.drew = W5:=⟨_,rfl⟩;rw [hW5] at HV5 HN5 ⊢;clear hW5
    by_cases hfc : fr < c2
    ·have SB:=zfw g fr (i - fr) i (c2 - fr) bx ys W5 HN5.out HY.out.2 HY.out.1 (by omega) (by omega) (fun W' hW' x y hx hy => zir (HBW.out W' (HV5.out.trans hW')).1.1 bx (HBW.out W' (HV5.out.trans hW')).1.2 x y hx hy);have q0 : 0 < c2 - fr:=(by omega);have q9 : (fr : Int) < (c2 : Int):=(by omega);have q10 : ¬ (c2 - fr = 0):=(by omega);have q11 : ¬ (c2 <= fr):=(by omega);have q1 : ((i : Int) - (fr : Int)).toNat = i - fr:=(by omega);have q2 : ((c2 : Int) - (fr : Int)).toNat = c2 - fr:=(by omega);have q3 : (fr : Int) <= (i : Int):=(by omega);have q4 : (i : Int) <= (c2 : Int):=(by omega);have q5 : ((i - fr : Nat) : Int) = (i : Int) - (fr : Int):=(by omega);go_wp2_with fail;refine SB.mono ?_;rintro e w6 ⟨rfl,zs,hz1,hz2,hz3,hz4⟩;have HZ6:=hz0q (And.intro hz1 hz2);have HN6:=hz0q hz3;have HV6:=hz0q (HV5.out.trans hz4);clear SB hz1 hz2 hz3 hz4 HN5 HV5 q1 q2 q5;go_wp2;go_roundw
     case rel => exact ⟨i + 1,i + 1,zs,by go_num,by go_num,by omega,fun _ => Nat.le_refl _,HZ6,HN6,HV6⟩
     case measure => simp [intOf] <;> omega
    ·have SB:=zfw g 0 (i - fr) i (0) bx ys W5 HN5.out HY.out.2 HY.out.1 (by omega) (by omega) (fun W' hW' x y hx hy => zir (HBW.out W' (HV5.out.trans hW')).1.1 bx (HBW.out W' (HV5.out.trans hW')).1.2 x y hx hy);have q0 : c2 - fr = 0:=(by omega);have q9 : ¬ ((fr : Int) < (c2 : Int)):=(by omega);have q11 : c2 <= fr:=(by omega);have q1 : ((i : Int) - (fr : Int)).toNat = i - fr:=(by omega);have q2 : ((c2 : Int) - (fr : Int)).toNat = c2 - fr:=(by omega);have q3 : (fr : Int) <= (i : Int):=(by omega);have q4 : (i : Int) <= (c2 : Int):=(by omega);have q5 : ((i - fr : Nat) : Int) = (i : Int) - (fr : Int):=(by omega);go_wp2_with fail;refine SB.mono ?_;rintro e w6 ⟨rfl,zs,hz1,hz2,hz3,hz4⟩;have HZ6:=hz0q (And.intro hz1 hz2);have HN6:=hz0q hz3;have HV6:=hz0q (HV5.out.trans hz4);clear SB hz1 hz2 hz3 hz4 HN5 HV5 q1 q2 q5;go_wp2;go_roundw
     case rel => exact ⟨i + 1,i + 1,zs,by go_num,by go_num,by omega,fun _ => Nat.le_refl _,HZ6,HN6,HV6⟩
     case measure => simp [intOf] <;> omega
   ·have hin1 : i < n:=(by omega);have hiz : ((i : Int) == (n : Int)) = false:=(by simp; omega);have hizn : (i : Int) < (n : Int):=(by omega);obtain ⟨x,hx⟩ : ∃ x,ys[i]? = some x:=⟨_,List.getElem?_eq_getElem (by rw [HY.out.1]; exact hin1)⟩;have hxR:=HY.out.2 x (List.mem_of_getElem? hx);have cx:=zdc HM.out hx;have hbw:=HBW.out wo HV.out;obtain ⟨ck,hck⟩ : ∃ ck,ck = B.cls x:=⟨_,rfl⟩;have HCX : Hid (∀ W,Below wo.heap.size wo W -> Calls Tryz.prog 257 #[wlC p,.int .i32 x] W fun e W' => e = .returned (.int .i64 ck) /\ Below W.heap.size W W'):=fun W hW => by rw [hck]; exact zdk (hbw.1.1.below hW) x hxR
    have HS0 : Hid ((wo.drew.cell? ⟨bx,0,none⟩ = some (wlV p) /\ wo.drew.cell? ⟨g,i,none⟩ = some (.int .i32 x)) /\ Below wo.heap.size wo wo.drew):=⟨⟨hbw.1.2,cx.1⟩,(show Drew wo wo.drew from ⟨1,rfl⟩).to⟩
    have MC:=zc8 p;have NC:=zd6 p;have hmf : ∀ (fn : Fn) (first cap : Array Value) (w : World),(Instr.makeFunc fn first cap).run Tryz.prog w = .ok (.func fn first cap) w:=fun _ _ _ _ => rfl;clear hx hxR cx hbw hck;go_upto_region 8 with fail;refine wp_region_held_drew (S:=fun w' => (w'.cell? ⟨bx,0,none⟩ = some (wlV p) /\ w'.cell? ⟨g,i,none⟩ = some (.int .i32 x)) /\ Below wo.heap.size wo w') (by kernel_rfl) (HS0.out) (fun hH0 => ?_);refine wpAnyH_take (i:=0) (v:=.int .i64 (i : Int)) rfl (by kernel_rfl) (by kernel_rfl) (by kernel_rfl) (fun _ _ _ h => h) (Or.inl ⟨by kernel_rfl,?_⟩) hH0 ?_
    ·intro w hSw;obtain ⟨⟨s1,s2⟩,s3⟩:=hSw;go_simp
     all_goals try first | with_reducible rfl | (intro hq; exfalso; omega)
    try simp only [gA,gB,gC,Act.put,gD,gE,gF]
    refine wpAnyH_take (i:=1) (v:=.slice (some ⟨g,0,none⟩) n c2) rfl (by kernel_rfl) (by kernel_rfl) (by kernel_rfl) (fun _ _ _ h => h) (Or.inl ⟨by kernel_rfl,?_⟩) hH0 ?_
    ·intro w hSw;obtain ⟨⟨s1,s2⟩,s3⟩:=hSw;go_simp
     all_goals try first | with_reducible rfl | (intro hq; exfalso; omega)
    try simp only [gA,gB,gC,Act.put,gD,gE,gF]
    refine wpAnyH_take (i:=2) (v:=.int .i64 (n : Int)) rfl (by kernel_rfl) (by kernel_rfl) (by kernel_rfl) (fun _ _ _ h => h) (Or.inl ⟨by kernel_rfl,?_⟩) hH0 ?_
    ·intro w hSw;obtain ⟨⟨s1,s2⟩,s3⟩:=hSw;go_simp
     all_goals try first | with_reducible rfl | (intro hq; exfalso; omega)
    try simp only [gA,gB,gC,Act.put,gD,gE,gF]
    refine wpAnyH_take (i:=3) (v:=.bool false) rfl (by kernel_rfl) (by kernel_rfl) (by kernel_rfl) (fun _ _ _ h => h) (Or.inl ⟨by kernel_rfl,?_⟩) hH0 ?_
    ·intro w hSw;obtain ⟨⟨s1,s2⟩,s3⟩:=hSw;go_simp
     all_goals try first | with_reducible rfl | (intro hq; exfalso; omega)
    try simp only [gA,gB,gC,Act.put,gD,gE,gF]
    refine wpAnyH_take (i:=4) (v:=.bool false) rfl (by kernel_rfl) (by kernel_rfl) (by kernel_rfl) (fun _ _ _ h => h) (Or.inl ⟨by kernel_rfl,?_⟩) hH0 ?_
    ·intro w hSw;obtain ⟨⟨s1,s2⟩,s3⟩:=hSw;go_simp
     all_goals try first | with_reducible rfl | (intro hq; exfalso; omega)
    try simp only [gA,gB,gC,Act.put,gD,gE,gF]
    refine wpAnyH_take (i:=5) (v:=wlV p) rfl (by kernel_rfl) (by kernel_rfl) (by kernel_rfl) (fun _ _ _ h => h) (Or.inl ⟨by kernel_rfl,?_⟩) hH0 ?_
    ·intro w hSw;obtain ⟨⟨s1,s2⟩,s3⟩:=hSw;go_simp
     all_goals try first | with_reducible rfl | (intro hq; exfalso; omega)
    try simp only [gA,gB,gC,Act.put,gD,gE,gF]
    refine wpAnyH_take (i:=6) (v:=.slice (some ⟨g,0,none⟩) n c2) rfl (by kernel_rfl) (by kernel_rfl) (by kernel_rfl) (fun _ _ _ h => h) (Or.inl ⟨by kernel_rfl,?_⟩) hH0 ?_
    ·intro w hSw;obtain ⟨⟨s1,s2⟩,s3⟩:=hSw;go_simp
     all_goals try first | with_reducible rfl | (intro hq; exfalso; omega)
    try simp only [gA,gB,gC,Act.put,gD,gE,gF]
    refine wpAnyH_take (i:=7) (v:=.int .i64 (i : Int)) rfl (by kernel_rfl) (by kernel_rfl) (by kernel_rfl) (fun _ _ _ h => h) (Or.inl ⟨by kernel_rfl,?_⟩) hH0 ?_
    ·intro w hSw;obtain ⟨⟨s1,s2⟩,s3⟩:=hSw;go_simp
     all_goals try first | with_reducible rfl | (intro hq; exfalso; omega)
    try simp only [gA,gB,gC,Act.put,gD,gE,gF]
    refine wpAnyH_take (i:=8) (v:=.pointer (some ⟨g,i,none⟩)) rfl (by kernel_rfl) (by kernel_rfl) (by kernel_rfl) (fun _ _ _ h => h) (Or.inl ⟨by kernel_rfl,?_⟩) hH0 ?_
    ·intro w hSw;obtain ⟨⟨s1,s2⟩,s3⟩:=hSw;go_simp
     all_goals try first | with_reducible rfl | (intro hq; exfalso; omega)
    try simp only [gA,gB,gC,Act.put,gD,gE,gF]
    refine wpAnyH_take (i:=9) (v:=.int .i32 x) rfl (by kernel_rfl) (by kernel_rfl) (by kernel_rfl) (fun _ _ _ h => h) (Or.inl ⟨by kernel_rfl,?_⟩) hH0 ?_
    ·intro w hSw;obtain ⟨⟨s1,s2⟩,s3⟩:=hSw;go_simp
     all_goals try first | with_reducible rfl | (intro hq; exfalso; omega)
    try simp only [gA,gB,gC,Act.put,gD,gE,gF]
    refine wpAnyH_take (i:=10) (v:=.func (.method "Class") #[wlV p] #[]) rfl (by kernel_rfl) (by kernel_rfl) (by kernel_rfl) (fun _ _ _ h => h) (Or.inl ⟨by kernel_rfl,?_⟩) hH0 ?_
    ·intro w hSw;obtain ⟨⟨s1,s2⟩,s3⟩:=hSw;go_simp
     all_goals try first | with_reducible rfl | (intro hq; exfalso; omega)
    try simp only [gA,gB,gC,Act.put,gD,gE,gF]
    refine wpAnyH_take (i:=11) (v:=.func (.method "Class") #[wlV p] #[]) rfl (by kernel_rfl) (by kernel_rfl) (by kernel_rfl) (fun _ _ _ h => h) (Or.inl ⟨by kernel_rfl,?_⟩) hH0 ?_
    ·intro w hSw;obtain ⟨⟨s1,s2⟩,s3⟩:=hSw;go_simp
     all_goals try first | with_reducible rfl | (intro hq; exfalso; omega)
    try simp only [gA,gB,gC,Act.put,gD,gE,gF]
    refine wpAnyH_take (i:=12) (v:=wlV p) rfl (by kernel_rfl) (by kernel_rfl) (by kernel_rfl) (fun _ _ _ h => h) (Or.inl ⟨by kernel_rfl,?_⟩) hH0 ?_
    ·intro w hSw;obtain ⟨⟨s1,s2⟩,s3⟩:=hSw;go_simp
     all_goals try first | with_reducible rfl | (intro hq; exfalso; omega)
    try simp only [gA,gB,gC,Act.put,gD,gE,gF]
    refine wpAnyH_ready (rs:=[13]) (by kernel_rfl) (by simp) ?_;refine AllReadyH.cons rfl (fun K hK => ?_) AllReadyH.nil;go_simp
    refine (HCX.out _ hH0.2).mono ?_;rintro e w50 ⟨rfl,hb⟩;refine hK.out _ _ (⟨⟨(hb.cell (World.block_lt_of_cell? _ _ hH0.1.1)).trans hH0.1.1,(hb.cell (World.block_lt_of_cell? _ _ hH0.1.2)).trans hH0.1.2⟩,zb hH0.2 hb⟩) (fun hH1 => ?_);clear hK K hH0;try simp only [gA,gB,gC,Act.put,gD,gE,gF]
    refine wpAnyH_take (i:=14) (v:=.bool (ck == 0)) rfl (by kernel_rfl) (by kernel_rfl) (by kernel_rfl) (fun _ _ _ h => h) (Or.inl ⟨by kernel_rfl,?_⟩) hH1 ?_
    ·intro w hSw;obtain ⟨⟨s1,s2⟩,s3⟩:=hSw;go_simp
     all_goals try first | with_reducible rfl | (intro hq; exfalso; omega)
    try simp only [gA,gB,gC,Act.put,gD,gE,gF]
    refine wpAnyH_take (i:=15) (v:=.bool (ck == 0)) rfl (by kernel_rfl) (by kernel_rfl) (by kernel_rfl) (fun _ _ _ h => h) (Or.inl ⟨by kernel_rfl,?_⟩) hH1 ?_
    ·intro w hSw;obtain ⟨⟨s1,s2⟩,s3⟩:=hSw;go_simp
     all_goals try first | with_reducible rfl | (intro hq; exfalso; omega)
    try simp only [gA,gB,gC,Act.put,gD,gE,gF]
    refine wpAnyH_done (by kernel_rfl) ?_ _;have HV5:=hz0q (HV.out.trans (.of_below hH1.2));have HN5:=hz0q (zau HM.out hH1.2);clear hH1 hb
    cases hcz : (ck == 0)
    ·go_wp2;go_roundw
     case rel => exact ⟨fr,i + 1,ys,rfl,by go_num,by omega,fun _ => by omega,HY,HN5,HV5⟩
     case measure => simp [intOf] <;> omega
    ·by_cases hfc : fr < c2
     ·have SB:=zfw g fr (i - fr) n (c2 - fr) bx ys w50 HN5.out HY.out.2 HY.out.1 (by omega) (by omega) (fun W' hW' x y hx hy => zir (HBW.out W' (HV5.out.trans hW')).1.1 bx (HBW.out W' (HV5.out.trans hW')).1.2 x y hx hy);have q0 : 0 < c2 - fr:=(by omega);have q9 : (fr : Int) < (c2 : Int):=(by omega);have q10 : ¬ (c2 - fr = 0):=(by omega);have q11 : ¬ (c2 <= fr):=(by omega);have q1 : ((i : Int) - (fr : Int)).toNat = i - fr:=(by omega);have q2 : ((c2 : Int) - (fr : Int)).toNat = c2 - fr:=(by omega);have q3 : (fr : Int) <= (i : Int):=(by omega);have q4 : (i : Int) <= (c2 : Int):=(by omega);have q5 : ((i - fr : Nat) : Int) = (i : Int) - (fr : Int):=(by omega);go_wp2_with fail;refine SB.mono ?_;rintro e w6 ⟨rfl,zs,hz1,hz2,hz3,hz4⟩;have HZ6:=hz0q (And.intro hz1 hz2);have HN6:=hz0q hz3;have HV6:=hz0q (HV5.out.trans hz4);clear SB hz1 hz2 hz3 hz4 HN5 HV5 q1 q2 q5;go_wp2;go_roundw
      case rel => exact ⟨i + 1,i + 1,zs,by go_num,by go_num,by omega,fun _ => Nat.le_refl _,HZ6,HN6,HV6⟩
      case measure => simp [intOf] <;> omega
     ·have SB:=zfw g 0 (i - fr) n (0) bx ys w50 HN5.out HY.out.2 HY.out.1 (by omega) (by omega) (fun W' hW' x y hx hy => zir (HBW.out W' (HV5.out.trans hW')).1.1 bx (HBW.out W' (HV5.out.trans hW')).1.2 x y hx hy);have q0 : c2 - fr = 0:=(by omega);have q9 : ¬ ((fr : Int) < (c2 : Int)):=(by omega);have q11 : c2 <= fr:=(by omega);have q1 : ((i : Int) - (fr : Int)).toNat = i - fr:=(by omega);have q2 : ((c2 : Int) - (fr : Int)).toNat = c2 - fr:=(by omega);have q3 : (fr : Int) <= (i : Int):=(by omega);have q4 : (i : Int) <= (c2 : Int):=(by omega);have q5 : ((i - fr : Nat) : Int) = (i : Int) - (fr : Int):=(by omega);go_wp2_with fail;refine SB.mono ?_;rintro e w6 ⟨rfl,zs,hz1,hz2,hz3,hz4⟩;have HZ6:=hz0q (And.intro hz1 hz2);have HN6:=hz0q hz3;have HV6:=hz0q (HV5.out.trans hz4);clear SB hz1 hz2 hz3 hz4 HN5 HV5 q1 q2 q5;go_wp2;go_roundw
      case rel => exact ⟨i + 1,i + 1,zs,by go_num,by go_num,by omega,fun _ => Nat.le_refl _,HZ6,HN6,HV6⟩
      case measure => simp [intOf] <;> omega
  ·have hii : ¬ ((i : Int) <= (n : Int)):=(by omega);go_wp2;go_returns;refine ⟨_,_,ys,rfl,HY.out.1,HY.out.2,?_,(HBW.out wo HV.out).2⟩;have h1:=zjl HOW.out HV.out (by rw [HY.out.1,HX.out.1]) HM.out;obtain ⟨A',c',e2,_,_,hr⟩:=Rd.of_own h1;injection e2 with e2 _ _;rw [HY.out.1] at hr;rw [e2]; exact hr
end
end
section
open Go.RowKit Go.Lib
section
variable {w : World} {p : Option Addr} {B : BaseF}
theorem wrong_any (hB : Hid (∀ W,Below w.heap.size w W -> zac W (.pointer p) B)) (A : Option Addr) (n cp : Nat) (xs : List Int) (hrd : Rd w A n (Rs xs)) (hn : xs.length = n) (hx : ∀ x ∈ xs,R32 x) (h18 : n <= 18) :
  Calls Tryz.prog 180 #[wlV p,.slice A n cp] w fun e w' => (∃ k : Int,e = .returned (.int .i64 k) /\ (k = 0 -> 1 <= n)) /\ Below w.heap.size w w':=by
 by_cases h1 : 1 <= n
 ·have MS:=msort_any hB A n cp xs hrd hn hx h1 h18;have HRD:=hz0q hrd;have q1 : ¬ ((n : Int) < 1):=(by omega);have q2 : ¬ ((18 : Int) < (n : Int)):=(by omega);clear hrd hn hx hB;go_enter Tryz.func180,Tryz.ntmps180;go_wp2_with fail;refine MS.mono ?_;rintro e w1 ⟨A1,c1,ys,rfl,hyl,_,hr1,hb1⟩;have EQ:=requal_any A1 A n n c1 cp ys xs w1 hr1 (HRD.out.below hb1) (by omega) (by omega);have HB1:=hz0q hb1;clear MS hr1 hb1;go_wp2_with fail;refine EQ.mono ?_;rintro e w2 ⟨rfl,hd⟩;have HB2:=hz0q (zb HB1.out hd.to);clear EQ hd
  cases decide (ys = xs) with
  | true =>
   go_wp2;go_returns;exact ⟨⟨_,rfl,fun _ => h1⟩,HB2.out⟩
  | false =>
   go_wp2;go_returns;exact ⟨⟨_,rfl,fun _ => h1⟩,HB2.out⟩
 ·have q1 : (n : Int) < 1:=(by omega);clear hrd hn hx hB;go_enter Tryz.func180,Tryz.ntmps180;go_wp2;go_returns;exact ⟨⟨_,rfl,fun e => by cases e⟩,Below.refl _ _⟩
theorem u8_of (z : Int) : ∃ b : UInt8,z % 256 = (b.toNat : Int):=by
 refine ⟨UInt8.ofNat (z % 256).toNat,?_⟩;have h1 : 0 <= z % 256:=Int.emod_nonneg _ (by decide);have h2 : z % 256 < 256:=Int.emod_lt_of_pos _ (by decide);rw [UInt8.toNat_ofNat'];omega
theorem cplain_any (A : Option Addr) (n cp : Nat) (xs : List Int) (hrd : Rd w A n (Rs xs)) (hn : xs.length = n) (h1 : 1 <= n) (h18 : n <= 18) :
  Calls Tryz.prog 181 #[.slice A n cp] w fun e w' => (∃ s : ByteArray,e = .returned (.string s) /\ s.size <= 1000) /\ Below w.heap.size w w':=by
 obtain ⟨i0,hi,hz0,hz1,hz2⟩:=zkd;go_enter Tryz.func181,Tryz.ntmps181;go_wp2
 go_loopw [3,8] (fun v3 v8 wr => ∃ (k : Nat) (l : List UInt8),k <= n /\ v8 = .int .i64 k /\ l.length = 4 * k /\ Hid (wr.ownsRow w.heap.size 5 1 v3 l.length (Lib.byteCells l)) /\ Hid (Below w.heap.size w wr)) (fun _ v8 _ => n - (intOf v8).toNat)
 case atStart => exact ⟨0,[],Nat.zero_le _,rfl,rfl,World.ownsRow_nil _ _ _ _,Below.refl _ _⟩
 case round =>
  obtain ⟨k,l,hk,rfl,hl,HO,HB⟩:=hrel
  by_cases hlt : k < n
  ·obtain ⟨x,hx⟩ : ∃ x,xs[k]? = some x:=⟨_,List.getElem?_eq_getElem (by omega)⟩;have hki : (k : Int) < (n : Int):=(by omega);obtain ⟨b,off,rfl,hbl,hc⟩:=(hrd.below HB.out).at_ (by omega);have cx:=hc k (.int .i32 x) (by rw [Rs,List.getElem?_map,hx]; rfl);clear hc hx;obtain ⟨b1,e1⟩:=u8_of (x / 16777216);obtain ⟨b2,e2⟩:=u8_of (x / 65536);obtain ⟨b3,e3⟩:=u8_of (x / 256);obtain ⟨b4,e4⟩:=u8_of x;have hbw : w.heap.size <= wr.heap.size:=HB.out.size;go_wp2_with (at_builtin; refine wpList_append_own _ rfl _ _ (114) rfl w.heap.size (5) i0 (.int .u8 0) 1 1 Tryz.underlying114 hi hz0 hz1 hz2 rfl (by decide) _ _ _ rfl (HO.out.alloc _) ⟨wr.heap.size,0,none⟩ 4 4 [.int .u8 b1.toNat,.int .u8 b2.toNat,.int .u8 b3.toNat,.int .u8 b4.toNat] rfl rfl ?c1 ?c2 ?c3 ?c4 ?c5 ?_)
   case c1 =>
    intro j u hj;match j,hj with
    | 0,hj => simp at hj; subst hj; simp [Addr.add]
    | 1,hj => simp at hj; subst hj; simp [Addr.add]
    | 2,hj => simp at hj; subst hj; simp [Addr.add]
    | 3,hj => simp at hj; subst hj; simp [Addr.add]
   case c2 => intro u hu; simp at hu; rcases hu with rfl | rfl | rfl | rfl <;> rfl
   case c3 => unfold maxLen; omega
   case c4 => omega
   case c5 => simp; omega
   intro v' w2 hown' hgrow _;have hbl : Below w.heap.size w w2:=HB.out.trans (((Below.refl w.heap.size wr).alloc hbw _).grown hgrow (by simp; omega) (fun k hk => (HO.out.lt k hk).1));have HB2:=hz0q hbl
   have HO2 : Hid (w2.ownsRow w.heap.size 5 1 v' (l ++ [b1,b2,b3,b4]).length (Lib.byteCells (l ++ [b1,b2,b3,b4]))):=by
    show w2.ownsRow _ _ _ _ _ _;rw [List.length_append,hl];simpa [Lib.byteCells] using hown'
   have hl2 : (l ++ [b1,b2,b3,b4]).length = 4 * (k + 1):=(by rw [List.length_append,hl]; rfl);clear hown' hgrow hbl e1 e2 e3 e4 cx;go_wp2;go_roundw
   case rel => exact ⟨k + 1,_,by omega,by go_num,hl2,HO2,HB2⟩
   case measure => simp [intOf] <;> omega
  ·obtain rfl : k = n:=(by omega);have hki : ¬ ((k : Int) < (k : Int)):=by omega
   obtain ⟨A3,c3,rfl⟩ : ∃ A3 c3,u3 = .slice A3 l.length c3:=by
    rcases HO.out.2 with ⟨hv,hz⟩ | ⟨g,cap,cur,hv,_⟩
    ·exact ⟨none,0,by rw [hz]; exact hv⟩
    ·exact ⟨_,_,hv⟩
   have hcv:=bytes_str HO.out (by intro e; rw [e] at hl; simp at hl; omega);have hsz : (mk8 l).size <= 1000:=(by rw [z6]; omega);have HS:=hz0q hsz;obtain ⟨m,hm⟩ : ∃ m,m = l.length:=⟨_,rfl⟩;rw [<- hm] at hcv ⊢;clear hl hm hsz;go_wp2;go_returns;exact ⟨⟨_,rfl,HS.out⟩,HB.out⟩
end
end
end Go.Proofs.YtolcabjkbefjgaaGreatDoor
