/- What is joined: characters stay characters, lists grow and shrink. Plain, and memory. What is joined, and whether anything is: the code. A form, one character's parts, what it tells, and whether a text may be cut ahead of it: the code. A text in a form, and whether two are the same but for it: the code. What one character tells, and whether a text may be cut ahead of it: the code. What is told of a form: Kind, Safe, Check, Cut: the code. -/
import Derived.Test.YtolcabjkbefjgaaGreatDoorY34
set_option linter.unusedSimpArgs false
set_option linter.unusedVariables false
set_option maxRecDepth 20000
set_option maxHeartbeats 4000000
namespace Go.Proofs.YtolcabjkbefjgaaGreatDoor
section
open Go.RowKit
section
variable {B : BaseF}
theorem step_R (hbd : zap B) {s : JS} (hs : ∀ x ∈ s.out,R32 x) {r : Int} (hr : R32 r) : ∀ x ∈ (B.step s r).out,R32 x:=by
 intro x hx;rcases zdn (B:=B) s r with h | ⟨h,c,e,_,hp,h2⟩
 ·rw [h,zkz] at hx;rcases List.mem_append.1 hx with hx | hx
  ·exact hs x hx
  ·rw [List.mem_singleton] at hx; subst hx; exact hr
 ·rw [h2] at hx;have hh : R32 h:=hs h (by unfold JS.out; rw [e]; simp);have hc:=hbd.pair h r c hh hr hp;have hx' : x ∈ s.pre ++ ([c] ++ s.ms):=hx;rcases List.mem_append.1 hx' with hx | hx
  ·exact hs x (by unfold JS.out; simp [hx])
  ·rcases List.mem_append.1 hx with hx | hx
   ·rw [List.mem_singleton] at hx; subst hx; exact hc
   ·exact hs x (by unfold JS.out; simp [hx])
theorem run_R (hbd : zap B) : ∀ (l : List Int) (s : JS),(∀ x ∈ s.out,R32 x) -> (∀ x ∈ l,R32 x) -> ∀ x ∈ (B.run s l).out,R32 x
 | [],s,hs,_ => hs
 | y :: l,s,hs,hl => by
  rw [zds];exact run_R hbd l _ (step_R hbd hs (hl y (by simp))) fun x hx => hl x (by simp [hx])
def BaseF.jn (B : BaseF) (xs : List Int) (k : Nat) : JS:=B.run ⟨[],none,[]⟩ (xs.take k)
theorem jn_step {xs : List Int} {k : Nat} {r : Int} (h : xs[k]? = some r) : B.jn xs (k + 1) = B.step (B.jn xs k) r:=by
 unfold BaseF.jn;rw [List.take_add_one,h];exact run_snoc _ _ _
theorem jn_R (hbd : zap B) {xs : List Int} (hx : ∀ x ∈ xs,R32 x) (k : Nat) : ∀ x ∈ (B.jn xs k).out,R32 x:=run_R hbd _ _ (fun x hx => by cases hx) fun x h => hx x (List.mem_of_mem_take h)
theorem jn_len (xs : List Int) (k : Nat) : (B.jn xs k).out.length <= k:=by
 have h:=zkn (B:=B) (xs.take k) ⟨[],none,[]⟩;rw [List.length_take] at h;have e : (JS.out ⟨[],none,[]⟩).length = 0:=rfl;show (B.run _ _).out.length <= k;omega
theorem zny {xs : List Int} {k : Nat} (h : k = xs.length) : (B.jn xs k).out = B.join xs:=by
 unfold BaseF.jn BaseF.join;rw [List.take_of_length_le (by omega)]
theorem jn_join_R (hbd : zap B) {xs : List Int} (hx : ∀ x ∈ xs,R32 x) : ∀ x ∈ B.join xs,R32 x:=by
 rw [<- zny rfl];exact jn_R hbd hx _
end
end
section
open Go.RowKit Go.Sort
section
variable {w : World} {p : Option Addr} {B : BaseF}
theorem zj8 (hB : zac w (.pointer p) B) (hk : Kinds w) (hbd : zap B) (A : Option Addr) (n cp : Nat) (xs : List Int) (hrd : Rd w A n (Rs xs)) (hn : xs.length = n) (hx : ∀ x ∈ xs,R32 x) (hn2 : n <= 20000000) :
  Calls Tryz.prog 42 #[.pointer p,.slice A n cp] w (zbx w (B.join xs)):=by
 have hmf : ∀ (fn : Fn) (first cap : Array Value) (w : World),(Instr.makeFunc fn first cap).run Tryz.prog w = .ok (.func fn first cap) w:=fun _ _ _ _ => rfl;have HB : Hid (∀ W,Below w.heap.size w W -> zac W (.pointer p) B):=fun W h => hB.below h;have HK : Hid (∀ W,Below w.heap.size w W -> Kinds W):=fun W h => hk.below' h;have HN:=hz0q hn;have HX:=hz0q hx;have HBD:=hz0q hbd;have HRD:=hz0q hrd;have hb0 : Below w.heap.size w (w.alloc (.cells #[.pointer p,.slice none 0 0,.int .i64 (-1),.int .i64 0] 194)):=(Below.refl _ _).alloc (Nat.le_refl _) _
 have HP0 : Hid (PutP B w w.heap.size w.heap.size p (B.jn xs 0) (w.alloc (.cells #[.pointer p,.slice none 0 0,.int .i64 (-1),.int .i64 0] 194))) :=
  ⟨hb0,[],none,0,-1,0,⟨zm w _ _,World.ownsRow_nil _ _ _ _,Nat.le_refl _⟩,put_start⟩
 have HS0 : Hid (w.heap.size <= (w.alloc (.cells #[.pointer p,.slice none 0 0,.int .i64 (-1),.int .i64 0] 194)).heap.size):=hb0.size;clear hB hk hn hx hbd hrd hb0;go_enter Tryz.func42,Tryz.ntmps42;go_wp2
 go_loopw [16] (fun i wr => ∃ k : Nat,k <= n /\ i = .int .i64 k /\ Hid (PutP B w w.heap.size w.heap.size p (B.jn xs k) wr) /\ Hid (w.heap.size <= wr.heap.size)) (fun i _ => n - (intOf i).toNat)
 case atStart => exact ⟨0,Nat.zero_le _,rfl,HP0,HS0⟩
 case round =>
  obtain ⟨k,hk,rfl,HP,HS⟩:=hrel;obtain ⟨hbw,l,A9,c9,hd,last,hT,hPA⟩:=HP.out
  by_cases hlt : k < n
  ·obtain ⟨r,hr⟩ : ∃ r,xs[k]? = some r:=⟨_,List.getElem?_eq_getElem (by rw [HN.out]; exact hlt)⟩;obtain ⟨b,off,rfl,hbl,hcx⟩:=HRD.out.at_ (by omega);have c0 : wr.cell? ⟨b,off + k,none⟩ = some (.int .i32 r):=(hbw.cell (p:=⟨b,off + k,none⟩) hbl).trans (hcx k (.int .i32 r) (by simp [Rs,hr]));have hki : (k : Int) < (n : Int):=(by omega);have HJS:=hz0q (jn_step (B:=B) hr);have PU:=put_any HB HK HBD.out (B.jn xs k) l A9 hd last r wr hbw HS.out hT hPA (fun x hx => jn_R HBD.out HX.out k x (by rw [<- hPA.out]; exact hx)) (HX.out r (List.mem_of_getElem? hr)) (by rw [hPA.out]; have:=jn_len (B:=B) xs k; omega);rw [<- HJS.out] at PU
   have HSZ : Hid (∀ w',PutP B w w.heap.size w.heap.size p (B.jn xs (k + 1)) w' -> w.heap.size <= w'.heap.size):=fun w' h => by
    obtain ⟨_,l',A',c',hd',last',hT',_⟩:=h;have:=hT'.lt;omega
   clear hr hcx hbl hbw hT hPA;go_wp2_with fail;refine PU.mono ?_;rintro e w2 ⟨⟨v,rfl⟩,hp2⟩;have HP2:=hz0q hp2;have HS2:=hz0q (HSZ.out w2 hp2);clear PU hp2 c0;go_wp2;go_roundw
   case rel => exact ⟨k + 1,by omega,by go_num,HP2,HS2⟩
   case measure => simp [intOf]; omega
  ·obtain rfl : k = n:=(by omega);have hki : (k : Int) <= (k : Int):=Int.le_refl _;have b1:=za hT.box 1 rfl
   have HF : Hid (zbx w (B.join xs) (.returned (.slice A9 l.length c9)) wr):=by
    have h1 : l = B.join xs:=(by rw [hPA.out]; exact zny HN.out.symm);rw [<- h1];exact ⟨A9,c9,rfl,hT.own,hbw⟩
   clear hbw hT hPA;go_wp2;go_returns;exact HF.out
theorem requal_any (A A2 : Option Addr) (n m ca cb : Nat) (xs ys : List Int) (w : World) (hx : Rd w A n (Rs xs)) (hy : Rd w A2 m (Rs ys)) (hn : n <= 1099511627776) (hm : m <= 1099511627776) :
  Calls Tryz.prog 211 #[.slice A n ca,.slice A2 m cb] w fun e w' => e = .returned (.bool (decide (xs = ys))) /\ Drew w w':=by
 have hxl : xs.length = n:=(by have:=hx.1; simpa using this);have hyl : ys.length = m:=by have:=hy.1; simpa using this
 by_cases hnm : n = m
 ·have hb : ((n : Int) != (m : Int)) = false:=(by simp [hnm]);have HNM:=hz0q hnm; clear hnm;have HXL:=hz0q hxl; clear hxl;have HYL:=hz0q hyl; clear hyl;go_enter Tryz.func211,Tryz.ntmps211;go_wp2
  go_loopw [13] (fun i wr => ∃ k : Nat,k <= n /\ i = .int .i64 k /\ Hid (xs.take k = ys.take k) /\ Hid (Drew w wr)) (fun i _ => n - (intOf i).toNat)
  case atStart => exact ⟨0,Nat.zero_le _,rfl,rfl,Drew.refl _⟩
  case round =>
   obtain ⟨k,hk,rfl,HTK,hd⟩:=hrel
   by_cases hlt : k < n
   ·have hltm : k < m:=(by rw [<- HNM.out]; exact hlt);obtain ⟨b,off,rfl,hbl,hcx⟩:=(hx.drewTo hd.out).at_ (by omega);obtain ⟨b',off',rfl,hbl',hcy⟩:=(hy.drewTo hd.out).at_ (by omega);have cx:=hcx k _ (zme xs k (by rw [HXL.out]; exact hlt));have cy:=hcy k _ (zme ys k (by rw [HYL.out]; exact hltm));clear hcx hcy hx hy;have hi : (k : Int) < (n : Int):=(by omega);have hi' : (k : Int) < (m : Int):=(by omega);have HDN : Hid (∀ nq,Drew w (wr.drewN nq)):=fun nq => hd.out.trans ⟨nq,rfl⟩
    by_cases he : xs[k]?.getD 0 = ys[k]?.getD 0
    ·have heb : ((xs[k]?.getD 0) != (ys[k]?.getD 0)) = false:=(by simp [he]);have HE:=hz0q he; clear he;have HTN : Hid (xs.take (k + 1) = ys.take (k + 1)):=zi2 HTK.out HE.out (by rw [HXL.out]; exact hlt) (by rw [HYL.out]; exact hltm);go_wp2;go_quiet (fail)
     have HDQ:=hz0q (HDN.out nq);go_wp2;go_roundw
     case rel => exact ⟨k + 1,by omega,by go_num,HTN,HDQ⟩
     case measure => simp [intOf]; omega
    ·have heb : ((xs[k]?.getD 0) != (ys[k]?.getD 0)) = true:=(by simp [he]);have HE:=hz0q he; clear he;go_wp2;go_quiet (fail)
     have HDQ:=hz0q (HDN.out nq);go_wp2;go_returns;exact ⟨zam (by symm; rw [decide_eq_false_iff_not]; intro hh; exact HE.out (by rw [hh])),HDQ.out⟩
   ·have hkn : k = n:=(by omega);subst hkn;have hki : (k : Int) <= (k : Int):=Int.le_refl _;go_wp2;go_returns;refine ⟨zam (by symm; rw [decide_eq_true_iff]; have h:=HTK.out; rw [List.take_of_length_le (by rw [HXL.out]; exact Nat.le_refl _),List.take_of_length_le (by rw [HYL.out,<- HNM.out]; exact Nat.le_refl _)] at h; exact h),hd.out⟩
 ·have hb : ((n : Int) != (m : Int)) = true:=(by rw [bne_iff_ne]; omega);have HNM:=hz0q hnm; clear hnm;have HXL:=hz0q hxl; clear hxl;have HYL:=hz0q hyl; clear hyl;go_enter Tryz.func211,Tryz.ntmps211;go_wp2;go_returns;exact ⟨zam (by symm; rw [decide_eq_false_iff_not]; intro hh; exact HNM.out (by rw [<- HXL.out,<- HYL.out,hh])),Drew.refl _⟩
end
end
section
open Go.RowKit
def cB (f : Int) : Bool:=decide (f = 3) || decide (f = 4)
def jB (f : Int) : Bool:=decide (f = 2) || decide (f = 4)
def mayF (f : Int) : Bool:=decide (1 <= f) && decide (f <= 4)
abbrev wayV (p : Option Addr) (c j : Bool) : Value:=.agg #[.pointer p,.bool c,.bool j]
theorem zm2 (f : Int) : f < 1 \/ f = 1 \/ f = 2 \/ f = 3 \/ f = 4 \/ 4 < f:=by omega
theorem zii (f : Int) : mayF f = true ↔ 1 <= f /\ f <= 4:=by unfold mayF; simp
theorem wof_any (p : Option Addr) (f : Int) (w : World) : Calls Tryz.prog 83 #[.pointer p,.int .i64 f] w fun e w' => e = .returned (.tuple #[wayV p (cB f) (jB f),.bool (mayF f)]) /\ Below w.heap.size w w':=by
 rcases zm2 f with h | rfl | rfl | rfl | rfl | h
 ·have h1 : (f == 3) = false:=(by rw [beq_eq_false_iff_ne]; omega);have h2 : (f == 4) = false:=(by rw [beq_eq_false_iff_ne]; omega);have h3 : (f == 2) = false:=(by rw [beq_eq_false_iff_ne]; omega);have h4 : ¬ (1 <= f):=(by omega);have HC : Hid (cB f = false /\ jB f = false /\ mayF f = false):=⟨by unfold cB; rw [decide_eq_false (by omega),decide_eq_false (by omega)]; rfl,by unfold jB; rw [decide_eq_false (by omega),decide_eq_false (by omega)]; rfl,by unfold mayF; rw [decide_eq_false h4]; rfl⟩;clear h;go_enter Tryz.func83,Tryz.ntmps83;go_wp2;go_returns;exact ⟨by rw [HC.out.1,HC.out.2.1,HC.out.2.2],(Below.refl _ w).alloc (Nat.le_refl _) _⟩
 ·go_enter Tryz.func83,Tryz.ntmps83;go_wp2;go_returns;exact ⟨rfl,(Below.refl _ w).alloc (Nat.le_refl _) _⟩
 ·go_enter Tryz.func83,Tryz.ntmps83;go_wp2;go_returns;exact ⟨rfl,(Below.refl _ w).alloc (Nat.le_refl _) _⟩
 ·go_enter Tryz.func83,Tryz.ntmps83;go_wp2;go_returns;exact ⟨rfl,(Below.refl _ w).alloc (Nat.le_refl _) _⟩
 ·go_enter Tryz.func83,Tryz.ntmps83;go_wp2;go_returns;exact ⟨rfl,(Below.refl _ w).alloc (Nat.le_refl _) _⟩
 ·have h1 : (f == 3) = false:=(by rw [beq_eq_false_iff_ne]; omega);have h2 : (f == 4) = false:=(by rw [beq_eq_false_iff_ne]; omega);have h3 : (f == 2) = false:=(by rw [beq_eq_false_iff_ne]; omega);have h4 : 1 <= f:=(by omega);have h5 : ¬ (f <= 4):=(by omega);have HC : Hid (cB f = false /\ jB f = false /\ mayF f = false):=⟨by unfold cB; rw [decide_eq_false (by omega),decide_eq_false (by omega)]; rfl,by unfold jB; rw [decide_eq_false (by omega),decide_eq_false (by omega)]; rfl,by unfold mayF; rw [decide_eq_false h5,Bool.and_false]⟩;clear h;go_enter Tryz.func83,Tryz.ntmps83;go_wp2;go_returns;exact ⟨by rw [HC.out.1,HC.out.2.1,HC.out.2.2],(Below.refl _ w).alloc (Nat.le_refl _) _⟩
theorem zm3 {B : BaseF} (hbd : zap B) (c j : Bool) {xs fs : List Int} (hx : ∀ x ∈ xs,R32 x) (h : fs = B.form c j xs) : ∀ y ∈ fs,R32 y:=by
 rw [h];unfold BaseF.form;split
 ·exact jn_join_R hbd (zj0 hbd c hx)
 ·exact zj0 hbd c hx
section
variable {w : World} {p : Option Addr} {B : BaseF}
theorem wparts_any (hB : zac w (.pointer p) B) (hk : Kinds w) (hbd : zap B) (c j : Bool) (r : Int) (hr : R32 r) :
  Calls Tryz.prog 130 #[wayV p c j,.int .i32 r] w (zbx w (B.full c [r])):=by
 obtain ⟨W0,hW0⟩ : ∃ W0,w.alloc (.cells #[.pointer p,.bool c,.bool j] 185) = W0:=⟨_,rfl⟩;have hB0 : Below w.heap.size w W0:=(by rw [<- hW0]; exact (Below.refl _ w).alloc (Nat.le_refl _) _);have bx : W0.heap[w.heap.size]? = some (.cells #[.pointer p,.bool c,.bool j] 185 (0,0)):=(by rw [<- hW0]; exact zm w _ _);have hc0:=za bx 0 rfl;have hc1:=za bx 1 rfl;have hc2:=za bx 2 rfl;have hn1 : ∀ o,Below w.heap.size w (W0.alloc o):=fun o => hB0.alloc hB0.size _;have FU:=ziq (hB.below (hn1 _)) (hk.below' (hn1 (.cells #[.int .i32 r] 21))) hbd (one_R hbd) c (some ⟨W0.heap.size,0,none⟩) 1 1 [r] (Rd.new1 _ _ _) rfl (by intro x hx; rw [List.mem_singleton] at hx; rw [hx]; exact hr) (by omega);have HB0:=hz0q (hn1 (.cells #[.int .i32 r] 21));obtain ⟨ys,hys⟩ : ∃ ys,ys = B.full c [r]:=⟨_,rfl⟩;rw [<- hys] at FU ⊢;clear hB hk hys hn1 bx;go_enter Tryz.func130,Tryz.ntmps130;go_wp2_with fail;refine FU.mono ?_;rintro e w1 ⟨A,cp,rfl,hown,hb⟩;have HF : Hid (zbx w ys (.returned (.slice A ys.length cp)) w1):=⟨A,cp,rfl,zax hown HB0.out.size,zb HB0.out hb⟩;clear FU hown hb;go_wp2;go_returns;exact HF.out
end
end
section
open Go.RowKit
noncomputable def formE (B : BaseF) (f : Int) (xs : List Int) : List Int × Int:=if mayF f = true then (B.form (cB f) (jB f) xs,0) else ([],16)
theorem zl1 {B : BaseF} {f : Int} {xs : List Int} (h : f < 1 \/ 4 < f) : formE B f xs = ([],16):=by
 unfold formE;rw [if_neg];rw [zii];omega
section
variable {w : World} {p : Option Addr} {B : BaseF}
theorem zev (hB : zac w (.pointer p) B) (hk : Kinds w) (hbd : zap B) (f : Int) (A : Option Addr) (n cp : Nat) (xs : List Int) (hrd : Rd w A n (Rs xs)) (hn : xs.length = n) (hx : ∀ x ∈ xs,R32 x) (hn2 : n <= 240000) :
  Calls Tryz.prog 16 #[.pointer p,.int .i64 f,.slice A n cp] w (zbo w (formE B f xs)):=by
 have FU:=fun c => ziq (cp:=cp) hB hk hbd (one_R hbd) c A n xs hrd hn hx hn2;have HB:=hz0q hB;have HK:=hz0q hk;have HBD:=hz0q hbd;have HFR : Hid (∀ c,∀ y ∈ B.full c xs,R32 y):=fun c y hy => zj0 hbd c hx y hy;have HFL : Hid (∀ c,(B.full c xs).length <= 12960000):=fun c => by have:=zl0 hbd c xs; rw [hn] at this; omega
 clear hB hk hbd hrd hn hx;rcases zm2 f with h | rfl | rfl | rfl | rfl | h
 ·have h1 : (f == 1) = false:=(by rw [beq_eq_false_iff_ne]; omega);have h2 : (f == 2) = false:=(by rw [beq_eq_false_iff_ne]; omega);have h3 : (f == 3) = false:=(by rw [beq_eq_false_iff_ne]; omega);have h4 : (f == 4) = false:=(by rw [beq_eq_false_iff_ne]; omega);have HF : Hid (formE B f xs = ([],16)):=zl1 (.inl h);clear FU h;go_enter Tryz.func16,Tryz.ntmps16;go_wp2;go_returns;rw [HF.out];exact ⟨none,0,rfl,World.ownsRow_nil _ _ _ _,Below.refl _ _⟩
 ·have F1:=FU false;obtain ⟨ys,hys⟩ : ∃ ys,ys = B.full false xs:=⟨_,rfl⟩;rw [<- hys] at F1;have HF : Hid (formE B 1 xs = (ys,0)):=(by show _ = _; rw [hys]; rfl);clear FU hys;go_enter Tryz.func16,Tryz.ntmps16;go_wp2_with fail;refine F1.mono ?_;rintro e w1 ⟨A1,c1,rfl,hown,hb1⟩;have HR : Hid (zbo w (ys,0) (.returned (.tuple #[.slice A1 ys.length c1,.int .i64 0])) w1):=⟨A1,c1,rfl,hown,hb1⟩;clear F1 hown hb1;go_wp2;go_returns;rw [HF.out];exact HR.out
 ·have F1:=FU false;obtain ⟨ys,hys⟩ : ∃ ys,ys = B.full false xs:=⟨_,rfl⟩;rw [<- hys] at F1;have hyR : ∀ y ∈ ys,R32 y:=(by rw [hys]; exact HFR.out false);have hyl : ys.length <= 12960000:=(by rw [hys]; exact HFL.out false);have HYR:=hz0q hyR;have hjl : (B.join ys).length <= 12960000:=Nat.le_trans (zil ys) hyl;obtain ⟨js,hjs⟩ : ∃ js,js = B.join ys:=⟨_,rfl⟩;have HF : Hid (formE B 2 xs = (js,0)):=(by show _ = _; rw [hjs,hys]; rfl);have HJS:=hz0q hjs;rw [<- hjs] at hjl;clear FU hys hyR hjs;go_enter Tryz.func16,Tryz.ntmps16;go_wp2_with fail;refine F1.mono ?_;intro e w1 hf;obtain ⟨A1,c1,rfl,hr1,hb1⟩:=hf.rd;have JN:=zj8 (cp:=c1) (HB.out.below hb1) (HK.out.below' hb1) HBD.out A1 ys.length ys hr1 rfl HYR.out (by omega);rw [<- HJS.out] at JN;have HB1:=hz0q hb1;clear F1 hf hr1 hb1;go_wp2_with fail;refine JN.mono ?_;rintro e w2 ⟨A2,c2,rfl,hown,hb2⟩;have HR : Hid (zbo w (js,0) (.returned (.tuple #[.slice A2 js.length c2,.int .i64 0])) w2):=⟨A2,c2,rfl,zax hown HB1.out.size,zb HB1.out hb2⟩;clear JN hown hb2;go_wp2;go_returns;rw [HF.out];exact HR.out
 ·have F1:=FU true;obtain ⟨ys,hys⟩ : ∃ ys,ys = B.full true xs:=⟨_,rfl⟩;rw [<- hys] at F1;have HF : Hid (formE B 3 xs = (ys,0)):=(by show _ = _; rw [hys]; rfl);clear FU hys;go_enter Tryz.func16,Tryz.ntmps16;go_wp2_with fail;refine F1.mono ?_;rintro e w1 ⟨A1,c1,rfl,hown,hb1⟩;have HR : Hid (zbo w (ys,0) (.returned (.tuple #[.slice A1 ys.length c1,.int .i64 0])) w1):=⟨A1,c1,rfl,hown,hb1⟩;clear F1 hown hb1;go_wp2;go_returns;rw [HF.out];exact HR.out
 ·have F1:=FU true;obtain ⟨ys,hys⟩ : ∃ ys,ys = B.full true xs:=⟨_,rfl⟩;rw [<- hys] at F1;have hyR : ∀ y ∈ ys,R32 y:=(by rw [hys]; exact HFR.out true);have hyl : ys.length <= 12960000:=(by rw [hys]; exact HFL.out true);have HYR:=hz0q hyR;have hjl : (B.join ys).length <= 12960000:=Nat.le_trans (zil ys) hyl;obtain ⟨js,hjs⟩ : ∃ js,js = B.join ys:=⟨_,rfl⟩;have HF : Hid (formE B 4 xs = (js,0)):=(by show _ = _; rw [hjs,hys]; rfl);have HJS:=hz0q hjs;rw [<- hjs] at hjl;clear FU hys hyR hjs;go_enter Tryz.func16,Tryz.ntmps16;go_wp2_with fail;refine F1.mono ?_;intro e w1 hf;obtain ⟨A1,c1,rfl,hr1,hb1⟩:=hf.rd;have JN:=zj8 (cp:=c1) (HB.out.below hb1) (HK.out.below' hb1) HBD.out A1 ys.length ys hr1 rfl HYR.out (by omega);rw [<- HJS.out] at JN;have HB1:=hz0q hb1;clear F1 hf hr1 hb1;go_wp2_with fail;refine JN.mono ?_;rintro e w2 ⟨A2,c2,rfl,hown,hb2⟩;have HR : Hid (zbo w (js,0) (.returned (.tuple #[.slice A2 js.length c2,.int .i64 0])) w2):=⟨A2,c2,rfl,zax hown HB1.out.size,zb HB1.out hb2⟩;clear JN hown hb2;go_wp2;go_returns;rw [HF.out];exact HR.out
 ·have h1 : (f == 1) = false:=(by rw [beq_eq_false_iff_ne]; omega);have h2 : (f == 2) = false:=(by rw [beq_eq_false_iff_ne]; omega);have h3 : (f == 3) = false:=(by rw [beq_eq_false_iff_ne]; omega);have h4 : (f == 4) = false:=(by rw [beq_eq_false_iff_ne]; omega);have HF : Hid (formE B f xs = ([],16)):=zl1 (.inr h);clear FU h;go_enter Tryz.func16,Tryz.ntmps16;go_wp2;go_returns;rw [HF.out];exact ⟨none,0,rfl,World.ownsRow_nil _ _ _ _,Below.refl _ _⟩
end
end
section
open Go.RowKit
section
variable {w : World} {p : Option Addr} {B : BaseF}
theorem safe_is {c j : Bool} {r x : Int} {t : List Int} (hx : B.full c [r] = x :: t) : B.safe c j r = (decide (B.cls x = 0) && !(j && B.sec x)):=by
 unfold BaseF.safe;rw [hx];rfl
theorem safe_any (hB : zac w (.pointer p) B) (hk : Kinds w) (hbd : zap B) (c j : Bool) (r : Int) (hr : R32 r) :
  Calls Tryz.prog 84 #[wayV p c j,.int .i32 r] w fun e w' => e = .returned (.bool (B.safe c j r)) /\ Below w.heap.size w w':=by
 obtain ⟨x,t,hxt⟩:=full_one_ne (B:=B) (c:=c) (r:=r);obtain ⟨W0,hW0⟩ : ∃ W0,w.alloc (.cells #[.pointer p,.bool c,.bool j] 185) = W0:=⟨_,rfl⟩;have hB0 : Below w.heap.size w W0:=(by rw [<- hW0]; exact (Below.refl _ w).alloc (Nat.le_refl _) _);have bx : W0.heap[w.heap.size]? = some (.cells #[.pointer p,.bool c,.bool j] 185 (0,0)):=(by rw [<- hW0]; exact zm w _ _);have hc0:=za bx 0 rfl;have hc1:=za bx 1 rfl;have hc2:=za bx 2 rfl;have HBX : Hid (∀ W,Below W0.heap.size W0 W -> W.cell? ⟨w.heap.size,0,none⟩ = some (.pointer p) /\ W.cell? ⟨w.heap.size,2,none⟩ = some (.bool j)):=fun W h => ⟨za (zd bx h) 0 rfl,za (zd bx h) 2 rfl⟩;have P1:=wparts_any (hB.below hB0) (hk.below' hB0) hbd c j r hr;have HB:=hz0q (hB.below hB0);have HK:=hz0q (hk.below' hB0);have HB0:=hz0q hB0;have HS:=hz0q (safe_is (j:=j) hxt);obtain ⟨ys,hys⟩ : ∃ ys,ys = B.full c [r]:=⟨_,rfl⟩;rw [<- hys] at P1;have hxR : R32 x:=zj0 hbd c (l:=[r]) (by intro z hz; rw [List.mem_singleton] at hz; rw [hz]; exact hr) x (by rw [hxt]; simp);have hyx : ys = x :: t:=hys.trans hxt;have HYX:=hz0q hyx;have HXR:=hz0q hxR;obtain ⟨N,hN⟩ : ∃ N,N = ys.length:=⟨_,rfl⟩
 have hl0 : (0 : Int) < (N : Int):=by
  have h0 : 0 < ys.length:=(by rw [hyx]; simp);omega
 have HN:=hz0q hN;clear hB hk hbd hxt hys hyx hxR hN bx hB0;go_enter Tryz.func84,Tryz.ntmps84;go_wp2_with fail;refine P1.mono ?_;intro e w1 hf;obtain ⟨A1,c1,rfl,hr1,hb1⟩:=hf.rd;rw [<- HN.out] at hr1 ⊢;obtain ⟨b,off,rfl,_,hcx⟩:=hr1.at_ (by omega);have c0:=hcx 0 (.int .i32 x) (by rw [HYX.out]; simp);rw [Nat.add_zero] at c0;have C1:=zcw (HB.out.below hb1) x HXR.out;obtain ⟨cl,hcl⟩ : ∃ cl,cl = B.cls x:=⟨_,rfl⟩;rw [<- hcl] at C1 HS;have HB1:=hz0q hb1;obtain ⟨d0,d2⟩:=HBX.out w1 hb1;clear P1 hf hr1 hcx hb1 hcl hc0 hc1 hc2;go_wp2_with fail;refine C1.mono ?_;rintro e w2 ⟨rfl,hb2⟩;have HB2:=hz0q (zb HB1.out hb2);clear C1 hb2 c0 d0 d2;obtain ⟨d0,d2⟩:=HBX.out w2 HB2.out
 by_cases h0 : cl = 0
 ·subst h0
  cases j with
  | false =>
   have HF : Hid (B.safe c false r = true):=(by show _ = _; rw [HS.out]; rfl);go_wp2;go_returns;exact ⟨by rw [HF.out] <;> rfl,zb HB0.out HB2.out⟩
  | true =>
   have SC:=sec_is (HB.out.below HB2.out) x HXR.out (HK.out.below' HB2.out);obtain ⟨sb,hsb⟩ : ∃ sb,sb = B.sec x:=⟨_,rfl⟩;rw [<- hsb] at SC HS;clear hsb;go_wp2_with fail;refine SC.mono ?_;rintro e w3 ⟨rfl,hb3⟩;have HB3:=hz0q (zb HB2.out hb3);clear SC hb3;have HF : Hid (B.safe c true r = !sb):=by show _ = _; rw [HS.out]; cases sb <;> rfl
   cases sb with
   | true =>
    go_wp2;go_returns;exact ⟨by rw [HF.out] <;> rfl,zb HB0.out HB3.out⟩
   | false =>
    go_wp2;go_returns;exact ⟨by rw [HF.out] <;> rfl,zb HB0.out HB3.out⟩
 ·have hcb : (cl == 0) = false:=(by simpa using h0);have HF : Hid (B.safe c j r = false):=(by show _ = _; rw [HS.out,decide_eq_false h0]; rfl);clear h0;go_wp2;go_returns;exact ⟨by rw [HF.out] <;> rfl,zb HB0.out HB2.out⟩
end
end
section
open Go.RowKit
section
variable {w : World} {p : Option Addr} {B : BaseF}
def CutTo (B : BaseF) (c j : Bool) (xs : List Int) (k : Nat) : Prop:=∀ i r,k < i -> xs[i]? = some r -> B.safe c j r = false
def CutR (B : BaseF) (c j mb : Bool) (xs : List Int) (e : Ending) : Prop:=∃ m : Nat,(if mb = true then CutAt B c j xs m else m = 0) /\ e = .returned (.tuple #[.int .i64 m,.int .i64 (if mb = true then 0 else 16)])
theorem qcut_in (hB : zac w (.pointer p) B) (hk : Kinds w) (hbd : zap B) (f : Int) (A : Option Addr) (n cp : Nat) (xs : List Int) (hrd : Rd w A n (Rs xs)) (hn : xs.length = n) (hx : ∀ x ∈ xs,R32 x) (hn2 : n <= 20000000) :
  Calls Tryz.prog 38 #[.pointer p,.int .i64 f,.slice A n cp] w fun e w' => CutR B (cB f) (jB f) (mayF f) xs e /\ Below w.heap.size w w':=by
 have OF:=wof_any p f w;have KN : Hid (∀ W r,Below w.heap.size w W -> R32 r -> Calls Tryz.prog 84 #[wayV p (cB f) (jB f),.int .i32 r] W fun e w' => e = .returned (.bool (B.safe (cB f) (jB f) r)) /\ Below W.heap.size W w'):=fun W r h hr => safe_any (hB.below h) (hk.below' h) hbd (cB f) (jB f) r hr;obtain ⟨c,hc⟩ : ∃ c,c = cB f:=⟨_,rfl⟩;obtain ⟨j,hj⟩ : ∃ j,j = jB f:=⟨_,rfl⟩;obtain ⟨mb,hm⟩ : ∃ mb,mb = mayF f:=⟨_,rfl⟩;rw [<- hc,<- hj] at KN;rw [<- hc,<- hj,<- hm] at OF;rw [<- hm,<- hc,<- hj];have HRD:=hz0q hrd;have HN:=hz0q hn;have HX:=hz0q hx;have hwn : IntKind.i64.wrap ((n : Int) - 1) = (n : Int) - 1:=IntWalk.i64_in _ (by omega);clear hB hk hbd hc hj hm hrd hn hx;go_enter Tryz.func38,Tryz.ntmps38;go_wp2_with fail;refine OF.mono ?_;rintro e w1 ⟨rfl,hb1⟩;obtain ⟨W1,hW1⟩ : ∃ W1,w1.alloc (.cells #[.pointer p,.bool c,.bool j] 185) = W1:=⟨_,rfl⟩;have bx : W1.heap[w1.heap.size]? = some (.cells #[.pointer p,.bool c,.bool j] 185 (0,0)):=(by rw [<- hW1]; exact zm w1 _ _);have hc0:=za bx 0 rfl;have hc1:=za bx 1 rfl;have hc2:=za bx 2 rfl;have HBX : Hid (∀ W,Below W1.heap.size W1 W -> W.cell? ⟨w1.heap.size,0,none⟩ = some (.pointer p) /\ W.cell? ⟨w1.heap.size,1,none⟩ = some (.bool c) /\ W.cell? ⟨w1.heap.size,2,none⟩ = some (.bool j)):=fun W h => ⟨za (zd bx h) 0 rfl,za (zd bx h) 1 rfl,za (zd bx h) 2 rfl⟩;have HB1 : Hid (Below w.heap.size w W1):=zb hb1 (by rw [<- hW1]; exact (Below.refl _ w1).alloc (Nat.le_refl _) _);clear bx hb1
 cases mb with
 | false =>
  clear OF;go_wp2;go_returns;exact ⟨⟨0,by rw [if_neg (by simp)],rfl⟩,HB1.out⟩
 | true =>
  have HM0 : Hid (max ((n : Int) - 1) 0 = ((n - 1 : Nat) : Int)):=(by show _ = _; omega);have hm0:=HM0.out;have HT0 : Hid (CutTo B c j xs (n - 1)):=fun i r hi hr => by have:=(List.getElem?_eq_some_iff.1 hr).1; have:=HN.out; omega
  have HB00 : Hid (Below W1.heap.size W1 W1):=Below.refl _ _;clear OF hc0 hc1 hc2;go_wp2
  go_loopw [10] (fun sa wr => ∃ m : Nat,(m < n \/ m = 0) /\ sa = .int .i64 m /\ Hid (CutTo B c j xs m) /\ Hid (Below W1.heap.size W1 wr)) (fun sa _ => (intOf sa).toNat)
  case atStart => exact ⟨n - 1,by omega,by first | rfl | (rw [HM0.out]) | (congr 1; exact HM0.out),HT0,HB00⟩
  case round =>
   obtain ⟨m,hm,rfl,HT,HBW⟩:=hrel;obtain ⟨wo,rfl⟩ : ∃ wo,wo = wr:=⟨wr,rfl⟩
   by_cases h0 : 0 < m
   ·have hmn : m < n:=(by omega);obtain ⟨r,hr⟩ : ∃ r,xs[m]? = some r:=⟨_,List.getElem?_eq_getElem (by rw [HN.out]; exact hmn)⟩;obtain ⟨b,off,rfl,_,hcx⟩:=(HRD.out.below (zb HB1.out HBW.out)).at_ (by omega)
    have hcb : b < W1.heap.size /\ W1.cell? ⟨b,off + m,none⟩ = some (.int .i32 r):=by
     obtain ⟨b',off',e,h1,h2⟩:=(HRD.out.below HB1.out).at_ (by omega);injection e with e;injection e with e1 e2 _;subst e1 e2;exact ⟨h1,h2 m (.int .i32 r) (by simp [Rs,hr])⟩
    have HC0 : Hid (∀ W,Below W1.heap.size W1 W -> ((W.cell? ⟨w1.heap.size,0,none⟩ = some (.pointer p) /\ W.cell? ⟨w1.heap.size,1,none⟩ = some (.bool c)) /\ W.cell? ⟨w1.heap.size,2,none⟩ = some (.bool j)) /\ W.cell? ⟨b,off + m,none⟩ = some (.int .i32 r)):=fun W h => by
     obtain ⟨e0,e1,e2⟩:=HBX.out W h;exact ⟨⟨⟨e0,e1⟩,e2⟩,(h.cell (p:=⟨b,off + m,none⟩) hcb.1).trans hcb.2⟩
    have hmi : (0 : Int) < (m : Int):=(by omega);have hmni : (m : Int) < (n : Int):=(by omega);have hwm : IntKind.i64.wrap ((m : Int) - 1) = ((m - 1 : Nat) : Int):=(by rw [IntWalk.i64_in _ (by omega)]; omega);have S1 : Hid (∀ W,Below W1.heap.size W1 W -> Calls Tryz.prog 84 #[wayV p c j,.int .i32 r] W fun e w' => e = .returned (.bool (B.safe c j r)) /\ Below W.heap.size W w'):=fun W h => KN.out W r (zb HB1.out h) (HX.out r (List.mem_of_getElem? hr));have HRR:=hz0q hr;obtain ⟨sb,hsb⟩ : ∃ sb,sb = B.safe c j r:=⟨_,rfl⟩;rw [<- hsb] at S1;have HSB:=hz0q hsb;clear hr hcx hsb hcb;go_upto_region 5 with fail;refine wp_region_held_drew (S:=fun w' => (((w'.cell? ⟨w1.heap.size,0,none⟩ = some (.pointer p) /\ w'.cell? ⟨w1.heap.size,1,none⟩ = some (.bool c)) /\ w'.cell? ⟨w1.heap.size,2,none⟩ = some (.bool j)) /\ w'.cell? ⟨b,off + m,none⟩ = some (.int .i32 r)) /\ Below W1.heap.size W1 w') (by kernel_rfl) (⟨HC0.out _ (zb HBW.out (Drew.to ⟨1,rfl⟩)),zb HBW.out (Drew.to ⟨1,rfl⟩)⟩) (fun hH0 => ?_);refine tkH 0 (.int .i64 m) rfl hH0 ?_;try simp only [gA,gB,gC,Act.put,gD,gE,gF]
    refine tkH 1 (.bool true) rfl hH0 ?_;try simp only [gA,gB,gC,Act.put,gD,gE,gF]
    refine tkH 2 (.bool true) rfl hH0 ?_;try simp only [gA,gB,gC,Act.put,gD,gE,gF]
    refine tkH 3 (wayV p c j) rfl hH0 ?_;try simp only [gA,gB,gC,Act.put,gD,gE,gF]
    refine tkH 4 (.slice (some ⟨b,off,none⟩) n cp) rfl hH0 ?_;try simp only [gA,gB,gC,Act.put,gD,gE,gF]
    refine tkH 5 (.int .i64 m) rfl hH0 ?_;try simp only [gA,gB,gC,Act.put,gD,gE,gF]
    refine tkH 6 (.pointer (some ⟨b,off + m,none⟩)) rfl hH0 ?_;try simp only [gA,gB,gC,Act.put,gD,gE,gF]
    refine tkH 7 (.int .i32 r) rfl hH0 ?_;try simp only [gA,gB,gC,Act.put,gD,gE,gF]
    refine wpAnyH_ready (rs:=[8]) (by kernel_rfl) (by simp) ?_;refine AllReadyH.cons rfl (fun K hK => ?_) AllReadyH.nil;go_simp
    refine (S1.out _ hH0.2).mono ?_;rintro e w50 ⟨rfl,hb3⟩;refine hK.out _ _ (⟨HC0.out _ (zb hH0.2 hb3),zb hH0.2 hb3⟩) (fun hH1 => ?_);clear hK K hH0;try simp only [gA,gB,gC,Act.put,gD,gE,gF]
    refine tkH 9 (.bool (!sb)) rfl hH1 ?_;try simp only [gA,gB,gC,Act.put,gD,gE,gF]
    refine tkH 10 (.bool (!sb)) rfl hH1 ?_;try simp only [gA,gB,gC,Act.put,gD,gE,gF]
    refine wpAnyH_done (by kernel_rfl) ?_ _;have HB3:=hz0q hH1.2;clear hH1 HC0 S1
    cases sb with
    | true =>
     have HF : Hid (CutAt B c j xs m):=⟨.inr (by rw [HN.out]; exact hmn),fun _ y hy => by rw [HRR.out] at hy; injection hy with hy; rw [<- hy]; exact HSB.out.symm,HT.out⟩;go_wp2;go_returns;exact ⟨⟨m,by rw [if_pos rfl]; exact HF.out,rfl⟩,zb HB1.out HB3.out⟩
    | false =>
     have HT2 : Hid (CutTo B c j xs (m - 1)):=fun i y hi hy => by
      by_cases him : i = m
      ·subst him;rw [HRR.out] at hy;injection hy with hy;rw [<- hy];exact HSB.out.symm
      ·exact HT.out i y (by omega) hy
     go_wp2;go_roundw
     case rel => exact ⟨m - 1,by omega,by first | rfl | go_num,HT2,HB3⟩
     case measure => simp [intOf] <;> omega
   ·obtain rfl : m = 0:=(by omega);have HF : Hid (CutAt B c j xs 0):=⟨.inl rfl,fun h => absurd h (by omega),HT.out⟩;go_upto_region 5 with fail;refine wp_region_held_drew (S:=fun w' => Below W1.heap.size W1 w' /\ Below W1.heap.size W1 w') (by kernel_rfl) (⟨zb HBW.out (Drew.to ⟨1,rfl⟩),zb HBW.out (Drew.to ⟨1,rfl⟩)⟩) (fun hH0 => ?_);refine tkH 0 (.int .i64 0) rfl hH0 ?_;try simp only [gA,gB,gC,Act.put,gD,gE,gF]
    refine tkH 1 (.bool false) rfl hH0 ?_;try simp only [gA,gB,gC,Act.put,gD,gE,gF]
    refine tkH 2 (.bool false) rfl hH0 ?_;try simp only [gA,gB,gC,Act.put,gD,gE,gF]
    refine psH 3 rfl hH0 ?_;try simp only [gA,gB,gC,Act.put,gD,gE,gF]
    refine psH 4 rfl hH0 ?_;try simp only [gA,gB,gC,Act.put,gD,gE,gF]
    refine psH 5 rfl hH0 ?_;try simp only [gA,gB,gC,Act.put,gD,gE,gF]
    refine psH 6 rfl hH0 ?_;try simp only [gA,gB,gC,Act.put,gD,gE,gF]
    refine psH 7 rfl hH0 ?_;try simp only [gA,gB,gC,Act.put,gD,gE,gF]
    refine psH 8 rfl hH0 ?_;try simp only [gA,gB,gC,Act.put,gD,gE,gF]
    refine psH 9 rfl hH0 ?_;try simp only [gA,gB,gC,Act.put,gD,gE,gF]
    refine tkH 10 (.bool false) rfl hH0 ?_;try simp only [gA,gB,gC,Act.put,gD,gE,gF]
    refine wpAnyH_done (by kernel_rfl) ?_ _;have HB3:=hz0q hH0.2;clear hH0;go_wp2;go_returns;exact ⟨⟨0,by rw [if_pos rfl]; exact HF.out,rfl⟩,zb HB1.out HB3.out⟩
theorem qcut_any (hB : zac w (.pointer p) B) (hk : Kinds w) (hbd : zap B) (f : Int) (A : Option Addr) (n cp : Nat) (xs : List Int) (hrd : Rd w A n (Rs xs)) (hn : xs.length = n) (hx : ∀ x ∈ xs,R32 x) (hn2 : n <= 20000000) :
  Calls Tryz.prog 38 #[.pointer p,.int .i64 f,.slice A n cp] w fun e w' => (∃ m : Nat,(if mayF f = true then CutAt B (cB f) (jB f) xs m else m = 0) /\ e = .returned (.tuple #[.int .i64 m,.int .i64 (if mayF f = true then 0 else 16)])) /\ Below w.heap.size w w' :=
 qcut_in hB hk hbd f A n cp xs hrd hn hx hn2
end
end
end Go.Proofs.YtolcabjkbefjgaaGreatDoor
