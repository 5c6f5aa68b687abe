/- slices.BinarySearch at characters: whether one is on a rising list. What makes leaves standing, and what it fills: plain words on worlds. New: what it answers, and the ways that end ahead of the loops. decomp.One: a character, parted as far as it can be: the code. strings.Builder, in a block of its own or first in a struct: copyCheck, WriteByte, WriteString, String. strings.Builder's WriteRune at U+FFFD. -/
import Derived.Test.YtolcabjkbefjgaaGreatDoorY23
import Derived.RangeFuncNested
set_option linter.unusedSimpArgs false
set_option linter.unusedVariables false
set_option maxRecDepth 20000
set_option maxHeartbeats 4000000
namespace Go.Proofs.YtolcabjkbefjgaaGreatDoor
section
open Go.RowKit Go.Lib Go.Maps
theorem cmpNaN_any (x : Int) (w : World) : Calls Tryz.prog 167 #[.int .i32 x] w fun e w' => e = .returned (.bool false) /\ w' = w:=by
 go_enter Tryz.func167,Tryz.ntmps167;go_wp2;go_returns;exact ⟨rfl,rfl⟩
theorem zi4 (x : Int) (w : World) : Calls Tryz.prog 119 #[.int .i32 x] w fun e w' => e = .returned (.bool false) /\ w' = w:=by
 go_enter Tryz.func119,Tryz.ntmps119;go_wp2;go_returns;exact ⟨rfl,rfl⟩
theorem zhc (x y : Int) (w : World) : Calls Tryz.prog 118 #[.int .i32 x,.int .i32 y] w fun e w' => e = .returned (.bool (decide (x < y))) /\ w' = w:=by
 go_enter Tryz.func118,Tryz.ntmps118;go_wp2_with (first | (go_at_call 167; refine (cmpNaN_any _ _).mono ?_; rintro e w' ⟨rfl,rfl⟩) | go_in)
 go_returns;exact ⟨rfl,rfl⟩
def Rises (ks : List Int) : Prop:=ks.Pairwise (· < ·)
theorem Rises.lt {ks : List Int} (h : Rises ks) {i j : Nat} {x y : Int} (hx : ks[i]? = some x) (hy : ks[j]? = some y) (hij : i < j) : x < y:=by
 obtain ⟨h1,rfl⟩:=List.getElem?_eq_some_iff.1 hx;obtain ⟨h2,rfl⟩:=List.getElem?_eq_some_iff.1 hy;exact List.pairwise_iff_getElem.1 h i j h1 h2 hij
theorem half_mid {lo hi : Nat} (h1 : lo < hi) (h2 : hi <= 1000000) : lo <= (lo + hi) / 2 /\ (lo + hi) / 2 < hi:=by omega
theorem bsearch_any (A : Option Addr) (n c : Nat) (ks : List Int) (t : Int) (w : World) (hr : Rd w A n (Rs ks)) (hn : n <= 1000000) (hS : Rises ks) :
  Calls Tryz.prog 74 #[.slice A n c,.int .i32 t] w fun e w' => (∃ i : Int,e = .returned (.tuple #[.int .i64 i,.bool (decide (t ∈ ks))])) /\ w' = w:=by
 have hll : ks.length = n:=(by have:=hr.1; simpa [Rs] using this);have HLL:=hz0q hll;have HS:=hz0q hS;clear hll hS;go_enter Tryz.func74,Tryz.ntmps74;go_wp2
 go_loopw [7,8] (fun a b wr => ∃ lo hi : Nat,lo <= hi /\ hi <= n /\ a = .int .i64 lo /\ b = .int .i64 hi /\ Hid (∀ j x,j < lo -> ks[j]? = some x -> x < t) /\ Hid (∀ j x,hi <= j -> ks[j]? = some x -> t <= x) /\ wr = w) (fun a b _ => (intOf b - intOf a).toNat)
 case atStart => exact ⟨0,n,Nat.zero_le _,Nat.le_refl _,rfl,rfl,hz0q (fun j x h => absurd h (Nat.not_lt_zero _)),hz0q (fun j x h hx => by have:=(List.getElem?_eq_some_iff.1 hx).1; have:=HLL.out; omega),by trivial⟩
 case round =>
  obtain ⟨lo,hi,h1,h2,rfl,rfl,H1,H2,rfl⟩:=hrel
  by_cases hlt : lo < hi
  ·have hlt' : (lo : Int) < (hi : Int):=(by omega);obtain ⟨m1,m2⟩:=half_mid hlt (by omega);obtain ⟨m,hm⟩ : ∃ m,m = (lo + hi) / 2:=⟨_,rfl⟩;rw [<- hm] at m1 m2;have hmq : ((lo : Int) + (hi : Int)) / 2 = (m : Int):=(by omega);have hmn : (m : Int) < (n : Int):=(by omega);obtain ⟨x,hx⟩ : ∃ x,ks[m]? = some x:=⟨_,List.getElem?_eq_getElem (by rw [HLL.out]; omega)⟩;obtain ⟨b,off,rfl,hbl,hcx⟩:=hr.at_ (by omega);have c0 : wr.cell? ⟨b,off + m,none⟩ = some (.int .i32 x):=hcx m _ (by simp [Rs,hx]);have HX:=hz0q hx;clear hx hcx hbl hm
   by_cases hxt : x < t
   ·have HC:=zhc x t wr;rw [decide_eq_true hxt] at HC;have hmw : wrap64 ((m : Int) + 1) = (m : Int) + 1:=(by unfold wrap64; omega);go_wp2_with (first | (go_at_call 118; refine HC.mono ?_; rintro e w' ⟨rfl,rfl⟩) | go_in)
    go_roundw
    case rel => exact ⟨m + 1,hi,by omega,h2,by go_num,rfl,hz0q (fun j y hj hy => by
     by_cases e : j = m
     ·subst e; have:=HX.out; rw [hy] at this; injection this with e2; rw [e2]; exact hxt
     ·have:=HS.out.lt hy HX.out (by omega); omega),H2,by trivial⟩
    case measure => simp [intOf]; omega
   ·have HC:=zhc x t wr;rw [decide_eq_false hxt] at HC;go_wp2_with (first | (go_at_call 118; refine HC.mono ?_; rintro e w' ⟨rfl,rfl⟩) | go_in)
    go_roundw
    case rel => exact ⟨lo,m,by omega,by omega,rfl,by go_num,H1,hz0q (fun j y hj hy => by
     by_cases e : j = m
     ·subst e; have:=HX.out; rw [hy] at this; injection this with e2; rw [e2]; omega
     ·have:=HS.out.lt HX.out hy (by omega); omega),by trivial⟩
    case measure => simp [intOf]; omega
  ·obtain rfl : lo = hi:=(by omega);have hnl : ¬ ((lo : Int) < (lo : Int)):=by omega
   by_cases hend : lo < n
   ·obtain ⟨x,hx⟩ : ∃ x,ks[lo]? = some x:=⟨_,List.getElem?_eq_getElem (by rw [HLL.out]; omega)⟩;obtain ⟨b,off,rfl,hbl,hcx⟩:=hr.at_ (by omega);have c0 : wr.cell? ⟨b,off + lo,none⟩ = some (.int .i32 x):=hcx lo _ (by simp [Rs,hx]);have HX:=hz0q hx;have hln : (lo : Int) < (n : Int):=(by omega);have hge:=H2.out lo x (Nat.le_refl _) hx;have N1:=zi4 x wr;have N2:=zi4 t wr;clear hx hcx hbl
    by_cases hxt : x = t
    ·subst hxt;have HM : Hid (decide (x ∈ ks) = true):=decide_eq_true (List.mem_of_getElem? HX.out);clear hge;go_wp2_with (first | (go_at_call 119; refine N1.mono ?_; rintro e w' ⟨rfl,rfl⟩) | go_in)
     go_returns;rw [HM.out];exact ⟨⟨_,by first | rfl | simp⟩,rfl⟩
    ·have HM : Hid (decide (t ∈ ks) = false):=decide_eq_false fun hm => by
      obtain ⟨j,hj⟩:=List.mem_iff_getElem?.1 hm;rcases Nat.lt_trichotomy j lo with h | h | h
      ·have:=H1.out j t h hj; omega
      ·subst h; have:=HX.out; rw [hj] at this; injection this with e; exact hxt e.symm
      ·have:=HS.out.lt HX.out hj h; omega
     have hbq : (x == t) = false:=(by simpa using hxt);clear hge;go_wp2_with (first | (go_at_call 119; first | (refine N1.mono ?_; rintro e w' ⟨rfl,rfl⟩) | (refine N2.mono ?_; rintro e w' ⟨rfl,rfl⟩)) | go_in)
     go_returns;rw [HM.out];exact ⟨⟨_,by first | rfl | simp⟩,rfl⟩
   ·obtain rfl : lo = n:=by omega
    have HM : Hid (decide (t ∈ ks) = false):=decide_eq_false fun hm => by
     obtain ⟨j,hj⟩:=List.mem_iff_getElem?.1 hm;have h1:=(List.getElem?_eq_some_iff.1 hj).1;have:=H1.out j t (by rw [HLL.out] at h1; exact h1) hj;omega
    go_wp2;go_returns;rw [HM.out];exact ⟨⟨_,by first | rfl | simp⟩,rfl⟩
end
section
open Go.RowKit Go.Lib Go.Maps
structure BAddr.Apart (a : BAddr) : Prop where
 b1 : a.mb ≠ a.m1
 b2 : a.mb ≠ a.m2
 b3 : a.mb ≠ a.m3
 b4 : a.mb ≠ a.m4
 p2 : a.m1 ≠ a.m2
 p3 : a.m1 ≠ a.m3
 p4 : a.m1 ≠ a.m4
 t23 : a.m2 ≠ a.m3
 t24 : a.m2 ≠ a.m4
 t34 : a.m3 ≠ a.m4
abbrev M234 (a : BAddr) (k : Nat) : Prop:=k = a.m2 \/ k = a.m3 \/ k = a.m4
structure MkV (W : World) (a : BAddr) (n : Nat) (pr : Int × Int -> Option Int) (md : Int -> Option (Int × Int)) (sc : Int -> Option Int) : Prop where
 pr : MapF W Tryz.prog 173 zc7 R32P runeV a.m2 n pr
 md : MapF W Tryz.prog 21 zn R32 pairV a.m3 n md
 sc : MapF W Tryz.prog 21 zn R32 intV a.m4 n sc
structure MkC (W : World) (bp : Nat) (a : BAddr) (n : Nat) (cls : Int -> Int) (f : Int -> Option PV) (prt : Int -> Option (List UInt8 × List Int)) : Prop where
 box : W.heap[bp]? = some (.cells #[.pointer (some ⟨a.tb,0,none⟩),.map (some a.m1),.map (some a.m2),.map (some a.m3),.map (some a.m4)] 81 (0,0))
 tab : TabAt W a.tb a.mb a.tn cls
 map : MapF W Tryz.prog 21 zn R32 partV a.m1 n f
 parts : ∀ r,R32 r -> zec W (f r) (prt r)
section
variable {w W W' : World} {bp n : Nat} {a : BAddr} {cls : Int -> Int} {prt : Int -> Option (List UInt8 × List Int)} {pr : Int × Int -> Option Int} {md : Int -> Option (Int × Int)} {sc : Int -> Option Int} {f : Int -> Option PV}
theorem zcx {p : Addr} {v : Value} (h : w.cell? p = some v) : ∃ cs t fr,w.heap[p.block]? = some (.cells cs t fr):=by
 unfold World.cell? at h
 cases hb : w.heap[p.block]? with
 | none => rw [hb] at h; simp at h
 | some o =>
  rw [hb] at h
  cases o with
  | cells cs t fr => exact ⟨cs,t,fr,rfl⟩
  | _ => simp at h
theorem zec.wrote {S : Nat -> Prop} {p : Option PV} {q : Option (List UInt8 × List Int)} (h : zec w p q) (hW : Wrote S w W) (hS : ∀ k,S k -> ∀ cs t fr,w.heap[k]? ≠ some (.cells cs t fr)) : zec W p q:=by
 cases p <;> cases q <;> first | exact h | (refine ⟨h.1,h.2.1,h.2.2.1,h.2.2.2.1.wrote hW fun h0 ad had hSk => ?_,h.2.2.2.2⟩)
 obtain ⟨b,off,e,_,hc⟩:=h.2.2.2.1.at_ h0;rw [had] at e;injection e with e;subst e;obtain ⟨cs,t,fr,hb⟩:=zcx (hc 0 _ (List.getElem?_eq_getElem (by have:=h.2.2.2.1.1; omega)));exact hS _ hSk _ _ _ hb
theorem BaseM.cOf (h : BaseM w bp a n cls prt pr md sc) : ∃ f,MkC w bp a n cls f prt:=by
 obtain ⟨h1,h2,⟨f,h3,h4⟩,_⟩:=h;exact ⟨f,h1,h2,h3,h4⟩
theorem MkV.notCells (v : MkV w a n pr md sc) : ∀ k,M234 a k -> ∀ cs t fr,w.heap[k]? ≠ some (.cells cs t fr):=fun k hk cs t fr e => by
 rcases hk with rfl | rfl | rfl
 ·exact v.pr.ne_cells e rfl
 ·exact v.md.ne_cells e rfl
 ·exact v.sc.ne_cells e rfl
theorem MkC.wrote (h : MkC w bp a n cls f prt) (ap : a.Apart) (hn : ∀ k,M234 a k -> ∀ cs t fr,w.heap[k]? ≠ some (.cells cs t fr)) (hW : Wrote (M234 a) w W) : MkC W bp a n cls f prt:=by
 obtain ⟨h1,⟨i1,g,i2,i3⟩,h3,h4⟩:=h;refine ⟨hW.blk h1 (fun e => hn _ e _ _ _ h1),⟨hW.blk i1 (fun e => hn _ e _ _ _ i1),g,i2.at (hW.block _ i2.lt ?_),i3⟩,h3.at (hW.block _ h3.lt ?_),fun r hr => (h4 r hr).wrote hW hn⟩
 ·rintro (e | e | e)
  ·exact ap.b2 e
  ·exact ap.b3 e
  ·exact ap.b4 e
 ·rintro (e | e | e)
  ·exact ap.p2 e
  ·exact ap.p3 e
  ·exact ap.p4 e
theorem MkC.toM {k : Nat} (h : MkC w bp a n cls f prt) (v : MkV w a k pr md sc) (hk : n <= k) : BaseM w bp a k cls prt pr md sc :=
 ⟨h.box,h.tab,⟨f,h.map.mono hk,h.parts⟩,v.pr,v.md,v.sc⟩
theorem BaseM.vOf (h : BaseM w bp a n cls prt pr md sc) : MkV w a n pr md sc:=⟨h.pr,h.md,h.sc⟩
theorem MkV.mono {k : Nat} (v : MkV w a n pr md sc) (h : n <= k) : MkV w a k pr md sc:=⟨v.pr.mono h,v.md.mono h,v.sc.mono h⟩
theorem MkV.below (v : MkV w a n pr md sc) (hb : Below w.heap.size w W) : MkV W a n pr md sc:=⟨v.pr.below hb v.pr.lt,v.md.below hb v.md.lt,v.sc.below hb v.sc.lt⟩
theorem MkV.kept {r : Nat} (v : MkV w a n pr md sc) (hg : w.grownBy W (some r)) (h2 : a.m2 ≠ r) (h3 : a.m3 ≠ r) (h4 : a.m4 ≠ r) : MkV W a n pr md sc :=
 ⟨v.pr.kept hg (by simpa using h2),v.md.kept hg (by simpa using h3),v.sc.kept hg (by simpa using h4)⟩
theorem Wrote.grown_new {S : Nat -> Prop} {r : Nat} (h : Wrote S w W) (hg : W.grownBy W' (some r)) (hr : w.heap.size <= r) : Wrote S w W':=by
 have h2 : Wrote (fun k => k = r) W W':=Wrote.grown hg fun k e => by injection e with e; exact e.symm
 exact ⟨h2.os.trans h.os,h2.tape.trans h.tape,h2.output.trans h.output,Nat.le_trans h.size h2.size,fun k hk hs => (h2.block k (Nat.lt_of_lt_of_le hk h.size) (by omega)).trans (h.block k hk hs)⟩
end
theorem zjq {cls : Int -> Int} {prt : Int -> Option (List UInt8 × List Int)} {out : List Int} {x u v : Int} (h : prt x = some ([],[u,v])) : madeQ cls prt out x = (!decide (x ∈ out) && !decide (0 < cls x) && !decide (0 < cls u)):=by unfold madeQ; rw [h]
theorem madeT_two {prt : Int -> Option (List UInt8 × List Int)} {x u v : Int} {k : List UInt8} (h : prt x = some (k,[u,v])) : zay prt x = (u,v):=by unfold zay; rw [h]
def MkR (a : BAddr) (cls : Int -> Int) (prt : Int -> Option (List UInt8 × List Int)) (f : Int -> Option PV) (out : List Int) (n rb : Nat) (W0 wr : World) (bad : Bool) (cnt : Nat) : Prop :=
 ∃ left ss pr md sc,MapR wr Tryz.prog 21 zn R32 partV a.m1 rb n f left cnt /\ Came R32 f left ss /\ MkI (madeQ cls prt out) (zay prt) zdb ss bad pr md sc /\ MkV wr a (n + ss.length) pr md sc /\ ss.length + cnt <= n /\ Wrote (M234 a) W0 wr
def zoa (bp n : Nat) (a : BAddr) (cls : Int -> Int) (prt : Int -> Option (List UInt8 × List Int)) (out : List Int) (w : World) (e : Ending) (w' : World) : Prop :=
 ∃ bad ss pr md sc,e = .returned (.int .i64 (if bad = true then 12 else 0)) /\ zek R32 prt ss /\ MkI (madeQ cls prt out) (zay prt) zdb ss bad pr md sc /\ BaseM w' bp a (n + ss.length) cls prt pr md sc /\ ss.length <= n /\ Wrote (M234 a) w w'
section
variable {w W : World} {bp n rb : Nat} {a : BAddr} {cls : Int -> Int} {prt : Int -> Option (List UInt8 × List Int)} {f : Int -> Option PV} {out : List Int}
theorem zhu {p : Option PV} {q : Option (List UInt8 × List Int)} (h : zec w p q) : p.isSome = q.isSome:=by
 cases p <;> cases q <;> first | rfl | exact h.elim
theorem MkR.done {bad : Bool} (hC : MkC w bp a n cls f prt) (ap : a.Apart) (hn : ∀ k,M234 a k -> ∀ cs t fr,w.heap[k]? ≠ some (.cells cs t fr))
  {left : Int -> Bool} {ss : List Int} {pr : Int × Int -> Option Int} {md : Int -> Option (Int × Int)} {sc : Int -> Option Int}
  (hl0 : ∀ x,R32 x -> left x = false) (hCm : Came R32 f left ss) (hI : MkI (madeQ cls prt out) (zay prt) zdb ss bad pr md sc) (hV : MkV W a (n + ss.length) pr md sc) (hle : ss.length <= n) (hW : Wrote (M234 a) w W) :
  zoa bp n a cls prt out w (.returned (.int .i64 (if bad = true then 12 else 0))) W:=by
 have hA:=hCm.all hl0;refine ⟨bad,ss,pr,md,sc,rfl,⟨hA.1,fun x => ?_⟩,hI,(hC.wrote ap hn hW).toM hV (by omega),hle,hW⟩;rw [hA.2 x];constructor
 ·rintro ⟨h1,h2⟩; exact ⟨h1,by rw [<- zhu (hC.parts x h1)]; exact h2⟩
 ·rintro ⟨h1,h2⟩; exact ⟨h1,by rw [zhu (hC.parts x h1)]; exact h2⟩
theorem step_lookF {α β : Type} {P : Program} {K : TypeId} {mk : α -> Value} {lit : α -> Lit} {ok : α -> Prop} {mkV : β -> Value} {w : World} {b m0 : Nat} {g : α -> Option β} {ops : Array Oper} {o : Oper} {ac : Act} {Q : Exit -> Act -> World -> Prop}
  {K' : Act -> World -> Prop} {R : Prop} {t e : TypeId} {zv z : β} (hg : o.guard = none) (m x : Operand) (hop : o.op = Op.lookup t m x false) (B : KeyB P K mk lit ok) (ht : P.underlying t = some (.map K e)) (hz : (zeroValue e).run P w = .ok (mkV zv) w)
  (h : MapF w P K lit ok mkV b m0 g) {k : α} (hk : ok k) (hm : ac.eval m = .map (some b)) (hx : ac.eval x = mk k) (hzz : z = (g k).getD zv)
  (hK : K' (ac.put o.dst (mkV z)) w) : if Region.wanted o (yielded ops ac.tmps) = true then Oper.wp P o ac w K' Q else R:=by
 rw [if_pos (by simp [Region.wanted,hg])];have hrun:=h.look B ht hz hk false;unfold Oper.wp;simp [execOp,hop,hm,hx,hrun,Result.andThen];rw [<- hzz];exact hK
def Two (bp q2 : Nat) (a : BAddr) (u v : Int) (W : World) : Prop :=
 W.heap[bp]? = some (.cells #[.pointer (some ⟨a.tb,0,none⟩),.map (some a.m1),.map (some a.m2),.map (some a.m3),.map (some a.m4)] 81 (0,0)) /\ W.heap[q2]? = some (.cells #[.int .i32 u,.int .i32 v] 173 (0,0))
theorem Two.below {q2 : Nat} {u v : Int} {W' : World} (h : Two bp q2 a u v W) (hb : Below W.heap.size W W') : Two bp q2 a u v W':=⟨zd h.1 hb,zd h.2 hb⟩
theorem Two.grown {q2 r : Nat} {u v : Int} {W' : World} (h : Two bp q2 a u v W) (hg : W.grownBy W' (some r)) (h1 : bp ≠ r) (h2 : q2 ≠ r) : Two bp q2 a u v W' :=
 ⟨(hg.block _ (za5 h.1) (fun e => h1 (by injection e with e))).trans h.1,(hg.block _ (za5 h.2) (fun e => h2 (by injection e with e))).trans h.2⟩
theorem pairH_some {pr : Int × Int -> Option Int} {u v : Int} : (pairH pr u v).isSome = ((pr (u,v)).isSome || zdb (u,v)):=by
 unfold pairH zdb
 cases pr (u,v) with
 | some x => rfl
 | none =>
  simp only []
  cases (joinH u v).2 <;> simp
theorem MkR.made {w2 W6 w11 : World} {left : Int -> Bool} {ss : List Int} {pr : Int × Int -> Option Int} {md : Int -> Option (Int × Int)} {sc : Int -> Option Int} {bad is : Bool} {cnt : Nat} {x u v : Int}
  (hrg : MapR w2 Tryz.prog 21 zn R32 partV a.m1 rb n f left cnt) (hCame : Came R32 f left (ss ++ [x])) (hM : MkI (madeQ cls prt out) (zay prt) zdb ss bad pr md sc) (hx : x ∉ ss) (hQ : madeQ cls prt out x = true) (hT : zay prt x = (u,v))
  (hle : ss.length + 1 + cnt <= n) (hW : Wrote (M234 a) w w2) (h26 : Below w2.heap.size w2 W6) (hW' : Wrote (M234 a) W6 w11)
  (hpr : MapF w11 Tryz.prog 173 zc7 R32P runeV a.m2 (n + ss.length + 1) (upd pr (u,v) (some x))) (hmd : MapF w11 Tryz.prog 21 zn R32 pairV a.m3 (n + ss.length + 1) (upd md x (some (u,v)))) (hsc : MapF w11 Tryz.prog 21 zn R32 intV a.m4 (n + ss.length + 1) (upd sc v (some (gd sc v + 1))))
  (hrb : ¬ M234 a rb) (hm1 : ¬ M234 a a.m1) (his : (pairH pr u v).isSome = is) : MkR a cls prt f out n rb w w11 (bad || is) cnt /\ w11.rangeLeft a.m1 rb = cnt:=by
 have l1:=hrg.owns.lt;have l2:=hrg.lt;have hs:=h26.size;have hrg':=hrg.at ((hW'.block _ (by omega) hm1).trans (h26.block _ l1)) ((hW'.block _ (by omega) hrb).trans (h26.block _ l2));have hst:=hM.step hx hQ;rw [hT] at hst;have e : (bad || (pr (u,v)).isSome || zdb (u,v)) = (bad || is):=(by rw [<- his,pairH_some,Bool.or_assoc]);rw [e] at hst;have hl : n + (ss ++ [x]).length = n + ss.length + 1:=(by simp; omega);exact ⟨⟨_,ss ++ [x],_,_,_,hrg',hCame,hst,by rw [hl]; exact ⟨hpr,hmd,hsc⟩,by simp; omega,(hW.then_below h26).trans hW'⟩,hrg'.left_eq⟩
end
end
section
open Go.RowKit Go.Lib Go.Maps Go.Sort Go.Shelf
attribute [local go_sem] Oper.semAt_some
def NewC (s o : List UInt8) : Prop:=(rowsS s).2.2 = 0 /\ (setsS o).2.2 = 0 /\ NewOk (rowsS s).1 (setsS o).1
theorem zg {W W' : World} {b : Nat} {t : TypeId} {v : Value} (h : Boxed W b t v) (hb : Below W.heap.size W W') : Boxed W' b t v:=(hb.block b h.lt).trans h
theorem zo {W : World} {b c : Nat} {t : TypeId} {v : Value} (h : Boxed W b t v) (u : Value) (hne : b ≠ c) : Boxed (W.setCell ⟨c,0,none⟩ u) b t v:=h.kept (grownBy_setCell' W c u) (by simpa using hne)
def zkg (w : World) (e : Ending) (w' : World) : Prop:=(∃ er : Int,er ≠ 0 /\ e = .returned (.tuple #[.pointer none,.int .i64 er])) /\ Below w.heap.size w w'
def zk0 (rows : List RowS) (out : List Int) (w : World) (e : Ending) (w' : World) : Prop :=
 ∃ bp a n ss pr md sc,e = .returned (.tuple #[.pointer (some ⟨bp,0,none⟩),.int .i64 0]) /\ BaseM w' bp a n (clsL rows) (prtL rows) pr md sc /\ n <= 100000 /\ zek R32 (prtL rows) ss /\ MkI (madeQ (clsL rows) (prtL rows) out) (zay (prtL rows)) zdb ss false pr md sc /\ w.heap.size <= bp /\ Below w.heap.size w w'
def NewP (s o : List UInt8) (w : World) (e : Ending) (w' : World) : Prop:=(¬ NewC s o /\ zkg w e w') \/ (NewC s o /\ zk0 (rowsS s).1 (setsS o).1 w e w')
theorem setsS_len (s : List UInt8) : (setsS s).1.length <= 4096:=by
 have key : ∀ (ls : List (Int × List UInt8)) (out : List Int),out.length <= 4096 -> (setsW out ls).1.length <= 4096:=by
  intro ls;induction ls with
  | nil => intro out h; exact h
  | cons p ls ih =>
   intro out h
   by_cases he : (zav out p.2).2 = 0
   ·rw [ze7 he]; exact ih _ (setStep_len h)
   ·rw [zc5 he]; simp
 unfold setsS setsE;split
 ·simp
 ·simp only [];rw [(zdp _).length_eq];exact key _ [] (by simp)
section
variable {w : World}
theorem new_rows (s o : ByteArray) (hE : Env w) (hs : s.size <= 1073741824) (hbad : (rowsS (bs s)).2.2 ≠ 0) : Calls Tryz.prog 8 #[.string s,.string o] w (zkg w):=by
 refine (callsIn_wide (n:=5)).1 ?_;have hro : Fence.wide.round = none:=rfl;have h1 : 1 <= 5:=(by omega);refine callsIn_of_wp_marks Tryz.func8 rfl trivial ?_ hro;simp only [Tryz.ntmps8,List.size_toArray,List.length_cons,List.length_nil,Nat.reduceAdd,Nat.reduceSub,Array.replicate_succ,Array.replicate_zero,List.push_toArray,List.append_toArray,List.nil_append,List.cons_append];have RW:=fun W (hb : Below w.heap.size w W) => zfx s W (hE.below hb) hs;obtain ⟨⟨rows,ln,er⟩,hR⟩ : ∃ R,R = rowsS (bs s):=⟨_,rfl⟩;rw [<- hR] at RW hbad;simp only [] at hbad;have hne : ((er : Int) != 0) = true:=(by simpa using hbad);have HNE:=hz0q hbad;clear hR hbad;obtain ⟨W0,hW0⟩ : ∃ W0,(w.alloc (.cells #[.pointer none] 32)).alloc (.cells #[.int .i64 0] 33) = W0:=⟨_,rfl⟩;have hB0 : Below w.heap.size w W0:=(by rw [<- hW0]; exact ((Below.refl _ w).alloc (Nat.le_refl _) _).alloc (by simp) _);have bx1 : Boxed W0 w.heap.size 32 (.pointer none):=by rw [<- hW0]; exact (Boxed.new w _ _).alloc _
 have bx2 : Boxed W0 (w.heap.size + 1) 33 (.int .i64 0):=by
  rw [<- hW0];have:=Boxed.new (w.alloc (.cells #[.pointer none] 32)) 33 (.int .i64 0);rwa [World.size_alloc] at this
 have RW0:=RW _ hB0;clear RW
 gi_wp2
 refine ⟨trivial,(callsIn_wide.2 RW0).mono ?_⟩;rintro e w1 ⟨os,A,c,ho,rfl,hat,hb1⟩;have b1:=zg bx1 hb1;have b2:=zg bx2 hb1;have c1:=(b1).cell;have f1:=(b1).frozen;have d1:=(zo (b2) (.pointer none) (show w.heap.size + 1 ≠ w.heap.size by omega)).cell;have f2:=(zo (b2) (.pointer none) (show w.heap.size + 1 ≠ w.heap.size by omega)).frozen;have hb:=zb hB0 hb1;clear bx1 bx2 hb1 hat ho hB0 hW0 RW0
 gi_wp2
 have k1:=(zo ((b1).set (.pointer none)) (.int .i64 (er)) (show w.heap.size ≠ w.heap.size + 1 by omega)).cell;have k2:=((zo (b2) (.pointer none) (show w.heap.size + 1 ≠ w.heap.size by omega)).set (.int .i64 (er))).cell;refine ⟨.tuple #[.pointer none,.int .i64 (er)],?_,⟨er,HNE.out,rfl⟩,((hb).setCell (p:=⟨w.heap.size,0,none⟩) (Nat.le_refl _) _).setCell (p:=⟨w.heap.size + 1,0,none⟩) (by simp) _⟩;simp [results,Tryz.f8,go_sem,k1,k2]
theorem new_sets (s o : ByteArray) (hE : Env w) (hs : s.size <= 1073741824) (ho1 : o.size <= 1073741824) (h0 : (rowsS (bs s)).2.2 = 0) (hbad : (setsS (bs o)).2.2 ≠ 0) : Calls Tryz.prog 8 #[.string s,.string o] w (zkg w):=by
 refine (callsIn_wide (n:=5)).1 ?_;have hro : Fence.wide.round = none:=rfl;have h1 : 1 <= 5:=(by omega);refine callsIn_of_wp_marks Tryz.func8 rfl trivial ?_ hro;simp only [Tryz.ntmps8,List.size_toArray,List.length_cons,List.length_nil,Nat.reduceAdd,Nat.reduceSub,Array.replicate_succ,Array.replicate_zero,List.push_toArray,List.append_toArray,List.nil_append,List.cons_append];have RW:=fun W (hb : Below w.heap.size w W) => zfx s W (hE.below hb) hs;have ST:=fun W (hb : Below w.heap.size w W) => zia o W (hE.below hb) ho1;obtain ⟨⟨rows,ln,e0⟩,hR⟩ : ∃ R,R = rowsS (bs s):=⟨_,rfl⟩;rw [<- hR] at RW h0;simp only [] at h0;subst h0;obtain ⟨⟨out,ln2,er⟩,hS⟩ : ∃ R,R = setsS (bs o):=⟨_,rfl⟩;rw [<- hS] at ST hbad;simp only [] at hbad;have hne : ((er : Int) != 0) = true:=(by simpa using hbad);have HNE:=hz0q hbad;clear hR hS hbad;obtain ⟨W0,hW0⟩ : ∃ W0,(w.alloc (.cells #[.pointer none] 32)).alloc (.cells #[.int .i64 0] 33) = W0:=⟨_,rfl⟩;have hB0 : Below w.heap.size w W0:=(by rw [<- hW0]; exact ((Below.refl _ w).alloc (Nat.le_refl _) _).alloc (by simp) _);have bx1 : Boxed W0 w.heap.size 32 (.pointer none):=by rw [<- hW0]; exact (Boxed.new w _ _).alloc _
 have bx2 : Boxed W0 (w.heap.size + 1) 33 (.int .i64 0):=by
  rw [<- hW0];have:=Boxed.new (w.alloc (.cells #[.pointer none] 32)) 33 (.int .i64 0);rwa [World.size_alloc] at this
 have RW0:=RW _ hB0;clear RW
 gi_wp2
 refine ⟨trivial,(callsIn_wide.2 RW0).mono ?_⟩;rintro e w1 ⟨os,A,c,ho,rfl,hat,hb1⟩;have hb:=zb hB0 hb1;have ST1:=ST _ hb;have by1:=zg bx1 hb1;have by2:=zg bx2 hb1;clear ST bx1 bx2 hat ho hb1 hB0 hW0 RW0
 gi_wp2
 refine ⟨trivial,(callsIn_wide.2 ST1).mono ?_⟩;rintro e w2 ⟨A2,c2,rfl,hown2,hb2⟩;have b1:=zg by1 hb2;have b2:=zg by2 hb2;have hbb:=zb hb hb2;have c1:=(b1).cell;have f1:=(b1).frozen;have d1:=(zo (b2) (.pointer none) (show w.heap.size + 1 ≠ w.heap.size by omega)).cell;have f2:=(zo (b2) (.pointer none) (show w.heap.size + 1 ≠ w.heap.size by omega)).frozen;clear by1 by2 hb hb2 hown2 ST1
 gi_wp2
 have k1:=(zo ((b1).set (.pointer none)) (.int .i64 (er)) (show w.heap.size ≠ w.heap.size + 1 by omega)).cell;have k2:=((zo (b2) (.pointer none) (show w.heap.size + 1 ≠ w.heap.size by omega)).set (.int .i64 (er))).cell;refine ⟨.tuple #[.pointer none,.int .i64 (er)],?_,⟨er,HNE.out,rfl⟩,((hbb).setCell (p:=⟨w.heap.size,0,none⟩) (Nat.le_refl _) _).setCell (p:=⟨w.heap.size + 1,0,none⟩) (by simp) _⟩;simp [results,Tryz.f8,go_sem,k1,k2]
theorem zh1 {w2 w3 : World} {q : Nat} (tn : Nat) (hq : q = w2.heap.size) (hT : TabAt w3 (q + 1) q 0 (fun _ => 0)) (hb : Below w2.heap.size w2 w3) (hz : w3.heap.size = q + 2) :
  ∃ W,(((((w3.alloc (.map #[] 0)).alloc (.map #[] 0)).alloc (.map #[] 0)).alloc (.map #[] 0)).alloc (.cells #[.pointer (some ⟨q + 1,0,none⟩),.map (some (q + 2)),.map (some (q + 3)),.map (some (q + 4)),.map (some (q + 5))] 81)).alloc (.cells #[.pointer (some ⟨q + 6,0,none⟩)] 32) = W /\
   TInv w2 W (q + 6) ⟨q + 1,q,q + 2,q + 3,q + 4,q + 5,tn⟩ 0 [] W /\ MkV W ⟨q + 1,q,q + 2,q + 3,q + 4,q + 5,tn⟩ 0 (fun _ => none) (fun _ => none) (fun _ => none) /\ Boxed W (q + 7) 32 (.pointer (some ⟨q + 6,0,none⟩)) /\ Below w2.heap.size w2 W /\ W.heap.size = q + 8:=by
 refine ⟨_,rfl,?_⟩;have s1 : (w3.alloc (.map #[] 0)).heap.size = q + 3:=(by rw [World.size_alloc,hz]);have s2 : ((w3.alloc (.map #[] 0)).alloc (.map #[] 0)).heap.size = q + 4:=(by rw [World.size_alloc,s1]);have s3 : (((w3.alloc (.map #[] 0)).alloc (.map #[] 0)).alloc (.map #[] 0)).heap.size = q + 5:=(by rw [World.size_alloc,s2]);have s4 : ((((w3.alloc (.map #[] 0)).alloc (.map #[] 0)).alloc (.map #[] 0)).alloc (.map #[] 0)).heap.size = q + 6:=(by rw [World.size_alloc,s3]);have m1:=MapF.made w3 Tryz.prog 21 zn R32 partV;have m2:=MapF.made (w3.alloc (.map #[] 0)) Tryz.prog 173 zc7 R32P runeV;have m3:=MapF.made ((w3.alloc (.map #[] 0)).alloc (.map #[] 0)) Tryz.prog 21 zn R32 pairV;have m4:=MapF.made (((w3.alloc (.map #[] 0)).alloc (.map #[] 0)).alloc (.map #[] 0)) Tryz.prog 21 zn R32 intV;rw [hz] at m1;rw [s1] at m2;rw [s2] at m3;rw [s3] at m4;have a3:=hb.size;have t4:=((((hT.below ((Below.refl _ _).alloc (Nat.le_refl _) (.map #[] 0))).below ((Below.refl _ _).alloc (Nat.le_refl _) (.map #[] 0))).below ((Below.refl _ _).alloc (Nat.le_refl _) (.map #[] 0))).below ((Below.refl _ _).alloc (Nat.le_refl _) (.map #[] 0)));have hb4 : Below w2.heap.size w2 ((((w3.alloc (.map #[] 0)).alloc (.map #[] 0)).alloc (.map #[] 0)).alloc (.map #[] 0)):=(((hb.alloc (by omega) _).alloc (by rw [s1]; omega) _).alloc (by rw [s2]; omega) _).alloc (by rw [s3]; omega) _;have n1:=((m1.alloc (.map #[] 0)).alloc (.map #[] 0)).alloc (.map #[] 0);have n2:=(m2.alloc (.map #[] 0)).alloc (.map #[] 0)
 have n3:=m3.alloc (.map #[] 0);clear m1 m2 m3 hT hb;generalize ((((w3.alloc (.map #[] 0)).alloc (.map #[] 0)).alloc (.map #[] 0)).alloc (.map #[] 0)) = W4 at *;have bx:=zm W4 #[.pointer (some ⟨q + 1,0,none⟩),.map (some (q + 2)),.map (some (q + 3)),.map (some (q + 4)),.map (some (q + 5))] 81;rw [s4] at bx;have s5 : (W4.alloc (.cells #[.pointer (some ⟨q + 1,0,none⟩),.map (some (q + 2)),.map (some (q + 3)),.map (some (q + 4)),.map (some (q + 5))] 81)).heap.size = q + 7:=(by rw [World.size_alloc,s4]);have by1:=Boxed.new (W4.alloc (.cells #[.pointer (some ⟨q + 1,0,none⟩),.map (some (q + 2)),.map (some (q + 3)),.map (some (q + 4)),.map (some (q + 5))] 81)) 32 (.pointer (some ⟨q + 6,0,none⟩));rw [s5] at by1;have hb6:=(hb4.alloc (by omega) (.cells #[.pointer (some ⟨q + 1,0,none⟩),.map (some (q + 2)),.map (some (q + 3)),.map (some (q + 4)),.map (some (q + 5))] 81)).alloc (by rw [s5]; omega) (.cells #[.pointer (some ⟨q + 6,0,none⟩)] 32);refine ⟨⟨zbg _ bx,?_,⟨fun _ => none,(n1.alloc _).alloc _,fun r _ => trivial⟩,Wrote.refl _ _⟩,⟨(n2.alloc _).alloc _,(n3.alloc _).alloc _,(m4.alloc _).alloc _⟩,by1,hb6,by rw [World.size_alloc,s5]⟩;exact (t4.below ((Below.refl _ _).alloc (Nat.le_refl _) _)).below ((Below.refl _ _).alloc (Nat.le_refl _) _)
end
end
section
open Go.RowKit
abbrev oneFn (q : Nat) : Value:=.func (.func 132) #[] #[.pointer (some ⟨q,0,none⟩),.pointer (some ⟨q + 1,0,none⟩),.pointer (some ⟨q + 2,0,none⟩),.pointer (some ⟨q + 3,0,none⟩)]
structure OneSt (w0 : World) (q : Nat) (bv : Value) (c : Bool) (acc : List Int) (rv : Value) (W : World) : Prop where
 hb : Below q w0 W
 b3 : Boxed W q 32 bv
 b4 : Boxed W (q + 1) 4 (.bool c)
 b7 : Boxed W (q + 2) 42 rv
 b8 : Boxed W (q + 3) 195 (oneFn q)
 own : W.ownsRow (q + 4) 21 1 rv acc.length (Rs acc)
def OneP (w0 : World) (q : Nat) (bv : Value) (c : Bool) (acc l : List Int) (rv : Value) (W : World) (e : Ending) (W' : World) : Prop :=
 ∃ rv',(∃ v,e = .returned v) /\ OneSt w0 q bv c (acc ++ l) rv' W' /\ Wrote (fun k => k = q + 2 \/ rv.ownBlock = some k) W W' /\ ∀ k,rv'.ownBlock = some k -> rv.ownBlock = some k \/ W.heap.size <= k
theorem zeg {W W' : World} {base : Nat} {e : TypeId} {v : Value} {n : Nat} {xs : List Value} (h : W.ownsRow base e 1 v n xs) (hb : ∀ g,v.ownBlock = some g -> W'.heap[g]? = W.heap[g]?) : W'.ownsRow base e 1 v n xs:=by
 refine ⟨h.1,?_⟩;rcases h.2 with hn | ⟨g,cap,cur,hv,hg,hh,rest⟩
 ·exact .inl hn
 ·exact .inr ⟨g,cap,cur,hv,hg,(hb g (by rw [hv]; rfl)).trans hh,rest⟩
section
variable {w0 : World} {q : Nat} {bv : Value} {B : BaseF} {c : Bool}
theorem OneSt.below {acc : List Int} {rv : Value} {W W' : World} (h : OneSt w0 q bv c acc rv W) (hq : q <= W.heap.size) (hb : Below W.heap.size W W') : OneSt w0 q bv c acc rv W' :=
 ⟨h.hb.trans (hb.mono hq),zg h.b3 hb,zg h.b4 hb,zg h.b7 hb,zg h.b8 hb,zas h.own hb⟩
theorem OneSt.push {acc : List Int} {rv rv' : Value} {W W3 : World} (h : OneSt w0 q bv c acc rv W) {xs : List Int} (hg : W.grownBy W3 rv.ownBlock) (hown : W3.ownsRow (q + 4) 21 1 rv' (acc ++ xs).length (Rs (acc ++ xs))) :
  OneSt w0 q bv c (acc ++ xs) rv' (W3.setCell ⟨q + 2,0,none⟩ rv'):=by
 have hl : ∀ k,rv.ownBlock = some k -> q + 4 <= k:=fun k hk => (h.own.lt k hk).1;have hn : ∀ k,k < q + 4 -> some k ≠ rv.ownBlock:=fun k hk e => by have:=hl k e.symm; omega
 have h7:=h.b7.lt;refine ⟨?_,?_,?_,?_,?_,?_⟩
 ·exact (h.hb.grown hg (by omega) (fun k hk => by have:=hl k hk; omega)).setCell (p:=⟨q + 2,0,none⟩) (by simp) _
 ·exact zo (h.b3.kept hg (hn q (by omega))) _ (by omega)
 ·exact zo (h.b4.kept hg (hn (q + 1) (by omega))) _ (by omega)
 ·exact (h.b7.kept hg (hn (q + 2) (by omega))).set _
 ·exact zo (h.b8.kept hg (hn (q + 3) (by omega))) _ (by omega)
 ·refine zeg hown fun g hg => ?_;have:=(hown.lt g hg).1;exact Below.heap_setCell W3 ⟨q + 2,0,none⟩ _ g (by simp; omega)
end
end
section
open Go.RowKit
theorem zma : ∃ j,Tryz.prog.info? 116 = some j /\ j.size = 2:=by
 have h : (Tryz.prog.info? 116).map (·.size) = some 2:=(by kernel_rfl);obtain ⟨j,hj,hs⟩:=Option.map_eq_some_iff.1 h;exact ⟨j,hj,hs⟩
def LiesB (T : TypeId) (n : Nat) : Prop:=liesAt Tryz.prog Tryz.prog.depth T (n / Tryz.prog.cellsOf T) 0 116 1 = true
theorem znv : LiesB 116 2:=by unfold LiesB; kernel_rfl
theorem check_used (b : Nat) (w : World) (h0 : w.cell? ⟨b,0,none⟩ = some (.pointer (some ⟨b,0,none⟩))) :
  Calls Tryz.prog 94 #[.pointer (some ⟨b,0,none⟩)] w fun e w' => e = .returned (.tuple #[]) /\ w = w':=by
 obtain ⟨j,hj,_⟩:=zma;go_enter Tryz.func94,Tryz.ntmps94;go_wp2;rw [Lib.run_neq_ptr_same w _ Tryz.underlying113 hj];go_wp2;go_end0;exact ⟨rfl,rfl⟩
theorem check_fresh (T : TypeId) (n b : Nat) (w : World) (hn : 0 < n) (hl : LiesB T n) (h0 : w.cell? ⟨b,0,none⟩ = some (.pointer none)) (hsh : w.shape? b = some (T,n)) (hfz : w.frozen? ⟨b,0,none⟩ = false) :
  Calls Tryz.prog 94 #[.pointer (some ⟨b,0,none⟩)] w fun e w' => e = .returned (.tuple #[]) /\ w' = w.setCell ⟨b,0,none⟩ (.pointer (some ⟨b,0,none⟩)):=by
 obtain ⟨j,hj,hjs⟩:=zma;go_enter Tryz.func94,Tryz.ntmps94;go_wp2;rw [Lib.run_to_unsafe w ⟨b,0,none⟩ Tryz.underlying113 Tryz.underlying268 hj (by rw [hjs]; decide) hsh hn];simp only [Result.andThen];rw [Oper.upon_value];go_wp2;rw [run_callFunc_extern Tryz.func142 (by kernel_rfl) (by kernel_rfl) (by kernel_rfl) (e:=Extern.AbiNoEscape.same) (by kernel_rfl)];rw [Lib.run_noEscape];simp only [Result.andThen];rw [Oper.upon_value];go_wp2;rw [Lib.run_from_unsafe w ⟨b,0,none⟩ Tryz.underlying268 Tryz.underlying113 hj hsh hl];simp only [Result.andThen];rw [Oper.upon_value];go_wp2;go_end0;exact ⟨rfl,rfl⟩
theorem bs_empty {s : ByteArray} (h : bs s = []) : s = ByteArray.empty:=ByteArray.ext (by apply Array.toList_inj.1; exact h)
structure BldM (T : TypeId) (base b : Nat) (cs : Array Value) (l : List UInt8) (w : World) : Prop where
 hx : w.heap[b]? = some (.cells cs T (0,0))
 sz : 2 <= cs.size
 p : cs[0]? = some (.pointer none) \/ cs[0]? = some (.pointer (some ⟨b,0,none⟩))
 v : ∃ v,cs[1]? = some v /\ w.ownsRow base 5 1 v l.length (Lib.byteCells l) /\ (l = [] -> v = .slice none 0 0)
 bb : base <= b
def KeptB (b : Nat) (w w' : World) : Prop:=w.heap.size <= w'.heap.size /\ ∀ k o,w.heap[k]? = some o -> k ≠ b -> (∀ cur fr,o ≠ .cells cur 5 fr) -> w'.heap[k]? = some o
theorem KeptB.refl (b : Nat) (w : World) : KeptB b w w:=⟨Nat.le_refl _,fun _ _ h _ _ => h⟩
theorem KeptB.trans {b : Nat} {w1 w2 w3 : World} (h : KeptB b w1 w2) (k : KeptB b w2 w3) : KeptB b w1 w3:=⟨Nat.le_trans h.1 k.1,fun i o h1 h2 h3 => k.2 i o (h.2 i o h1 h2 h3) h2 h3⟩
theorem KeptB.of_below {b : Nat} {w w' : World} (h : Below w.heap.size w w') : KeptB b w w':=⟨h.size,fun k o hk _ _ => (h.block k (Array.getElem?_eq_some_iff.1 hk).1).trans hk⟩
theorem KeptB.setCell (b i : Nat) (w : World) (v : Value) : KeptB b w (w.setCell ⟨b,i,none⟩ v):=⟨by simp [World.setCell],fun k o hk hne _ => (Below.heap_setCell w ⟨b,i,none⟩ v k hne).trans hk⟩
theorem KeptB.row {b base n : Nat} {w w' : World} {v : Value} {xs : List Value} (ho : w.ownsRow base 5 1 v n xs) (hg : w.grownBy w' v.ownBlock) : KeptB b w w':=by
 refine ⟨hg.size,fun k o hk _ hno => (hg.block k (Array.getElem?_eq_some_iff.1 hk).1 fun e => ?_).trans hk⟩;rcases ho.2 with ⟨rfl,_⟩ | ⟨g,cap,cur,rfl,_,hh,_⟩
 ·cases e
 ·injection e with e;subst e;rw [hh] at hk;injection hk with hk;exact hno _ _ hk.symm
theorem zr {w : World} {b i : Nat} {cs : Array Value} {T : TypeId} {fr : Nat × Nat} {v : Value} (h : w.heap[b]? = some (.cells cs T fr)) (hi : cs[i]? = some v) : w.cell? ⟨b,i,none⟩ = some v:=by
 simp [World.cell?,h,hi]
theorem zgp {w : World} {b base n : Nat} {cs : Array Value} {T e : TypeId} {fr : Nat × Nat} {v : Value} {xs : List Value} (hx : w.heap[b]? = some (.cells cs T fr)) (ho : w.ownsRow base e 1 v n xs) (hT : T ≠ e) : ∀ g,v.ownBlock = some g -> g ≠ b:=by
 intro g hg hb;subst hb;rcases ho.2 with ⟨rfl,_⟩ | ⟨g2,cap,cur,rfl,_,hh,_⟩
 ·cases hg
 ·injection hg with hg;subst hg;rw [hx] at hh;injection hh with hh;injection hh with _ hh;exact hT hh
theorem zhe (T : TypeId) (base b : Nat) (cs : Array Value) (l : List UInt8) (w : World) (h : BldM T base b cs l w) (hl : LiesB T cs.size) (hT : T ≠ 5) :
  Calls Tryz.prog 94 #[.pointer (some ⟨b,0,none⟩)] w fun e w' => e = .returned (.tuple #[]) /\ BldM T base b (cs.setIfInBounds 0 (.pointer (some ⟨b,0,none⟩))) l w' /\ KeptB b w w' /\ Below base w w':=by
 obtain ⟨hx,sz,hp,⟨v,h1,h2,h3⟩,hbb⟩:=h;rcases hp with hp | hp
 ·refine (check_fresh T cs.size b w (by omega) hl (zr hx hp) (by simp [World.shape?,hx]) (by simp [World.frozen?,hx])).mono ?_;rintro e w' ⟨rfl,rfl⟩;exact ⟨rfl,⟨zat hx 0 _,by rw [Array.size_setIfInBounds]; exact sz,.inr (by rw [Array.getElem?_setIfInBounds_self_of_lt (by omega)]),⟨v,by rw [Array.getElem?_setIfInBounds_ne (by decide)]; exact h1,zeg h2 fun g hg => Below.heap_setCell w ⟨b,0,none⟩ _ g (zgp hx h2 hT g hg),h3⟩,hbb⟩,KeptB.setCell b 0 w _,(Below.refl base w).setCell (p:=⟨b,0,none⟩) hbb _⟩
 ·refine (check_used b w (zr hx hp)).mono ?_;rintro e w' ⟨rfl,rfl⟩
  have e0 : cs.setIfInBounds 0 (.pointer (some ⟨b,0,none⟩)) = cs:=by
   apply Array.ext_getElem?;intro i;rw [Array.getElem?_setIfInBounds];split
   ·rename_i h;subst h;split
    ·rw [hp]
    ·rename_i hh; exact absurd (Array.getElem?_eq_some_iff.1 hp).1 hh
   ·rfl
  rw [e0];exact ⟨rfl,⟨hx,sz,.inr hp,⟨v,h1,h2,h3⟩,hbb⟩,KeptB.refl _ _,Below.refl _ _⟩
theorem zkd : ∃ i,Tryz.prog.info? 5 = some i /\ i.zero = some (.int .u8 0) /\ i.size = 1 /\ i.bytes = 1:=by
 have h : (Tryz.prog.info? 5).map (fun i => (i.zero,i.size,i.bytes)) = some (some (.int .u8 0),1,1):=(by kernel_rfl);obtain ⟨i,hi,h1,h2,h3⟩:=info_parts h;exact ⟨i,hi,h1,h2,h3⟩
def BldP (T : TypeId) (base b : Nat) (cs : Array Value) (l : List UInt8) (w w' : World) : Prop :=
 ∃ cs',BldM T base b cs' l w' /\ cs'.size = cs.size /\ (∀ j,2 <= j -> cs'[j]? = cs[j]?) /\ KeptB b w w' /\ Below base w w'
theorem zky {T : TypeId} {base b : Nat} {cs : Array Value} {l l' : List UInt8} {w w1 w2 : World} {v v' : Value} (hb1 : BldM T base b (cs.setIfInBounds 0 (.pointer (some ⟨b,0,none⟩))) l w1) (hk : KeptB b w w1) (hb : Below base w w1) (hT : T ≠ 5)
  (hx2 : w2.heap[b]? = some (.cells (cs.setIfInBounds 0 (.pointer (some ⟨b,0,none⟩))) T (0,0))) (hk2 : KeptB b w1 w2) (hbl : Below base w1 w2) (hown : w2.ownsRow base 5 1 v' l'.length (Lib.byteCells l')) (hnil : l' = [] -> v' = .slice none 0 0) :
  BldP T base b cs l' w (w2.setCell ⟨b,1,none⟩ v'):=by
 refine ⟨(cs.setIfInBounds 0 (.pointer (some ⟨b,0,none⟩))).setIfInBounds 1 v',⟨zat hx2 1 _,by have:=hb1.sz; simpa using this,?_,⟨v',?_,zeg hown fun g hg => Below.heap_setCell w2 ⟨b,1,none⟩ _ g (zgp hx2 hown hT g hg),hnil⟩,hb1.bb⟩,by simp,fun j hj => ?_,(hk.trans hk2).trans (KeptB.setCell b 1 w2 _),(hb.trans hbl).setCell (p:=⟨b,1,none⟩) hb1.bb _⟩
 ·have:=hb1.sz;right;rw [Array.getElem?_setIfInBounds_ne (by decide)];rcases hb1.p with h | h
  ·rw [Array.size_setIfInBounds] at this;rw [Array.getElem?_setIfInBounds_self_of_lt (by omega)]
  ·exact h
 ·have:=hb1.sz;rw [Array.getElem?_setIfInBounds_self_of_lt (by omega)]
 ·rw [Array.getElem?_setIfInBounds_ne (by omega),Array.getElem?_setIfInBounds_ne (by omega)]
theorem ziz (T : TypeId) (base b : Nat) (cs : Array Value) (l : List UInt8) (c : UInt8) (w : World) (h : BldM T base b cs l w) (hl : LiesB T cs.size) (hT : T ≠ 5) (hlen : l.length <= 1073741824) (hbw : base <= w.heap.size) :
  Calls Tryz.prog 99 #[.pointer (some ⟨b,0,none⟩),.int .u8 c.toNat] w fun e w' => e = .returned .nilIface /\ BldP T base b cs (l ++ [c]) w w':=by
 obtain ⟨i0,hi,hz0,hz1,hz2⟩:=zkd;have CC:=zhe T base b cs l w h hl hT;go_enter Tryz.func99,Tryz.ntmps99;go_wp2_with fail;refine CC.mono ?_;rintro e w1 ⟨rfl,hb1,hk1,hbe1⟩;obtain ⟨v,g1,hown,g3⟩:=hb1.v;have hsz:=hb1.sz;have c1 : w1.cell? ⟨b,1,none⟩ = some v:=zr hb1.hx g1;have hs1 : base <= w1.heap.size:=(by have:=hbe1.size; omega);have HB1:=hz0q hb1;have HG1:=hz0q g1;clear CC h hb1 g1 g3;go_wp2_with (at_builtin; refine wpList_append_own _ rfl _ _ (114) rfl base (5) i0 (.int .u8 0) 1 1 Tryz.underlying114 hi hz0 hz1 hz2 rfl (by decide) _ _ _ rfl (hown.alloc _) ⟨w1.heap.size,0,none⟩ 1 1 [.int .u8 c.toNat] rfl rfl ?c1 ?c2 ?c3 ?c4 ?c5 ?_)
 case c1 =>
  intro j u hj;match j,hj with
  | 0,hj => simp at hj; subst hj; simp [Addr.add]
 case c2 => intro u hu; simp at hu; subst hu; rfl
 case c3 => unfold maxLen; omega
 case c4 => omega
 case c5 => simp; omega
 intro v' w2 hown' hgrow _;obtain ⟨g,cap,rfl⟩:=ownsRow_succ hown';have hb:=HB1.out;have hblt:=(Array.getElem?_eq_some_iff.1 hb.hx).1
 have hx2 : w2.heap[b]? = some (.cells (cs.setIfInBounds 0 (.pointer (some ⟨b,0,none⟩))) T (0,0)):=by
  rw [hgrow.block b (by simp; omega) (fun e => zgp hb.hx hown hT b e.symm rfl)];exact (Below.heap_alloc _ _ b hblt).trans hb.hx
 have hkA : KeptB b w1 (w1.alloc (.cells #[.int .u8 c.toNat] 5)):=KeptB.of_below ((Below.refl _ _).alloc (Nat.le_refl _) _);have hk2 : KeptB b w1 w2:=hkA.trans (KeptB.row (hown.alloc _) hgrow);have hbl : Below base w1 w2:=((Below.refl base w1).alloc hs1 _).grown hgrow (by simp; omega) (fun k hk => (hown.lt k hk).1);have d1:=zr hx2 HG1.out;have f1 : w2.frozen? ⟨b,1,none⟩ = false:=(by simp [World.frozen?,hx2]);have HF:=hz0q (zky (v:=v) hb hk1 hbe1 hT hx2 hk2 hbl (v':=.slice (some ⟨g,0,none⟩) (l.length + 1) cap) (l':=l ++ [c]) (by rw [List.length_append]; simpa [Lib.byteCells] using hown') (fun e => by simp at e));clear hown hown' hgrow hk2 hkA hbl hx2 hb;go_wp2;go_returns;exact ⟨rfl,HF.out⟩
theorem zf6 (T : TypeId) (base b : Nat) (cs : Array Value) (l : List UInt8) (s : ByteArray) (w : World) (h : BldM T base b cs l w) (hl : LiesB T cs.size) (hT : T ≠ 5) (hlen : l.length <= 1073741824) (hs : s.size <= 1073741824) (hbw : base <= w.heap.size) :
  Calls Tryz.prog 45 #[.pointer (some ⟨b,0,none⟩),.string s] w fun e w' => e = .returned (.tuple #[.int .i64 s.size,.nilIface]) /\ BldP T base b cs (l ++ bs s) w w':=by
 obtain ⟨i0,hi,hz0,hz1,hz2⟩:=zkd;have CC:=zhe T base b cs l w h hl hT;go_enter Tryz.func45,Tryz.ntmps45;go_wp2_with fail;refine CC.mono ?_;rintro e w1 ⟨rfl,hb1,hk1,hbe1⟩;obtain ⟨v,g1,hown,g3⟩:=hb1.v;have hsz:=hb1.sz;have c1 : w1.cell? ⟨b,1,none⟩ = some v:=zr hb1.hx g1;have hs1 : base <= w1.heap.size:=(by have:=hbe1.size; omega);have HB1:=hz0q hb1;have HG1:=hz0q g1;clear CC h hb1 g1;go_wp2_with (at_builtin; refine Lib.wpList_append_own_string _ rfl _ _ (114) (9) rfl base (5) i0 Tryz.underlying114 Tryz.underlying9 hi hz0 hz1 hz2 _ _ _ rfl hown s rfl ?c3 ?c4 ?c5 ?_)
 case c3 => unfold maxLen; omega
 case c4 => omega
 case c5 => exact hs1
 intro v' w2 hown' hgrow hnil;have hb:=HB1.out;have hblt:=(Array.getElem?_eq_some_iff.1 hb.hx).1
 have hx2 : w2.heap[b]? = some (.cells (cs.setIfInBounds 0 (.pointer (some ⟨b,0,none⟩))) T (0,0)):=by
  rw [hgrow.block b hblt (fun e => zgp hb.hx hown hT b e.symm rfl)];exact hb.hx
 have hk2 : KeptB b w1 w2:=KeptB.row hown hgrow;have hbl : Below base w1 w2:=(Below.refl base w1).grown hgrow hs1 (fun k hk => (hown.lt k hk).1);have d1:=zr hx2 HG1.out;have f1 : w2.frozen? ⟨b,1,none⟩ = false:=by simp [World.frozen?,hx2]
 have HF:=hz0q (zky (v:=v) hb hk1 hbe1 hT hx2 hk2 hbl (v':=v') (l':=l ++ bs s) (by rw [List.length_append,zi]; simpa [Lib.byteCells,Lib.strCells,bs] using hown') (fun e => by
  obtain ⟨e1,e2⟩:=List.append_eq_nil_iff.1 e
  exact hnil.2 ⟨g3 e1,bs_empty e2⟩))
 obtain ⟨A,m,cap,rfl⟩ : ∃ A m cap,v' = .slice A m cap:=by
  rcases hown'.2 with ⟨hv,_⟩ | ⟨g,cap,cur,hv,_⟩
  ·exact ⟨_,_,_,hv⟩
  ·exact ⟨_,_,_,hv⟩
 clear hown hown' hgrow hk2 hbl hx2 hb g3 hnil;go_wp2;go_returns;exact ⟨rfl,HF.out⟩
theorem wz8 : Tryz.prog.cellsOf 5 = 1:=by kernel_rfl
theorem bstr_any (T : TypeId) (base b : Nat) (cs : Array Value) (l : List UInt8) (w : World) (h : BldM T base b cs l w) :
  Calls Tryz.prog 46 #[.pointer (some ⟨b,0,none⟩)] w fun e w' => e = .returned (.string ⟨l.toArray⟩) /\ Below base w w':=by
 obtain ⟨hx,sz,hp,⟨v,h1,hown,hnil⟩,hbb⟩:=h
 by_cases h0 : l = []
 ·subst h0
  cases hnil rfl
  have hUS : (Builtin.unsafeString_ #[215,3] 9 #[.pointer none,.int .i64 0]).run Tryz.prog w.drew = .ok (.string .empty) w.drew:=Lib.run_unsafeString_none w.drew _ _ _ none;have c1 : w.drew.cell? ⟨b,1,none⟩ = some (.slice none 0 0):=zr (w:=w.drew) hx h1;have hSD : (Builtin.unsafeSliceData_ #[114] 215 #[.slice none 0 0]).run Tryz.prog w.drew = .ok (.pointer none) w.drew:=rfl;have mixed : Tryz.prog.follows Departure.mixedOrders = true:=(by kernel_rfl);go_enter Tryz.func46,Tryz.ntmps46;go_wp2
  go_region_o
  all_goals (go_wp2; go_ret; exact ⟨rfl,Below.drew (Below.refl base w)⟩)
 ·have hl0 : l.length ≠ 0:=by simpa using h0
  obtain ⟨g,cap,cur,rfl,hbg,hg,hnc,hcm,hcs,htake⟩ : ∃ g cap cur,v = .slice (some ⟨g,0,none⟩) l.length cap /\ base <= g /\ w.heap[g]? = some (.cells cur 5 (0,0)) /\ l.length <= cap /\ cap <= maxLen /\ cur.size = cap * 1 /\ cur.toList.take (l.length * 1) = Lib.byteCells l:=by
   rcases hown.2 with ⟨_,hz⟩ | ⟨g,cap,cur,hv,r⟩
   ·exact absurd hz hl0
   ·exact ⟨g,cap,cur,hv,r⟩
  have c1 : w.drew.cell? ⟨b,1,none⟩ = some (.slice (some ⟨g,0,none⟩) l.length cap):=zr (w:=w.drew) hx h1
  have hSD : (Builtin.unsafeSliceData_ #[114] 215 #[.slice (some ⟨g,0,none⟩) l.length cap]).run Tryz.prog w.drew = .ok (.pointer (some ⟨g,0,none⟩)) w.drew :=
   Lib.run_unsafeSliceData_row _ _ _ _ _ _ (by omega)
  have hUS : (Builtin.unsafeString_ #[215,3] 9 #[.pointer (some ⟨g,0,none⟩),.int .i64 l.length]).run Tryz.prog w.drew = .ok (.string ⟨l.toArray⟩) (w.drew.freeze ⟨g,0,none⟩ l.length):=by
   refine Lib.run_unsafeString_row w.drew 215 3 9 5 Tryz.underlying215 wz8 g cur.size (by have hg' : w.drew.heap[g]? = some (.cells cur 5 (0,0)):=hg; simp [World.shape?,hg']) l h0 (by omega) (by unfold maxLen at hcm; omega) ?_;intro j x hx;have:=hown.cells (g:=g) rfl j (.int .u8 x.toNat) (by simp [Lib.byteCells,hx]);exact this
  have mixed : Tryz.prog.follows Departure.mixedOrders = true:=(by kernel_rfl);go_enter Tryz.func46,Tryz.ntmps46;go_wp2
  go_region_o
  all_goals (go_wp2; go_ret; exact ⟨rfl,Lib.below_freeze (Below.drew (Below.refl base w)) (p:=⟨g,0,none⟩) hbg _⟩)
end
section
open Go.RowKit
theorem apbad_any (base : Nat) (A : Option Addr) (n cp : Nat) (l : List UInt8) (w : World) (hn : l.length = n) (hown : w.ownsRow base 5 1 (.slice A n cp) n (Lib.byteCells l)) (hlen : n <= 1073741824) (hbw : base <= w.heap.size) :
  Calls Tryz.prog 144 #[.slice A n cp,.int .i32 65533] w fun e w' => ∃ A' c',e = .returned (.slice A' (n + 3) c') /\ w'.ownsRow base 5 1 (.slice A' (n + 3) c') (n + 3) (Lib.byteCells (l ++ badB)) /\ ∃ o,(w.alloc o).grownBy w' (Value.slice A n cp).ownBlock:=by
 have NA : Calls Tryz.prog 184 #[.slice A n cp,.int .i32 65533] w fun e w' => ∃ A' c',e = .returned (.slice A' (n + 3) c') /\ w'.ownsRow base 5 1 (.slice A' (n + 3) c') (n + 3) (Lib.byteCells (l ++ badB)) /\ ∃ o,(w.alloc o).grownBy w' (Value.slice A n cp).ownBlock:=by
  obtain ⟨i0,hi,hz0,hz1,hz2⟩:=zkd;go_enter Tryz.func184,Tryz.ntmps184;go_upto_region 7 with fail;go_wp2_with (at_builtin; refine wpList_append_own _ rfl _ _ (114) rfl base (5) i0 (.int .u8 0) 1 1 Tryz.underlying114 hi hz0 hz1 hz2 rfl (by decide) _ _ _ rfl (hown.alloc _) ⟨w.heap.size,0,none⟩ 3 3 [.int .u8 239,.int .u8 191,.int .u8 189] rfl rfl ?c1 ?c2 ?c3 ?c4 ?c5 ?_)
  case c1 =>
   intro j u hj;match j,hj with
   | 0,hj => simp at hj; subst hj; simp [Addr.add]
   | 1,hj => simp at hj; subst hj; simp [Addr.add]
   | 2,hj => simp at hj; subst hj; simp [Addr.add]
  case c2 => intro u hu; simp at hu; rcases hu with rfl | rfl | rfl <;> rfl
  case c3 => unfold maxLen; omega
  case c4 => omega
  case c5 => simp; omega
  intro v' w2 hown' hgrow _;obtain ⟨A2,c2,rfl⟩:=zbs hown'
  have HO2 : Hid (w2.ownsRow base 5 1 (.slice A2 (n + 3) c2) (n + 3) (Lib.byteCells (l ++ badB))):=by
   show w2.ownsRow _ _ _ _ _ _;simpa [Lib.byteCells] using hown'
  have HG:=hz0q hgrow;clear hown hown' hgrow;go_wp2;go_returns;exact ⟨A2,c2,rfl,HO2.out,_,HG.out⟩
 clear hown;go_enter Tryz.func144,Tryz.ntmps144;go_wp2_with fail;refine NA.mono ?_;rintro e w1 ⟨A1,c1,rfl,ho,hg⟩;have HO:=hz0q ho;have HG:=hz0q hg;clear NA ho hg;go_wp2;go_returns;exact ⟨A1,c1,rfl,HO.out,HG.out⟩
theorem zix (T : TypeId) (base b : Nat) (cs : Array Value) (l : List UInt8) (w : World) (h : BldM T base b cs l w) (hl : LiesB T cs.size) (hT : T ≠ 5) (hlen : l.length <= 1073741824) (hbw : base <= w.heap.size) :
  Calls Tryz.prog 98 #[.pointer (some ⟨b,0,none⟩),.int .i32 65533] w fun e w' => (∃ v,e = .returned v) /\ BldP T base b cs (l ++ badB) w w':=by
 obtain ⟨i0,hi,hz0,hz1,hz2⟩:=zkd;have CC:=zhe T base b cs l w h hl hT;go_enter Tryz.func98,Tryz.ntmps98;go_wp2_with fail;refine CC.mono ?_;rintro e w1 ⟨rfl,hb1,hk1,hbe1⟩;obtain ⟨v,g1,hown,g3⟩:=hb1.v;have hsz:=hb1.sz;obtain ⟨A,cp,rfl⟩:=zbs hown;have c1 : w1.cell? ⟨b,1,none⟩ = some (.slice A l.length cp):=zr hb1.hx g1;have hs1 : base <= w1.heap.size:=(by have:=hbe1.size; omega);have AP:=apbad_any base A l.length cp l w1 rfl hown hlen hs1;have HB1:=hz0q hb1;have HG1:=hz0q g1;obtain ⟨n,hn⟩ : ∃ n,n = l.length:=⟨_,rfl⟩;rw [<- hn] at c1 AP hown hlen;have HN:=hz0q hn;clear CC h hb1 g1 hn g3;go_wp2_with fail;refine AP.mono ?_;rintro e w2 ⟨A2,c2,rfl,hown',o,hgrow⟩;have hb:=HB1.out;have hblt:=(Array.getElem?_eq_some_iff.1 hb.hx).1
 have hx2 : w2.heap[b]? = some (.cells (cs.setIfInBounds 0 (.pointer (some ⟨b,0,none⟩))) T (0,0)):=by
  rw [hgrow.block b (by simp; omega) (fun e => zgp hb.hx hown hT b e.symm rfl)];exact (Below.heap_alloc _ _ b hblt).trans hb.hx
 have hkA : KeptB b w1 (w1.alloc o):=KeptB.of_below ((Below.refl _ _).alloc (Nat.le_refl _) _);have hk2 : KeptB b w1 w2:=hkA.trans (KeptB.row (hown.alloc _) hgrow);have hbl : Below base w1 w2:=((Below.refl base w1).alloc hs1 _).grown hgrow (by simp; omega) (fun k hk => (hown.lt k hk).1);have d1:=zr hx2 HG1.out;have f1 : w2.frozen? ⟨b,1,none⟩ = false:=(by simp [World.frozen?,hx2]);have HF:=hz0q (zky (v:=.slice A n cp) hb hk1 hbe1 hT hx2 hk2 hbl (v':=.slice A2 (n + 3) c2) (l':=l ++ badB) (by rw [List.length_append,<- HN.out]; exact hown') (fun e => by simp at e));have hb2:=zat hx2 1 (.slice A2 (n + 3) c2);have d3 : (w2.setCell ⟨b,1,none⟩ (.slice A2 (n + 3) c2)).cell? ⟨b,1,none⟩ = some (.slice A2 (n + 3) c2):=zr hb2 (by rw [Array.getElem?_setIfInBounds_self_of_lt (by rw [Array.size_setIfInBounds] at hsz ⊢; omega)]);clear AP hown hown' hgrow hk2 hkA hbl hx2 hb hb2;go_wp2;go_returns;exact ⟨⟨_,rfl⟩,HF.out⟩
def KeptR (w w' : World) : Prop:=w.heap.size <= w'.heap.size /\ ∀ (k : Nat) (o : Obj),w.heap[k]? = some o -> (∀ cur fr,o ≠ .cells cur 5 fr) -> w'.heap[k]? = some o
theorem KeptR.drew (w : World) : KeptR w w.drew:=⟨Nat.le_refl _,fun _ _ h _ => h⟩
theorem KeptR.freeze {w : World} {g : Nat} {cur : Array Value} {fr : Nat × Nat} (hg : w.heap[g]? = some (.cells cur 5 fr)) (n : Nat) : KeptR w (w.drew.freeze ⟨g,0,none⟩ n):=by
 unfold World.freeze;split
 ·exact KeptR.drew w
 ·refine ⟨by show _ <= (Array.modify _ _ _).size; rw [Array.size_modify]; exact Nat.le_refl _,fun k o hk hno => ?_⟩
  have hkg : g ≠ k:=by
   intro e;subst e;rw [hg] at hk;injection hk with hk;exact hno _ _ hk.symm
  show (Array.modify _ _ _)[k]? = _;rw [Array.getElem?_modify,if_neg hkg];exact hk
theorem zdg (T : TypeId) (base b : Nat) (cs : Array Value) (l : List UInt8) (w : World) (h : BldM T base b cs l w) :
  Calls Tryz.prog 46 #[.pointer (some ⟨b,0,none⟩)] w fun e w' => e = .returned (.string ⟨l.toArray⟩) /\ Below base w w' /\ KeptR w w':=by
 obtain ⟨hx,sz,hp,⟨v,h1,hown,hnil⟩,hbb⟩:=h
 by_cases h0 : l = []
 ·subst h0
  cases hnil rfl
  have hUS : (Builtin.unsafeString_ #[215,3] 9 #[.pointer none,.int .i64 0]).run Tryz.prog w.drew = .ok (.string .empty) w.drew:=Lib.run_unsafeString_none w.drew _ _ _ none;have c1 : w.drew.cell? ⟨b,1,none⟩ = some (.slice none 0 0):=zr (w:=w.drew) hx h1;have hSD : (Builtin.unsafeSliceData_ #[114] 215 #[.slice none 0 0]).run Tryz.prog w.drew = .ok (.pointer none) w.drew:=rfl;have mixed : Tryz.prog.follows Departure.mixedOrders = true:=(by kernel_rfl);go_enter Tryz.func46,Tryz.ntmps46;go_wp2
  go_region_o
  all_goals (go_wp2; go_ret; exact ⟨rfl,Below.drew (Below.refl base w),KeptR.drew w⟩)
 ·have hl0 : l.length ≠ 0:=by simpa using h0
  obtain ⟨g,cap,cur,rfl,hbg,hg,hnc,hcm,hcs,htake⟩ : ∃ g cap cur,v = .slice (some ⟨g,0,none⟩) l.length cap /\ base <= g /\ w.heap[g]? = some (.cells cur 5 (0,0)) /\ l.length <= cap /\ cap <= maxLen /\ cur.size = cap * 1 /\ cur.toList.take (l.length * 1) = Lib.byteCells l:=by
   rcases hown.2 with ⟨_,hz⟩ | ⟨g,cap,cur,hv,r⟩
   ·exact absurd hz hl0
   ·exact ⟨g,cap,cur,hv,r⟩
  have c1 : w.drew.cell? ⟨b,1,none⟩ = some (.slice (some ⟨g,0,none⟩) l.length cap):=zr (w:=w.drew) hx h1
  have hSD : (Builtin.unsafeSliceData_ #[114] 215 #[.slice (some ⟨g,0,none⟩) l.length cap]).run Tryz.prog w.drew = .ok (.pointer (some ⟨g,0,none⟩)) w.drew :=
   Lib.run_unsafeSliceData_row _ _ _ _ _ _ (by omega)
  have hUS : (Builtin.unsafeString_ #[215,3] 9 #[.pointer (some ⟨g,0,none⟩),.int .i64 l.length]).run Tryz.prog w.drew = .ok (.string ⟨l.toArray⟩) (w.drew.freeze ⟨g,0,none⟩ l.length):=by
   refine Lib.run_unsafeString_row w.drew 215 3 9 5 Tryz.underlying215 wz8 g cur.size (by have hg' : w.drew.heap[g]? = some (.cells cur 5 (0,0)):=hg; simp [World.shape?,hg']) l h0 (by omega) (by unfold maxLen at hcm; omega) ?_;intro j x hx;have:=hown.cells (g:=g) rfl j (.int .u8 x.toNat) (by simp [Lib.byteCells,hx]);exact this
  have mixed : Tryz.prog.follows Departure.mixedOrders = true:=(by kernel_rfl);go_enter Tryz.func46,Tryz.ntmps46;go_wp2
  go_region_o
  all_goals (go_wp2; go_ret; exact ⟨rfl,Lib.below_freeze (Below.drew (Below.refl base w)) (p:=⟨g,0,none⟩) hbg _,KeptR.freeze hg _⟩)
end
end Go.Proofs.YtolcabjkbefjgaaGreatDoor
