/- Lists of characters in memory: what a call hands back, and whether two of them are one (the law's own comparison). The contract of the document's answer for characters that are told one by one. Plain functions for rows of files: letters, what stands within a name, what a character is parted into. No program stands here. Rows of characters that a call owns, each in a block of its own, wherever in it they begin; append onto them. -/
import Derived.Test.YtolcabjkbefjgaaGreatDoorY02
import Derived.Shelf.Strings.SlTrimAscii
import Derived.Lib.SpaceUEq
import Derived.Shelf.Strings.OnBuilder
import Derived.Shelf.Small.Wraps
import Derived.Shelf.Strings.BuilderRune
import Derived.Shelf.Utf8.AppendRune
import Derived.Shelf.Utf8.AppendRunePlain
import Derived.Shelf.Utf8.RuneCount
import Derived.Shelf.Strings.Shaped
import Derived.Shelf.GgClosure.StringsRunes
import Derived.Shelf.Strings.SplitShaped
import Derived.Shelf.Strings.Explode
import Derived.Shelf.Strings.FieldsFuncGrows
import Derived.Shelf.Strings.BuilderCap
set_option linter.unusedSimpArgs false
set_option linter.unusedVariables false
set_option maxRecDepth 20000
set_option maxHeartbeats 4000000
namespace Go.Proofs.YtolcabjkbefjgaaGreatDoor
section
open Go.RowKit
abbrev Rs (zs : List Int) : List Value:=zs.map (Value.int .i32)
theorem zal : Elem Tryz.prog 42 21 (.int .i32 0) 4:=⟨Tryz.underlying42,by kernel_rfl,rfl⟩
def zbx (w : World) (zs : List Int) (e : Ending) (w' : World) : Prop :=
 ∃ A c,e = .returned (.slice A zs.length c) /\ w'.ownsRow w.heap.size 21 1 (.slice A zs.length c) zs.length (Rs zs) /\ Below w.heap.size w w'
theorem zbx.rd {w w' : World} {zs : List Int} {e : Ending} (h : zbx w zs e w') : ∃ A c,e = .returned (.slice A zs.length c) /\ Rd w' A zs.length (Rs zs) /\ Below w.heap.size w w':=by
 obtain ⟨A,c,he,hown,hb⟩:=h;obtain ⟨A',c',e2,_,_,hr⟩:=Rd.of_own hown;injection e2 with e2a _ _;subst e2a;exact ⟨A,c,he,hr,hb⟩
def zbo (w : World) (r : List Int × Int) (e : Ending) (w' : World) : Prop :=
 ∃ A c,e = .returned (.tuple #[.slice A r.1.length c,.int .i64 r.2]) /\ w'.ownsRow w.heap.size 21 1 (.slice A r.1.length c) r.1.length (Rs r.1) /\ Below w.heap.size w w'
theorem zbu (zs : List Int) : (Rs zs).length = zs.length:=by simp
theorem zme (zs : List Int) (k : Nat) (h : k < zs.length) : (Rs zs)[k]? = some (.int .i32 (zs[k]?.getD 0)):=by simp [h]
theorem zi2 {xs ys : List Int} {k : Nat} (h : xs.take k = ys.take k) (he : xs[k]?.getD 0 = ys[k]?.getD 0) (hx : k < xs.length) (hy : k < ys.length) : xs.take (k + 1) = ys.take (k + 1):=by
 rw [List.take_add_one,List.take_add_one,h];have h1 : xs[k]? = some xs[k]:=List.getElem?_eq_getElem hx;have h2 : ys[k]? = some ys[k]:=List.getElem?_eq_getElem hy;rw [h1,h2] at he ⊢;simp at he;rw [he]
theorem zi8 (A B : Option Addr) (n m ca cb : Nat) (xs ys : List Int) (w : World) (hx : Rd w A n (Rs xs)) (hy : Rd w B m (Rs ys)) (hn : n <= 1099511627776) (hm : m <= 1099511627776) :
  Calls Tryz.prog 17 #[.slice A n ca,.slice B m cb] w fun e w' => e = .returned (.bool (decide (xs = ys))) /\ Drew w w':=by
 have hxl : xs.length = n:=(by have:=hx.1; simpa using this);have hyl : ys.length = m:=by have:=hy.1; simpa using this
 by_cases hnm : n = m
 ·have hb : ((n : Int) != (m : Int)) = false:=(by simp [hnm]);have HNM:=hz0q hnm; clear hnm;have HXL:=hz0q hxl; clear hxl;have HYL:=hz0q hyl; clear hyl;go_enter Tryz.func17,Tryz.ntmps17;go_wp2
  go_loopw [5] (fun i wr => ∃ k : Nat,k <= n /\ i = .int .i64 k /\ xs.take k = ys.take k /\ Drew w wr) (fun i _ => n - (intOf i).toNat)
  case atStart => exact ⟨0,Nat.zero_le _,rfl,rfl,Drew.refl _⟩
  case round =>
   obtain ⟨k,hk,rfl,htk,hd⟩:=hrel;have HTK:=hz0q htk; clear htk
   by_cases hlt : k < n
   ·have hltm : k < m:=(by rw [<- HNM.out]; exact hlt);obtain ⟨b,off,rfl,hbl,hcx⟩:=(hx.drewTo hd).at_ (by omega);obtain ⟨b',off',rfl,hbl',hcy⟩:=(hy.drewTo hd).at_ (by omega);have cx:=hcx k _ (zme xs k (by rw [HXL.out]; exact hlt));have cy:=hcy k _ (zme ys k (by rw [HYL.out]; exact hltm));clear hcx hcy hx hy;have hi : (k : Int) < (n : Int):=(by omega);have hi' : (k : Int) < (m : Int):=by omega
    by_cases he : xs[k]?.getD 0 = ys[k]?.getD 0
    ·have heb : ((xs[k]?.getD 0) != (ys[k]?.getD 0)) = false:=(by simp [he]);have HE:=hz0q he; clear he;go_wp2;go_quiet (fail)
     go_wp2;go_roundw
     case rel => exact ⟨k + 1,by omega,by go_num,zi2 HTK.out HE.out (by rw [HXL.out]; exact hlt) (by rw [HYL.out]; exact hltm),hd.trans ⟨_,rfl⟩⟩
     case measure => simp [intOf]; omega
    ·have heb : ((xs[k]?.getD 0) != (ys[k]?.getD 0)) = true:=(by simp [he]);have HE:=hz0q he; clear he;go_wp2;go_quiet (fail)
     go_wp2;go_returns;exact ⟨zam (by symm; rw [decide_eq_false_iff_not]; intro hh; exact HE.out (by rw [hh])),hd.trans ⟨_,rfl⟩⟩
   ·have hkn : k = n:=(by omega);subst hkn;go_wp2;go_returns;refine ⟨zam (by symm; rw [decide_eq_true_iff]; have h:=HTK.out; rw [List.take_of_length_le (by rw [HXL.out]; exact Nat.le_refl _),List.take_of_length_le (by rw [HYL.out,<- HNM.out]; exact Nat.le_refl _)] at h; exact h),hd⟩
 ·have hb : ((n : Int) != (m : Int)) = true:=(by rw [bne_iff_ne]; omega);have HNM:=hz0q hnm; clear hnm;have HXL:=hz0q hxl; clear hxl;have HYL:=hz0q hyl; clear hyl;go_enter Tryz.func17,Tryz.ntmps17;go_wp2;go_returns;exact ⟨zam (by symm; rw [decide_eq_false_iff_not]; intro hh; exact HNM.out (by rw [<- HXL.out,<- HYL.out,hh])),Drew.refl _⟩
end
section
open Go.RowKit
def zbi : List Int -> List (List UInt8) -> List Int × Int
 | out,[] => (out,0)
 | out,w :: ws => if (hexS w).2 = 0 then zbi (out ++ [(hexS w).1]) ws else ([],(hexS w).2)
def zc6 (l : List UInt8) : List Int × Int:=zbi [] (zfn l)
theorem zgn {out : List Int} {w : List UInt8} {ws : List (List UInt8)} (h : (hexS w).2 = 0) : zbi out (w :: ws) = zbi (out ++ [(hexS w).1]) ws:=by
 simp only [zbi];rw [if_pos h]
theorem zhr {out : List Int} {w : List UInt8} {ws : List (List UInt8)} (h : ¬ (hexS w).2 = 0) : zbi out (w :: ws) = ([],(hexS w).2):=by
 simp only [zbi];rw [if_neg h]
theorem zku (l : List UInt8) : 0 <= (hexS l).1 /\ (hexS l).1 <= 1114111 /\ ((hexS l).2 = 0 \/ (hexS l).2 = 10 \/ (hexS l).2 = 11):=by
 unfold hexS;split
 ·simp
 ·split
  ·rename_i h1 h2;simp only [zaj,decide_eq_true_eq] at h2;exact ⟨by simp only []; omega,by simp only []; omega,.inl rfl⟩
  ·simp
end
section
open Go.RowKit
def letB (b : UInt8) : Bool:=decide ((65 <= b.toNat /\ b.toNat <= 90) \/ (97 <= b.toNat /\ b.toNat <= 122))
def zbp (l : List UInt8) : Bool:=l.all letB
def zd5 (r : Nat) : Bool:=decide ((r < 97 \/ 122 < r) /\ (r < 65 \/ 90 < r))
def zbf (nm en : List UInt8) : List UInt8 × Bool:=if Lib.hasPrefix nm [60] = true then (Lib.trimSuffix (nm.drop 1) en,Lib.hasSuffix (nm.drop 1) en) else ([],false)
def intoR (k s : List UInt8) : List UInt8 × List Int × Int :=
 if (zc6 s).2 ≠ 0 then ([],[],(zc6 s).2) else if 18 < (zc6 s).1.length then ([],[],11) else (k,(zc6 s).1,0)
def intoS (s : List UInt8) : List UInt8 × List Int × Int :=
 if Lib.hasPrefix s [60] = true then
  (if (Lib.cut (s.drop 1) [62]).2.2 = false \/ (Lib.cut (s.drop 1) [62]).1 = [] \/ zbp (Lib.cut (s.drop 1) [62]).1 = false \/ bareL (Lib.cut (s.drop 1) [62]).2.1 = [] then ([],[],10)
   else intoR (Lib.cut (s.drop 1) [62]).1 (Lib.cut (s.drop 1) [62]).2.1)
 else intoR [] s
structure RowS where
 fr : Int
 up : Int
 nm : List UInt8
 ct : List UInt8
 cl : Int
 kd : List UInt8
 il : List Int
def RowS.none : RowS:=⟨0,0,[],[],0,[],[]⟩
def zjj (f : List (List UInt8)) : RowS × Int :=
 if f.length < 6 then (RowS.none,10)
 else if (hexS (f.getD 0 [])).2 ≠ 0 then (RowS.none,(hexS (f.getD 0 [])).2)
 else if (decS (f.getD 3 [])).2 ≠ 0 then (RowS.none,(decS (f.getD 3 [])).2)
 else if 254 < (decS (f.getD 3 [])).1 then (RowS.none,11)
 else if (intoS (f.getD 5 [])).2.2 ≠ 0 then (RowS.none,(intoS (f.getD 5 [])).2.2)
 else (⟨(hexS (f.getD 0 [])).1,(hexS (f.getD 0 [])).1,f.getD 1 [],f.getD 2 [],(decS (f.getD 3 [])).1,(intoS (f.getD 5 [])).1,(intoS (f.getD 5 [])).2.1⟩,0)
def zae (l : List UInt8) : RowS × Int:=zjj ((cutL 59 l).map bareL)
theorem notLet_byte (b : UInt8) : zd5 b.toNat = !letB b:=by
 unfold zd5 letB;rw [Bool.eq_iff_iff];simp only [decide_eq_true_eq,Bool.not_eq_true',decide_eq_false_iff_not];omega
theorem notLet_high {x : Nat} (h : 128 <= x) : zd5 x = true:=by
 unfold zd5;rw [decide_eq_true_eq];omega
theorem zg2 (s : ByteArray) : ∀ (f pos : Nat),s.size - pos <= f -> (decide (0 <= Lib.idxFuncFrom zd5 true s f pos)) = !zbp ((bs s).drop pos)
 | f,pos,hf => by
  by_cases hp : pos < s.size
  ·obtain ⟨f,rfl⟩ : ∃ g,f = g + 1:=⟨f - 1,by omega⟩;have hd:=zcy s pos hp;unfold Lib.idxFuncFrom;rw [if_pos hp]
   by_cases ha : (s[pos]'hp).toNat < 128
   ·have hdec : Utf8.decode s pos = ((s[pos]'hp).toNat,1):=decode_ascii s pos hp ha;rw [hdec];simp only [];rw [notLet_byte]
    by_cases hl : letB (s[pos]'hp) = true
    ·rw [if_neg (by rw [hl]; simp),zg2 s f (pos + 1) (by omega),hd];simp [zbp,hl]
    ·have hl' : letB (s[pos]'hp) = false:=(by simpa using hl);rw [if_pos (by rw [hl']; rfl),hd];simp [zbp,hl']
   ·have hh:=(decode_high s pos hp (by omega)).1;rw [if_pos (notLet_high hh),hd];have hl' : letB (s[pos]'hp) = false:=(by unfold letB; rw [decide_eq_false_iff_not]; omega);simp [zbp,hl']
  ·rw [Lib.idxFuncFrom_end _ _ _ _ _ hp,List.drop_eq_nil_of_le (by rw [zi]; omega)];rfl
theorem idx_letters0 (s : ByteArray) : (decide (0 <= Lib.idxFunc zd5 true s)) = !zbp (bs s):=by
 have:=zg2 s s.size 0 (by omega);rw [List.drop_zero] at this;exact this
end
section
open Go.RowKit
def OwnG (q : Nat) (w : World) (G : Option Nat) (v : Value) (xs : List Int) : Prop :=
 (G = none /\ xs = [] /\ ∃ A,v = .slice A 0 0) \/
 ∃ g off cap,G = some g /\ v = .slice (some ⟨g,off,none⟩) xs.length cap /\ q <= g /\ xs.length <= cap /\ cap <= maxLen /\ (∃ cur,w.heap[g]? = some (.cells cur 21 (0,0))) /\
  (∀ j,j < cap -> (w.cell? ⟨g,off + j,none⟩).isSome = true) /\ ∀ j u,(Rs xs)[j]? = some u -> w.cell? ⟨g,off + j,none⟩ = some u
section
variable {q : Nat} {w w' : World} {G : Option Nat} {v : Value} {xs : List Int}
theorem OwnG.nil (q : Nat) (w : World) (A : Option Addr) : OwnG q w none (.slice A 0 0) []:=.inl ⟨rfl,rfl,A,rfl⟩
theorem OwnG.lt (h : OwnG q w G v xs) {g : Nat} (hg : G = some g) : q <= g /\ g < w.heap.size:=by
 rcases h with ⟨h,_⟩ | ⟨g',off,cap,h,_,hq,_,_,⟨cur,hh⟩,_⟩
 ·rw [h] at hg; cases hg
 ·rw [h] at hg; injection hg with hg; subst hg;exact ⟨hq,(Array.getElem?_eq_some_iff.1 hh).1⟩
theorem OwnG.shape (h : OwnG q w G v xs) : ∃ A c,v = .slice A xs.length c /\ xs.length <= c /\ c <= maxLen /\ Rd w A xs.length (Rs xs):=by
 rcases h with ⟨_,rfl,A,rfl⟩ | ⟨g,off,cap,_,rfl,hq,h1,h2,⟨cur,hh⟩,_,hc⟩
 ·exact ⟨A,0,rfl,Nat.le_refl _,Nat.zero_le _,Rd.nil w A⟩
 ·exact ⟨_,cap,rfl,h1,h2,by simp,fun h0 => ⟨g,off,rfl,fun j u hu => hc j u hu⟩⟩
theorem OwnG.blk (h : OwnG q w G v xs) (hb : ∀ g,G = some g -> w'.heap[g]? = w.heap[g]?) : OwnG q w' G v xs:=by
 rcases h with h | ⟨g,off,cap,h,hv,hq,h1,h2,⟨cur,hh⟩,h3,hc⟩
 ·exact .inl h
 ·have e:=hb g h;have ec : ∀ j,w'.cell? ⟨g,off + j,none⟩ = w.cell? ⟨g,off + j,none⟩:=fun j => World.cell?_of_block (a:=⟨g,off + j,none⟩) e;exact .inr ⟨g,off,cap,h,hv,hq,h1,h2,⟨cur,e.trans hh⟩,fun j hj => by rw [ec]; exact h3 j hj,fun j u hu => by rw [ec]; exact hc j u hu⟩
theorem OwnG.below (h : OwnG q w G v xs) (hb : Below w.heap.size w w') : OwnG q w' G v xs:=h.blk fun g hg => hb.block g (h.lt hg).2
theorem OwnG.of_own {n : Nat} (h : w.ownsRow q 21 1 v n (Rs xs)) (hn : xs.length = n) : OwnG q w v.ownBlock v xs:=by
 subst hn;rcases h.2 with ⟨hv,h0⟩ | ⟨g,cap,cur,hv,hg,hh,hnc,hcm,hcs,ht⟩
 ·have : xs = []:=List.eq_nil_of_length_eq_zero h0;subst this;subst hv;exact .nil q w none
 ·subst hv;refine .inr ⟨g,0,cap,rfl,rfl,hg,hnc,hcm,⟨cur,hh⟩,fun j hj => ?_,fun j u hu => ?_⟩
  ·rw [Nat.zero_add,cell_of_row w g j cur _ (0,0) hh,Array.getElem?_eq_getElem (by omega)];rfl
  ·rw [Nat.zero_add,cell_of_row w g j cur _ (0,0) hh];have hj:=(List.getElem?_eq_some_iff.1 hu).1;rw [<- ht,List.getElem?_take] at hu;rw [Nat.mul_one] at hu;split at hu
   ·simpa using hu
   ·cases hu
theorem OwnG.drop {g off cap : Nat} {A : Option Addr} (h : OwnG q w G (.slice (some ⟨g,off,none⟩) xs.length cap) xs) {n : Nat} (hn : n <= xs.length) : OwnG q w G (.slice (some ⟨g,off + n,none⟩) (xs.length - n) (cap - n)) (xs.drop n):=by
 have hl : (xs.drop n).length = xs.length - n:=List.length_drop;rcases h with ⟨h1,h2,A2,h3⟩ | ⟨g',off',cap',h,hv,hq,h1,h2,hcur,h3,hc⟩
 ·subst h2;injection h3 with e1 _ e3;subst e3;exact .inl ⟨h1,by simp,some ⟨g,off + n,none⟩,by simp⟩
 ·injection hv with e1 _ e3;injection e1 with e1;injection e1 with e1 e2 _;subst e1 e2 e3;refine .inr ⟨g,off + n,cap - n,h,by rw [hl],hq,by omega,by omega,hcur,fun j hj => ?_,fun j u hu => ?_⟩
  ·rw [Nat.add_assoc];exact h3 (n + j) (by omega)
  ·rw [Nat.add_assoc];refine hc (n + j) u ?_;rw [<- hu];simp [Rs]
end
theorem zd7 (g : Nat) : ∀ (vs : List Value) (o : Nat) (w : World),w.grownBy (w.setCells g o vs) (some g)
 | [],_,w => World.grownBy.refl w _
 | v :: r,o,w => by
  have h:=zd7 g r (o + 1) (w.setCell ⟨g,o,none⟩ v);refine ⟨h.os,h.tape,h.output,?_,fun k hk hne => ?_⟩
  ·have:=h.size;simpa [World.setCells,World.setCell] using this
  ·have hkg : k ≠ g:=fun e => hne (by rw [e]);exact (h.block k (by simpa [World.setCell] using hk) hne).trans (Below.heap_setCell w ⟨g,o,none⟩ v k hkg)
theorem zd9 {e : TypeId} (g : Nat) : ∀ (vs : List Value) (o : Nat) (w : World),(∃ cur,w.heap[g]? = some (.cells cur e (0,0))) -> ∃ cur,(w.setCells g o vs).heap[g]? = some (.cells cur e (0,0))
 | [],_,_,h => h
 | v :: r,o,w,⟨cur,h⟩ => zd9 g r (o + 1) _ ⟨_,by simp [World.setCell,Array.getElem?_modify,h]; rfl⟩
theorem zc3 (b : Nat) : ∀ (vs : List Value) (o : Nat) (w : World) (x : Addr),(w.cell? x).isSome = true -> ((w.setCells b o vs).cell? x).isSome = true
 | [],_,_,_,h => h
 | v :: r,o,w,x,h => by
  refine zc3 b r (o + 1) _ x ?_
  by_cases e : (⟨b,o,none⟩ : Addr) = x
  ·subst e;obtain ⟨u,hu⟩:=Option.isSome_iff_exists.1 h;rw [World.cell?_setCell_same _ _ _ hu];rfl
  ·rw [World.cell?_setCell_other _ _ _ _ e];exact h
section
variable {P : Program}
theorem run_append_none (w : World) (t ty e : TypeId) (i : TypeInfo) (ht : P.underlying t = some (.slice e)) (hi : P.info? e = some i)
  (A B : Option Addr) (n cap : Nat) (hn : n <= cap) (hA : A = none -> n = 0 /\ cap = 0) (c : Nat) : (Builtin.append_ #[t,t] ty #[.slice A n cap,.slice B 0 c]).run P w = .ok (.slice A n cap) w:=by
 cases A with
 | none =>
  obtain ⟨rfl,rfl⟩:=hA rfl
  cases B with
  | none => simp [Builtin.append_,run_underlying ht,sizeOf,typeInfo,hi,Builtin.lenOf,Builtin.firstCells]
  | some b => simp [Builtin.append_,run_underlying ht,sizeOf,typeInfo,hi,Builtin.lenOf,Builtin.firstCells,loadCells,loadCellsFrom]
 | some a =>
  cases B with
  | none => simp [Builtin.append_,run_underlying ht,sizeOf,typeInfo,hi,Builtin.lenOf,Builtin.firstCells,hn,storeCells]
  | some b => simp [Builtin.append_,run_underlying ht,sizeOf,typeInfo,hi,Builtin.lenOf,Builtin.firstCells,hn,storeCells,loadCells,loadCellsFrom]
theorem own_baseG {w : World} {B B' n : Nat} {e : TypeId} {v : Value} {xs : List Value} (h : w.ownsRow B e 1 v n xs) (hb : B' <= B) : w.ownsRow B' e 1 v n xs :=
 ⟨h.1,h.2.imp id fun ⟨g,cap,cur,hv,hg,rest⟩ => ⟨g,cap,cur,hv,Nat.le_trans hb hg,rest⟩⟩
theorem OwnG.made {q n : Nat} {w w' : World} {v : Value} {ys : List Int} (hq : q <= w.heap.size) (h : w'.ownsRow w.heap.size 21 1 v n (Rs ys)) (hn : ys.length = n) : OwnG q w' v.ownBlock v ys /\ ∀ g,v.ownBlock = some g -> w.heap.size <= g :=
 ⟨.of_own (own_baseG h hq) hn,fun g hg => (h.lt g hg).1⟩
theorem run_appG {t : TypeId} {z : Value} {bytes : Nat} (E : Elem P t 21 z bytes) (w : World) (ty : TypeId) (q : Nat)
  {G : Option Nat} {v : Value} {xs zs : List Int} (hown : OwnG q w G v xs) {A : Option Addr} {m c : Nat} (hr : Rd w A m (Rs zs)) (hm : zs.length = m)
  (h63 : xs.length + m <= 1099511627776) (hby : bytes <= 64) (hq : q <= w.heap.size) :
  ∃ A' c' w' G',(Builtin.append_ #[t,t] ty #[v,.slice A m c]).run P w = .ok (.slice A' (xs.length + m) c') w' /\ OwnG q w' G' (.slice A' (xs.length + m) c') (xs ++ zs) /\ w.grownBy w' G /\ ∀ g,G' = some g -> G = some g \/ w.heap.size <= g:=by
 obtain ⟨i,hi,hz0,hz1,hz2⟩:=info_parts E.hi;have hb : (xs.length + m) * bytes <= 140737488355328:=Nat.le_trans (Nat.mul_le_mul h63 hby) (by omega);have hml : xs.length + m <= maxLen:=(by unfold maxLen; omega);have h1 : ∀ u ∈ Rs zs,u.oneCell' = true:=zi7 .i32 zs;obtain ⟨A0,c0,hv0,hnc,hcm,hrd⟩:=hown.shape;have hlz : (xs ++ zs).length = xs.length + m:=(by rw [List.length_append,hm]);have hRz : Rs (xs ++ zs) = Rs xs ++ Rs zs:=List.map_append;rcases Nat.eq_zero_or_pos m with h0 | h0
 ·subst h0;have hz : zs = []:=List.eq_nil_of_length_eq_zero hm;subst hz;subst hv0
  have hA0 : A0 = none -> xs.length = 0 /\ c0 = 0:=fun e => by
   subst e;rcases hown with ⟨_,rfl,A,h⟩ | ⟨g,off,cap,_,h,_⟩
   ·injection h with _ _ h; exact ⟨rfl,h⟩
   ·injection h with h; cases h
  exact ⟨A0,c0,w,G,run_append_none w t ty _ i E.ht hi A0 A xs.length c0 hnc hA0 c,by simpa using hown,World.grownBy.refl w _,fun g hg => .inl hg⟩
 ·obtain ⟨b,off,rfl,hcell⟩:=hr.2 h0;have hnews : ∀ j u,(Rs zs)[j]? = some u -> w.cell? ((⟨b,off,none⟩ : Addr).add j) = some u:=fun j u hu => by rw [Addr.add_lit]; exact hcell j u hu
  have hln : (Rs zs).length = m * 1:=by rw [zbu,hm,Nat.mul_one]
  have grows : ∀ v' w',w'.ownsRow w.heap.size 21 1 v' (xs.length + m) (Rs xs ++ Rs zs) -> w.grownBy w' none -> (Builtin.append_ #[t,t] ty #[v,.slice (some ⟨b,off,none⟩) m c]).run P w = .ok v' w' ->
    ∃ A' c' w' G',(Builtin.append_ #[t,t] ty #[v,.slice (some ⟨b,off,none⟩) m c]).run P w = .ok (.slice A' (xs.length + m) c') w' /\ OwnG q w' G' (.slice A' (xs.length + m) c') (xs ++ zs) /\ w.grownBy w' G /\ ∀ g,G' = some g -> G = some g \/ w.heap.size <= g:=by
   intro v' w' ho hg hrun;obtain ⟨A',c',rfl⟩:=zbs ho;rw [<- hRz] at ho;obtain ⟨h2,h3⟩:=OwnG.made hq ho hlz;exact ⟨A',c',w',_,hrun,h2,⟨hg.os,hg.tape,hg.output,hg.size,fun k hk _ => hg.block k hk (by simp)⟩,fun g hgg => .inr (h3 g hgg)⟩
  rcases hown with ⟨rfl,rfl,A1,rfl⟩ | ⟨g,off1,cap,rfl,rfl,hqg,hn1,hc1,hcur,hsm,hcx⟩
  ·cases A1 with
   | none =>
    obtain ⟨v',w',hrun,r1,r2,_⟩:=run_append_own (P:=P) w w.heap.size t ty _ i z 1 bytes E.ht hi hz0 hz1 hz2 E.hz (by omega) (.slice none 0 0) 0 [] (World.ownsRow_nil w _ _ 1) ⟨b,off,none⟩ m c (Rs zs) hln hnews h1 (by simpa using hml) (by simpa using hb) (Nat.le_refl _);exact grows v' w' (by simpa using r1) r2 hrun
   | some a1 =>
    obtain ⟨v',w',hrun,r1,r2⟩:=run_append_arg_grows (P:=P) w t ty _ i z 1 bytes E.ht hi hz0 hz1 hz2 E.hz (by omega) a1 0 0 [] rfl (fun j u hu => by simp at hu) ⟨b,off,none⟩ m c (Rs zs) hln hnews (by omega) (by simpa using hml) (by simpa using hb);exact grows v' w' (by simpa using r1) r2 hrun
  ·by_cases hroom : xs.length + m <= cap
   ·have hfr : ∀ j,w.frozen? ⟨g,j,none⟩ = false:=fun j => by obtain ⟨cur,hh⟩:=hcur; simp [World.frozen?,hh]
    have hs2 : ∀ j,j < (Rs zs).length -> (w.cell? ⟨g,off1 + xs.length + j,none⟩).isSome = true:=fun j hj => by
     rw [Nat.add_assoc];exact hsm _ (by rw [zbu] at hj; omega)
    have hrun:=run_append_room_cells (P:=P) w t ty _ i E.ht hi g off1 xs.length cap ⟨b,off,none⟩ m c (Rs zs) (by rw [hz1]; exact hln) hnews h1 hroom (by rw [hz1,Nat.mul_one]; exact hs2) (fun j _ => hfr _);rw [hz1,Nat.mul_one] at hrun;refine ⟨_,_,_,some g,hrun,.inr ⟨g,off1,cap,rfl,by rw [hlz],hqg,by omega,hc1,zd9 g _ _ _ hcur,fun j hj => zc3 g _ _ _ _ (hsm j hj),fun j u hu => ?_⟩,zd7 g _ _ _,fun g hg => .inl hg⟩
    by_cases hj : j < xs.length
    ·rw [World.cell?_setCells_out g _ _ _ _ (fun _ _ => .inl (by show off1 + j < off1 + xs.length; omega))];refine hcx j u ?_;rw [<- hu,hRz,List.getElem?_append_left (by rw [zbu]; exact hj)]
    ·have hjl:=(List.getElem?_eq_some_iff.1 hu).1;rw [zbu,hlz] at hjl;have hj2 : j - xs.length < (Rs zs).length:=(by rw [zbu]; omega);have:=World.cell?_setCells_in g (Rs zs) (off1 + xs.length) w hs2 (j - xs.length) hj2;rw [show off1 + xs.length + (j - xs.length) = off1 + j by omega] at this;rw [this,<- hu,hRz,List.getElem?_append_right (by rw [zbu]; omega),zbu,List.getElem?_eq_getElem hj2]
   ·obtain ⟨v',w',hrun,r1,r2⟩:=run_append_arg_grows (P:=P) w t ty _ i z 1 bytes E.ht hi hz0 hz1 hz2 E.hz (by omega) ⟨g,off1,none⟩ xs.length cap (Rs xs) (by rw [zbu,Nat.mul_one]) (fun j u hu => by rw [Addr.add_lit]; exact hcx j u hu) ⟨b,off,none⟩ m c (Rs zs) hln hnews (by omega) hml hb;exact grows v' w' r1 r2 hrun
theorem zcq {t : TypeId} {z : Value} {bytes : Nat} (E : Elem P t 21 z bytes) (w : World) {ops : Array Oper} {rest : List Oper} {o : Oper} {a : Act} {Q : Exit -> Act -> World -> Prop} (hgd : o.guard = none) (s x : Operand)
  (ho : o.op = .call { callee:=.builtin .append,args:=#[s,x],argTypes:=#[t,t] }) (q : Nat)
  {G : Option Nat} {v : Value} {n : Nat} {xs zs : List Int} (hs : a.eval s = v) (hown : OwnG q w G v xs) (hn : xs.length = n) {A : Option Addr} {m c : Nat} (hx : a.eval x = .slice A m c) (hr : Rd w A m (Rs zs)) (hm : zs.length = m)
  (h63 : n + m <= 1099511627776) (hby : bytes <= 64) (hq : q <= w.heap.size)
  (h : ∀ A' c' w' G',OwnG q w' G' (.slice A' (n + m) c') (xs ++ zs) -> w.grownBy w' G -> (∀ g,G' = some g -> G = some g \/ w.heap.size <= g) ->
   wpList P ops Q rest (a.put o.dst (.slice A' (n + m) c')) w') : wpList P ops Q (o :: rest) a w:=by
 subst hn;refine wpList_plain hgd fun K hK => ?_;obtain ⟨A',c',w',G',hrun,h2,h3,h4⟩:=run_appG E w o.type q hown (c:=c) hr hm h63 hby hq;unfold Oper.wp execOp;simp only [ho,resolve,invoke,builtin,Sem.run_bind,Sem.run_pure,Result.andThen_ok,List.map_toArray,List.map_cons,List.map_nil,hs,hx,hrun];exact hK _ _ (h A' c' w' G' h2 h3 h4)
end
structure FamO (q : Nat) (w : World) (F : List (Option Nat × Value × List Int)) : Prop where
 own : ∀ (i : Nat) (a : Option Nat × Value × List Int),F[i]? = some a -> OwnG q w a.1 a.2.1 a.2.2
 apart : ∀ (i j : Nat) (a b : Option Nat × Value × List Int) (g : Nat),i ≠ j -> F[i]? = some a -> F[j]? = some b -> a.1 = some g -> b.1 = some g -> False
section
variable {q : Nat} {w w' : World} {F : List (Option Nat × Value × List Int)}
theorem FamO.nil (q : Nat) (w : World) : FamO q w []:=⟨fun i a h => by simp at h,fun i j a b g _ h => by simp at h⟩
theorem FamO.below (h : FamO q w F) (hb : Below w.heap.size w w') : FamO q w' F:=⟨fun i a ha => (h.own i a ha).below hb,h.apart⟩
theorem FamO.cons_nil (h : FamO q w F) (A : Option Addr) : FamO q w ((none,.slice A 0 0,[]) :: F):=by
 refine ⟨fun i a ha => ?_,fun i j a b g hij ha hb hga hgb => ?_⟩
 ·cases i with
  | zero => simp at ha; subst ha; exact .nil q w A
  | succ i => exact h.own i a (by simpa using ha)
 ·cases i with
  | zero => simp at ha; subst ha; cases hga
  | succ i =>
   cases j with
   | zero => simp at hb; subst hb; cases hgb
   | succ j => exact h.apart i j a b g (by omega) (by simpa using ha) (by simpa using hb) hga hgb
theorem FamO.set (h : FamO q w F) {i : Nat} {G G' : Option Nat} {v v' : Value} {xs xs' : List Int} (hi : F[i]? = some (G,v,xs))
  (hk : ∀ (j : Nat) (a : Option Nat × Value × List Int) (g : Nat),j ≠ i -> F[j]? = some a -> a.1 = some g -> w'.heap[g]? = w.heap[g]?)
  (hown : OwnG q w' G' v' xs') (hat : ∀ g,G' = some g -> G = some g \/ w.heap.size <= g) : FamO q w' (F.set i (G',v',xs')):=by
 have hil:=(List.getElem?_eq_some_iff.1 hi).1;have hlt : ∀ (j : Nat) (a : Option Nat × Value × List Int) (g : Nat),F[j]? = some a -> a.1 = some g -> g < w.heap.size:=fun j a g ha hg => ((h.own j a ha).lt hg).2
 have hnew : ∀ (j : Nat) (b : Option Nat × Value × List Int) (g : Nat),j ≠ i -> F[j]? = some b -> G' = some g -> b.1 = some g -> False:=fun j b g hj hb hg hgb => by
  rcases hat g hg with h1 | h1
  ·exact h.apart i j (G,v,xs) b g (fun e => hj e.symm) hi hb h1 hgb
  ·have:=hlt j b g hb hgb; omega
 refine ⟨fun j a ha => ?_,fun j k a b g hjk ha hb hga hgb => ?_⟩
 ·rw [List.getElem?_set] at ha
  by_cases hij : i = j
  ·rw [if_pos hij,if_pos (by omega)] at ha;injection ha with ha;subst ha;exact hown
  ·rw [if_neg hij] at ha;exact (h.own j a ha).blk fun g hg => hk j a g (fun e => hij e.symm) ha hg
 ·rw [List.getElem?_set] at ha hb
  by_cases hij : i = j
  ·rw [if_pos hij,if_pos (by omega)] at ha;injection ha with ha;subst ha;rw [if_neg (by omega)] at hb;exact hnew k b g (by omega) hb hga hgb
  ·rw [if_neg hij] at ha
   by_cases hik : i = k
   ·rw [if_pos hik,if_pos (by omega)] at hb;injection hb with hb;subst hb;exact hnew j a g (by omega) ha hgb hga
   ·rw [if_neg hik] at hb;exact h.apart j k a b g hjk ha hb hga hgb
theorem FamO.app (h : FamO q w F) {i : Nat} {G G' : Option Nat} {v v' : Value} {xs xs' : List Int} (hi : F[i]? = some (G,v,xs))
  (hown : OwnG q w' G' v' xs') (hg : w.grownBy w' G) (hat : ∀ g,G' = some g -> G = some g \/ w.heap.size <= g) : FamO q w' (F.set i (G',v',xs')) :=
 h.set hi (fun j a g hj ha hgb => hg.block g ((h.own j a ha).lt hgb).2 fun e => h.apart i j (G,v,xs) a g (fun e => hj e.symm) hi ha e.symm hgb) hown hat
theorem FamO.wrote {S : Nat -> Prop} (h : FamO q w F) {i : Nat} {G G' : Option Nat} {v v' : Value} {xs xs' : List Int} (hi : F[i]? = some (G,v,xs)) (hw : Wrote S w w')
  (hS : ∀ (j : Nat) (a : Option Nat × Value × List Int) (g : Nat),F[j]? = some a -> a.1 = some g -> S g -> G = some g)
  (hown : OwnG q w' G' v' xs') (hat : ∀ g,G' = some g -> G = some g \/ w.heap.size <= g) : FamO q w' (F.set i (G',v',xs')) :=
 h.set hi (fun j a g hj ha hgb => hw.block g ((h.own j a ha).lt hgb).2 fun hs => h.apart i j (G,v,xs) a g (fun e => hj e.symm) hi ha (hS j a g ha hgb hs) hgb) hown hat
end
theorem OwnG.not {q g : Nat} {w : World} {G : Option Nat} {v : Value} {xs : List Int} {l : Array Value} {e : TypeId} {z : Nat × Nat} (h : OwnG q w G v xs) (hg : G = some g) (hb : w.heap[g]? = some (.cells l e z)) (he : e ≠ 21) : False:=by
 rcases h with ⟨h,_⟩ | ⟨g',off,cap,h,_,_,_,_,⟨cur,hh⟩,_⟩
 ·rw [h] at hg; cases hg
 ·rw [h] at hg;injection hg with hg;subst hg;rw [hb] at hh;injection hh with hh;injection hh with _ hh _;exact he hh
end
end Go.Proofs.YtolcabjkbefjgaaGreatDoor
