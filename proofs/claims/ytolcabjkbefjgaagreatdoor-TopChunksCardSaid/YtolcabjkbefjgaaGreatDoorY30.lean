/- Order in place: what a swap does to a list and to the memory. Lists of lists whose last one grows: memory. The text that is joined, in memory. A list of texts as an argument; whether it is not too great. multi.Decode. Rows of mappings in memory; which are too many or too long; what is wrong with one. -/
import Derived.Test.YtolcabjkbefjgaaGreatDoorY27
import Derived.Test.YtolcabjkbefjgaaGreatDoorY29
import Derived.Test.YtolcabjkbefjgaaGreatDoorY26
set_option linter.unusedSimpArgs false
set_option linter.unusedVariables false
set_option maxRecDepth 20000
set_option maxHeartbeats 4000000
namespace Go.Proofs.YtolcabjkbefjgaaGreatDoor
section
open Go.RowKit Go.Sort
def midL (A : List Int) (r : Int) (T : List Int) : List Int:=A.reverse ++ r :: T
theorem midL_len (A : List Int) (r : Int) (T : List Int) : (midL A r T).length = A.length + 1 + T.length:=by simp [midL]; omega
theorem midL_swap (a r : Int) (A T : List Int) : ((midL (a :: A) r T).set A.length r).set (A.length + 1) a = midL A r (a :: T):=by
 unfold midL;rw [List.reverse_cons,List.append_assoc];simp [List.set_append]
theorem zmx (A : List Int) (r : Int) (T : List Int) : (midL A r T)[A.length]? = some r:=by
 unfold midL;rw [List.getElem?_append_right (by simp)];simp
theorem midL_ahead (a r : Int) (A T : List Int) : (midL (a :: A) r T)[A.length]? = some a:=by
 unfold midL;rw [List.reverse_cons,List.append_assoc,List.getElem?_append_right (by simp)];simp
abbrev zaf (w : World) (g off : Nat) (l : List Int) : Prop:=∀ j x,l[j]? = some x -> w.cell? ⟨g,off + j,none⟩ = some (.int .i32 x) /\ w.frozen? ⟨g,off + j,none⟩ = false
theorem zfc {w : World} {g off : Nat} {l : List Int} (h : zaf w g off l) (i : Nat) (x : Int) (hi : i < l.length) : zaf (w.setCell ⟨g,off + i,none⟩ (.int .i32 x)) g off (l.set i x):=fun j y hy => by
 have h0:=h i l[i] (List.getElem?_eq_getElem hi)
 by_cases hj : i = j
 ·subst hj;rw [List.getElem?_set_self hi] at hy;injection hy with hy;subst hy;exact ⟨World.cell?_setCell_same' w ⟨g,off + i,none⟩ _ (by rw [h0.1]; rfl),by rw [World.frozen?_setCell]; exact h0.2⟩
 ·rw [List.getElem?_set_ne hj] at hy;have h1:=h j y hy;exact ⟨by rw [World.cell?_setCell_other _ _ _ _ (by intro e; injection e with _ e; omega)]; exact h1.1,by rw [World.frozen?_setCell]; exact h1.2⟩
theorem zau {w w' : World} {g off : Nat} {l : List Int} (h : zaf w g off l) (hb : Below w.heap.size w w') : zaf w' g off l:=fun j x hx => by
 have h1:=h j x hx;have hl:=World.block_lt_of_cell? w _ h1.1;refine ⟨(hb.cell (p:=⟨g,off + j,none⟩) hl).trans h1.1,?_⟩;have hbl:=hb.block g hl;rw [<- h1.2];simp only [World.frozen?,hbl]
def OrdW (g : Nat) (w w' : World) : Prop:=Wrote (fun k => k = g) w w' /\ ∀ cs t,w.heap[g]? = some (.cells cs t (0,0)) -> ∃ cs',w'.heap[g]? = some (.cells cs' t (0,0)) /\ cs'.size = cs.size
theorem OrdW.refl (g : Nat) (w : World) : OrdW g w w:=⟨Wrote.refl _ _,fun cs t h => ⟨cs,h,rfl⟩⟩
theorem OrdW.trans {g : Nat} {a b c : World} (h : OrdW g a b) (k : OrdW g b c) : OrdW g a c:=⟨h.1.trans k.1,fun cs t hc => by
 obtain ⟨c1,h1,e1⟩:=h.2 cs t hc;obtain ⟨c2,h2,e2⟩:=k.2 c1 t h1
 exact ⟨c2,h2,e2.trans e1⟩⟩
theorem OrdW.of_below {g : Nat} {a b : World} (h : Below a.heap.size a b) : OrdW g a b:=⟨.of_below h,fun cs t hc => ⟨cs,(h.block g (Array.getElem?_eq_some_iff.1 hc).1).trans hc,rfl⟩⟩
theorem OrdW.setCell {g : Nat} (w : World) (i : Nat) (v : Value) : OrdW g w (w.setCell ⟨g,i,none⟩ v):=⟨Wrote.setCell (S:=fun k => k = g) (.inl rfl) _,fun cs t hc => ⟨_,zde hc i v,by simp⟩⟩
theorem zjl {w w' : World} {base : Nat} {g cap : Nat} {xs ys : List Int} (h : w.ownsRow base 21 1 (.slice (some ⟨g,0,none⟩) xs.length cap) xs.length (Rs xs)) (hO : OrdW g w w') (hl : ys.length = xs.length) (hY : zaf w' g 0 ys) : w'.ownsRow base 21 1 (.slice (some ⟨g,0,none⟩) ys.length cap) ys.length (Rs ys):=by
 refine ⟨by simp,?_⟩;rcases h.2 with ⟨hv,_⟩ | ⟨g',cap',cur,hv,hg,hh,hn,hm,hsz,htk⟩
 ·injection hv with hv; cases hv
 ·injection hv with hv _ hc;injection hv with hv;injection hv with hv _;subst hv hc;obtain ⟨cs',h1,h2⟩:=hO.2 _ _ hh;refine .inr ⟨g,cap,cs',rfl,hg,h1,by omega,hm,by omega,?_⟩;apply List.ext_getElem?;intro j
  by_cases hj : j < ys.length
  ·have h3:=(hY j ys[j] (List.getElem?_eq_getElem hj)).1;rw [Nat.zero_add,cell_of_row w' g j cs' _ (0,0) h1] at h3;rw [Nat.mul_one,List.getElem?_take_of_lt hj,Array.getElem?_toList,h3];simp [Rs,hj]
  ·rw [List.getElem?_eq_none (by rw [List.length_take]; omega),List.getElem?_eq_none (by simp [Rs]; omega)]
theorem zjm {w : World} {base : Nat} {g cap : Nat} {xs : List Int} (h : w.ownsRow base 21 1 (.slice (some ⟨g,0,none⟩) xs.length cap) xs.length (Rs xs)) : zaf w g 0 xs:=fun j x hx => by
 rcases h.2 with ⟨hv,_⟩ | ⟨g',cap',cur,hv,hg,hh,hn,hm,hsz,htk⟩
 ·injection hv with hv; cases hv
 ·injection hv with hv _ hc;injection hv with hv;injection hv with hv _;subst hv hc;have hj:=(List.getElem?_eq_some_iff.1 hx).1;have h2:=congrArg (fun l => l[j]?) htk;simp only [Nat.mul_one] at h2;rw [List.getElem?_take_of_lt hj,Array.getElem?_toList] at h2;have h3 : (Rs xs)[j]? = some (.int .i32 x):=(by simp [Rs,hx]);rw [Nat.zero_add,cell_of_row w g j cur _ (0,0) hh,h2,h3];exact ⟨rfl,by simp [World.frozen?,hh]⟩
end
section
open Go.RowKit
section
variable {w w' : World} {B : Nat} {os : List LA} {A : Option Addr} {c : Nat}
theorem own_setAt {n g j : Nat} {e : TypeId} {xs : List Value} (h : w.ownsRow B e 1 (.slice (some ⟨g,0,none⟩) n c) n xs) (hj : j < n) (v : Value) : (w.setCell ⟨g,j,none⟩ v).ownsRow B e 1 (.slice (some ⟨g,0,none⟩) n c) n (xs.set j v):=by
 refine ⟨by rw [List.length_set]; exact h.1,?_⟩;rcases h.2 with ⟨hh,_⟩ | ⟨g',cap,cur,hv,hB,hh,hn,hm,hs,ht⟩
 ·simp at hh
 ·simp only [Value.slice.injEq,Option.some.injEq,Addr.mk.injEq,and_true,true_and] at hv;obtain ⟨rfl,rfl⟩:=hv;refine .inr ⟨g,c,cur.setIfInBounds j v,rfl,hB,zde hh j v,hn,hm,by rw [Array.size_setIfInBounds]; exact hs,?_⟩;rw [<- ht,Array.toList_setIfInBounds,List.take_set]
end
section
variable {w w1 w5 : World} {B g c n k m : Nat} {os : List LA} {x : LA}
end
end
section
open Go.RowKit Go.Sort
structure TextM (base : Nat) (w : World) (tp : Nat) (pv : Value) (l : List Int) (A : Option Addr) (c : Nat) (hd last : Int) : Prop where
 box : w.heap[tp]? = some (.cells #[pv,.slice A l.length c,.int .i64 hd,.int .i64 last] 194 (0,0))
 own : w.ownsRow base 21 1 (.slice A l.length c) l.length (Rs l)
 tb : base <= tp
theorem zmj : (21 : TypeId) ≠ 194:=by decide
section
variable {base tp c : Nat} {w w' : World} {pv : Value} {l : List Int} {A : Option Addr} {hd last : Int}
theorem TextM.below (h : TextM base w tp pv l A c hd last) (hb : Below w.heap.size w w') : TextM base w' tp pv l A c hd last:=⟨zd h.box hb,zas h.own hb,h.tb⟩
theorem TextM.lt (h : TextM base w tp pv l A c hd last) : tp < w.heap.size:=(Array.getElem?_eq_some_iff.1 h.box).1
theorem TextM.ne (h : TextM base w tp pv l A c hd last) : ∀ g,(Value.slice A l.length c).ownBlock = some g -> g ≠ tp:=by
 intro g hg e;subst e;rcases h.own.2 with ⟨hv,_⟩ | ⟨g',cap,cur,hv,_,hh,_⟩
 ·rw [hv] at hg; cases hg
 ·rw [hv] at hg;injection hg with hg;simp only [] at hg;subst hg;have h1:=h.box;rw [hh] at h1;injection h1 with h1;injection h1 with _ h1 _;exact zmj h1
theorem zhv (h : TextM base w tp pv l A c hd last) (j : Nat) (v : Value) : (w.setCell ⟨tp,j,none⟩ v).ownsRow base 21 1 (.slice A l.length c) l.length (Rs l) :=
 zeg h.own fun g hg => Below.heap_setCell w ⟨tp,j,none⟩ v g (h.ne g hg)
theorem TextM.setHd (h : TextM base w tp pv l A c hd last) (x : Int) : TextM base (w.setCell ⟨tp,2,none⟩ (.int .i64 x)) tp pv l A c x last:=by
 refine ⟨?_,zhv h _ _,h.tb⟩;have:=zde h.box 2 (.int .i64 x);simpa using this
theorem TextM.setLast (h : TextM base w tp pv l A c hd last) (x : Int) : TextM base (w.setCell ⟨tp,3,none⟩ (.int .i64 x)) tp pv l A c hd x:=by
 refine ⟨?_,zhv h _ _,h.tb⟩;have:=zde h.box 3 (.int .i64 x);simpa using this
theorem TextM.grow {w2 : World} {A' : Option Addr} {c' : Nat} {r : Int} (h : TextM base w tp pv l A c hd last) (hown : w2.ownsRow base 21 1 (.slice A' (l.length + 1) c') (l.length + 1) (Rs l ++ [.int .i32 r])) (hg : w.grownBy w2 (Value.slice A l.length c).ownBlock) (hB : base <= w.heap.size) :
  TextM base (w2.setCell ⟨tp,1,none⟩ (.slice A' (l.length + 1) c')) tp pv (l ++ [r]) A' c' hd last:=by
 have hl : (l ++ [r]).length = l.length + 1:=(by simp);have hr : Rs (l ++ [r]) = Rs l ++ [.int .i32 r]:=(by simp [Rs]);have hb2:=zq h.box hg (fun e => h.ne tp e rfl);have h2 : TextM base w2 tp pv (l ++ [r]) A' c' hd last -> True:=fun _ => trivial;have hbox:=zde hb2 1 (.slice A' (l.length + 1) c');refine ⟨by rw [hl]; simpa using hbox,?_,h.tb⟩;rw [hl,hr];refine zeg hown fun g hg2 => Below.heap_setCell w2 ⟨tp,1,none⟩ _ g ?_;intro e;have e : g = tp:=e;subst e;rcases hown.2 with ⟨hv,_⟩ | ⟨g',cap,cur,hv,_,hh,_⟩
 ·rw [hv] at hg2; cases hg2
 ·rw [hv] at hg2;injection hg2 with hg2;simp only [] at hg2;subst hg2;rw [hh] at hb2;injection hb2 with h1;injection h1 with _ h1 _;exact zmj h1
theorem TextM.put {g k : Nat} (h : TextM base w tp pv l (some ⟨g,0,none⟩) c hd last) (hk : k < l.length) (x : Int) : TextM base (w.setCell ⟨g,k,none⟩ (.int .i32 x)) tp pv (l.set k x) (some ⟨g,0,none⟩) c hd last:=by
 have hne : tp ≠ g:=fun e => h.ne g rfl e.symm;have hl : (l.set k x).length = l.length:=List.length_set;refine ⟨?_,?_,h.tb⟩
 ·rw [hl];exact (Below.heap_setCell w ⟨g,k,none⟩ _ tp hne).trans h.box
 ·rw [hl];have h1:=own_setAt (j:=k) h.own hk (.int .i32 x);have e : (Rs l).set k (.int .i32 x) = Rs (l.set k x):=(by simp [Rs,List.map_set]);rwa [e] at h1
theorem TextM.addr (h : TextM base w tp pv l A c hd last) (h0 : 0 < l.length) : ∃ g,A = some ⟨g,0,none⟩ /\ base <= g:=by
 rcases h.own.2 with ⟨hv,h1⟩ | ⟨g',cap,cur,hv,hg,_⟩
 ·omega
 ·injection hv with hv _ _;exact ⟨g',hv,hg⟩
theorem TextM.at_ {g : Nat} (h : TextM base w tp pv l (some ⟨g,0,none⟩) c hd last) {k : Nat} {x : Int} (hx : l[k]? = some x) : w.cell? ⟨g,k,none⟩ = some (.int .i32 x) /\ w.frozen? ⟨g,k,none⟩ = false:=by
 have hk:=(List.getElem?_eq_some_iff.1 hx).1;rcases h.own.2 with ⟨hv,_⟩ | ⟨g',cap,cur,hv,_,hh,hn,hm,hs,ht⟩
 ·injection hv with hv; cases hv
 ·injection hv with hv;injection hv with hv;injection hv with hv;subst hv;refine ⟨?_,zc hh k⟩;refine za hh k ?_;have h1 : (Rs l)[k]? = some (.int .i32 x):=(by simp [Rs,hx]);rw [<- ht,List.getElem?_take,Nat.mul_one,if_pos hk] at h1;simpa using h1
end
end
section
open Go.RowKit Go.Lib
structure ArgSS (W : World) (A : Option Addr) (n : Nat) (ss : List ByteArray) : Prop where
 len : ss.length = n
 mx : n <= maxLen
 rd : Rd W A n (ss.map Value.string)
theorem ArgSS.below {w w' : World} {A : Option Addr} {n : Nat} {ss : List ByteArray} (h : ArgSS w A n ss) (hb : Below w.heap.size w w') : ArgSS w' A n ss:=⟨h.len,h.mx,h.rd.below hb⟩
theorem ArgSS.at_ {w : World} {A : Option Addr} {n : Nat} {ss : List ByteArray} (h : ArgSS w A n ss) {k : Nat} (hk : k < n) : ∃ b off s,A = some ⟨b,off,none⟩ /\ ss[k]? = some s /\ w.cell? ⟨b,off + k,none⟩ = some (.string s):=by
 obtain ⟨b,off,rfl,_,hc⟩:=h.rd.at_ (by omega);obtain ⟨s,hs⟩ : ∃ s,ss[k]? = some s:=⟨_,List.getElem?_eq_getElem (by rw [h.len]; exact hk)⟩;exact ⟨b,off,s,rfl,hs,hc k _ (by simp [hs])⟩
def SameT (w w' : World) : Prop:=w = w'
def tfewB (ss : List ByteArray) : Bool:=ss.all (fun s => decide (s.size <= 60)) && decide (ss.length <= 20)
theorem zk5 {ss : List ByteArray} (h : tfewB ss = true) : ss.length <= 20 /\ ∀ s ∈ ss,s.size <= 60:=by
 unfold tfewB at h;rw [Bool.and_eq_true,List.all_eq_true] at h;exact ⟨by simpa using h.2,fun s hs => by simpa using h.1 s hs⟩
theorem tfew_any (A : Option Addr) (n c : Nat) (ss : List ByteArray) (w : World) (h : ArgSS w A n ss) : Calls Tryz.prog 6 #[.slice A n c] w fun e w' => e = .returned (.bool (tfewB ss)) /\ w = w':=by
 obtain ⟨R,hR⟩ : ∃ R,R = tfewB ss:=⟨_,rfl⟩;rw [<- hR];have HR:=hz0q hR;have HA:=hz0q h;have hmx : n <= 9223372036854775807:=Nat.le_trans h.mx (by decide);clear h hR;go_enter Tryz.func6,Tryz.ntmps6;go_wp2_with fail
 go_loopw [3] (fun i wr => ∃ k : Nat,k <= n /\ i = .int .i64 k /\ SameT w wr /\ Hid (∀ s ∈ ss.take k,s.size <= 60)) (fun i _ => n - (intOf i).toNat)
 case atStart => exact ⟨0,Nat.zero_le _,rfl,(rfl : w = w),hz0q (fun s hs => by simp at hs)⟩
 case round =>
  obtain ⟨k,hk,rfl,hsm,HK⟩:=hrel;obtain rfl : w = wr:=hsm
  by_cases hlt : k < n
  ·have hki : (k : Int) < (n : Int):=(by omega);have hk0 : (0 : Int) <= (k : Int):=(by omega);have hwk : IntKind.i64.wrap ((k : Int) + 1) = (k : Int) + 1:=IntWalk.i64_in _ (by omega);obtain ⟨b,off,s,rfl,hs,hc⟩:=HA.out.at_ hlt;have HS:=hz0q hs
   by_cases h60 : 60 < s.size
   ·have hs6 : (60 : Int) < (s.size : Int):=by omega
    have HV : Hid (R = false):=by
     show _ = _;rw [HR.out]
     cases hh : tfewB ss
     ·rfl
     ·have:=(zk5 hh).2 s (List.mem_of_getElem? hs);omega
    clear hs;go_wp2;go_returns;rw [HV.out];exact ⟨rfl,rfl⟩
   ·have hs6 : (s.size : Int) <= 60:=by omega
    have HK2 : Hid (∀ s ∈ ss.take (k + 1),s.size <= 60):=fun x hx => by
     rw [List.take_add_one,hs] at hx;rcases List.mem_append.1 hx with h | h
     ·exact HK.out x h
     ·have : x = s:=(by simpa using h);subst this;omega
    clear hs;go_wp2;go_roundw
    case rel => exact ⟨k + 1,by omega,by go_num,(rfl : w = w),HK2⟩
    case measure => simp [intOf] <;> omega
  ·obtain rfl : k = n:=(by omega);have hki : ¬ ((k : Int) < (k : Int)):=by omega
   have HV : Hid (R = decide ((k : Int) <= 20)):=by
    show _ = _;rw [HR.out];unfold tfewB
    have h1 : ss.all (fun s => decide (s.size <= 60)) = true:=by
     rw [List.all_eq_true];intro s hs;have:=HK.out s (by rw [List.take_of_length_le (by rw [HA.out.len]; exact Nat.le_refl _)]; exact hs);simpa using this
    rw [h1,Bool.true_and,HA.out.len];exact decide_eq_decide.2 (by omega)
   go_wp2;go_returns;rw [HV.out];exact ⟨rfl,rfl⟩
end
section
open Go.RowKit Go.Lib
theorem Fs_join (a b : List (Int × Int)) : Fs a ++ Fs b = Fs (a ++ b):=by simp [Fs]
theorem KeepA.of_wrote {w w' : World} {q c : Nat} {p a : Int} {held : ByteArray} {cl : Bool} (h : DecB w q c p held a cl) (hw : Wrote (fun k => k = q) w w') : KeepA w w':=fun k cur t fr hk ht => hw.blk hk (by
 intro e;have e : k = q:=e;have h:=h;unfold DecB at h;rw [e,h] at hk;injection hk with hk;injection hk with _ hk;subst hk
 rcases ht with h | h | h <;> exact absurd h (by decide))
section
variable {base b q c nf cp : Nat} {l l' : List UInt8} {A : Option Addr} {fs : List (Int × Int)} {w w' : World} {p a : Int} {held : ByteArray} {cl : Bool}
theorem AnsM.grownN {cs : Array Value} {c' nf' : Nat} {A' : Option Addr} {fs' : List (Int × Int)} {w9 : World} (h : AnsM base b l nf A cp fs w) (hB : BldM 118 base b cs l w) (hs : cs.size = 3)
  (hown : w9.ownsRow base 128 2 (.slice A' nf' c') nf' (Fs fs')) (hl : fs'.length = nf') (hg : w.grownBy w9 (Value.slice A nf cp).ownBlock) :
  AnsM base b l nf' A' c' fs' (w9.setCell ⟨b,2,none⟩ (.slice A' nf' c')):=by
 have hty : ∀ (k : Nat) (cur : Array Value) (t : TypeId) (fr : Nat × Nat),w.heap[k]? = some (.cells cur t fr) -> t ≠ 128 -> w9.heap[k]? = some (.cells cur t fr):=fun k cur t fr hk ht => (hg.block k (Array.getElem?_eq_some_iff.1 hk).1 fun e => by
  rcases h.own.2 with ⟨hv,_⟩ | ⟨g,cap,cur2,hv,_,hh,_⟩
  ·rw [hv] at e; cases e
  ·rw [hv] at e;injection e with e;subst e;rw [hk] at hh;injection hh with hh;injection hh with _ hh
   exact ht hh).trans hk
 have hB9:=hB.keepT (w':=w9) (fun k cur t fr hk ht => hty k cur t fr hk (by rcases ht with rfl | rfl <;> decide))
 have hx9:=hB9.hx;obtain ⟨v,h1,h2,h3⟩:=hB9.v;refine ⟨⟨cs.setIfInBounds 2 (.slice A' nf' c'),⟨zat hx9 2 _,by rw [Array.size_setIfInBounds]; exact hB9.sz,?_,⟨v,?_,zeg h2 fun g hg => Below.heap_setCell w9 ⟨b,2,none⟩ _ g (zgp hx9 h2 zfl g hg),h3⟩,hB9.bb⟩,by rw [Array.size_setIfInBounds]; exact hs,?_⟩,zdw hown fun g hg => Below.heap_setCell w9 ⟨b,2,none⟩ _ g ?_,hl⟩
 ·rw [Array.getElem?_setIfInBounds_ne (by decide)]; exact hB9.p
 ·rw [Array.getElem?_setIfInBounds_ne (by decide)]; exact h1
 ·rw [Array.getElem?_setIfInBounds_self_of_lt (by omega)]
 ·intro e;have e : g = b:=e;rcases hown.2 with ⟨hv,_⟩ | ⟨g2,cap,cur2,hv,_,hh,_⟩
  ·rw [hv] at hg; cases hg
  ·rw [hv] at hg;injection hg with hg;have e2 : g2 = b:=hg.trans e;rw [e2,hx9] at hh;injection hh with hh;injection hh with _ hh;exact absurd hh (by decide)
end
theorem zio {w w' : World} {base n : Nat} {v : Value} {xs : List Value} (ho : w.ownsRow base 128 2 v n xs) (hg : w.grownBy w' v.ownBlock) : ∀ (k : Nat) (cur : Array Value) (t : TypeId) (fr : Nat × Nat),w.heap[k]? = some (.cells cur t fr) -> t ≠ 128 -> w'.heap[k]? = some (.cells cur t fr):=fun k cur t fr hk ht => (hg.block k (Array.getElem?_eq_some_iff.1 hk).1 fun e => by
 rcases ho.2 with ⟨hv,_⟩ | ⟨g,cap,cur2,hv,_,hh,_⟩
 ·rw [hv] at e; cases e
 ·rw [hv] at e;injection e with e;subst e;rw [hk] at hh;injection hh with hh;injection hh with _ hh
  exact ht hh).trans hk
theorem rdk_of_own {w : World} {base n c : Nat} {e : TypeId} {A : Option Addr} {xs : List Value} (h : w.ownsRow base e 2 (.slice A n c) n xs) : RdK w A n 2 xs:=by
 obtain ⟨A',c',hv,_,_,hr⟩:=RdK.of_own h;injection hv with h1 _ h2;subst h1 h2;exact hr
structure MdI (T : TxC) (H : HdC) (w0 : World) (q b c : Nat) (ss : List ByteArray) (i : Nat) (held : ByteArray) (l : List UInt8) (nf : Nat) (A : Option Addr) (cp : Nat) (fs : List (Int × Int)) (a : Int) (w : World) : Prop where
 dec : DecB w q c 2 held a false
 ans : AnsM w0.heap.size b l nf A cp fs w
 bel : Below w0.heap.size w0 w
 run : l ++ runC T H held (ss.drop i) = runC T H ⟨#[]⟩ ss
 many : nf + held.size <= 60 * i
 len : l.length + 200 * held.size <= 200 * (60 * i)
section
variable {T : TxC} {H : HdC} {w : World} {q c mt mh m n0 : Nat} {cs : Array Value}
theorem mdecode_any (hM : ChsM w c cs mt mh m n0 T H) (hT : GoodT T) (A : Option Addr) (n cp : Nat) (ss : List ByteArray) (hh : ArgSS w A n ss) (hn20 : n <= 20) (h60 : ∀ s ∈ ss,s.size <= 60) :
  Calls Tryz.prog 19 #[.pointer (some ⟨c,0,none⟩),.int .i64 2,.slice A n cp] w fun e w' => (∃ v,e = .returned (.tuple #[.string ⟨(runC T H ⟨#[]⟩ ss).toArray⟩,v,.int .i64 0])) /\ Below w.heap.size w w':=by
 have NW:=zlq c w;have HMW : Hid (∀ W,Below w.heap.size w W -> ChsM W c cs mt mh m n0 T H):=fun W hW => hM.below hW;have HHW : Hid (∀ W,Below w.heap.size w W -> ArgSS W A n ss):=fun W hW => hh.below hW;have HH:=hz0q hh.len;have HT:=hz0q hT;have H60:=hz0q h60;clear hM hh hT h60;go_enter Tryz.func19,Tryz.ntmps19;go_wp2_with fail;refine NW.mono ?_;rintro e w1 ⟨rfl,hD1,hb1⟩;obtain ⟨q,hq⟩ : ∃ q,w.heap.size = q:=⟨_,rfl⟩;obtain ⟨b,hbE⟩ : ∃ b,w1.heap.size = b:=⟨_,rfl⟩;obtain ⟨W2,hW2⟩ : ∃ W2,w1.alloc (.cells #[.pointer none,.slice none 0 0,.slice none 0 0] 118) = W2:=⟨_,rfl⟩;have hb2 : Below w1.heap.size w1 W2:=(by rw [<- hW2]; exact (Below.refl _ _).alloc (Nat.le_refl _) _);have hx2 : W2.heap[b]? = some (.cells #[.pointer none,.slice none 0 0,.slice none 0 0] 118 (0,0)):=(by rw [<- hW2,<- hbE]; exact zm _ _ _);have hqb : w.heap.size <= b:=(by rw [<- hbE]; exact hb1.size);have hans : AnsM w.heap.size b [] 0 none 0 [] W2:=⟨⟨_,⟨hx2,by decide,.inl rfl,⟨_,rfl,World.ownsRow_nil _ _ _ _,fun _ => rfl⟩,hqb⟩,rfl,rfl⟩,World.ownsRow_nil _ _ _ _,rfl⟩;have hD2:=zd hD1 hb2;rw [hq] at hD2;have HI0 : Hid (MdI T H w q b c ss 0 ⟨#[]⟩ [] 0 none 0 [] 0 W2):=⟨hD2,hans,zb hb1 hb2,rfl,by show 0 + 0 <= 60 * 0; omega,by show 0 + 200 * 0 <= 200 * (60 * 0); omega⟩;have HQB:=hz0q hqb;clear NW hD1 hb1 hb2 hx2 hqb hans hD2;go_wp2_with fail;have HQ:=hz0q hq;clear hW2 hbE hq
 go_loopw [30] (fun v30 wr => ∃ (i : Nat) (held : ByteArray) (l : List UInt8) (nf : Nat) (Af : Option Addr) (cf : Nat) (fs : List (Int × Int)) (a : Int),v30 = .int .i64 i /\ i <= n /\ Hid (MdI T H w q b c ss i held l nf Af cf fs a wr)) (fun v30 _ => n - (intOf v30).toNat)
 case atStart => exact ⟨0,_,_,_,_,_,_,_,rfl,Nat.zero_le _,HI0⟩
 case round =>
  obtain ⟨i,held,l,nf,Af,cf,fs,a,rfl,hin,HI⟩:=hrel;obtain ⟨wo,rfl⟩ : ∃ wo,wo = wr:=⟨wr,rfl⟩;have hmany:=HI.out.many;have hlen:=HI.out.len
  by_cases hlt : i < n
  ·have hii : (i : Int) < (n : Int):=(by omega);obtain ⟨b3,o3,s,rfl,hs,cs3⟩:=(HHW.out wo HI.out.bel).at_ hlt;have hs60:=H60.out s (List.mem_of_getElem? hs);have HS:=hz0q hs;have SA:=zlb HI.out.dec (HMW.out wo HI.out.bel) HT.out s (by omega);have hgd:=zb6 (H:=H) HT.out _ (held ++ s) (Nat.le_refl _);obtain ⟨out,hout⟩ : ∃ out,out = (stpC T H (held ++ s)).1:=⟨_,rfl⟩;obtain ⟨held',hheld⟩ : ∃ held',held' = (stpC T H (held ++ s)).2:=⟨_,rfl⟩;rw [<- hout,<- hheld] at SA hgd;have hgl:=hgd.2;rw [ByteArray.size_append] at hgl;have HOUT:=hz0q (And.intro hout hheld);clear hs hout hheld hgd;go_wp2_with fail;refine SA.mono ?_;rintro e w1 ⟨A1,n1,c1,fs1,a1,rfl,hD1,ho1,hl1,hn1,hw1⟩;have hA1:=HI.out.ans.keep (KeepA.of_wrote HI.out.dec hw1);obtain ⟨cs4,hB4,hcs4,hc4⟩:=hA1.bld;have hqlt:=(Array.getElem?_eq_some_iff.1 HI.out.dec).1;have hbl1 : Below w.heap.size w w1:=HI.out.bel.trans (hw1.below (fun k e => by have:=HQ.out; omega) HI.out.bel.size);have WS:=zf6 118 w.heap.size b cs4 l ⟨out.toArray⟩ w1 hB4 (by rw [hcs4]; exact zf0) zfl (by omega) (by show out.toArray.size <= _; simp; omega) hbl1.size;have HA1:=hz0q hA1;have HD1:=hz0q hD1;have HO1:=hz0q ho1;have HL1:=hz0q hl1;have HX4:=hz0q hB4.hx;have HC4:=hz0q (And.intro hcs4 hc4);have HB1:=hz0q hbl1;clear SA hD1 ho1 hl1 hw1 hA1 hB4 hcs4 hc4 hbl1 cs3;obtain ⟨b10,hb10⟩ : ∃ b10,b10 = b:=⟨_,rfl⟩;clear hb10 b10;go_wp2_with fail;refine WS.mono ?_;rintro e w2 ⟨rfl,hP2⟩;have hA2:=HA1.out.put HC4.out.2 HC4.out.1 hP2
   obtain ⟨cs5,_,_,_,hk2,hbe2⟩:=hP2;have hD2:=DecB.kept HD1.out hk2 HX4.out
   have ho2:=z8 HO1.out (w':=w2) (fun k cur fr hk => hk2.2 k _ hk (fun e => by
    have:=HX4.out;rw [<- e,hk] at this;injection this with this;injection this with _ this
    exact absurd this (by decide)) (fun cur' fr' e => by injection e with _ e; exact absurd e (by decide)))
   obtain ⟨cs6,hB6,hcs6,hc6⟩:=hA2.bld;have hbl2 : Below w.heap.size w w2:=HB1.out.trans hbe2;have d2:=zr hB6.hx hc6;obtain ⟨A1',c1',hv1,_,_,hrd1⟩:=RdK.of_own ho2;injection hv1 with hv1a _ hv1c;subst hv1a hv1c;have hown:=hA2.own;have hbs:=hbl2.size;have HA2:=hz0q hA2;have HD2:=hz0q hD2;have HB6:=hz0q hB6;have HC6:=hz0q (And.intro hcs6 hc6);have HB2:=hz0q hbl2;have hnn : nf + n1 <= 1099511627776:=(by omega);clear WS hA2 hD2 hB6 hcs6 hc6 hbl2 hk2 hbe2 ho2;go_wp2_with (at_builtin; refine zcp zey _ rfl _ _ rfl w.heap.size rfl hown rfl hrd1 (zoc _) hnn (by decide) hbs ?_)
   intro A5 c5 w3 hown3 hg3 hat3;have hfl : (fs ++ fs1).length = nf + n1:=(by rw [List.length_append,HA2.out.len,HL1.out]);rw [Fs_join] at hown3;have hA4:=HA2.out.grownN HB6.out HC6.out.1 hown3 hfl hg3;have hblt:=(Array.getElem?_eq_some_iff.1 HB6.out.hx).1
   have hgb : ∀ g,(Value.slice Af nf cf).ownBlock = some g -> g ≠ b /\ g ≠ q:=fun g hg => by
    rcases HA2.out.own.2 with ⟨hv,_⟩ | ⟨g2,cap2,cur2,hv,_,hh,_⟩
    ·rw [hv] at hg; cases hg
    ·rw [hv] at hg;injection hg with hg;subst hg;constructor
     ·intro e;have:=HB6.out.hx;rw [<- e,hh] at this;injection this with this;injection this with _ this;exact absurd this (by decide)
     ·intro e;have:=HD2.out;unfold DecB at this;rw [<- e,hh] at this;injection this with this;injection this with _ this;exact absurd this (by decide)
   have hx3:=(hg3.block b hblt (fun e => (hgb b e.symm).1 rfl)).trans HB6.out.hx;have hq3:=(hg3.block q (Array.getElem?_eq_some_iff.1 HD2.out).1 (fun e => (hgb q e.symm).2 rfl)).trans HD2.out
   have hbq : b ≠ q:=fun e => by
    have h1:=HB6.out.hx;have h2:=HD2.out;unfold DecB at h2;rw [e,h2] at h1;injection h1 with h1;injection h1 with _ h1;exact absurd h1 (by decide)
   have hD4:=DecB.put_other hq3 hbq (.slice A5 (nf + n1) c5);have hbl4 : Below w.heap.size w (w3.setCell ⟨b,2,none⟩ (.slice A5 (nf + n1) c5)):=(HB2.out.trans ((Below.refl _ _).grown hg3 hbs (fun k hk => (HA2.out.own.lt k hk).1))).setCell (p:=⟨b,2,none⟩) HQB.out _;have d3:=zr hx3 HC6.out.2;have f3 : w3.frozen? ⟨b,2,none⟩ = false:=by simp [World.frozen?,hx3]
   have HIN : Hid (MdI T H w q b c ss (i + 1) held' (l ++ out) (nf + n1) A5 c5 (fs ++ fs1) a1 (w3.setCell ⟨b,2,none⟩ (.slice A5 (nf + n1) c5))):=by
    refine ⟨hD4,?_,hbl4,?_,by omega,?_⟩
    ·have e1 : bs ⟨out.toArray⟩ = out:=(by simp [bs]);rw [e1] at hA4;exact hA4
    ·have h1:=HI.out.run
     have h2 : ss.drop i = s :: ss.drop (i + 1):=by
      have hl:=(List.getElem?_eq_some_iff.1 HS.out).1;rw [List.drop_eq_getElem_cons hl,(List.getElem?_eq_some_iff.1 HS.out).2]
     rw [h2] at h1;rw [List.append_assoc,HOUT.out.1,HOUT.out.2];exact h1
    ·rw [List.length_append]; omega
   clear hown3 hg3 hat3 hA4 hblt hgb hx3 hq3 hbq hD4 hbl4 hown hrd1 d2 hfl;go_wp2;go_roundw
   case rel => exact ⟨i + 1,_,_,_,_,_,_,_,by go_num,by omega,HIN⟩
   case measure => simp [intOf] <;> omega
  ·obtain rfl : i = n:=(by omega);have hii : ¬ ((i : Int) < (i : Int)):=(by omega);have FA:=zj1 HI.out.dec (by omega)
   have HEN : Hid (l ++ flsC held = runC T H ⟨#[]⟩ ss):=by
    have h1:=HI.out.run;rw [List.drop_eq_nil_of_le (by rw [HH.out]; exact Nat.le_refl _)] at h1;exact h1
   go_wp2_with fail;refine FA.mono ?_;rintro e w5 ⟨A6,n6,c6,fs6,rfl,ho6,hl6,hn6,hw6⟩;have hA5:=HI.out.ans.keep (KeepA.of_wrote HI.out.dec hw6);have hqlt:=(Array.getElem?_eq_some_iff.1 HI.out.dec).1;have hbl5 : Below w.heap.size w w5:=HI.out.bel.trans (hw6.below (fun k e => by have:=HQ.out; omega) HI.out.bel.size);obtain ⟨A6',c6',hv6,_,_,hrd6⟩:=RdK.of_own ho6;injection hv6 with hv6a _ hv6c;subst hv6a hv6c;obtain ⟨cse,hBe,hcse,hce⟩:=hA5.bld;have hBd:=hBe.keepT (w':=w5.drew) (fun k cur t fr hk _ => hk);have HB0:=hz0q hBd;have HCE:=hz0q hce;have HO0 : Hid (w5.drew.ownsRow w.heap.size 128 2 (.slice Af nf cf) nf (Fs fs)):=hz0q (z8 hA5.own (fun k cur fr hk => hk));have HO6 : Hid (w5.drew.ownsRow wo.heap.size 128 2 (.slice A6 n6 c6) n6 (Fs fs6)):=hz0q (z8 ho6 (fun k cur fr hk => hk));have HR0 : Hid (RdK w5.drew A6 n6 2 (Fs fs6)):=hz0q (hrd6.below (by decide) (Drew.to ⟨1,rfl⟩));have HS0 : Hid (w5.drew.heap[b]? = some (.cells cse 118 (0,0)) /\ Below w.heap.size w w5.drew):=⟨hBd.hx,hbl5.trans ((show Drew w5 w5.drew from ⟨1,rfl⟩).below _)⟩
   have HSZ : Hid (w.heap.size <= w5.drew.heap.size):=hbl5.size;have hfl : (flsC held).length <= 3:=by unfold flsC; split <;> simp
   have hov : ¬ (9223372036854775807 < (⟨l.toArray⟩ : ByteArray).size + (⟨(flsC held).toArray⟩ : ByteArray).size):=by
    show ¬ (9223372036854775807 < l.toArray.size + (flsC held).toArray.size);simp;omega
   have hnn : nf + n6 <= 1099511627776:=(by omega);clear FA hA5 hBe hBd hcse hce ho6 hw6 hrd6 hbl5;go_upto_region 15 with fail;refine wp_region_held_drew (S:=fun w' => w'.heap[b]? = some (.cells cse 118 (0,0)) /\ Below w.heap.size w w') (by kernel_rfl) (HS0.out) (fun hH0 => ?_);refine wpAnyH_take (i:=0) (v:=.pointer (some ⟨b,0,none⟩)) rfl (by kernel_rfl) (by kernel_rfl) (by kernel_rfl) (fun _ _ _ h => h) (Or.inl ⟨by kernel_rfl,?_⟩) hH0 ?_
   ·intro w hSw;obtain ⟨s1,s2⟩:=hSw;have s3:=zr s1 HCE.out;go_simp
    all_goals try first | with_reducible rfl | omega
   try simp only [gA,gB,gC,Act.put,gD,gE,gF]
   refine wpAnyH_take (i:=2) (v:=.string ⟨(flsC held).toArray⟩) rfl (by kernel_rfl) (by kernel_rfl) (by kernel_rfl) (fun _ _ _ h => h) (Or.inl ⟨by kernel_rfl,?_⟩) hH0 ?_
   ·intro w hSw;obtain ⟨s1,s2⟩:=hSw;have s3:=zr s1 HCE.out;go_simp
    all_goals try first | with_reducible rfl | omega
   try simp only [gA,gB,gC,Act.put,gD,gE,gF]
   refine wpAnyH_take (i:=4) (v:=.pointer (some ⟨b,2,none⟩)) rfl (by kernel_rfl) (by kernel_rfl) (by kernel_rfl) (fun _ _ _ h => h) (Or.inl ⟨by kernel_rfl,?_⟩) hH0 ?_
   ·intro w hSw;obtain ⟨s1,s2⟩:=hSw;have s3:=zr s1 HCE.out;go_simp
    all_goals try first | with_reducible rfl | omega
   try simp only [gA,gB,gC,Act.put,gD,gE,gF]
   refine wpAnyH_take (i:=5) (v:=.slice Af nf cf) rfl (by kernel_rfl) (by kernel_rfl) (by kernel_rfl) (fun _ _ _ h => h) (Or.inl ⟨by kernel_rfl,?_⟩) hH0 ?_
   ·intro w hSw;obtain ⟨s1,s2⟩:=hSw;have s3:=zr s1 HCE.out;go_simp
    all_goals try first | with_reducible rfl | omega
   try simp only [gA,gB,gC,Act.put,gD,gE,gF]
   refine wpAnyH_take (i:=6) (v:=.slice A6 n6 c6) rfl (by kernel_rfl) (by kernel_rfl) (by kernel_rfl) (fun _ _ _ h => h) (Or.inl ⟨by kernel_rfl,?_⟩) hH0 ?_
   ·intro w hSw;obtain ⟨s1,s2⟩:=hSw;have s3:=zr s1 HCE.out;go_simp
    all_goals try first | with_reducible rfl | omega
   try simp only [gA,gB,gC,Act.put,gD,gE,gF]
   refine wpAnyH_take (i:=8) (v:=.int .i64 0) rfl (by kernel_rfl) (by kernel_rfl) (by kernel_rfl) (fun _ _ _ h => h) (Or.inl ⟨by kernel_rfl,?_⟩) hH0 ?_
   ·intro w hSw;obtain ⟨s1,s2⟩:=hSw;have s3:=zr s1 HCE.out;go_simp
    all_goals try first | with_reducible rfl | omega
   try simp only [gA,gB,gC,Act.put,gD,gE,gF]
   refine wpAnyH_ready (rs:=[1]) (by kernel_rfl) (by simp) ?_;refine AllReadyH.cons rfl (fun K hK => ?_) AllReadyH.nil;go_simp
   refine (zdg 118 w.heap.size b cse l _ (by first | exact HB0.out | exact HB9.out)).mono ?_;rintro e w50 ⟨rfl,hbe,hke⟩;refine hK.out _ _ (by first | exact ⟨hke.2 _ _ hH0.1 (fun cur fr e => by injection e with _ e; exact absurd e (by decide)),hH0.2.trans hbe⟩ | exact ⟨hke.2 _ _ hH1.1 (fun cur fr e => by injection e with _ e; exact absurd e (by decide)),hH1.2.trans hbe⟩) (fun hH1 => ?_)
   clear hK K hH0;try simp only [gA,gB,gC,Act.put,gD,gE,gF]
   refine wpAnyH_take (i:=3) (v:=.string (⟨l.toArray⟩ ++ ⟨(flsC held).toArray⟩)) rfl (by kernel_rfl) (by kernel_rfl) (by kernel_rfl) (fun _ _ _ h => h) (Or.inl ⟨by kernel_rfl,?_⟩) hH1 ?_
   ·intro w hSw;obtain ⟨s1,s2⟩:=hSw;have s3:=zr s1 HCE.out;go_simp
    all_goals try first | with_reducible rfl | omega
   try simp only [gA,gB,gC,Act.put,gD,gE,gF]
   refine wpAnyH_ready (rs:=[7]) (by kernel_rfl) (by simp) ?_;refine AllReadyH.cons rfl (fun K hK => ?_) AllReadyH.nil;refine zgg zey _ rfl (.tmp 68) (.tmp 69) rfl w.heap.size rfl (by first | exact HO0.out | exact z8 HO0.out (fun k cur fr hk => hke.2 k _ hk (fun cur' fr' e => by injection e with _ e; exact absurd e (by decide)))) rfl (by first | exact HR0.out | exact rdk_of_own (z8 HO6.out (fun k cur fr hk => hke.2 k _ hk (fun cur' fr' e => by injection e with _ e; exact absurd e (by decide))))) (zoc _) hnn (by decide) (by first | exact HSZ.out | exact Nat.le_trans HSZ.out hke.1) ?_
   intro A5 c5 w9 hown9 hg9 hat9;try have HB9 : Hid (BldM 118 w.heap.size b cse l w9):=hz0q (HB0.out.keepT (fun k cur t fr hk ht => zio HO0.out hg9 k cur t fr hk (by rcases ht with rfl | rfl <;> decide)))
   refine hK.out _ _ (by first | exact ⟨zio HO0.out hg9 _ _ _ _ hH0.1 (by decide),hH0.2.grown hg9 hH0.2.size (fun k hk => (HO0.out.lt k hk).1)⟩ | exact ⟨zio (z8 HO0.out (fun k cur fr hk => hke.2 k _ hk (fun cur' fr' e => by injection e with _ e; exact absurd e (by decide)))) hg9 _ _ _ _ hH1.1 (by decide),hH1.2.grown hg9 hH1.2.size (fun k hk => (HO0.out.lt k hk).1)⟩) (fun hH2 => ?_)
   clear hK K hH1;try simp only [gA,gB,gC,Act.put,gD,gE,gF]
   refine wpAnyH_take (i:=9) (v:=.string (⟨l.toArray⟩ ++ ⟨(flsC held).toArray⟩)) rfl (by kernel_rfl) (by kernel_rfl) (by kernel_rfl) (fun _ _ _ h => h) (Or.inl ⟨by kernel_rfl,?_⟩) hH2 ?_
   ·intro w hSw;obtain ⟨s1,s2⟩:=hSw;have s3:=zr s1 HCE.out;go_simp
    all_goals try first | with_reducible rfl | omega
   try simp only [gA,gB,gC,Act.put,gD,gE,gF]
   refine wpAnyH_take (i:=10) (v:=.slice A5 (nf + n6) c5) rfl (by kernel_rfl) (by kernel_rfl) (by kernel_rfl) (fun _ _ _ h => h) (Or.inl ⟨by kernel_rfl,?_⟩) hH2 ?_
   ·intro w hSw;obtain ⟨s1,s2⟩:=hSw;have s3:=zr s1 HCE.out;go_simp
    all_goals try first | with_reducible rfl | omega
   try simp only [gA,gB,gC,Act.put,gD,gE,gF]
   refine wpAnyH_take (i:=11) (v:=.int .i64 0) rfl (by kernel_rfl) (by kernel_rfl) (by kernel_rfl) (fun _ _ _ h => h) (Or.inl ⟨by kernel_rfl,?_⟩) hH2 ?_
   ·intro w hSw;obtain ⟨s1,s2⟩:=hSw;have s3:=zr s1 HCE.out;go_simp
    all_goals try first | with_reducible rfl | omega
   try simp only [gA,gB,gC,Act.put,gD,gE,gF]
   refine wpAnyH_done (by kernel_rfl) ?_ _;have HF:=hz0q hH2.2;clear hH2 hbe hke hown9 hg9 hat9;go_wp2;go_returns;have e1 : (⟨l.toArray⟩ ++ ⟨(flsC held).toArray⟩ : ByteArray) = ⟨(l ++ flsC held).toArray⟩:=ByteArray.ext (by simp);rw [e1,HEN.out];exact ⟨⟨_,rfl⟩,HF.out⟩
end
end
section
open Go.RowKit Go.Lib
structure MR where
 cd : ByteArray
 tx : ByteArray
 fl : Int
abbrev mrC (r : MR) : Array Value:=#[.string r.cd,.string r.tx,.int .i64 r.fl]
abbrev mrV (r : MR) : Value:=.agg (mrC r)
def MRs (rs : List MR) : List Value:=rs.flatMap fun r => [.string r.cd,.string r.tx,.int .i64 r.fl]
theorem MRs_get {rs : List MR} {j : Nat} {r : MR} (h : rs[j]? = some r) : (MRs rs)[j * 3]? = some (.string r.cd) /\ (MRs rs)[j * 3 + 1]? = some (.string r.tx) /\ (MRs rs)[j * 3 + 2]? = some (.int .i64 r.fl):=by
 induction rs generalizing j with
 | nil => simp at h
 | cons f t ih =>
  cases j with
  | zero =>
   simp only [List.getElem?_cons_zero] at h;injection h with h;subst h;exact ⟨rfl,rfl,rfl⟩
  | succ j =>
   have:=ih (j:=j) (by simpa using h);rw [show (j + 1) * 3 = j * 3 + 1 + 1 + 1 by omega];exact this
structure ArgMR (W : World) (A : Option Addr) (n : Nat) (rs : List MR) : Prop where
 len : rs.length = n
 mx : n <= maxLen
 rd : RdK W A n 3 (MRs rs)
theorem ArgMR.below {w w' : World} {A : Option Addr} {n : Nat} {rs : List MR} (h : ArgMR w A n rs) (hb : Below w.heap.size w w') : ArgMR w' A n rs:=⟨h.len,h.mx,h.rd.below (by decide) hb⟩
theorem ArgMR.at_ {w : World} {A : Option Addr} {n : Nat} {rs : List MR} (h : ArgMR w A n rs) {k : Nat} (hk : k < n) : ∃ b off r,A = some ⟨b,off,none⟩ /\ rs[k]? = some r /\ w.cell? ⟨b,off + k * 3,none⟩ = some (.string r.cd) /\ w.cell? ⟨b,off + k * 3 + 1,none⟩ = some (.string r.tx) /\ w.cell? ⟨b,off + k * 3 + 2,none⟩ = some (.int .i64 r.fl):=by
 obtain ⟨b,off,rfl,_,hc⟩:=h.rd.at_ (by decide) (by omega);obtain ⟨r,hr⟩ : ∃ r,rs[k]? = some r:=⟨_,List.getElem?_eq_getElem (by rw [h.len]; exact hk)⟩;obtain ⟨h0,h1,h2⟩:=MRs_get hr;have c1:=hc _ _ h1;have c2:=hc _ _ h2;rw [<- Nat.add_assoc] at c1 c2;exact ⟨b,off,r,rfl,hr,hc _ _ h0,c1,c2⟩
def zft (rs : List MR) : Bool:=rs.all (fun r => decide (r.cd.size <= 200 /\ r.tx.size <= 200)) && decide (rs.length <= 40)
theorem zg9 {rs : List MR} (h : zft rs = true) : rs.length <= 40 /\ ∀ r ∈ rs,r.cd.size <= 200 /\ r.tx.size <= 200:=by
 unfold zft at h;rw [Bool.and_eq_true,List.all_eq_true] at h;exact ⟨of_decide_eq_true h.2,fun r hr => of_decide_eq_true (h.1 r hr)⟩
section
variable {w : World}
theorem few17_any (A : Option Addr) (n c : Nat) (rs : List MR) (hh : ArgMR w A n rs) : Calls Tryz.prog 43 #[.slice A n c] w fun e w' => e = .returned (.bool (zft rs)) /\ SameT w w':=by
 obtain ⟨R,hR⟩ : ∃ R,R = zft rs:=⟨_,rfl⟩;rw [<- hR];have HR:=hz0q hR;have HL:=hz0q hh.len;have HH:=hz0q hh;have hmx : n <= 9223372036854775807:=Nat.le_trans hh.mx (by decide);clear hR hh;go_enter Tryz.func43,Tryz.ntmps43;go_wp2
 go_loopw [3] (fun i wr => ∃ k : Nat,k <= n /\ i = .int .i64 k /\ Hid ((rs.take k).all (fun r => decide (r.cd.size <= 200 /\ r.tx.size <= 200)) = true) /\ SameT w wr) (fun i _ => n - (intOf i).toNat)
 case atStart => exact ⟨0,Nat.zero_le _,rfl,by show _ = _; rfl,(rfl : w = w)⟩
 case round =>
  obtain ⟨k,hk,rfl,HA,hsm⟩:=hrel;obtain rfl : w = wr:=hsm
  by_cases hlt : k < n
  ·obtain ⟨b,off,r,rfl,hr,c0,c1,c2⟩:=HH.out.at_ hlt;have hi : (k : Int) < (n : Int):=(by omega);have hwk : IntKind.i64.wrap ((k : Int) + 1) = (k : Int) + 1:=IntWalk.i64_in _ (by omega);have HRR:=hz0q hr;clear hr
   by_cases h1 : r.cd.size <= 200
   ·have q1 : ¬ ((200 : Int) < (r.cd.size : Int)):=by omega
    by_cases h2 : r.tx.size <= 200
    ·have q2 : ¬ ((200 : Int) < (r.tx.size : Int)):=by omega
     have HT : Hid ((rs.take (k + 1)).all (fun r => decide (r.cd.size <= 200 /\ r.tx.size <= 200)) = true):=by
      show _ = _;rw [List.take_add_one,HRR.out,List.all_append,HA.out];simp [h1,h2]
     clear h1 h2 HA;go_wp2;go_roundw
     case rel => exact ⟨k + 1,by omega,by go_num,HT,(rfl : w = w)⟩
     case measure => simp [intOf] <;> omega
    ·have q2 : (200 : Int) < (r.tx.size : Int):=by omega
     have HF : Hid (R = false):=by
      show _ = _;rw [HR.out]
      cases hf : zft rs with
      | false => rfl
      | true => exact absurd ((zg9 hf).2 r (List.mem_of_getElem? HRR.out)).2 h2
     clear h1 h2 HA;go_wp2;go_returns;rw [HF.out];exact ⟨rfl,rfl⟩
   ·have q1 : (200 : Int) < (r.cd.size : Int):=by omega
    have HF : Hid (R = false):=by
     show _ = _;rw [HR.out]
     cases hf : zft rs with
     | false => rfl
     | true => exact absurd ((zg9 hf).2 r (List.mem_of_getElem? HRR.out)).1 h1
    clear h1 HA;go_wp2;go_returns;rw [HF.out];exact ⟨rfl,rfl⟩
  ·obtain rfl : k = n:=(by omega);have hi : ¬ ((k : Int) < (k : Int)):=by omega
   have HZ : Hid (R = decide ((k : Int) <= 40)):=by
    show _ = _;have h1:=HA.out;rw [List.take_of_length_le (by rw [HL.out]; exact Nat.le_refl _)] at h1;rw [HR.out];unfold zft;rw [h1,HL.out,Bool.true_and];exact decide_eq_decide.2 (by omega)
   clear HA;go_wp2;go_returns;rw [HZ.out];exact ⟨rfl,rfl⟩
def MchkP (r : MR) (w : World) (e : Ending) (w' : World) : Prop:=(∃ k : Int,e = .returned (.int .i64 k) /\ (k = 0 -> (1 <= r.cd.size /\ r.cd.size <= 4) /\ zai (bs r.tx) = true)) /\ Below w.heap.size w w'
abbrev TabsU (w : World) : Prop:=Lib.Utf8Tabs 2 3 w
theorem mcheck_any (r : MR) (h2 : r.tx.size <= 200) (hT : Hid (∀ W,Below w.heap.size w W -> TabsU W)) : Calls Tryz.prog 134 #[mrV r] w (MchkP r w):=by
 obtain ⟨cd,tx,fl⟩:=r;obtain ⟨Wb,hWb⟩ : ∃ Wb,w.alloc (.cells (mrC ⟨cd,tx,fl⟩) 197) = Wb:=⟨_,rfl⟩;have hbb : Below w.heap.size w Wb:=(by rw [<- hWb]; exact (Below.refl _ _).alloc (Nat.le_refl _) _);have hxb : Wb.heap[w.heap.size]? = some (.cells (mrC ⟨cd,tx,fl⟩) 197 (0,0)):=(by rw [<- hWb]; exact zm _ _ _);have h200 : tx.size <= 200:=h2;have RC:=Tryz.utf8_RuneCountInString tx Wb (by omega);have c1:=za hxb 1 rfl;have HBB:=hz0q hbb;have HXB:=hz0q hxb;clear hbb hxb h2;go_enter Tryz.func134,Tryz.ntmps134;go_wp2_with fail;refine RC.mono ?_;rintro e w1 ⟨rfl,pos,hw1⟩;have hb1 : Below Wb.heap.size Wb w1:=(by rw [hw1]; exact (Below.refl _ _).alloc (Nat.le_refl _) _);have HB1:=hz0q (zb HBB.out hb1);have hx1:=zd HXB.out hb1;have d0:=za hx1 0 rfl;have d1:=za hx1 1 rfl;have d2:=za hx1 2 rfl;have VS:=Tryz.utf8_ValidString tx w1 (by omega) (hT.out w1 HB1.out);obtain ⟨nr,hnr⟩ : ∃ nr : Nat,Lib.runeCount tx = nr:=⟨_,rfl⟩;obtain ⟨vd,hvd⟩ : ∃ vd,Lib.validD tx.data.toList = vd:=⟨_,rfl⟩;rw [hnr];rw [hvd] at VS;have HVD:=hz0q hvd;have HX1:=hz0q hx1;clear RC c1 hw1 hb1 hx1 hnr hvd hWb
 by_cases k1 : 1 <= cd.size
 ·have q1 : ¬ ((cd.size : Int) < 1):=by omega
  by_cases k2 : cd.size <= 4
  ·have q2 : ¬ ((4 : Int) < (cd.size : Int)):=by omega
   by_cases k3 : 1 <= nr
   ·have q3 : ¬ ((nr : Int) < 1):=by omega
    by_cases k4 : nr <= 18
    ·have q4 : ¬ ((18 : Int) < (nr : Int)):=(by omega);go_wp2_with fail;refine VS.mono ?_;rintro e w2 ⟨rfl,hb2⟩;have HB2:=hz0q (zb HB1.out hb2);have hx2:=zd HX1.out hb2;have e2:=za hx2 2 rfl;clear VS hb2 hx2 d0 d1 d2
     cases vd with
     | false =>
      go_wp2;go_returns;exact ⟨⟨_,rfl,fun e => by cases e⟩,HB2.out⟩
     | true =>
      have HOK : Hid ((1 <= cd.size /\ cd.size <= 4) /\ zai (bs tx) = true):=⟨⟨k1,k2⟩,valid_of_D HVD.out⟩
      by_cases f0 : fl = 0
      ·subst f0;go_wp2;go_returns;exact ⟨⟨_,rfl,fun _ => HOK.out⟩,HB2.out⟩
      ·have g0 : (fl == 0) = false:=by simpa using f0
       by_cases f1 : fl = 1
       ·subst f1;go_wp2;go_returns;exact ⟨⟨_,rfl,fun _ => HOK.out⟩,HB2.out⟩
       ·have g1 : (fl == 1) = false:=by simpa using f1
        by_cases f3 : fl = 3
        ·subst f3;go_wp2;go_returns;exact ⟨⟨_,rfl,fun _ => HOK.out⟩,HB2.out⟩
        ·have g3 : (fl == 3) = false:=(by simpa using f3);have r0 : (fl != 0) = true:=(by simp [f0]);have r1 : (fl != 1) = true:=(by simp [f1]);have r3 : (fl != 3) = true:=(by simp [f3]);go_wp2;go_returns;exact ⟨⟨_,rfl,fun e => by cases e⟩,HB2.out⟩
    ·have q : (18 : Int) < (nr : Int):=(by omega);go_wp2;go_returns;exact ⟨⟨_,rfl,fun e => by cases e⟩,HB1.out⟩
   ·have q : (nr : Int) < 1:=(by omega);go_wp2;go_returns;exact ⟨⟨_,rfl,fun e => by cases e⟩,HB1.out⟩
  ·have q : (4 : Int) < (cd.size : Int):=(by omega);go_wp2;go_returns;exact ⟨⟨_,rfl,fun e => by cases e⟩,HB1.out⟩
 ·have q : (cd.size : Int) < 1:=(by omega);go_wp2;go_returns;exact ⟨⟨_,rfl,fun e => by cases e⟩,HB1.out⟩
end
end
end Go.Proofs.YtolcabjkbefjgaaGreatDoor
