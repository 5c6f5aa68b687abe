/- Rows of a file: plain words, and how rows lie in memory. The writer, in memory; what is put to its queue, and taken from it: the code. A decoder and the row of its faults in memory; New, add, from, all. A fault more in a decoder. DERIVED: THE SHELF's CONTRACTS AT THIS DUMP, IN PLAIN WORDS (tools/lay-plain.mjs out of 'TryzShelf.lean', which tools/lay-shelf.mjs wrote): THE SAME DECLARATIONS UNDER THE SAME NAMES: 'import', 'namespace', 'open', 'def', 'theorem' AND NOTHING ELSE: no command of the shelf's: FOR A HAND-IN. Each laying: the table of numbers ('.._ren') and one theorem, a field a fact of the dump's own or the kernel's comparison; each contract: ONE APPLICATION. Two lists that grow side by side. -/
import Derived.Test.YtolcabjkbefjgaaGreatDoorY10
import Derived.Shelf.Unicode.ValidAny
import Derived.Shelf.Slices.Turned
import Derived.Shelf.Slices.Clone
set_option linter.unusedSimpArgs false
set_option linter.unusedVariables false
set_option maxRecDepth 20000
set_option maxHeartbeats 4000000
namespace Go.Proofs.YtolcabjkbefjgaaGreatDoor
section
open Go.RowKit
def FSTB : List UInt8:=[44,32,70,105,114,115,116,62]
def LSTB : List UInt8:=[44,32,76,97,115,116,62]
def zc4 (f x : RowS) : Prop:=(zbf x.nm LSTB).1 ≠ (zbf f.nm FSTB).1 \/ x.ct ≠ f.ct \/ x.cl ≠ f.cl \/ 0 < x.il.length + f.il.length \/ x.fr < f.fr
instance (f x : RowS) : Decidable (zc4 f x):=by unfold zc4; exact inferInstance
def zfq (f x : RowS) : RowS:=⟨f.fr,x.fr,(zbf f.nm FSTB).1,x.ct,x.cl,[],[]⟩
structure StU where
 out : List RowS
 op : Option RowS
 was : Int
def zcj (st : StU) (f x : RowS) : StU × Int:=if zc4 f x then (st,10) else (⟨st.out ++ [zfq f x],none,x.fr⟩,0)
def freeS (st : StU) (x : RowS) : StU × Int:=if x.fr <= st.was then (st,12) else if (zbf x.nm FSTB).2 = true then (⟨st.out,some x,st.was⟩,0) else (⟨st.out ++ [x],none,x.fr⟩,0)
def takeR (st : StU) (x : RowS) : StU × Int :=
 match st.op with
 | some f => if (zbf x.nm LSTB).2 = false then (st,10) else zcj st f x
 | none => if (zbf x.nm LSTB).2 = true then (st,10) else freeS st x
def takeS (st : StU) (l : List UInt8) : StU × Int:=if (zae l).2 ≠ 0 then (st,(zae l).2) else takeR st (zae l).1
def rowsW : StU -> List (Int × List UInt8) -> StU × Int × Int
 | st,[] => (st,0,0)
 | st,p :: ls => if (takeS st p.2).2 ≠ 0 then (st,p.1,(takeS st p.2).2) else rowsW (takeS st p.2).1 ls
def zls (ls : List (Int × List UInt8)) : Int:=match ls.getLast? with | some p => p.1 | none => 0
def endU (ls : List (Int × List UInt8)) (r : StU × Int × Int) : List RowS × Int × Int :=
 if r.2.2 ≠ 0 then ([],r.2.1,r.2.2) else if r.1.op.isSome = true then ([],zls ls,10) else (r.1.out,0,0)
def rowsS (s : List UInt8) : List RowS × Int × Int :=
 if (zbj s).2 ≠ 0 then ([],0,(zbj s).2) else endU (zbj s).1 (rowsW ⟨[],none,-1⟩ (zbj s).1)
def RowOk (N : Nat) (x : RowS) : Prop:=x.nm.length <= N /\ x.il.length <= 18
theorem into_il (s : List UInt8) : (intoS s).2.1.length <= 18:=by
 have hr : ∀ k t,(intoR k t).2.1.length <= 18:=by
  intro k t;unfold intoR;split
  ·simp
  ·split
   ·simp
   ·simp only []; omega
 unfold intoS;split
 ·split
  ·simp
  ·exact hr _ _
 ·exact hr _ _
theorem zif (l : List UInt8) : RowOk l.length (zae l).1:=by
 have hpart:=zdd 59 l;unfold zae zjj;have hn : RowOk l.length RowS.none:=⟨Nat.zero_le _,Nat.zero_le _⟩;split
 ·exact hn
 ·split
  ·exact hn
  ·split
   ·exact hn
   ·split
    ·exact hn
    ·split
     ·exact hn
     ·refine ⟨?_,into_il _⟩;show (((cutL 59 l).map bareL).getD 1 []).length <= l.length;rw [List.getD_eq_getElem?_getD,List.getElem?_map]
      cases h : (cutL 59 l)[1]? with
      | none => simp
      | some y =>
       have h1:=hpart y (List.mem_of_getElem? h);have h2:=zcm y;show (bareL y).length <= l.length;omega
abbrev RA:=RowS × Option Addr × Nat
def rowC (x : RA) : List Value:=[.int .i32 x.1.fr,.int .i32 x.1.up,.string (mk8 x.1.nm),.string (mk8 x.1.ct),.int .i64 x.1.cl,.string (mk8 x.1.kd),.slice x.2.1 x.1.il.length x.2.2]
def Vs (os : List RA) : List Value:=os.flatMap rowC
theorem Vs_snoc (os : List RA) (x : RA) : Vs (os ++ [x]) = Vs os ++ rowC x:=by simp [Vs]
theorem Vs_at : ∀ (os : List RA) (i : Nat) (x : RA),os[i]? = some x -> ∀ j u,(rowC x)[j]? = some u -> (Vs os)[i * 7 + j]? = some u
 | [],i,x,h => by simp at h
 | y :: t,0,x,h => by
  intro j u hu;simp at h;subst h;have hj : j < (rowC y).length:=(List.getElem?_eq_some_iff.1 hu).1;show (rowC y ++ Vs t)[0 * 7 + j]? = some u;rw [Nat.zero_mul,Nat.zero_add,List.getElem?_append_left hj];exact hu
 | y :: t,i + 1,x,h => by
  intro j u hu;have ih:=Vs_at t i x (by simpa using h) j u hu;show (rowC y ++ Vs t)[(i + 1) * 7 + j]? = some u;rw [List.getElem?_append_right (by show 7 <= (i + 1) * 7 + j; omega),show (i + 1) * 7 + j - (rowC y).length = i * 7 + j by show (i + 1) * 7 + j - 7 = _; omega];exact ih
theorem zlf (x : RA) : ∀ u ∈ rowC x,u.oneCell' = true:=by
 intro u hu;simp [rowC] at hu;rcases hu with rfl | rfl | rfl | rfl | rfl | rfl | rfl <;> rfl
theorem zib : ElemK Tryz.prog 69 143 (.agg #[.int .i32 0,.int .i32 0,.string ByteArray.empty,.string ByteArray.empty,.int .i64 0,.string ByteArray.empty,.slice none 0 0]) 7 88:=⟨Tryz.underlying69,by kernel_rfl,rfl,by omega⟩
def zh6 (B : Nat) (w : World) (x : RA) : Prop:=w.ownsRow B 21 1 (.slice x.2.1 x.1.il.length x.2.2) x.1.il.length (Rs x.1.il)
structure zaq (T : TypeId) (B : Nat) (w : World) (os : List RA) (A : Option Addr) (c : Nat) : Prop where
 own : w.ownsRow B T 7 (.slice A os.length c) os.length (Vs os)
 into : ∀ x ∈ os,zh6 B w x
section
variable {w w' : World} {T : TypeId} {B : Nat} {os : List RA} {A : Option Addr} {c : Nat}
theorem zaq.nil (T : TypeId) (B : Nat) (w : World) : zaq T B w [] none 0:=⟨World.ownsRow_nil _ _ _ _,fun x hx => absurd hx (by simp)⟩
theorem zig {k n : Nat} {e : TypeId} {v : Value} {xs : List Value} (h : w.ownsRow B e k v n xs) (hk : ∀ g,B <= g -> g < w.heap.size -> w'.heap[g]? = w.heap[g]?) : w'.ownsRow B e k v n xs:=by
 refine ⟨h.1,?_⟩;rcases h.2 with hn | ⟨g,cap,cur,hv,hg,hh,rest⟩
 ·exact .inl hn
 ·exact .inr ⟨g,cap,cur,hv,hg,(hk g hg (Array.getElem?_eq_some_iff.1 hh).1).trans hh,rest⟩
theorem zaq.same (h : zaq T B w os A c) (hk : ∀ g,B <= g -> g < w.heap.size -> w'.heap[g]? = w.heap[g]?) : zaq T B w' os A c :=
 ⟨zig h.own hk,fun x hx => zig (h.into x hx) hk⟩
theorem zaq.below (h : zaq T B w os A c) (hb : Below w.heap.size w w') : zaq T B w' os A c:=h.same fun g _ hg => hb.block g hg
theorem zaq.base {B' : Nat} (h : zaq T B w os A c) (hb : B' <= B) : zaq T B' w os A c:=⟨zcg h.own hb,fun x hx => zcg (h.into x hx) hb⟩
theorem zaq.setCell {p : Addr} {u : Value} (h : zaq T B w os A c) (hp : p.block < B) : zaq T B (w.setCell p u) os A c :=
 h.same fun g hg _ => Below.heap_setCell w p u g (by omega)
theorem zjx {B1 B2 n1 n2 k1 k2 : Nat} {e1 e2 : TypeId} {v1 v2 : Value} {xs1 xs2 : List Value} (h : w.ownsRow B1 e1 k1 v1 n1 xs1) (h2 : w.ownsRow B2 e2 k2 v2 n2 xs2) (hne : e1 ≠ e2) (hg : w.grownBy w' v2.ownBlock) : w'.ownsRow B1 e1 k1 v1 n1 xs1:=by
 refine h.kept hg ?_;rcases h.2 with ⟨rfl,_⟩ | ⟨g,cap,cur,rfl,_,hh,_⟩
 ·exact .inl rfl
 ·refine .inr ?_;intro heq;rcases h2.2 with ⟨rfl,_⟩ | ⟨g2,cap2,cur2,rfl,_,hh2,_⟩
  ·cases heq
  ·injection heq with heq;simp only [] at heq;subst heq;rw [hh] at hh2;injection hh2 with hh2;injection hh2 with _ hh2 _;exact hne hh2
theorem zaq.app {x : RA} {A' : Option Addr} {c' : Nat} (h : zaq T B w os A c) (hx : zh6 B w x) (hT : (21 : TypeId) ≠ T) (hown : w'.ownsRow B T 7 (.slice A' (os.length + 1) c') (os.length + 1) (Vs os ++ rowC x)) (hg : w.grownBy w' (Value.slice A os.length c).ownBlock) : zaq T B w' (os ++ [x]) A' c':=by
 refine ⟨?_,?_⟩
 ·rw [Vs_snoc,List.length_append,List.length_singleton];exact hown
 ·intro y hy;rcases List.mem_append.1 hy with hy | hy
  ·exact zjx (h.into y hy) h.own hT hg
  ·rw [List.mem_singleton] at hy;subst hy;exact zjx hx h.own hT hg
end
section
variable {P : Program}
theorem run_appR {t e : TypeId} {z : Value} {k bytes : Nat} (E : ElemK P t e z k bytes) (w : World) (ty : TypeId) (base : Nat)
  {v : Value} {n : Nat} {xs : List Value} (hown : w.ownsRow base e k v n xs) {A : Option Addr} {c : Nat} {news : List Value} (hr : RdK w A 1 k news) (h1 : ∀ u ∈ news,u.oneCell' = true)
  (h63 : n + 1 <= 1099511627776) (hby : bytes <= 128) (hbase : base <= w.heap.size) :
  ∃ A' c' w',(Builtin.append_ #[t,t] ty #[v,.slice A 1 c]).run P w = .ok (.slice A' (n + 1) c') w' /\ w'.ownsRow base e k (.slice A' (n + 1) c') (n + 1) (xs ++ news) /\ w.grownBy w' v.ownBlock:=by
 obtain ⟨i,hi,hz0,hz1,hz2⟩:=info_parts E.hi;have hb : (n + 1) * bytes <= 140737488355328:=Nat.le_trans (Nat.mul_le_mul h63 hby) (by omega);have hml : n + 1 <= maxLen:=(by unfold maxLen; omega);obtain ⟨b,off,rfl,hcell⟩:=hr.2 (by omega);obtain ⟨v',w',hrun,h2,h3,_,h5⟩:=run_append_own_at (P:=P) w base t ty e i z k bytes E.ht hi hz0 hz1 hz2 E.hz E.hk v n xs hown ⟨b,off,none⟩ 1 c news hr.1 (fun j u hu => by rw [Addr.add_lit]; exact hcell j u hu) h1 hml hb hbase;obtain ⟨A',c',rfl⟩:=zfa h2;exact ⟨A',c',w',hrun,h2,h3⟩
theorem zep {t e : TypeId} {z : Value} {k bytes : Nat} (E : ElemK P t e z k bytes) (w : World) {ops : Array Oper} {o : Oper} {a : Act} {K : Act -> World -> Prop} {Q : Exit -> Act -> World -> Prop} {R : Prop} (hgd : o.guard = none) (s x : Operand)
  (ho : o.op = .call { callee:=.builtin .append,args:=#[s,x],argTypes:=#[t,t] }) (base : Nat)
  {v : Value} {n : Nat} {xs : List Value} (hs : a.eval s = v) (hown : w.ownsRow base e k v n xs) {A : Option Addr} {c : Nat} {news : List Value} (hx : a.eval x = .slice A 1 c) (hr : RdK w A 1 k news) (h1 : ∀ u ∈ news,u.oneCell' = true)
  (h63 : n + 1 <= 1099511627776) (hby : bytes <= 128) (hbase : base <= w.heap.size)
  (h : ∀ A' c' w',w'.ownsRow base e k (.slice A' (n + 1) c') (n + 1) (xs ++ news) -> w.grownBy w' v.ownBlock -> K (a.put o.dst (.slice A' (n + 1) c')) w') :
  if Region.wanted o (yielded ops a.tmps) = true then Oper.wp P o a w K Q else R:=by
 rw [if_pos (by simp [Region.wanted,hgd])];obtain ⟨A',c',w',hrun,h2,h3⟩:=run_appR E w o.type base hown (c:=c) hr h1 h63 hby hbase;unfold Oper.wp execOp;simp only [ho,resolve,invoke,builtin,Sem.run_bind,Sem.run_pure,Result.andThen_ok,List.map_toArray,List.map_cons,List.map_nil,hs,hx,hrun];exact h A' c' w' h2 h3
end
theorem zq {w w' : World} {b : Nat} {cur : Array Value} {t : TypeId} {row : Option Nat} (h : w.heap[b]? = some (.cells cur t (0,0))) (hg : w.grownBy w' row) (hne : row ≠ some b) : w'.heap[b]? = some (.cells cur t (0,0)) :=
 (hg.block b (za5 h) (fun e => hne e.symm)).trans h
theorem zu {w : World} {b B j : Nat} {cur : Array Value} {t : TypeId} {v : Value} (h : w.heap[b]? = some (.cells cur t (0,0))) (hne : b ≠ B) : (w.setCell ⟨B,j,none⟩ v).heap[b]? = some (.cells cur t (0,0)) :=
 (Below.heap_setCell w ⟨B,j,none⟩ v b hne).trans h
theorem zbg {w : World} {b : Nat} {cur : Array Value} {t : TypeId} (o : Obj) (h : w.heap[b]? = some (.cells cur t (0,0))) : (w.alloc o).heap[b]? = some (.cells cur t (0,0)):=(Below.heap_alloc w o b (za5 h)).trans h
def closV (p : Nat) : Value:=.func (.func 56) #[] #[.pointer (some ⟨p + 1,0,none⟩),.pointer (some ⟨p,0,none⟩),.pointer (some ⟨p + 2,0,none⟩)]
structure ziv (p : Nat) (st : StU) (w : World) (os : List RA) (A : Option Addr) (c : Nat) (q : Option Addr) : Prop where
 outs : os.map (·.1) = st.out
 out : w.heap[p]? = some (.cells #[.slice A os.length c] 69 (0,0))
 rows : zaq 143 (p + 4) w os A c
 first : w.heap[p + 1]? = some (.cells #[.pointer q] 141 (0,0))
 shut : st.op = none -> q = none
 opens : ∀ f,st.op = some f -> ∃ b A' c',p + 4 <= b /\ q = some ⟨b,0,none⟩ /\ w.heap[b]? = some (.cells (rowC (f,A',c')).toArray 143 (0,0)) /\ (Value.slice A os.length c).ownBlock ≠ some b
 was : w.heap[p + 2]? = some (.cells #[.int .i32 st.was] 21 (0,0))
 clo : w.heap[p + 3]? = some (.cells #[closV p] 146 (0,0))
def zcn (p : Nat) (st : StU) (w : World) : Prop:=∃ os A c q,ziv p st w os A c q
theorem zcn.below {p : Nat} {st : StU} {w w' : World} (h : zcn p st w) (hb : Below w.heap.size w w') : zcn p st w':=by
 obtain ⟨os,A,c,q,h1,h2,h3,h4,h5,h6,h7,h8⟩:=h;refine ⟨os,A,c,q,h1,zd h2 hb,h3.below hb,zd h4 hb,h5,?_,zd h7 hb,zd h8 hb⟩;intro f hf;obtain ⟨b,A',c',hbp,hq,hh,hn⟩:=h6 f hf;exact ⟨b,A',c',hbp,hq,zd hh hb,hn⟩
end
section
open Go.RowKit
structure WrM (q : Nat) (w : World) (wp : Nat) (p : Option Addr) (f : Int) (ov : Bool) (G : Option Nat) (v : Value) (l : List Int) : Prop where
 box : w.heap[wp]? = some (.cells #[v,.pointer p,.int .i64 f,.bool ov] 97 (0,0))
 own : OwnG q w G v l
 tb : q <= wp
theorem zat {W : World} {q : Nat} {cs : Array Value} {t : TypeId} {fr : Nat × Nat} (h : W.heap[q]? = some (.cells cs t fr)) (i : Nat) (v : Value) : (W.setCell ⟨q,i,none⟩ v).heap[q]? = some (.cells (cs.setIfInBounds i v) t fr):=by
 simp [World.setCell,Array.getElem?_modify,h]
theorem zel : (97 : TypeId) ≠ 21:=by decide
section
variable {q wp : Nat} {w w' w2 : World} {p : Option Addr} {f : Int} {ov : Bool} {G G' : Option Nat} {v v' : Value} {l l' : List Int}
theorem WrM.below (h : WrM q w wp p f ov G v l) (hb : Below w.heap.size w w') : WrM q w' wp p f ov G v l:=⟨zd h.box hb,h.own.below hb,h.tb⟩
theorem WrM.lt (h : WrM q w wp p f ov G v l) : wp < w.heap.size:=(Array.getElem?_eq_some_iff.1 h.box).1
theorem WrM.ne (h : WrM q w wp p f ov G v l) : ∀ g,G = some g -> g ≠ wp:=fun g hg e => h.own.not (g:=wp) (by rw [<- e]; exact hg) h.box zel
theorem WrM.setQ (h : WrM q w wp p f ov G v l) (hbox : w2.heap[wp]? = w.heap[wp]?) (hown : OwnG q w2 G' v' l') : WrM q (w2.setCell ⟨wp,0,none⟩ v') wp p f ov G' v' l':=by
 have hb2:=hbox.trans h.box;refine ⟨?_,hown.blk fun g hg => Below.heap_setCell w2 ⟨wp,0,none⟩ v' g fun e => hown.not (g:=wp) (by rw [<- show g = wp from e]; exact hg) hb2 zel,h.tb⟩
 have:=zat hb2 0 v';simpa using this
theorem WrM.over (h : WrM q w wp p f ov G v l) (b : Bool) : WrM q (w.setCell ⟨wp,3,none⟩ (.bool b)) wp p f b G v l:=by
 refine ⟨?_,h.own.blk fun g hg => Below.heap_setCell w ⟨wp,3,none⟩ _ g (h.ne g hg),h.tb⟩;have:=zat h.box 3 (.bool b);simpa using this
end
theorem zdx (A : Option Addr) (n c : Nat) (xs : List Int) (w : World) (hrd : Rd w A n (Rs xs)) (hn : xs.length = n) (h2 : n <= 20000000) (hA : A = none -> n = 0 /\ c = 0) :
  Calls Tryz.prog 85 #[.slice A n c] w fun e w' => ∃ G v,e = .returned v /\ OwnG w.heap.size w' G v xs /\ Below w.heap.size w w':=by
 cases A with
 | none =>
  obtain ⟨rfl,rfl⟩:=hA rfl;obtain rfl : xs = []:=List.eq_nil_of_length_eq_zero hn;clear hrd hA hn;have hcmp:=fun w => Lib.run_eql_slice_nil (P:=Tryz.prog) w 42 21 none 0 0 0 0 Tryz.underlying42;simp only [Option.isNone] at hcmp;go_enter Tryz.func85,Tryz.ntmps85;go_wp2;go_returns;exact ⟨none,_,rfl,.nil _ _ none,Below.refl _ _⟩
 | some a =>
  have HB0 : Hid (Below w.heap.size w (w.alloc (.cells #[] 21))):=(Below.refl _ _).alloc (Nat.le_refl _) _;have HRD:=hz0q (hrd.below HB0.out);have HN:=hz0q hn;clear hrd hn hA;have hcmp:=fun w => Lib.run_eql_slice_nil (P:=Tryz.prog) w 42 21 (some a) n c 0 0 Tryz.underlying42;simp only [Option.isNone] at hcmp;go_enter Tryz.func85,Tryz.ntmps85;go_wp2_with (at_builtin; refine zcq zal _ rfl _ _ rfl w.heap.size rfl (OwnG.nil _ _ _) (show ([] : List Int).length = 0 from rfl) rfl HRD.out HN.out (by omega) (by omega) HB0.out.size ?_)
  intro A' c' w' G' hown hg hat;have HO:=hz0q hown;have HB : Hid (Below w.heap.size w w'):=HB0.out.grown hg HB0.out.size (fun k hk => by cases hk);clear hown hg hat;go_wp2;go_returns;exact ⟨G',_,rfl,by simpa using HO.out,HB.out⟩
section
variable {q wp : Nat} {w : World} {p : Option Addr} {f : Int} {ov : Bool} {G : Option Nat} {v : Value} {l : List Int}
theorem Rd.takeV {w : World} {A : Option Addr} {n : Nat} {xs : List Int} (h : Rd w A n (Rs xs)) {k : Nat} (hk : k <= n) : Rd w A k (Rs (xs.take k)):=by
 have hl : xs.length = n:=(by have:=h.1; simpa using this);refine ⟨by simp; omega,fun h0 => ?_⟩;obtain ⟨b,off,rfl,_,hc⟩:=h.at_ (by omega);refine ⟨b,off,rfl,fun j u hu => hc j u ?_⟩;have hj:=(List.getElem?_eq_some_iff.1 hu).1;rw [<- hu];simp at hj;simp [List.getElem?_take];intro h;omega
def PutQ (q : Nat) (w : World) (wp : Nat) (p : Option Addr) (f : Int) (ov : Bool) (G : Option Nat) (l : List Int) (w' : World) : Prop :=
 ∃ G' v',WrM q w' wp p f ov G' v' l /\ Wrote (fun k => k = wp \/ G = some k) w w' /\ ∀ g,G' = some g -> G = some g \/ w.heap.size <= g
theorem qput_any (h : WrM q w wp p f ov G v l) (hq : q <= w.heap.size) (A : Option Addr) (n c : Nat) (zs : List Int) (hrd : Rd w A n (Rs zs)) (hn : zs.length = n) (h2 : l.length + n <= 20000000) :
  Calls Tryz.prog 37 #[.pointer (some ⟨wp,0,none⟩),.slice A n c] w fun e w' => (∃ u,e = .returned u) /\ PutQ q w wp p f ov G (l ++ zs) w':=by
 obtain ⟨A0,c0,rfl,hnc,hcm,_⟩:=h.own.shape;have HW:=hz0q h;have HRD:=hz0q hrd;have HN:=hz0q hn;have b0:=za h.box 0 rfl;obtain ⟨L,hL⟩ : ∃ L,L = l.length:=⟨_,rfl⟩;rw [<- hL] at b0 h2;have HL:=hz0q hL;have hown:=h.own;rw [<- hL] at hown;clear h hrd hn hnc hcm hL;go_enter Tryz.func37,Tryz.ntmps37;go_wp2_with (at_builtin; refine zcq zal _ rfl _ _ rfl q rfl hown HL.out.symm rfl HRD.out HN.out (by omega) (by omega) hq ?_)
 intro A' c' w' G' hown' hg hat;have hbx : w'.heap[wp]? = w.heap[wp]? := hg.block wp HW.out.lt fun e => HW.out.ne wp e.symm rfl;have bx:=hbx.trans HW.out.box;have b0:=za bx 0 rfl;have f0:=zc bx 0;have HO:=hz0q (HW.out.setQ hbx hown');have HWR : Hid (Wrote (fun k => k = wp \/ G = some k) w (w'.setCell ⟨wp,0,none⟩ (.slice A' (L + n) c'))):=(Wrote.grown hg fun k hk => .inr hk).trans (Wrote.setCell (.inl (.inl rfl)) _);have HAT:=hz0q hat;clear hown' hg hat hbx bx hown;go_wp2;first | go_returns | go_end0
 exact ⟨⟨_,rfl⟩,_,_,HO.out,HWR.out,HAT.out⟩
def TakeQ (q : Nat) (w : World) (wp : Nat) (p : Option Addr) (f : Int) (ov : Bool) (l : List Int) (n : Nat) (u : Value) (w' : World) : Prop :=
 ∃ G1 G' v',OwnG w.heap.size w' G1 u (l.take n) /\ WrM q w' wp p f ov G' v' (l.drop n) /\ Wrote (fun k => k = wp) w w' /\ ∀ g,G' = some g -> w.heap.size <= g
theorem OwnG.mono {q q' : Nat} {w : World} {G : Option Nat} {v : Value} {xs : List Int} (h : OwnG q w G v xs) (hq : q' <= q) : OwnG q' w G v xs:=by
 rcases h with h | ⟨g,off,cap,h1,h2,h3,h4⟩
 ·exact .inl h
 ·exact .inr ⟨g,off,cap,h1,h2,Nat.le_trans hq h3,h4⟩
theorem zjg (h : WrM q w wp p f ov G v l) (hq : q <= w.heap.size) (n : Nat) (hn : n <= l.length) (h2 : l.length <= 20000000) :
  Calls Tryz.prog 39 #[.pointer (some ⟨wp,0,none⟩),.int .i64 n] w fun e w' => ∃ u,e = .returned u /\ TakeQ q w wp p f ov l n u w':=by
 have HW:=hz0q h;have HQ:=hz0q hq;have hn1 : (n : Int) <= (l.length : Int):=(by omega);have hn0 : (0 : Int) <= (n : Int):=(by omega);obtain ⟨L,hL⟩ : ∃ L,L = l.length:=⟨_,rfl⟩;have HL:=hz0q hL;rcases h.own with ⟨hG,hl,A1,hv⟩ | ⟨g,off,cap,hG,hv,hqg,hn2,hc2,hcur,hsm,hcx⟩
 ·subst hl;subst hv;obtain rfl : n = 0:=(by simpa using hn);have b0:=za h.box 0 rfl;have HE : Hid (([] : List Int).take 0 = [] /\ ([] : List Int).drop 0 = []):=⟨rfl,rfl⟩;have CL : Hid (∀ W,Calls Tryz.prog 85 #[.slice A1 0 0] W fun e w' => ∃ G v,e = .returned v /\ OwnG W.heap.size w' G v [] /\ Below W.heap.size W w'):=fun W => zdx A1 0 0 [] W (Rd.nil _ _) rfl (by omega) (fun _ => ⟨rfl,rfl⟩);clear h hq hG hn hn1 hn0 hL h2
  cases A1 with
  | none =>
   have C1:=CL.out w;go_enter Tryz.func39,Tryz.ntmps39;go_wp2_with fail;refine C1.mono ?_;rintro e w1 ⟨G1,u1,rfl,ho1,hb1⟩;have HO1:=hz0q ho1;have HB1:=hz0q hb1;have HW1:=hz0q (HW.out.below hb1);have b0:=za HW1.out.box 0 rfl;have C2:=CL.out w1;clear C1 ho1 hb1;go_wp2_with fail;refine C2.mono ?_;rintro e w2 ⟨G2,u2,rfl,ho2,hb2⟩;obtain ⟨A9,c9,hu2,_,_,_⟩:=ho2.shape;subst hu2;have HO2:=hz0q ho2;have HB2:=hz0q hb2;have HW2:=hz0q (HW1.out.below hb2);have b0:=za HW2.out.box 0 rfl;have f0:=zc HW2.out.box 0;have HF:=hz0q (HW2.out.setQ rfl (ho2.mono (Nat.le_trans HQ.out HB1.out.size)));have HU : Hid (OwnG w.heap.size (w2.setCell ⟨wp,0,none⟩ (.slice A9 ([] : List Int).length c9)) G1 u1 []):=(HO1.out.below hb2).blk fun g hg => Below.heap_setCell w2 ⟨wp,0,none⟩ _ g (fun e => by have h1:=(HO1.out.lt hg).1; have h2:=HW.out.lt; have e : g = wp:=e; omega);have HWR : Hid (Wrote (fun k => k = wp) w (w2.setCell ⟨wp,0,none⟩ (.slice A9 ([] : List Int).length c9))):=((Wrote.of_below HB1.out).then_below HB2.out).trans (Wrote.setCell (S:=fun k => k = wp) (.inl rfl) _);have HAT : Hid (∀ g,G2 = some g -> w.heap.size <= g):=fun g hg => Nat.le_trans HB1.out.size (HO2.out.lt hg).1;clear C2 ho2 hb2;go_wp2;go_returns;exact ⟨_,rfl,G1,G2,_,HU.out,HF.out,HWR.out,HAT.out⟩
  | some a1 =>
   have C1:=CL.out w;go_enter Tryz.func39,Tryz.ntmps39;go_wp2_with fail;refine C1.mono ?_;rintro e w1 ⟨G1,u1,rfl,ho1,hb1⟩;have HO1:=hz0q ho1;have HB1:=hz0q hb1;have HW1:=hz0q (HW.out.below hb1);have b0:=za HW1.out.box 0 rfl;have C2:=CL.out w1;clear C1 ho1 hb1;go_wp2_with fail;refine C2.mono ?_;rintro e w2 ⟨G2,u2,rfl,ho2,hb2⟩;obtain ⟨A9,c9,hu2,_,_,_⟩:=ho2.shape;subst hu2;have HO2:=hz0q ho2;have HB2:=hz0q hb2;have HW2:=hz0q (HW1.out.below hb2);have b0:=za HW2.out.box 0 rfl;have f0:=zc HW2.out.box 0;have HF:=hz0q (HW2.out.setQ rfl (ho2.mono (Nat.le_trans HQ.out HB1.out.size)));have HU : Hid (OwnG w.heap.size (w2.setCell ⟨wp,0,none⟩ (.slice A9 ([] : List Int).length c9)) G1 u1 []):=(HO1.out.below hb2).blk fun g hg => Below.heap_setCell w2 ⟨wp,0,none⟩ _ g (fun e => by have h1:=(HO1.out.lt hg).1; have h2:=HW.out.lt; have e : g = wp:=e; omega);have HWR : Hid (Wrote (fun k => k = wp) w (w2.setCell ⟨wp,0,none⟩ (.slice A9 ([] : List Int).length c9))):=((Wrote.of_below HB1.out).then_below HB2.out).trans (Wrote.setCell (S:=fun k => k = wp) (.inl rfl) _);have HAT : Hid (∀ g,G2 = some g -> w.heap.size <= g):=fun g hg => Nat.le_trans HB1.out.size (HO2.out.lt hg).1;clear C2 ho2 hb2;go_wp2;go_returns;exact ⟨_,rfl,G1,G2,_,HU.out,HF.out,HWR.out,HAT.out⟩
 ·have hown:=h.own;rw [hv] at hown;obtain ⟨A7,c7,e7,_,_,hrd7⟩:=hown.shape;injection e7 with e7 _ e8;subst e7 e8;obtain ⟨A8,c8,e8,_,_,hrd8⟩:=(hown.drop (A:=none) hn).shape;injection e8 with e8 _ e9;subst e8 e9;subst hv;have b0:=za h.box 0 rfl;rw [<- hL] at b0 hn1 hn2 hn h2;rw [List.length_drop,<- hL] at hrd8;have C1:=zdx (some ⟨g,off,none⟩) n cap (l.take n) w (Rd.takeV hrd7 (by omega)) (by rw [List.length_take,<- HL.out]; omega) (by omega) (fun e => by cases e)
  by_cases hnc : n = cap
  ·subst hnc;have hLn : L - n = 0:=(by omega);have hdn : l.drop n = []:=List.drop_eq_nil_of_le (by omega);have HR8 : Hid (Rd w (some ⟨g,off,none⟩) 0 (Rs (l.drop n))):=(by show Rd _ _ _ _; rw [hdn]; exact Rd.nil _ _);have HD0 : Hid ((l.drop n).length = 0):=(by show _ = _; rw [hdn]; rfl);clear hLn hdn;have hnn : (n : Int) <= (n : Int):=(by omega);have hLc : (L : Int) <= (n : Int):=(by omega);clear h hq hG hown hrd7 hrd8 hcur hsm hcx hqg hc2 hL;go_enter Tryz.func39,Tryz.ntmps39;go_wp2_with fail;refine C1.mono ?_;rintro e w1 ⟨G1,u1,rfl,ho1,hb1⟩;have HO1:=hz0q ho1;have HB1:=hz0q hb1;have HW1:=hz0q (HW.out.below hb1);have b0:=za HW1.out.box 0 rfl;rw [<- HL.out] at b0;have C2:=zdx (some ⟨g,off,none⟩) 0 0 (l.drop n) w1 (HR8.out.below hb1) HD0.out (by omega) (fun e => by cases e);clear C1 ho1 hb1;go_wp2_with fail;refine C2.mono ?_;rintro e w2 ⟨G2,u2,rfl,ho2,hb2⟩;obtain ⟨A9,c9,hu2,_,_,_⟩:=ho2.shape;obtain ⟨d9,hd9⟩ : ∃ d9,d9 = (l.drop n).length:=⟨_,rfl⟩;rw [<- hd9] at hu2;subst hu2;clear hd9;have HO2:=hz0q ho2;have HB2:=hz0q hb2;have HW2:=hz0q (HW1.out.below hb2);have b0:=za HW2.out.box 0 rfl;have f0:=zc HW2.out.box 0;rw [<- HL.out] at b0;have HF:=hz0q (HW2.out.setQ rfl (ho2.mono (Nat.le_trans HQ.out HB1.out.size)));have HU : Hid (OwnG w.heap.size (w2.setCell ⟨wp,0,none⟩ (.slice A9 d9 c9)) G1 u1 (l.take n)):=(HO1.out.below hb2).blk fun g hg => Below.heap_setCell w2 ⟨wp,0,none⟩ _ g (fun e => by have h1:=(HO1.out.lt hg).1; have h2:=HW.out.lt; have e : g = wp:=e; omega)
   have HWR : Hid (Wrote (fun k => k = wp) w (w2.setCell ⟨wp,0,none⟩ (.slice A9 d9 c9))):=((Wrote.of_below HB1.out).then_below HB2.out).trans (Wrote.setCell (S:=fun k => k = wp) (.inl rfl) _);have HAT : Hid (∀ g,G2 = some g -> w.heap.size <= g):=fun g hg => Nat.le_trans HB1.out.size (HO2.out.lt hg).1;clear C2 ho2 hb2;go_wp2;go_returns;exact ⟨_,rfl,G1,G2,_,HU.out,HF.out,HWR.out,HAT.out⟩
  ·have HR8:=hz0q hrd8;have hcap : (n : Int) <= (cap : Int):=(by omega);have hLc : (L : Int) <= (cap : Int):=(by omega);clear h hq hG hown hrd7 hrd8 hcur hsm hcx hqg hc2 hL;go_enter Tryz.func39,Tryz.ntmps39;go_wp2_with fail;refine C1.mono ?_;rintro e w1 ⟨G1,u1,rfl,ho1,hb1⟩;have HO1:=hz0q ho1;have HB1:=hz0q hb1;have HW1:=hz0q (HW.out.below hb1);have b0:=za HW1.out.box 0 rfl;rw [<- HL.out] at b0;have C2:=zdx (some ⟨g,off + n,none⟩) (L - n) (cap - n) (l.drop n) w1 (HR8.out.below hb1) (by rw [List.length_drop,<- HL.out]) (by omega) (fun e => by cases e);clear C1 ho1 hb1;go_wp2_with fail;refine C2.mono ?_;rintro e w2 ⟨G2,u2,rfl,ho2,hb2⟩;obtain ⟨A9,c9,hu2,_,_,_⟩:=ho2.shape;obtain ⟨d9,hd9⟩ : ∃ d9,d9 = (l.drop n).length:=⟨_,rfl⟩;rw [<- hd9] at hu2;subst hu2;clear hd9;have HO2:=hz0q ho2;have HB2:=hz0q hb2;have HW2:=hz0q (HW1.out.below hb2);have b0:=za HW2.out.box 0 rfl;have f0:=zc HW2.out.box 0;rw [<- HL.out] at b0;have HF:=hz0q (HW2.out.setQ rfl (ho2.mono (Nat.le_trans HQ.out HB1.out.size)));have HU : Hid (OwnG w.heap.size (w2.setCell ⟨wp,0,none⟩ (.slice A9 d9 c9)) G1 u1 (l.take n)):=(HO1.out.below hb2).blk fun g hg => Below.heap_setCell w2 ⟨wp,0,none⟩ _ g (fun e => by have h1:=(HO1.out.lt hg).1; have h2:=HW.out.lt; have e : g = wp:=e; omega);have HWR : Hid (Wrote (fun k => k = wp) w (w2.setCell ⟨wp,0,none⟩ (.slice A9 d9 c9))):=((Wrote.of_below HB1.out).then_below HB2.out).trans (Wrote.setCell (S:=fun k => k = wp) (.inl rfl) _)
   have HAT : Hid (∀ g,G2 = some g -> w.heap.size <= g):=fun g hg => Nat.le_trans HB1.out.size (HO2.out.lt hg).1;clear C2 ho2 hb2;go_wp2;go_returns;exact ⟨_,rfl,G1,G2,_,HU.out,HF.out,HWR.out,HAT.out⟩
end
end
section
open Go.RowKit
structure DecM (base : Nat) (w : World) (q : Nat) (rest : ByteArray) (all k p : Int) (g ov : Bool) (nf : Nat) (A : Option Addr) (c : Nat) (fs : List (Int × Int)) : Prop where
 box : w.heap[q]? = some (.cells (stC rest all k p g ov (.slice A nf c)) 93 (0,0))
 own : w.ownsRow base 128 2 (.slice A nf c) nf (Fs fs)
 len : fs.length = nf
 tb : base <= q
def zcb (w w' : World) : Prop:=w.heap.size <= w'.heap.size /\ ∀ (k : Nat) (o : Obj),w.heap[k]? = some o -> (∀ cur fr,o ≠ .cells cur 93 fr) -> (∀ cur fr,o ≠ .cells cur 128 fr) -> w'.heap[k]? = some o
theorem zcb.trans {w1 w2 w3 : World} (h : zcb w1 w2) (k : zcb w2 w3) : zcb w1 w3:=⟨Nat.le_trans h.1 k.1,fun i o h1 h2 h3 => k.2 i o (h.2 i o h1 h2 h3) h2 h3⟩
theorem zcb.set {w : World} {q : Nat} {cs : Array Value} {fr : Nat × Nat} (h : w.heap[q]? = some (.cells cs 93 fr)) (i : Nat) (v : Value) : zcb w (w.setCell ⟨q,i,none⟩ v) :=
 ⟨by simp [World.setCell],fun k o hk hn _ => (Below.heap_setCell w ⟨q,i,none⟩ v k fun e => by
  have e : k = q:=e;rw [e,h] at hk;injection hk with hk
  exact hn _ _ hk.symm).trans hk⟩
theorem dec_ne : (93 : TypeId) ≠ 128:=by decide
section
variable {w w' w2 : World} {q base : Nat} {rest rest' : ByteArray} {all all' k k' p p' : Int} {g g' ov ov' : Bool} {nf nf' c c' : Nat} {A A' : Option Addr} {fs fs' : List (Int × Int)}
theorem DecM.below (h : DecM base w q rest all k p g ov nf A c fs) (hb : Below w.heap.size w w') : DecM base w' q rest all k p g ov nf A c fs:=⟨zd h.box hb,zy h.own hb,h.len,h.tb⟩
theorem DecM.ne (h : DecM base w q rest all k p g ov nf A c fs) : ∀ b,(Value.slice A nf c).ownBlock = some b -> b ≠ q:=by
 intro b hb e;subst e;rcases h.own.2 with ⟨hv,_⟩ | ⟨g,cap,cur,hv,_,hh,_⟩
 ·rw [hv] at hb; cases hb
 ·rw [hv] at hb;injection hb with hb;subst hb;rw [h.box] at hh;injection hh with hh;injection hh with _ hh;exact absurd hh dec_ne
theorem zdw {base kk n : Nat} {e : TypeId} {v : Value} {xs : List Value} (h : w.ownsRow base e kk v n xs) (hb : ∀ g,v.ownBlock = some g -> w'.heap[g]? = w.heap[g]?) : w'.ownsRow base e kk v n xs:=by
 refine ⟨h.1,?_⟩;rcases h.2 with hn | ⟨g,cap,cur,hv,hgb,hh,r⟩
 ·exact .inl hn
 ·exact .inr ⟨g,cap,cur,hv,hgb,(hb g (by rw [hv]; rfl)).trans hh,r⟩
theorem DecM.put (h : DecM base w q rest all k p g ov nf A c fs) (i : Nat) (v : Value) (he : (stC rest all k p g ov (.slice A nf c)).setIfInBounds i v = stC rest' all' k' p' g' ov' (.slice A nf c)) :
  DecM base (w.setCell ⟨q,i,none⟩ v) q rest' all' k' p' g' ov' nf A c fs :=
 ⟨by have:=zat h.box i v; rw [he] at this; exact this,zdw h.own fun b hb => Below.heap_setCell w ⟨q,i,none⟩ v b (h.ne b hb),h.len,h.tb⟩
theorem DecM.lt (h : DecM base w q rest all k p g ov nf A c fs) : q < w.heap.size:=(Array.getElem?_eq_some_iff.1 h.box).1
end
def zfp (k p : Int) : Bool:=decide (1 <= k) && (decide (k <= 5) && (decide (1 <= p) && decide (p <= 3)))
theorem sright_any (k p : Int) (w : World) : Calls Tryz.prog 33 #[.int .i64 k,.int .i64 p] w fun e w' => e = .returned (.bool (zfp k p)) /\ w = w':=by
 obtain ⟨R,hR⟩ : ∃ R,R = zfp k p:=⟨_,rfl⟩;rw [<- hR];have HR:=hz0q hR;clear hR
 by_cases h1 : 1 <= k
 ·by_cases h2 : k <= 5
  ·by_cases h3 : 1 <= p
   ·by_cases h4 : p <= 3
    ·have HV : Hid (R = true):=(by show _ = _; rw [HR.out]; simp [zfp,h1,h2,h3,h4]);go_enter Tryz.func33,Tryz.ntmps33;go_wp2;go_returns;exact ⟨by rw [HV.out]; first | done | rfl | simp [*],rfl⟩
    ·have h4' : 3 < p:=(by omega);have HV : Hid (R = false):=(by show _ = _; rw [HR.out]; simp [zfp,h4]);go_enter Tryz.func33,Tryz.ntmps33;go_wp2;go_returns;exact ⟨by rw [HV.out]; first | done | rfl | simp [*],rfl⟩
   ·have h3' : p < 1:=(by omega);have HV : Hid (R = false):=(by show _ = _; rw [HR.out]; simp [zfp,h3]);go_enter Tryz.func33,Tryz.ntmps33;go_wp2;go_returns;exact ⟨by rw [HV.out]; first | done | rfl | simp [*],rfl⟩
  ·have h2' : 5 < k:=(by omega);have HV : Hid (R = false):=(by show _ = _; rw [HR.out]; simp [zfp,h2]);go_enter Tryz.func33,Tryz.ntmps33;go_wp2;go_returns;exact ⟨by rw [HV.out]; first | done | rfl | simp [*],rfl⟩
 ·have h1' : k < 1:=(by omega);have HV : Hid (R = false):=(by show _ = _; rw [HR.out]; simp [zfp,h1]);go_enter Tryz.func33,Tryz.ntmps33;go_wp2;go_returns;exact ⟨by rw [HV.out]; first | done | rfl | simp [*],rfl⟩
theorem snew_yes (k p : Int) (g : Bool) (w : World) (h : zfp k p = true) : Calls Tryz.prog 9 #[.int .i64 k,.int .i64 p,.bool g] w fun e w' => e = .returned (.tuple #[.pointer (some ⟨w.heap.size,0,none⟩),.int .i64 0]) /\ DecM w.heap.size w' w.heap.size ⟨#[]⟩ 0 k p g false 0 none 0 [] /\ Below w.heap.size w w':=by
 have R:=sright_any k p w;rw [h] at R;have hd : DecM w.heap.size (w.alloc (.cells (stC ⟨#[]⟩ 0 k p g false (.slice none 0 0)) 93)) w.heap.size ⟨#[]⟩ 0 k p g false 0 none 0 []:=⟨zm w _ _,World.ownsRow_nil _ _ _ _,rfl,Nat.le_refl _⟩;have HD:=hz0q hd;clear hd;go_enter Tryz.func9,Tryz.ntmps9;go_wp2_with fail;refine R.mono ?_;rintro e w' ⟨rfl,rfl⟩;go_wp2;go_returns;exact ⟨rfl,HD.out,(Below.refl _ w).alloc (Nat.le_refl _) _⟩
section
variable {w : World} {q base : Nat} {rest : ByteArray} {k p : Int} {g ov : Bool} {nf c a : Nat} {A : Option Addr} {fs : List (Int × Int)}
theorem add_any (h : DecM base w q rest a k p g ov nf A c fs) (Al : Option Addr) (cl : Nat) (s : ByteArray) (hs : Rd w Al 1 [.string s]) (hbd : rest.size + s.size <= 1073741824) (ha : a + s.size <= 1073741824) :
  Calls Tryz.prog 34 #[.pointer (some ⟨q,0,none⟩),.slice Al 1 cl] w fun e w' => e = .returned (.tuple #[]) /\ DecM base w' q (rest ++ s) (a + s.size : Nat) k p g ov nf A c fs /\ zcb w w' /\ Below base w w':=by
 have J:=zjw Al cl s w hs;have b0:=za h.box 0 rfl;have b1:=za h.box 1 rfl;have f0:=zc h.box 0;have f1:=zc h.box 1;have h1:=h.put (rest':=rest ++ s) (all':=a) (k':=k) (p':=p) (g':=g) (ov':=ov) 0 (.string (rest ++ s)) rfl;have k1:=zcb.set h.box 0 (.string (rest ++ s));obtain ⟨W1,hW1⟩ : ∃ W1,W1 = w.setCell ⟨q,0,none⟩ (.string (rest ++ s)):=⟨_,rfl⟩;rw [<- hW1] at h1 k1;have h2:=h1.put (rest':=rest ++ s) (all':=(a + s.size : Nat)) (k':=k) (p':=p) (g':=g) (ov':=ov) 1 (.int .i64 ((a + s.size : Nat) : Int)) rfl;have k2:=k1.trans (zcb.set h1.box 1 (.int .i64 ((a + s.size : Nat) : Int)))
 have wr : Below base w (W1.setCell ⟨q,1,none⟩ (.int .i64 ((a + s.size : Nat) : Int))):=by
  rw [hW1]; exact ((Below.refl base w).setCell (p:=⟨q,0,none⟩) h.tb _).setCell (p:=⟨q,1,none⟩) h.tb _
 have b11:=za h1.box 1 rfl;have f11:=zc h1.box 1;have HF : Hid (DecM base (W1.setCell ⟨q,1,none⟩ (.int .i64 ((a + s.size : Nat) : Int))) q (rest ++ s) (a + s.size : Nat) k p g ov nf A c fs /\ zcb w (W1.setCell ⟨q,1,none⟩ (.int .i64 ((a + s.size : Nat) : Int))) /\ Below base w (W1.setCell ⟨q,1,none⟩ (.int .i64 ((a + s.size : Nat) : Int)))):=⟨h2,k2,wr⟩;have hsz : ¬ (9223372036854775807 < rest.size + s.size):=(by omega);have hcast : ((a : Int) + (s.size : Int)) = ((a + s.size : Nat) : Int):=(by simp);obtain ⟨m,hm⟩ : ∃ m,m = a + s.size:=⟨_,rfl⟩;rw [<- hm] at HF hcast;have HM:=hz0q hm;have hwm : IntKind.i64.wrap ((a : Int) + (s.size : Int)) = (m : Int):=(by rw [hcast]; exact IntWalk.i64_in _ (by omega));have HW1:=hz0q hW1;rw [<- HM.out];clear h h1 h2 k1 k2 wr hW1 hs hm hcast;go_enter Tryz.func34,Tryz.ntmps34;go_wp2_with fail;refine J.mono ?_;rintro e w' ⟨rfl,rfl⟩;go_upto_region 2 with fail;rw [<- HW1.out];go_wp2;go_end0;exact ⟨rfl,HF.out⟩
theorem from_any (h : DecM base w q rest a k p g ov nf A c fs) (hle : rest.size <= a) (ha : a <= 1073741824) :
  Calls Tryz.prog 81 #[.pointer (some ⟨q,0,none⟩)] w fun e w' => e = .returned (.int .i64 ((a - rest.size : Nat) : Int)) /\ Below w.heap.size w w':=by
 have b0:=za h.box 0 rfl;have b1:=za h.box 1 rfl;have hcast : ((a : Int) - (rest.size : Int)) = ((a - rest.size : Nat) : Int):=(by omega);obtain ⟨m,hm⟩ : ∃ m,m = a - rest.size:=⟨_,rfl⟩;rw [<- hm] at hcast ⊢;have hwm : IntKind.i64.wrap ((a : Int) - (rest.size : Int)) = (m : Int):=(by rw [hcast]; exact IntWalk.i64_in _ (by omega));clear h hm;go_enter Tryz.func81,Tryz.ntmps81;go_wp2_with fail;go_quiet (fail)
 obtain ⟨W5,hW5⟩ : ∃ W5,w.drewN nq = W5:=⟨_,rfl⟩;have HB5 : Hid (Below w.heap.size w W5):=(by rw [<- hW5]; exact zf (Below.refl _ _) _);rw [hW5];clear hW5;go_wp2;go_returns;exact ⟨rfl,HB5.out⟩
theorem all_any (s : ByteArray) (w : World) : Calls Tryz.prog 80 #[.string s] w fun e w' => e = .returned (.int .i64 s.size) /\ Below w.heap.size w w':=by
 go_enter Tryz.func80,Tryz.ntmps80;go_wp2;go_returns;exact ⟨rfl,Below.refl _ _⟩
end
end
section
open Go.RowKit
section
variable {P : Program}
theorem zgg {t e : TypeId} {z : Value} {k bytes : Nat} (E : ElemK P t e z k bytes) (w : World) {ops : Array Oper} {o : Oper} {a : Act} {K : Act -> World -> Prop} {Q : Exit -> Act -> World -> Prop} {R : Prop} (hgd : o.guard = none) (s x : Operand)
  (ho : o.op = .call { callee:=.builtin .append,args:=#[s,x],argTypes:=#[t,t] }) (base : Nat)
  {v : Value} {n : Nat} {xs : List Value} (hs : a.eval s = v) (hown : w.ownsRow base e k v n xs) {A : Option Addr} {m c : Nat} {news : List Value} (hx : a.eval x = .slice A m c) (hr : RdK w A m k news) (h1 : ∀ u ∈ news,u.oneCell' = true)
  (h63 : n + m <= 1099511627776) (hby : bytes <= 64) (hbase : base <= w.heap.size)
  (h : ∀ A' c' w',w'.ownsRow base e k (.slice A' (n + m) c') (n + m) (xs ++ news) -> w.grownBy w' v.ownBlock ->
   ((Value.slice A' (n + m) c').ownBlock = v.ownBlock \/ (Value.slice A' (n + m) c').ownBlock = some w.heap.size) -> K (a.put o.dst (.slice A' (n + m) c')) w') :
  if Region.wanted o (yielded ops a.tmps) = true then Oper.wp P o a w K Q else R:=by
 rw [if_pos (by simp [Region.wanted,hgd])];obtain ⟨A',c',w',hrun,h2,h3,h4⟩:=zld E w o.type base hown (c:=c) hr h1 h63 hby hbase;unfold Oper.wp execOp;simp only [ho,resolve,invoke,builtin,Sem.run_bind,Sem.run_pure,Result.andThen_ok,List.map_toArray,List.map_cons,List.map_nil,hs,hx,hrun];exact h A' c' w' h2 h3 h4
end
section
variable {wr W1 w9 : World} {q base b2 n2 : Nat} {rest : ByteArray} {all k p x y : Int} {g ov : Bool} {nf c c' : Nat} {A A' : Option Addr} {fs : List (Int × Int)} {v2 : Value} {x2 : List Value}
end
end
end Go.Proofs.YtolcabjkbefjgaaGreatDoor
section
namespace Go.Proofs
open Go.Shelf
def Tryz.lays196_ren : Go.Shelf.Ren:=⟨fun | 196 => 177 | 259 => 208 | n => n,fun | 9 => 9 | 4 => 4 | 3 => 3 | 5 => 5 | 12 => 12 | 119 => 331 | 0 => 0 | 46 => 219 | 139 => 334 | 138 => 333 | 53 => 286 | n => n,fun | 3 => 2 | 4 => 3 | n => n⟩
theorem Tryz.lays196 : Go.Proofs.Lays.n196 Tryz.prog Tryz.lays196_ren:={
 mixed:=by kernel_rfl
 f196:=Tryz.func177.trans (congrArg some (by kernel_rfl))
 f259:=Tryz.func208.trans (congrArg some (by kernel_rfl))
 t0:=Tryz.underlying0
 a0:=Tryz.isAgg0
 z0:=Tryz.sizeOf0
 v0:=Tryz.zeroValue0
 t3:=Tryz.underlying3
 a3:=Tryz.isAgg3
 z3:=Tryz.sizeOf3
 v3:=Tryz.zeroValue3
 t4:=Tryz.underlying4
 a4:=Tryz.isAgg4
 z4:=Tryz.sizeOf4
 v4:=Tryz.zeroValue4
 t5:=Tryz.underlying5
 a5:=Tryz.isAgg5
 z5:=Tryz.sizeOf5
 v5:=Tryz.zeroValue5
 t9:=Tryz.underlying9
 a9:=Tryz.isAgg9
 z9:=Tryz.sizeOf9
 v9:=Tryz.zeroValue9
 t12:=Tryz.underlying12
 a12:=Tryz.isAgg12
 z12:=Tryz.sizeOf12
 v12:=Tryz.zeroValue12
 t46:=Tryz.underlying219
 a46:=Tryz.isAgg219
 z46:=Tryz.sizeOf219
 v46:=Tryz.zeroValue219
 t53:=Tryz.underlying286
 a53:=Tryz.isAgg286
 z53:=Tryz.sizeOf286
 v53:=Tryz.zeroValue286
 t119:=Tryz.underlying331
 a119:=Tryz.isAgg331
 z119:=Tryz.sizeOf331
 t138:=Tryz.underlying333
 a138:=Tryz.isAgg333
 z138:=Tryz.sizeOf333
 v138:=Tryz.zeroValue333
 t139:=Tryz.underlying334
 a139:=Tryz.isAgg334
 z139:=Tryz.sizeOf334
 v139:=Tryz.zeroValue334
 g3:=by kernel_rfl
 g4:=by kernel_rfl }
open Go.RowKit in
theorem Tryz.utf8_ValidString (s : ByteArray) (w : World) (hs : s.size <= 9223372036854775807) (hT : Lib.Utf8Tabs 2 3 w) :
  Calls Tryz.prog 177 #[.string s] w fun e w' => e = .returned (.bool (Lib.validD s.data.toList)) /\ Below w.heap.size w w':=Any.utf8_ValidString Tryz.lays196 s w hs hT
def Tryz.lays110_ren : Go.Shelf.Ren:=⟨fun | 110 => 140 | 109 => 182 | n => n,fun | 31 => 28 | 9 => 9 | 4 => 4 | 3 => 3 | 0 => 0 | n => n,fun | n => n⟩
theorem Tryz.lays110 : Go.Proofs.Lays.n110 Tryz.prog Tryz.lays110_ren:={
 mixed:=by kernel_rfl
 f109:=Tryz.func182.trans (congrArg some (by kernel_rfl))
 f110:=Tryz.func140.trans (congrArg some (by kernel_rfl))
 t0:=Tryz.underlying0
 a0:=Tryz.isAgg0
 z0:=Tryz.sizeOf0
 v0:=Tryz.zeroValue0
 t3:=Tryz.underlying3
 a3:=Tryz.isAgg3
 z3:=Tryz.sizeOf3
 v3:=Tryz.zeroValue3
 t4:=Tryz.underlying4
 a4:=Tryz.isAgg4
 z4:=Tryz.sizeOf4
 v4:=Tryz.zeroValue4
 t9:=Tryz.underlying9
 a9:=Tryz.isAgg9
 z9:=Tryz.sizeOf9
 v9:=Tryz.zeroValue9
 t31:=Tryz.underlying28
 a31:=Tryz.isAgg28
 z31:=Tryz.sizeOf28
 v31:=Tryz.zeroValue28 }
open Go.Lib in
theorem Tryz.slices_Contains_string (b off n c : Nat) (zs : List ByteArray) (x : ByteArray) (w : World) (hz : n <= zs.length) (hbig : n <= 9223372036854775807) (hc : ∀ j,j < zs.length -> w.cell? ⟨b,off + j,none⟩ = some (.string (zs.getD j ByteArray.empty))) :
  Calls Tryz.prog 140 #[.slice (some ⟨b,off,none⟩) n c,.string x] w fun e w' => e = .returned (.bool (Lib.containsS (zs.take n) x)) /\ w' = w:=Any.slices_Contains_string Tryz.lays110 b off n c zs x w hz hbig hc
open Go.Lib in
theorem Tryz.slices_Contains_string_empty (a : Option Addr) (c : Nat) (x : ByteArray) (w : World) :
  Calls Tryz.prog 140 #[.slice a 0 c,.string x] w fun e w' => e = .returned (.bool false) /\ w' = w:=Any.slices_Contains_string_empty Tryz.lays110 a c x w
def Tryz.laysNm216_ren : Go.Shelf.Ren:=⟨fun | 16 => 141 | n => n,fun | 24 => 28 | 9 => 9 | 4 => 4 | n => n,fun | n => n⟩
theorem Tryz.laysNm216 : Go.Proofs.Lays2.n16 Tryz.prog Tryz.laysNm216_ren:={
 mixed:=by kernel_rfl
 f16:=Tryz.func141.trans (congrArg some (by kernel_rfl))
 t4:=Tryz.underlying4
 a4:=Tryz.isAgg4
 z4:=Tryz.sizeOf4
 v4:=Tryz.zeroValue4
 t9:=Tryz.underlying9
 a9:=Tryz.isAgg9
 z9:=Tryz.sizeOf9
 v9:=Tryz.zeroValue9
 t24:=Tryz.underlying28
 a24:=Tryz.isAgg28
 z24:=Tryz.sizeOf28
 v24:=Tryz.zeroValue28
 i9:=by kernel_rfl }
open Go.RowKit Go.Lib in
theorem Tryz.slices_Clone_string (b off n c : Nat) (zs : List ByteArray) (w : World) (hz : n <= zs.length) (hbig : n * 16 <= 140737488355328) (hc : ∀ j,j < zs.length -> w.cell? ⟨b,off + j,none⟩ = some (.string (zs.getD j ByteArray.empty))) :
  Calls Tryz.prog 141 #[.slice (some ⟨b,off,none⟩) n c] w fun e w' => ∃ v',e = .returned v' /\ w'.ownsRow w.heap.size 9 1 v' n ((zs.take n).map (Value.string)) /\ v' ≠ .slice none 0 0 /\ Below w.heap.size w w':=Any.slices_Clone_string Tryz.laysNm216 b off n c zs w hz hbig hc
open Go.RowKit Go.Lib in
theorem Tryz.slices_Clone_string_nil (n c : Nat) (w : World) :
  Calls Tryz.prog 141 #[.slice none n c] w fun e w' => e = .returned (.slice none 0 0) /\ w' = w:=Any.slices_Clone_string_nil Tryz.laysNm216 n c w
open Go.RowKit Go.Lib in
theorem Tryz.slices_Clone_string_zero (a : Addr) (c : Nat) (w : World) :
  Calls Tryz.prog 141 #[.slice (some a) 0 c] w fun e w' => ∃ v',e = .returned v' /\ w'.ownsRow w.heap.size 9 1 v' 0 [] /\ v' ≠ .slice none 0 0 /\ Below w.heap.size w w':=Any.slices_Clone_string_zero Tryz.laysNm216 a c w
end Go.Proofs
end
namespace Go.Proofs.YtolcabjkbefjgaaGreatDoor
section
open Go.RowKit
theorem zbd {P : Program} {t e : TypeId} {z : Value} {bytes : Nat} (E : Elem P t e z bytes) (w : World) {ops : Array Oper} {o : Oper} {a : Act} {K : Act -> World -> Prop} {Q : Exit -> Act -> World -> Prop} {R : Prop} (hgd : o.guard = none) (s x : Operand)
  (ho : o.op = .call { callee:=.builtin .append,args:=#[s,x],argTypes:=#[t,t] }) (base : Nat)
  {v : Value} {n : Nat} {xs : List Value} (hs : a.eval s = v) (hown : w.ownsRow base e 1 v n xs) {A : Option Addr} {m c : Nat} {news : List Value} (hx : a.eval x = .slice A m c) (hr : Rd w A m news) (h1 : ∀ u ∈ news,u.oneCell' = true)
  (h63 : n + m <= 1099511627776) (hby : bytes <= 64) (hbase : base <= w.heap.size)
  (h : ∀ A' c' w',w'.ownsRow base e 1 (.slice A' (n + m) c') (n + m) (xs ++ news) -> w.grownBy w' v.ownBlock ->
   ((Value.slice A' (n + m) c').ownBlock = v.ownBlock \/ (Value.slice A' (n + m) c').ownBlock = some w.heap.size) -> K (a.put o.dst (.slice A' (n + m) c')) w') :
  if Region.wanted o (yielded ops a.tmps) = true then Oper.wp P o a w K Q else R:=by
 rw [if_pos (by simp [Region.wanted,hgd])];obtain ⟨A',c',w',hrun,h2,h3,h4⟩:=zmo E w o.type base hown (c:=c) hr h1 h63 hby hbase;unfold Oper.wp execOp;simp only [ho,resolve,invoke,builtin,Sem.run_bind,Sem.run_pure,Result.andThen_ok,List.map_toArray,List.map_cons,List.map_nil,hs,hx,hrun];exact h A' c' w' h2 h3 h4
end
end Go.Proofs.YtolcabjkbefjgaaGreatDoor
