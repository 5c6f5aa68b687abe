/- Lines of a text: the word, the document's answer, and the code's. A decoder in memory; how many bytes are sure, and what is read of bytes. An entry that is asked for, and then written: 'a[x], b[y] = u, v'. -/
import Derived.Test.YtolcabjkbefjgaaGreatDoorY07
import Derived.WideKeyEntry
set_option linter.unusedSimpArgs false
set_option linter.unusedVariables false
set_option maxRecDepth 20000
set_option maxHeartbeats 4000000
namespace Go.Proofs.YtolcabjkbefjgaaGreatDoor
section
open Go.RowKit
def tellL (l : List UInt8) : List UInt8:=bareL (Lib.cut l [35]).1
theorem tellL_len (l : List UInt8) : (tellL l).length <= l.length:=by
 have h1:=zcm (Lib.cut l [35]).1;have h2:=(zl6 l [35]).1;unfold tellL;omega
def za4 : List (Int × List UInt8) -> Nat -> List (List UInt8) -> List (Int × List UInt8) × Int
 | out,_,[] => (out,0)
 | out,k,l :: ls => if 512 < l.length then ([],10) else za4 (if tellL l = [] then out else out ++ [((k : Int) + 1,tellL l)]) (k + 1) ls
def zbj (s : List UInt8) : List (Int × List UInt8) × Int:=if 4096 < (cutL 10 s).length then ([],14) else za4 [] 0 (cutL 10 s)
theorem zgw {out : List (Int × List UInt8)} {k : Nat} {l : List UInt8} {ls : List (List UInt8)} (h : 512 < l.length) : za4 out k (l :: ls) = ([],10):=by
 simp only [za4]; rw [if_pos h]
theorem zgv {out : List (Int × List UInt8)} {k : Nat} {l : List UInt8} {ls : List (List UInt8)} (h : ¬ 512 < l.length) (ht : tellL l = []) : za4 out k (l :: ls) = za4 out (k + 1) ls:=by
 simp only [za4]; rw [if_neg h,if_pos ht]
theorem zgt {out : List (Int × List UInt8)} {k : Nat} {l : List UInt8} {ls : List (List UInt8)} (h : ¬ 512 < l.length) (ht : ¬ tellL l = []) : za4 out k (l :: ls) = za4 (out ++ [((k : Int) + 1,tellL l)]) (k + 1) ls:=by
 simp only [za4]; rw [if_neg h,if_neg ht]
def Ls (os : List (Int × List UInt8)) : List Value:=os.flatMap fun p => [Value.int .i64 p.1,Value.string (mk8 p.2)]
theorem Ls_snoc (os : List (Int × List UInt8)) (p : Int × List UInt8) : Ls (os ++ [p]) = Ls os ++ [Value.int .i64 p.1,Value.string (mk8 p.2)]:=by simp [Ls]
theorem Ls_at : ∀ (os : List (Int × List UInt8)) (i : Nat) (p : Int × List UInt8),os[i]? = some p -> (Ls os)[i * 2]? = some (.int .i64 p.1) /\ (Ls os)[i * 2 + 1]? = some (.string (mk8 p.2))
 | [],i,p,h => by simp at h
 | y :: t,0,p,h => by
  simp at h;subst h;simp [Ls]
 | y :: t,i + 1,p,h => by
  have ih:=Ls_at t i p (by simpa using h);have e : Ls (y :: t) = Value.int .i64 y.1 :: Value.string (mk8 y.2) :: Ls t:=(by simp [Ls]);rw [e,show (i + 1) * 2 = i * 2 + 1 + 1 by omega,show i * 2 + 1 + 1 + 1 = (i * 2 + 1) + 1 + 1 by omega];simpa using ih
theorem two_of {n : Int} {s : ByteArray} : ∀ u ∈ [Value.int .i64 n,Value.string s],u.oneCell' = true:=by
 intro u hu;simp at hu;rcases hu with rfl | rfl <;> rfl
theorem lineElem : ElemK Tryz.prog 138 151 (.agg #[.int .i64 0,.string ByteArray.empty]) 2 24:=⟨Tryz.underlying138,by kernel_rfl,rfl,by omega⟩
def zk1 (T : TypeId) (w : World) (r : List (Int × List UInt8) × Int) (e : Ending) (w' : World) : Prop :=
 ∃ A c,e = .returned (.tuple #[.slice A r.1.length c,.int .i64 r.2]) /\ w'.ownsRow w.heap.size T 2 (.slice A r.1.length c) r.1.length (Ls r.1) /\ Below w.heap.size w w'
theorem zk1.rd {T : TypeId} {w w' : World} {r : List (Int × List UInt8) × Int} {e : Ending} (h : zk1 T w r e w') : ∃ A c,e = .returned (.tuple #[.slice A r.1.length c,.int .i64 r.2]) /\ RdK w' A r.1.length 2 (Ls r.1) /\ Below w.heap.size w w':=by
 obtain ⟨A,c,he,hown,hb⟩:=h;obtain ⟨A',c',e2,_,_,hr⟩:=RdK.of_own hown;injection e2 with e2a _ _;subst e2a;exact ⟨A,c,he,hr,hb⟩
end
section
open Go.RowKit
abbrev stC (rest : ByteArray) (all k p : Int) (g ov : Bool) (vb : Value) : Array Value:=#[.string rest,.int .i64 all,.int .i64 k,.int .i64 p,.bool g,.bool ov,vb]
section
variable {w : World} {q : Nat} {rest : ByteArray} {all k p : Int} {g ov : Bool} {vb : Value}
end
end
section
open Go.RowKit Go.Lib Go.Maps Go.ChangeMaps Go.MapKept Go.WideElems
section
variable {α β : Type} {P : Program} {K : TypeId} {mk : α -> Value} {lit : α -> Lit} {ok : α -> Prop} {mkV : β -> Value} {w : World} {b n : Nat} {f : α -> Option β}
def HalfF (P : Program) (t K : TypeId) (lit : α -> Lit) (ok : α -> Prop) (mkV : β -> Value) [DecidableEq α] (w1 : World) (b n : Nat) (f : α -> Option β) (k : α) (st : Value) : Prop :=
 b < w1.heap.size /\ ∀ (w2 : World) (c : β),w2.heap[b]? = w1.heap[b]? -> ∃ w',(Instr.entryStore t (.map (some b)) st (mkV c)).run P w2 = .ok () w' /\ MapF w' P K lit ok mkV b (n + 1) (upd f k (some c)) /\ w2.grownBy w' (some b) /\ w'.heap.size = w2.heap.size
theorem zca (w : World) (b : Nat) (o : Obj) : w.grownBy (setBlock w b o) (some b):=⟨rfl,rfl,rfl,by simp [setBlock],fun k _ hk => by
 have : b ≠ k:=fun e => hk (by rw [e])
 simp [setBlock,Array.getElem?_modify,this]⟩
theorem MapF.entry [DecidableEq α] {t e : TypeId} {zv : β} (h : MapF w P K lit ok mkV b n f) (B : KeyB P K mk lit ok) (ht : P.underlying t = some (.map K e)) (hz : ∀ u : World,(zeroValue e).run P u = .ok (mkV zv) u) (hn : n < maxLen) {k : α} (hk : ok k) :
  ∃ v0 st w1,(Instr.mapEntry t (.map (some b)) (mk k)).run P w = .ok (.tuple #[v0,st]) w1 /\ HalfF P t K lit ok mkV w1 b n f k st /\ w.grownBy w1 (some b) /\ w1.heap.size = w.heap.size:=by
 have hput:=fun c => h.put B ht hn hk c;have hlt:=h.lt;obtain ⟨D,⟨es,clock,hb,F,hs,hD⟩,s⟩:=h;obtain ⟨s1,s2,_⟩:=F.stamped;have hkey:=B.of hk;have KK:=B.keyed;have blk : ∀ (u : World) (x : Array MapEntry) (y : Nat) (o' : Obj),u.heap[b]? = some (.map x y) -> (setBlock u b o').heap[b]? = some o':=fun u x y o' hu => heap_setBlock_same hu o'
 have fin : ∀ (w1 : World) (st : Value) (es1 : Array MapEntry) (clock1 : Nat),w1 = setBlock w b (.map es1 clock1) ->
   (∀ (w2 : World) (c : β),w2.heap[b]? = some (.map es1 clock1) -> ∃ es' clock',(Instr.entryStore t (.map (some b)) st (mkV c)).run P w2 = .ok () (setBlock w2 b (.map es' clock')) /\ (Instr.mapUpdate t (.map (some b)) (mk k) (mkV c)).run P w = .ok () (setBlock w b (.map es' clock'))) ->
   HalfF P t K lit ok mkV w1 b n f k st:=by
  rintro w1 st es1 clock1 rfl hall;refine ⟨by simpa [setBlock] using hlt,fun w2 c h2 => ?_⟩;obtain ⟨es',clock',r1,r2⟩:=hall w2 c (h2.trans (blk w _ _ _ hb));have h2b : w2.heap[b]? = some (.map es1 clock1):=h2.trans (blk w _ _ _ hb);obtain ⟨w',p1,p2,_,_⟩:=hput c;rw [r2] at p1;injection p1 with _ p1;subst p1;exact ⟨_,r1,p2.at ((blk w2 _ _ _ h2b).trans (blk w _ _ _ hb).symm),zca _ _ _,by simp [setBlock]⟩
 rcases KK.find w hkey es.toList F.keys with ⟨h1,h2⟩ | ⟨j,e0,h1,h2,h3⟩
 ·refine ⟨mkV zv,goInt clock,setBlock w b (.map (es.push ⟨mk k,mkV zv,clock⟩) (clock + 1)),?_,fin _ _ _ _ rfl fun w2 c hw2 => ⟨es.push ⟨mk k,mkV c,clock⟩,clock + 1,?_,?_⟩,zca _ _ _,by simp [setBlock]⟩
  ·simp [Instr.mapEntry,run_underlying ht,MapKept.run_getObj_map hb,KK.check w false hkey,h1,hz,MapKept.run_setObj_map _ hb,Result.andThen,setBlock]
  ·have hnd : ((es.push ⟨mk k,mkV zv,clock⟩).toList.map (·.born)).Nodup:=by
    rw [Array.toList_push,List.map_append,List.nodup_append];refine ⟨s2,by simp,fun a ha c hc e1 => ?_⟩;obtain ⟨x,hx,rfl⟩:=List.mem_map.1 ha;have:=s1 x hx;simp at hc;omega
   have hidx : (es.push ⟨mk k,mkV zv,clock⟩).findIdx? (fun e => ((e.born : Nat) : Int) == ((clock : Nat) : Int)) = some es.size:=by
    rw [findIdx_arr];exact findIdx_born hnd (j:=es.size) (e0:=⟨mk k,mkV zv,clock⟩) (by simp)
   have hmod : (es.push ⟨mk k,mkV zv,clock⟩).modify es.size (fun e => { e with val:=mkV c }) = es.push ⟨mk k,mkV c,clock⟩ :=
    Array.ext' (by rw [Array.toList_modify,Array.toList_push,Array.toList_push,<- Array.length_toList,modify_last])
   simp [Instr.entryStore,MapKept.run_getObj_map hw2,asInt,asIntOf,goInt,hidx,hmod,MapKept.run_setObj_map _ hw2,Result.andThen,setBlock]
  ·simp [Instr.mapUpdate,run_underlying ht,MapKept.run_getObj_map hb,KK.check w false hkey,h1,MapKept.run_setObj_map _ hb,Result.andThen,setBlock]
 ·have hj : es[j]? = some e0:=by simpa using h2
  have hid : es.modify j (fun e => { e with key:=mk k }) = es:=Array.ext' (by
   rw [Array.toList_modify,modify_eq_set _ _ _ _ h2];have : ({ e0 with key:=mk k } : MapEntry) = e0:=(by rw [<- h3]);rw [this]
   exact set_self _ _ _ h2)
  refine ⟨e0.val,goInt e0.born,setBlock w b (.map es clock),?_,fin _ _ _ _ rfl fun w2 c hw2 => ⟨es.modify j (fun e' => { e' with key:=mk k,val:=mkV c }),clock,?_,?_⟩,zca _ _ _,by simp [setBlock]⟩
  ·simp [Instr.mapEntry,run_underlying ht,MapKept.run_getObj_map hb,KK.check w false hkey,h1,hj,h3,KK.stays w hkey,hid,MapKept.run_setObj_map _ hb,Result.andThen,setBlock]
  ·have hidx : es.findIdx? (fun e => ((e.born : Nat) : Int) == ((e0.born : Nat) : Int)) = some j:=by
    rw [findIdx_arr];exact findIdx_born s2 h2
   have hmod : es.modify j (fun e => { e with val:=mkV c }) = es.modify j (fun e' => { e' with key:=mk k,val:=mkV c }):=Array.ext' (by
    rw [Array.toList_modify,Array.toList_modify,modify_eq_set _ _ _ _ h2,modify_eq_set _ _ _ _ h2];congr 1
    rw [<- h3])
   simp [Instr.entryStore,MapKept.run_getObj_map hw2,asInt,asIntOf,goInt,hidx,hmod,MapKept.run_setObj_map _ hw2,Result.andThen,setBlock]
  ·simp [Instr.mapUpdate,run_underlying ht,MapKept.run_getObj_map hb,KK.check w false hkey,h1,hj,h3,KK.stays w hkey,MapKept.run_setObj_map _ hb,Result.andThen,setBlock]
variable {ops : Array Oper} {rest : List Oper} {o : Oper} {a : Act} {Q : Exit -> Act -> World -> Prop}
theorem zgf [DecidableEq α] {K' : Act -> World -> Prop} {R : Prop} {t e : TypeId} {zv : β} (hg : o.guard = none) (m x : Operand) (hop : o.op = Op.mapEntry t m x) (B : KeyB P K mk lit ok) (ht : P.underlying t = some (.map K e)) (hz : ∀ u : World,(zeroValue e).run P u = .ok (mkV zv) u) (hn : n < maxLen)
  (h : MapF w P K lit ok mkV b n f) {k : α} (hk : ok k) (hm : a.eval m = .map (some b)) (hx : a.eval x = mk k)
  (hK : ∀ v0 st w1,HalfF P t K lit ok mkV w1 b n f k st -> w.grownBy w1 (some b) -> w1.heap.size = w.heap.size -> K' (a.put o.dst (.tuple #[v0,st])) w1) : if Region.wanted o (yielded ops a.tmps) = true then Oper.wp P o a w K' Q else R:=by
 rw [if_pos (by simp [Region.wanted,hg])];obtain ⟨v0,st,w1,hrun,r1,r2,r3⟩:=h.entry B ht hz hn hk;unfold Oper.wp;simp [execOp,hop,hm,hx,hrun,Result.andThen];exact hK v0 st w1 r1 r2 r3
theorem zc1 [DecidableEq α] {K' : Act -> World -> Prop} {R : Prop} {t : TypeId} {w1 : World} {st : Value} {k : α} (hg : o.guard = none) (m s x : Operand) (hop : o.op = Op.entryStore t m s x)
  (h : HalfF P t K lit ok mkV w1 b n f k st) (hb : w.heap[b]? = w1.heap[b]?) (c : β) (hm : a.eval m = .map (some b)) (hs : a.eval s = st) (hx : a.eval x = mkV c)
  (hK : ∀ w',MapF w' P K lit ok mkV b (n + 1) (upd f k (some c)) -> w.grownBy w' (some b) -> w'.heap.size = w.heap.size -> K' (a.put o.dst undef) w') : if Region.wanted o (yielded ops a.tmps) = true then Oper.wp P o a w K' Q else R:=by
 rw [if_pos (by simp [Region.wanted,hg])];obtain ⟨w',hrun,r1,r2,r3⟩:=h.2 w c hb;unfold Oper.wp;simp [execOp,hop,hm,hs,hx,hrun,Result.andThen];exact hK w' r1 r2 r3
end
end
end Go.Proofs.YtolcabjkbefjgaaGreatDoor
