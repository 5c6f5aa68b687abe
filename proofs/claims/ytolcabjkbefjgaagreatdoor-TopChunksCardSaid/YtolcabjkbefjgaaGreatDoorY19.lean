/- slices.AppendSeq, Collect and Sorted at characters: printed by mkkeyb.py out of the worked proofs at other keys. Maps of few keys; how many characters are not yet marked. Plain. -/
import Derived.Shelf.SlIter.Collect
import Derived.Shelf.SlIterI.Keys
import Derived.RangeFuncKeeps
import Derived.RangeFuncBound
import Derived.Test.YtolcabjkbefjgaaGreatDoorY18
set_option linter.unusedSimpArgs false
set_option linter.unusedVariables false
set_option maxRecDepth 20000
set_option maxHeartbeats 4000000
namespace Go.Proofs.YtolcabjkbefjgaaGreatDoor
section
open Go.RowKit Go.Lib Go.Maps Go.Sort Go.Shelf
def zit : Code:=(Code.region 2 #[{ dst:=some 5,op:=Op.assign (Operand.tmp 7),type:=21,pos := "iter.go:51",after:=#[],guard:=none }] false)
def znb : Code:=(Code.block 1 (Code.region 3 #[{ dst:=some 8,op:=Op.load (42) (Operand.tmp 2),type:=42,pos := "iter.go:52",after:=#[],guard:=none },{ dst:=some 9,op:=Op.move (Operand.tmp 5),type:=21,pos := "iter.go:52",after:=#[],guard:=none },{ dst:=some 10,op:=Op.buildSlice (42) 1 #[(0,Operand.tmp 9)],type:=42,pos := "iter.go:52",after:=#[{ on:=1,ground:=Ground.data }],guard:=none },{ dst:=some 11,op:=Op.call { callee:=Callee.builtin Builtin.append,args:=#[Operand.tmp 8,Operand.tmp 10],argTypes:=#[42,42] },type:=42,pos := "iter.go:52",after:=#[{ on:=0,ground:=Ground.data },{ on:=2,ground:=Ground.data }],guard:=none },{ dst:=none,op:=Op.store (42) (Operand.tmp 2) (Operand.tmp 11),type:=0,pos := "iter.go:52",after:=#[{ on:=3,ground:=Ground.data },{ on:=3,ground:=Ground.chain },{ on:=0,ground:=Ground.phase },{ on:=1,ground:=Ground.phase },{ on:=2,ground:=Ground.phase },{ on:=3,ground:=Ground.phase }],guard:=none }] false))
def apRec (fn : FuncId) (sv : Value) (Bs D : Nat) (st : LoopState) (pend : Option Code) : Loop :=
 { state:=st,pending:=pend,fn,tmps:=#[.slice none 0 0,sv,.pointer (some ⟨Bs,0,none⟩),undef,.slice none 0 0,undef,sv,undef,undef,undef,undef,undef,undef],params:=#[7],assign:=zit,body:=znb,defers:=D }
structure ApAt (w0 : World) (fn : FuncId) (sv : Value) (Bs l D : Nat) (ss : List Int) (W : World) : Prop where
 box : ∃ v,W.heap[Bs]? = some (.cells #[v] (42) (0,0)) /\ W.ownsRow w0.heap.size (21) 1 v ss.length (ss.map runeV) /\ (v = .slice none 0 0 ↔ ss = [])
 L : W.heap[l]? = some (.loop (apRec fn sv Bs D .ready none))
 K : W.heap[D]? = some (.deferred (some []))
 below : Below w0.heap.size w0 W
theorem ap_abides (w0 : World) (fn : FuncId) (sv : Value) (Bs l D B : Nat) (hB : w0.heap.size <= B) : AbidesFrom B (ApAt w0 fn sv Bs l D):=fun s W W' row h hg hrow => by
 have hrow' : ∀ r,row = some r -> ∃ o : Obj,W.heap[r]? = some o /\ o.isWalk = true:=fun r e => (hrow r e).2;obtain ⟨v,hv,hr,hn⟩:=h.box
 exact ⟨⟨v,(grownBy_keeps hg hrow' hv rfl).trans hv,ownsRow_abides_a hr hg hrow',hn⟩,(grownBy_keeps hg hrow' h.L rfl).trans h.L,(grownBy_keeps hg hrow' h.K rfl).trans h.K,
  h.below.grown hg h.below.size (fun k e => Nat.le_trans hB (hrow k e).1)⟩
theorem apYield (F : Fence) (m : Nat) (w0 : World) (fn : FuncId) (hfn : F.fn fn) (sv : Value) (Bs l D : Nat) (hBl : Bs ≠ l) (hDl : D ≠ l) (hDB : D ≠ Bs) (h0B : w0.heap.size <= Bs) (h0l : w0.heap.size <= l)
  (N : Nat) (hN : N <= maxLen) (hNb : N * 8 <= 140737488355328) (ss : List Int) (x : Int) (W : World) (h : ApAt w0 fn sv Bs l D ss W) (hlen : ss.length < N) :
  YieldAt F m Tryz.prog l #[runeV x] W fun e W' => e = .returned (.bool true) /\ ApAt w0 fn sv Bs l D (ss ++ [x]) W' /\ KeepsWalks W W':=by
 have hne : (42 : TypeId) ≠ 21:=(by decide);obtain ⟨i0,hi,hz0,hz1,hz2⟩:=info_parts zal.hi;obtain ⟨v,hv,hrow,_⟩:=h.box;refine ⟨fn,#[.slice none 0 0,sv,.pointer (some ⟨Bs,0,none⟩),undef,.slice none 0 0,undef,sv,runeV x,undef,undef,undef,undef,undef],zit,znb,by simpa [apRec] using run_yield (P:=Tryz.prog) (args:=#[runeV x]) h.L rfl,roundIn_of_wpIn hfn ?_⟩;have hl : l < W.heap.size:=(Array.getElem?_eq_some_iff.1 h.L).1;have hbr:=run_beginRound (P:=Tryz.prog) h.L rfl;obtain ⟨W2,hW2⟩ : ∃ W2,W.putObj l (.loop { apRec fn sv Bs D .ready none with state:=.busy }) = W2:=⟨_,rfl⟩;rw [hW2] at hbr;have hg2 : W.grownBy W2 (some l):=(by rw [<- hW2]; exact grownBy_putObj_a _ _ _);have hk2 : KeepsWalks W W2:=(by rw [<- hW2]; exact KeepsWalks.putObj _ h.L rfl);have hv2 : W2.heap[Bs]? = some (.cells #[v] (42) (0,0)):=(by rw [<- hW2]; exact (World.putObj_heap_other hBl).trans hv);have hK2 : W2.heap[D]? = some (.deferred (some [])):=(by rw [<- hW2]; exact (World.putObj_heap_other hDl).trans h.K);have hL2 : W2.heap[l]? = some (.loop { apRec fn sv Bs D .ready none with state:=.busy }):=(by rw [<- hW2]; exact World.putObj_heap_same hl);have hrow2 : W2.ownsRow w0.heap.size (21) 1 v ss.length (ss.map runeV):=hrow.kept hg2 (ownsRow_ne_a hrow h.L (fun cur e => by first | cases e | exact hne (Obj.cells.inj e).2.1))
 have hb2 : Below w0.heap.size w0 W2:=h.below.grown hg2 h.below.size (fun k e => by cases e; exact h0l);obtain ⟨hc2,hf2⟩:=cell_of_box_a hv2;have hBlt : Bs < W2.heap.size:=(Array.getElem?_eq_some_iff.1 hv2).1;have hl2 : l < W2.heap.size:=(Array.getElem?_eq_some_iff.1 hL2).1;have hDlt : D < W2.heap.size:=(Array.getElem?_eq_some_iff.1 hK2).1
 have ne_of : ∀ {j : Nat} {o : Obj},W2.heap[j]? = some o -> (∀ cur,o ≠ .cells cur (21) (0,0)) -> some j ≠ v.ownBlock:=fun hj hno => by
  rcases ownsRow_ne_a hrow2 hj hno with e | e
  ·rw [e]; simp
  ·exact fun e' => e e'.symm
 clear hW2;unfold zit
 gi_wp2_with gi_round_op_a
 unfold znb
 gi_wp2_with (first
  | (gi_at_builtin; refine wpListIn_append_own _ rfl _ _ (42) rfl w0.heap.size (21) i0 (.int .i32 0) 1 4 Tryz.underlying42 hi hz0 hz1 hz2 rfl (by decide) _ _ _ rfl (hrow2.alloc _) ⟨W2.heap.size,0,none⟩ 1 1 [runeV x] rfl rfl (cell_one_new _ _ _) (by simp [Value.oneCell',runeV]) (by omega) (by omega) (by have:=hb2.size; simp; omega) ?_; intro v' w3 hown' hg3 hnil3
     have hv3 : w3.heap[Bs]? = some (.cells #[v] (42) (0,0)):=(hg3.block Bs (by simp; omega) (ne_of hv2 (fun cur e => by first | cases e | exact hne (Obj.cells.inj e).2.1))).trans ((Below.heap_alloc _ _ Bs hBlt).trans hv2)
     obtain ⟨hc3,hf3⟩:=cell_of_box_a hv3
     obtain ⟨g',cap',cur',rfl,hbase',hgb',hr1,hr2,hr3,hr4⟩ : ∃ g' cap' cur',v' = .slice (some ⟨g',0,none⟩) (ss.length + 1) cap' /\ w0.heap.size <= g' /\ w3.heap[g']? = some (.cells cur' (21) (0,0)) /\ ss.length + 1 <= cap' /\ cap' <= maxLen /\ cur'.size = cap' * 1 /\ cur'.toList.take ((ss.length + 1) * 1) = ss.map runeV ++ [runeV x]:=by
      rcases hown'.2 with ⟨_,h0⟩ | h'
      ·exact absurd h0 (by omega)
      ·exact h'
     go_frame)
  | gi_round_op_a)
 have hg3' : (W2.alloc (.cells #[runeV x] (21))).grownBy w3 v.ownBlock:=hg3;have hL3 : w3.heap[l]? = some (.loop { apRec fn sv Bs D .ready none with state:=.busy }):=(hg3'.block l (by simp; omega) (ne_of hL2 (fun cur e => by first | cases e | exact hne (Obj.cells.inj e).2.1))).trans ((Below.heap_alloc _ _ l hl2).trans hL2)
 have hK3 : w3.heap[D]? = some (.deferred (some [])):=(hg3'.block D (by simp; omega) (ne_of hK2 (fun cur e => by first | cases e | exact hne (Obj.cells.inj e).2.1))).trans ((Below.heap_alloc _ _ D hDlt).trans hK2)
 obtain ⟨w4,hw4⟩ : ∃ w4,w3.setCell ⟨Bs,0,none⟩ (.slice (some ⟨g',0,none⟩) (ss.length + 1) cap') = w4:=⟨_,rfl⟩;rw [hw4];have hg4 : w3.grownBy w4 (some Bs):=(by rw [<- hw4]; exact grownBy_setCell0_a _ _ _);have hv4 : w4.heap[Bs]? = some (.cells #[.slice (some ⟨g',0,none⟩) (ss.length + 1) cap'] (42) (0,0)):=(by rw [<- hw4]; exact heap_setCell_box_a _ hv3);have hL4 : w4.heap[l]? = some (.loop { apRec fn sv Bs D .ready none with state:=.busy }):=(hg4.block l (Array.getElem?_eq_some_iff.1 hL3).1 (fun e => hBl (by cases e; rfl))).trans hL3;have hK4 : w4.heap[D]? = some (.deferred (some [])):=(hg4.block D (Array.getElem?_eq_some_iff.1 hK3).1 (fun e => hDB (by cases e; rfl))).trans hK3;have hrow4:=hown'.kept hg4 (ownsRow_ne_a hown' hv3 (fun cur e => by first | cases e | exact hne (Obj.cells.inj e).2.1))
 have hl4 : l < w4.heap.size:=(Array.getElem?_eq_some_iff.1 hL4).1;have hb3 : Below w0.heap.size w0 w3:=(hb2.alloc hb2.size _).grown hg3' (by have:=hb2.size; simp; omega) (fun k e => (hrow2.lt k e).1);have hb4 : Below w0.heap.size w0 w4:=hb3.grown hg4 hb3.size (fun k e => by cases e; exact h0B);have hk4 : KeepsWalks W w4:=((hk2.trans (KeepsWalks.alloc _ _)).trans (KeepsWalks.of_grownBy hg3' (ownsRow_not_walk_a (hrow2.alloc _)))).trans (by rw [<- hw4]; exact KeepsWalks.setCell _ _ _);clear hw4;refine ⟨_,_,run_endRound none hL4,rfl,⟨⟨_,(World.putObj_heap_other hBl).trans hv4,?_,by simp⟩,World.putObj_heap_same hl4,(World.putObj_heap_other hDl).trans hK4,hb4.grown (grownBy_putObj_a _ _ _) hb4.size (fun k e => by cases e; exact h0l)⟩,hk4.trans (KeepsWalks.putObj _ hL4 rfl)⟩;have:=hrow4.kept (grownBy_putObj_a w4 l (.loop { { apRec fn sv Bs D .ready none with state:=.busy } with state:=if (none : Option Code).isNone then .ready else .done,pending:=none })) (ownsRow_ne_a hrow4 hL4 (fun cur e => by first | cases e | exact hne (Obj.cells.inj e).2.1))
 simpa using this
theorem appendSeq_in (F : Fence) (n : Nat) (h11 : F.fn 164) (hro : F.round = none) (hn : 2 <= n) (g : Nat) (lb : Array Value) (hFg : F.fn g) (eg : ∀ args w,(callFunc g args).run Tryz.prog w = .ok (.enter g args) w)
  (S : List Int -> Prop) (N : Nat) (hN : N <= maxLen) (hNb : N * 8 <= 140737488355328) (w : World) (hseq : SeqGives F (n - 1) Tryz.prog g lb runeV S N w) :
  CallsIn F n Tryz.prog 164 #[.slice none 0 0,.func (.func g) #[] lb] w fun e w' => ∃ (v : Value) (ss : List Int),e = .returned v /\ S ss /\ w'.ownsRow w.heap.size (21) 1 v ss.length (ss.map runeV) /\ (v = .slice none 0 0 ↔ ss = []) /\ Below w.heap.size w w':=by
 have h1 : 1 <= n:=(by omega);have hne : (42 : TypeId) ≠ 21:=(by decide);refine callsIn_of_wp_marks Tryz.func164 rfl h11 ?_ hro;simp only [Tryz.ntmps164,List.size_toArray,List.length_cons,List.length_nil,Nat.reduceAdd,Nat.reduceSub,Array.replicate_succ,Array.replicate_zero,List.push_toArray,List.append_toArray,List.nil_append,List.cons_append]
 gi_wp2
 refine wpIn_rangeFunc ?_;intro fn hfn;rw [hro];obtain ⟨W0,hW0⟩ : ∃ W0,w.alloc (.cells #[.slice none 0 0] (42)) = W0:=⟨_,rfl⟩;have hs0 : W0.heap.size = w.heap.size + 1:=(by rw [<- hW0]; simp);have hv0 : W0.heap[w.heap.size]? = some (.cells #[.slice none 0 0] (42) (0,0)):=(by rw [<- hW0]; exact World.alloc_heap_new w _);have hb0 : Below w.heap.size w W0:=(by rw [<- hW0]; exact (Below.refl _ w).alloc (Nat.le_refl _) _);rw [hW0];obtain ⟨W1,hW1⟩ : ∃ W1,(W0.alloc (.deferred (some []))).alloc (.loop (apRec fn (.func (.func g) #[] lb) w.heap.size W0.heap.size .ready none)) = W1:=⟨_,rfl⟩
 have hold : ∀ k,k < W0.heap.size -> W1.heap[k]? = W0.heap[k]? := fun k hk => by
  rw [<- hW1]; exact (Below.heap_alloc _ _ k (by simp; omega)).trans (Below.heap_alloc _ _ k hk)
 have hb1 : Below w.heap.size w W1:=(by rw [<- hW1]; exact (hb0.alloc hb0.size _).alloc (by have:=hb0.size; simp; omega) _);have hs1 : W1.heap.size = W0.heap.size + 2:=by rw [<- hW1]; simp
 have hM : ApAt w fn (.func (.func g) #[] lb) w.heap.size (W0.heap.size + 1) W0.heap.size [] W1 :=
  ⟨⟨_,(hold w.heap.size (by omega)).trans hv0,⟨rfl,.inl ⟨rfl,rfl⟩⟩,by simp⟩,
   by rw [<- hW1]; have:=World.alloc_heap_new (W0.alloc (.deferred (some []))) (.loop (apRec fn (.func (.func g) #[] lb) w.heap.size W0.heap.size .ready none)); rwa [World.size_alloc] at this,
   by rw [<- hW1]; exact (Below.heap_alloc _ _ _ (by simp)).trans (World.alloc_heap_new W0 _),hb1⟩
 refine ⟨W0.heap.size + 1,[{ target:=.collected W0.heap.size,args:=#[] }],W1,{ target:=.fn (.func g) lb,args:=#[.func (.yield (W0.heap.size + 1)) #[] #[]] },W1,g,
  #[.func (.yield (W0.heap.size + 1)) #[] #[]] ++ lb,W1,?_,?_,?_,?_,fun _ => h1,?_⟩
 ·rw [<- hW1]; exact run_enterLoop_outer _ _ _ _ _
 ·simp [resolve,go_sem]
 ·intro f' hf'; simp [Target.leads] at hf'; subst hf'; exact hFg
 ·simp [invoke,go_sem,eg]
 ·refine (hseq (W0.heap.size + 1) (ApAt w fn (.func (.func g) #[] lb) w.heap.size (W0.heap.size + 1) W0.heap.size) W1 hb1 (ap_abides _ _ _ _ _ _ _ hb1.size)
   (fun pre x W hJ hl => apYield F (n - 1 - 1) w fn hfn _ w.heap.size (W0.heap.size + 1) W0.heap.size (by omega) (by omega) (by omega) (Nat.le_refl _) (by omega) N hN hNb pre x W hJ hl) hM).mono ?_
  rintro e W2 ⟨⟨v0,rfl⟩,ss,hS,h2⟩;obtain ⟨v,hv,hrow,hnil⟩:=h2.box;have hend:=run_endLoop (P:=Tryz.prog) h2.L (by simp [apRec]);obtain ⟨W3,hW3⟩ : ∃ W3,W2.putObj (W0.heap.size + 1) (.loop { apRec fn (.func (.func g) #[] lb) w.heap.size W0.heap.size .ready none with state:=.exhausted }) = W3:=⟨_,rfl⟩;rw [hW3] at hend;have hg3 : W2.grownBy W3 (some (W0.heap.size + 1)):=(by rw [<- hW3]; exact grownBy_putObj_a _ _ _);have hv3 : W3.heap[w.heap.size]? = some (.cells #[v] (42) (0,0)):=(by rw [<- hW3]; exact (World.putObj_heap_other (by omega)).trans hv);have hK3 : W3.heap[W0.heap.size]? = some (.deferred (some [])):=(by rw [<- hW3]; exact (World.putObj_heap_other (by omega)).trans h2.K);have hrow3:=hrow.kept hg3 (ownsRow_ne_a hrow h2.L (fun cur e => by first | cases e | exact hne (Obj.cells.inj e).2.1))
  have hb3 : Below w.heap.size w W3:=h2.below.grown hg3 h2.below.size (fun k e => by cases e; omega);obtain ⟨hc3,hf3⟩:=cell_of_box_a hv3;clear hW3;refine ⟨none,W3,hend,?_⟩
  gi_wp2
  rw [<- hs0];refine ⟨by simp,.inl ⟨_,_,rfl,run_takeDeferred hK3,?_⟩⟩;exact ⟨_,results_tmp rfl _ _ _,v,ss,rfl,hS,hrow3.kept (grownBy_putObj_a _ _ _) (ownsRow_ne_a hrow3 hK3 (fun cur e => by first | cases e | exact hne (Obj.cells.inj e).2.1)),hnil,hb3.grown (grownBy_putObj_a _ _ _) hb3.size (fun k e => by cases e; omega)⟩
theorem collect_in (F : Fence) (n : Nat) (h8 : F.fn 115) (h11 : F.fn 164) (hro : F.round = none) (hn : 3 <= n) (g : Nat) (lb : Array Value) (hFg : F.fn g) (eg : ∀ args w,(callFunc g args).run Tryz.prog w = .ok (.enter g args) w)
  (S : List Int -> Prop) (N : Nat) (hN : N <= maxLen) (hNb : N * 8 <= 140737488355328) (w : World) (hseq : SeqGives F (n - 1 - 1) Tryz.prog g lb runeV S N w) :
  CallsIn F n Tryz.prog 115 #[.func (.func g) #[] lb] w fun e w' => ∃ (v : Value) (ss : List Int),e = .returned v /\ S ss /\ w'.ownsRow w.heap.size (21) 1 v ss.length (ss.map runeV) /\ (v = .slice none 0 0 ↔ ss = []) /\ Below w.heap.size w w':=by
 have h1 : 1 <= n:=(by omega);have e11 : ∀ args w,(callFunc 164 args).run Tryz.prog w = .ok (.enter 164 args) w:=enters_of Tryz.func164 (by kernel_rfl) rfl;refine callsIn_of_wp Tryz.func115 rfl h8 ?_ hro;simp only [Tryz.ntmps115,List.size_toArray,List.length_cons,List.length_nil,Nat.reduceAdd,Nat.reduceSub,Array.replicate_succ,Array.replicate_zero,List.push_toArray,List.append_toArray,List.nil_append,List.cons_append]
 gi_wp2_with (gi_at_fn 164; refine (appendSeq_in F (n - 1) h11 hro (by omega) g lb hFg eg S N hN hNb _ hseq).mono ?_; rintro e w' ⟨v,ss,rfl,hS,hrow,hnil,hb⟩)
 go_ret
 exact ⟨v,ss,rfl,hS,hrow,hnil,hb⟩
theorem sorted_in (n : Nat) (hn : 4 <= n) (g : Nat) (lb : Array Value) (eg : ∀ args w,(callFunc g args).run Tryz.prog w = .ok (.enter g args) w)
  (S : List Int -> Prop) (N : Nat) (hN : N <= maxLen) (hNb : N * 8 <= 140737488355328) (w : World) (hseq : SeqGives Fence.wide (n - 1 - 1 - 1) Tryz.prog g lb runeV S N w) :
  CallsIn Fence.wide n Tryz.prog 71 #[.func (.func g) #[] lb] w fun e w' => ∃ (A : Option Addr) (c : Nat) (ss : List Int),e = .returned (.slice A ss.length c) /\ S ss /\
   w'.ownsRow w.heap.size 21 1 (.slice A ss.length c) ss.length (Rs (srt ss)) /\ (A = none -> ss.length = 0 /\ c = 0) /\ ss.length <= N /\ Below w.heap.size w w':=by
 have hro : Fence.wide.round = none:=rfl;have h1 : 1 <= n:=(by omega);have e8 : ∀ args w,(callFunc 115 args).run Tryz.prog w = .ok (.enter 115 args) w:=enters_of Tryz.func115 (by kernel_rfl) rfl;refine callsIn_of_wp Tryz.func71 rfl trivial ?_ hro;simp only [Tryz.ntmps71,List.size_toArray,List.length_cons,List.length_nil,Nat.reduceAdd,Nat.reduceSub,Array.replicate_succ,Array.replicate_zero,List.push_toArray,List.append_toArray,List.nil_append,List.cons_append]
 gi_wp2_with (refine ⟨trivial,?_⟩; gi_at_fn 115; refine (collect_in Fence.wide (n - 1) trivial trivial hro (by omega) g lb trivial eg _ N hN hNb _ hseq.bounded).mono ?_; rintro e W ⟨v,ss,rfl,⟨hS,hlen⟩,hrow,hnil,hb⟩)
 obtain ⟨A,c,rfl,hA⟩ : ∃ A c,v = .slice A ss.length c /\ (A = none -> ss.length = 0 /\ c = 0):=by
  rcases hrow.2 with ⟨rfl,hz⟩ | ⟨gb,cap,cur,rfl,_⟩
  ·exact ⟨none,0,by rw [hz],fun _ => ⟨hz,rfl⟩⟩
  ·exact ⟨_,_,rfl,fun h => by cases h⟩
 have hsz : ss.length < 4611686018427387904:=(by unfold maxLen at hN; omega);have hsort:=zlc A ss.length c w.heap.size ss W hrow hsz;have hlt:=fun k e => (hrow.lt k e).1;clear hrow hnil
 gi_wp2
 refine ⟨trivial,(callsIn_wide.2 hsort).mono ?_⟩;rintro e w' ⟨rfl,hown',hg'⟩
 gi_wp2
 go_ret
 exact ⟨A,c,ss,rfl,hS,hown',hA,hlen,hb.grown hg' hb.size hlt⟩
end
section
open Go.RowKit Go.Lib Go.Maps
theorem nodup_le {β : Type} [DecidableEq β] {l m : List β} (h : l.Nodup) (hs : ∀ x ∈ l,x ∈ m) : l.length <= m.length:=by
 induction l generalizing m with
 | nil => simp
 | cons a l ih =>
  rw [List.nodup_cons] at h;have ha:=hs a (List.mem_cons_self);have:=ih (m:=m.erase a) h.2 fun x hx => (List.mem_erase_of_ne (fun e => h.1 (by rw [<- e]; exact hx))).2 (hs x (List.mem_cons_of_mem _ hx));rw [List.length_erase_of_mem ha] at this;have hp : 0 < m.length:=List.length_pos_of_mem ha;simp;omega
theorem MapF.tight {α β : Type} {P : Program} {K : TypeId} {mk : α -> Value} {lit : α -> Lit} {ok : α -> Prop} {mkV : β -> Value} {w : World} {b n : Nat} {f : α -> Option β} (h : MapF w P K lit ok mkV b n f) (B : KeyB P K mk lit ok) {U : List α}
  (hU : ∀ a,ok a -> (f a).isSome = true -> a ∈ U) : MapF w P K lit ok mkV b U.length f:=by
 obtain ⟨D,h,s⟩:=h;obtain ⟨es0,hD0,hko⟩:=h.keysOf;obtain ⟨es1,hD1,hpw⟩:=h.tidy B.keyed
 have hsz : Maps.size D <= U.length:=by
  classical
  subst hD0;injection hD1 with hD1;subst hD1;show es0.length <= U.length;have hn : (es0.map (·.1)).Nodup:=List.pairwise_map.2 hpw
  have:=nodup_le (m:=U.map lit) hn fun x hx => by
   obtain ⟨p,hp,rfl⟩:=List.mem_map.1 hx;obtain ⟨v,hv⟩:=hko p hp;obtain ⟨a,ha,_,hl⟩:=B.inv hv
   have hh : Maps.has (.map es0 : DataW Value) (lit a) = true:=by
    rw [has_eq,List.any_eq_true];exact ⟨p,hp,by rw [hl]; exact WideAt.sameKey_self (B.keyed.key (B.of ha))⟩
   rw [(s a ha).1] at hh;rw [hl];exact List.mem_map.2 ⟨a,hU a ha hh,rfl⟩
  simpa using this
 obtain ⟨es,clock,hb,F,hs,hD⟩:=h;refine ⟨D,⟨es,clock,hb,F,?_,hD⟩,s⟩;have : Maps.size D = es.size:=(by rw [hD]; simp [Maps.size,length_sorted]);omega
@[irreducible] def allR : List Int:=List.map Int.ofNat (List.range 1114112)
theorem zmc : allR.length = 1114112:=by unfold allR; rw [List.length_map,List.length_range]
theorem zdy {x : Int} : x ∈ allR ↔ 0 <= x /\ x < 1114112:=by
 unfold allR;rw [List.mem_map];constructor
 ·rintro ⟨n,hn,rfl⟩;rw [List.mem_range] at hn;simp only [Int.ofNat_eq_natCast];omega
 ·rintro ⟨h1,h2⟩;exact ⟨x.toNat,by rw [List.mem_range]; omega,by simp only [Int.ofNat_eq_natCast]; omega⟩
theorem zea {x : Int} (h : x ∈ allR) : R32 x:=by
 rw [zdy] at h;unfold R32;omega
def gd (f : Int -> Option Int) (x : Int) : Int:=(f x).getD 0
theorem zd8 {f : Int -> Option Int} {r x v : Int} : gd (upd f r (some v)) x = if x = r then v else gd f x:=by
 unfold gd upd;split <;> rfl
def cntL (l : List Int) (f : Int -> Option Int) : Nat:=l.countP fun x => decide (gd f x = 0)
theorem zn4 {f g : Int -> Option Int} (h : ∀ x,gd g x = 0 -> gd f x = 0) (l : List Int) : cntL l g <= cntL l f:=by
 unfold cntL;exact List.countP_mono_left fun x _ hx => by simp at hx ⊢; exact h x hx
theorem zn3 {f g : Int -> Option Int} (h : ∀ x,gd g x = 0 -> gd f x = 0) {r : Int} (h1 : gd f r = 0) (h2 : gd g r ≠ 0) : ∀ {l : List Int},r ∈ l -> cntL l g < cntL l f
 | [],hr => by cases hr
 | a :: l,hr => by
  have hle:=zn4 h l;unfold cntL at hle ⊢;rw [List.countP_cons,List.countP_cons]
  by_cases e : r = a
  ·subst e;rw [if_neg (by simpa using h2),if_pos (by simpa using h1)];omega
  ·have ih:=zn3 h h1 h2 (l:=l) (by simpa [e] using hr);unfold cntL at ih
   by_cases hg : gd g a = 0
   ·rw [if_pos (by simpa using hg),if_pos (by simpa using h a hg)];omega
   ·rw [if_neg (by simpa using hg)];omega
def Marks (f : Int -> Option Int) : Prop:=(∀ x,gd f x = 0 \/ gd f x = 1) /\ ∀ x,R32 x -> (f x).isSome = true -> x ∈ allR
theorem Marks.upd {f : Int -> Option Int} (h : Marks f) {r : Int} (hr : r ∈ allR) {v : Int} (hv : v = 0 \/ v = 1) : Marks (upd f r (some v)):=by
 refine ⟨fun x => ?_,fun x hx hs => ?_⟩
 ·rw [zd8];split
  ·exact hv
  ·exact h.1 x
 ·unfold Go.Proofs.YtolcabjkbefjgaaGreatDoor.upd at hs;split at hs
  ·rename_i e; rw [e]; exact hr
  ·exact h.2 x hx hs
end
end Go.Proofs.YtolcabjkbefjgaaGreatDoor
