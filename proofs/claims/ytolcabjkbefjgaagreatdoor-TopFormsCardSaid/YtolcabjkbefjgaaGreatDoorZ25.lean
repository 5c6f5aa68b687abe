/- slices.AppendSeq, Collect and Sorted at characters: printed by mkkeyb.py out of the worked proofs at other keys. slices.Values, gone through; the characters that a base knows. Maps of few keys; how many characters are not yet marked. Plain. Whether a character leads back to itself: the code. When all that is known ends, all ends. Plain. What rows that are taken say of characters. Plain. -/
import Derived.Test.YtolcabjkbefjgaaGreatDoorZ24
set_option linter.unusedSimpArgs false
set_option linter.unusedVariables false
set_option maxRecDepth 20000
set_option maxHeartbeats 4000000
namespace Go.Proofs.YtolcabjkbefjgaaGreatDoor
section
open Go.RowKit Go.Lib Go.Maps Go.Sort Go.Shelf
def zie : Code := (Code.region 2 #[{ dst := some 5, op := Op.assign (Operand.tmp 7), type := 21, pos := "iter.go:51", after := #[], guard := none }] false)
def zmv : Code := (Code.block 1 (Code.region 3 #[{ dst := some 8, op := Op.load (42) (Operand.tmp 2), type := 42, pos := "iter.go:52", after := #[], guard := none }, { dst := some 9, op := Op.move (Operand.tmp 5), type := 21, pos := "iter.go:52", after := #[], guard := none }, { dst := some 10, op := Op.buildSlice (42) 1 #[(0, Operand.tmp 9)], type := 42, pos := "iter.go:52", after := #[{ on := 1, ground := Ground.data }], guard := none }, { dst := some 11, op := Op.call { callee := Callee.builtin Builtin.append, args := #[Operand.tmp 8, Operand.tmp 10], argTypes := #[42, 42] }, type := 42, pos := "iter.go:52", after := #[{ on := 0, ground := Ground.data }, { on := 2, ground := Ground.data }], guard := none }, { dst := none, op := Op.store (42) (Operand.tmp 2) (Operand.tmp 11), type := 0, pos := "iter.go:52", after := #[{ on := 3, ground := Ground.data }, { on := 3, ground := Ground.chain }, { on := 0, ground := Ground.phase }, { on := 1, ground := Ground.phase }, { on := 2, ground := Ground.phase }, { on := 3, ground := Ground.phase }], guard := none }] false))
def apRec (fn : FuncId) (sv : Value) (Bs D : Nat) (st : LoopState) (pend : Option Code) : Loop :=
 { state := st, pending := pend, fn, tmps := #[.slice none 0 0, sv, .pointer (some ⟨Bs, 0, none⟩), undef, .slice none 0 0, undef, sv, undef, undef, undef, undef, undef, undef], params := #[7], assign := zie, body := zmv, defers := D }
structure ApAt (w0 : World) (fn : FuncId) (sv : Value) (Bs l D : Nat) (ss : List Int) (W : World) : Prop where
 box : ∃ v, W.heap[Bs]? = some (.cells #[v] (42) (0, 0)) /\ W.ownsRow w0.heap.size (21) 1 v ss.length (ss.map runeV) /\ (v = .slice none 0 0 ↔ ss = [])
 L : W.heap[l]? = some (.loop (apRec fn sv Bs D .ready none))
 K : W.heap[D]? = some (.deferred (some []))
 below : Below w0.heap.size w0 W
theorem ap_abides (w0 : World) (fn : FuncId) (sv : Value) (Bs l D B : Nat) (hB : w0.heap.size <= B) : AbidesFrom B (ApAt w0 fn sv Bs l D) := fun s W W' row h hg hrow => by
 have hrow' : ∀ r, row = some r -> ∃ o : Obj, W.heap[r]? = some o /\ o.isWalk = true := fun r e => (hrow r e).2;obtain ⟨v, hv, hr, hn⟩ := h.box
 exact ⟨⟨v, (grownBy_keeps hg hrow' hv rfl).trans hv, ownsRow_abides_a hr hg hrow', hn⟩, (grownBy_keeps hg hrow' h.L rfl).trans h.L, (grownBy_keeps hg hrow' h.K rfl).trans h.K,
  h.below.grown hg h.below.size (fun k e => Nat.le_trans hB (hrow k e).1)⟩
theorem apYield (F : Fence) (m : Nat) (w0 : World) (fn : FuncId) (hfn : F.fn fn) (sv : Value) (Bs l D : Nat) (hBl : Bs ≠ l) (hDl : D ≠ l) (hDB : D ≠ Bs) (h0B : w0.heap.size <= Bs) (h0l : w0.heap.size <= l)
  (N : Nat) (hN : N <= maxLen) (hNb : N * 8 <= 140737488355328) (ss : List Int) (x : Int) (W : World) (h : ApAt w0 fn sv Bs l D ss W) (hlen : ss.length < N) :
  YieldAt F m Tryz.prog l #[runeV x] W fun e W' => e = .returned (.bool true) /\ ApAt w0 fn sv Bs l D (ss ++ [x]) W' /\ KeepsWalks W W' := by
 have hne : (42 : TypeId) ≠ 21 := (by decide);obtain ⟨i0, hi, hz0, hz1, hz2⟩ := info_parts zz.hi;obtain ⟨v, hv, hrow, _⟩ := h.box;refine ⟨fn, #[.slice none 0 0, sv, .pointer (some ⟨Bs, 0, none⟩), undef, .slice none 0 0, undef, sv, runeV x, undef, undef, undef, undef, undef], zie, zmv, by simpa [apRec] using run_yield (P := Tryz.prog) (args := #[runeV x]) h.L rfl, roundIn_of_wpIn hfn ?_⟩;have hl : l < W.heap.size := (Array.getElem?_eq_some_iff.1 h.L).1;have hbr := run_beginRound (P := Tryz.prog) h.L rfl;obtain ⟨W2, hW2⟩ : ∃ W2, W.putObj l (.loop { apRec fn sv Bs D .ready none with state := .busy }) = W2 := ⟨_, rfl⟩;rw [hW2] at hbr;have hg2 : W.grownBy W2 (some l) := (by rw [<- hW2]; exact grownBy_putObj_a _ _ _);have hk2 : KeepsWalks W W2 := (by rw [<- hW2]; exact KeepsWalks.putObj _ h.L rfl);have hv2 : W2.heap[Bs]? = some (.cells #[v] (42) (0, 0)) := (by rw [<- hW2]; exact (World.putObj_heap_other hBl).trans hv);have hK2 : W2.heap[D]? = some (.deferred (some [])) := (by rw [<- hW2]; exact (World.putObj_heap_other hDl).trans h.K);have hL2 : W2.heap[l]? = some (.loop { apRec fn sv Bs D .ready none with state := .busy }) := (by rw [<- hW2]; exact World.putObj_heap_same hl);have hrow2 : W2.ownsRow w0.heap.size (21) 1 v ss.length (ss.map runeV) := hrow.kept hg2 (ownsRow_ne_a hrow h.L (fun cur e => by first | cases e | exact hne (Obj.cells.inj e).2.1))
 have hb2 : Below w0.heap.size w0 W2 := h.below.grown hg2 h.below.size (fun k e => by cases e; exact h0l);obtain ⟨hc2, hf2⟩ := cell_of_box_a hv2;have hBlt : Bs < W2.heap.size := (Array.getElem?_eq_some_iff.1 hv2).1;have hl2 : l < W2.heap.size := (Array.getElem?_eq_some_iff.1 hL2).1;have hDlt : D < W2.heap.size := (Array.getElem?_eq_some_iff.1 hK2).1
 have ne_of : ∀ {j : Nat} {o : Obj}, W2.heap[j]? = some o -> (∀ cur, o ≠ .cells cur (21) (0, 0)) -> some j ≠ v.ownBlock := fun hj hno => by
  rcases ownsRow_ne_a hrow2 hj hno with e | e
  ·rw [e]; simp
  ·exact fun e' => e e'.symm
 clear hW2;unfold zie
 gi_wp2_with gi_round_op_a
 unfold zmv
 gi_wp2_with (first
  | (gi_at_builtin; refine wpListIn_append_own _ rfl _ _ (42) rfl w0.heap.size (21) i0 (.int .i32 0) 1 4 Tryz.underlying42 hi hz0 hz1 hz2 rfl (by decide) _ _ _ rfl (hrow2.alloc _) ⟨W2.heap.size, 0, none⟩ 1 1 [runeV x] rfl rfl (cell_one_new _ _ _) (by simp [Value.oneCell', runeV]) (by omega) (by omega) (by have := hb2.size; simp; omega) ?_; intro v' w3 hown' hg3 hnil3
     have hv3 : w3.heap[Bs]? = some (.cells #[v] (42) (0, 0)) := (hg3.block Bs (by simp; omega) (ne_of hv2 (fun cur e => by first | cases e | exact hne (Obj.cells.inj e).2.1))).trans ((Below.heap_alloc _ _ Bs hBlt).trans hv2)
     obtain ⟨hc3, hf3⟩ := cell_of_box_a hv3
     obtain ⟨g', cap', cur', rfl, hbase', hgb', hr1, hr2, hr3, hr4⟩ : ∃ g' cap' cur', v' = .slice (some ⟨g', 0, none⟩) (ss.length + 1) cap' /\ w0.heap.size <= g' /\ w3.heap[g']? = some (.cells cur' (21) (0, 0)) /\ ss.length + 1 <= cap' /\ cap' <= maxLen /\ cur'.size = cap' * 1 /\ cur'.toList.take ((ss.length + 1) * 1) = ss.map runeV ++ [runeV x] := by
      rcases hown'.2 with ⟨_, h0⟩ | h'
      ·exact absurd h0 (by omega)
      ·exact h'
     go_frame)
  | gi_round_op_a)
 have hg3' : (W2.alloc (.cells #[runeV x] (21))).grownBy w3 v.ownBlock := hg3;have hL3 : w3.heap[l]? = some (.loop { apRec fn sv Bs D .ready none with state := .busy }) := (hg3'.block l (by simp; omega) (ne_of hL2 (fun cur e => by first | cases e | exact hne (Obj.cells.inj e).2.1))).trans ((Below.heap_alloc _ _ l hl2).trans hL2)
 have hK3 : w3.heap[D]? = some (.deferred (some [])) := (hg3'.block D (by simp; omega) (ne_of hK2 (fun cur e => by first | cases e | exact hne (Obj.cells.inj e).2.1))).trans ((Below.heap_alloc _ _ D hDlt).trans hK2)
 obtain ⟨w4, hw4⟩ : ∃ w4, w3.setCell ⟨Bs, 0, none⟩ (.slice (some ⟨g', 0, none⟩) (ss.length + 1) cap') = w4 := ⟨_, rfl⟩;rw [hw4];have hg4 : w3.grownBy w4 (some Bs) := (by rw [<- hw4]; exact grownBy_setCell0_a _ _ _);have hv4 : w4.heap[Bs]? = some (.cells #[.slice (some ⟨g', 0, none⟩) (ss.length + 1) cap'] (42) (0, 0)) := (by rw [<- hw4]; exact heap_setCell_box_a _ hv3);have hL4 : w4.heap[l]? = some (.loop { apRec fn sv Bs D .ready none with state := .busy }) := (hg4.block l (Array.getElem?_eq_some_iff.1 hL3).1 (fun e => hBl (by cases e; rfl))).trans hL3;have hK4 : w4.heap[D]? = some (.deferred (some [])) := (hg4.block D (Array.getElem?_eq_some_iff.1 hK3).1 (fun e => hDB (by cases e; rfl))).trans hK3;have hrow4 := hown'.kept hg4 (ownsRow_ne_a hown' hv3 (fun cur e => by first | cases e | exact hne (Obj.cells.inj e).2.1))
 have hl4 : l < w4.heap.size := (Array.getElem?_eq_some_iff.1 hL4).1;have hb3 : Below w0.heap.size w0 w3 := (hb2.alloc hb2.size _).grown hg3' (by have := hb2.size; simp; omega) (fun k e => (hrow2.lt k e).1);have hb4 : Below w0.heap.size w0 w4 := hb3.grown hg4 hb3.size (fun k e => by cases e; exact h0B);have hk4 : KeepsWalks W w4 := ((hk2.trans (KeepsWalks.alloc _ _)).trans (KeepsWalks.of_grownBy hg3' (ownsRow_not_walk_a (hrow2.alloc _)))).trans (by rw [<- hw4]; exact KeepsWalks.setCell _ _ _);clear hw4;refine ⟨_, _, run_endRound none hL4, rfl, ⟨⟨_, (World.putObj_heap_other hBl).trans hv4, ?_, by simp⟩, World.putObj_heap_same hl4, (World.putObj_heap_other hDl).trans hK4, hb4.grown (grownBy_putObj_a _ _ _) hb4.size (fun k e => by cases e; exact h0l)⟩, hk4.trans (KeepsWalks.putObj _ hL4 rfl)⟩;have := hrow4.kept (grownBy_putObj_a w4 l (.loop { { apRec fn sv Bs D .ready none with state := .busy } with state := if (none : Option Code).isNone then .ready else .done, pending := none })) (ownsRow_ne_a hrow4 hL4 (fun cur e => by first | cases e | exact hne (Obj.cells.inj e).2.1))
 simpa using this
theorem appendSeq_in (F : Fence) (n : Nat) (h11 : F.fn 164) (hro : F.round = none) (hn : 2 <= n) (g : Nat) (lb : Array Value) (hFg : F.fn g) (eg : ∀ args w, (callFunc g args).run Tryz.prog w = .ok (.enter g args) w)
  (S : List Int -> Prop) (N : Nat) (hN : N <= maxLen) (hNb : N * 8 <= 140737488355328) (w : World) (hseq : SeqGives F (n - 1) Tryz.prog g lb runeV S N w) :
  CallsIn F n Tryz.prog 164 #[.slice none 0 0, .func (.func g) #[] lb] w fun e w' => ∃ (v : Value) (ss : List Int), e = .returned v /\ S ss /\ w'.ownsRow w.heap.size (21) 1 v ss.length (ss.map runeV) /\ (v = .slice none 0 0 ↔ ss = []) /\ Below w.heap.size w w' := by
 have h1 : 1 <= n := (by omega);have hne : (42 : TypeId) ≠ 21 := (by decide);refine callsIn_of_wp_marks Tryz.func164 rfl h11 ?_ hro;simp only [Tryz.ntmps164, List.size_toArray, List.length_cons, List.length_nil, Nat.reduceAdd, Nat.reduceSub, Array.replicate_succ, Array.replicate_zero, List.push_toArray, List.append_toArray, List.nil_append, List.cons_append]
 gi_wp2
 refine wpIn_rangeFunc ?_;intro fn hfn;rw [hro];obtain ⟨W0, hW0⟩ : ∃ W0, w.alloc (.cells #[.slice none 0 0] (42)) = W0 := ⟨_, rfl⟩;have hs0 : W0.heap.size = w.heap.size + 1 := (by rw [<- hW0]; simp);have hv0 : W0.heap[w.heap.size]? = some (.cells #[.slice none 0 0] (42) (0, 0)) := (by rw [<- hW0]; exact World.alloc_heap_new w _);have hb0 : Below w.heap.size w W0 := (by rw [<- hW0]; exact (Below.refl _ w).alloc (Nat.le_refl _) _);rw [hW0];obtain ⟨W1, hW1⟩ : ∃ W1, (W0.alloc (.deferred (some []))).alloc (.loop (apRec fn (.func (.func g) #[] lb) w.heap.size W0.heap.size .ready none)) = W1 := ⟨_, rfl⟩
 have hold : ∀ k, k < W0.heap.size -> W1.heap[k]? = W0.heap[k]? := fun k hk => by
  rw [<- hW1]; exact (Below.heap_alloc _ _ k (by simp; omega)).trans (Below.heap_alloc _ _ k hk)
 have hb1 : Below w.heap.size w W1 := (by rw [<- hW1]; exact (hb0.alloc hb0.size _).alloc (by have := hb0.size; simp; omega) _);have hs1 : W1.heap.size = W0.heap.size + 2 := by rw [<- hW1]; simp
 have hM : ApAt w fn (.func (.func g) #[] lb) w.heap.size (W0.heap.size + 1) W0.heap.size [] W1 :=
  ⟨⟨_, (hold w.heap.size (by omega)).trans hv0, ⟨rfl, .inl ⟨rfl, rfl⟩⟩, by simp⟩,
   by rw [<- hW1]; have := World.alloc_heap_new (W0.alloc (.deferred (some []))) (.loop (apRec fn (.func (.func g) #[] lb) w.heap.size W0.heap.size .ready none)); rwa [World.size_alloc] at this,
   by rw [<- hW1]; exact (Below.heap_alloc _ _ _ (by simp)).trans (World.alloc_heap_new W0 _), hb1⟩
 refine ⟨W0.heap.size + 1, [{ target := .collected W0.heap.size, args := #[] }], W1, { target := .fn (.func g) lb, args := #[.func (.yield (W0.heap.size + 1)) #[] #[]] }, W1, g,
  #[.func (.yield (W0.heap.size + 1)) #[] #[]] ++ lb, W1, ?_, ?_, ?_, ?_, fun _ => h1, ?_⟩
 ·rw [<- hW1]; exact run_enterLoop_outer _ _ _ _ _
 ·simp [resolve, go_sem]
 ·intro f' hf'; simp [Target.leads] at hf'; subst hf'; exact hFg
 ·simp [invoke, go_sem, eg]
 ·refine (hseq (W0.heap.size + 1) (ApAt w fn (.func (.func g) #[] lb) w.heap.size (W0.heap.size + 1) W0.heap.size) W1 hb1 (ap_abides _ _ _ _ _ _ _ hb1.size)
   (fun pre x W hJ hl => apYield F (n - 1 - 1) w fn hfn _ w.heap.size (W0.heap.size + 1) W0.heap.size (by omega) (by omega) (by omega) (Nat.le_refl _) (by omega) N hN hNb pre x W hJ hl) hM).mono ?_
  rintro e W2 ⟨⟨v0, rfl⟩, ss, hS, h2⟩;obtain ⟨v, hv, hrow, hnil⟩ := h2.box;have hend := run_endLoop (P := Tryz.prog) h2.L (by simp [apRec]);obtain ⟨W3, hW3⟩ : ∃ W3, W2.putObj (W0.heap.size + 1) (.loop { apRec fn (.func (.func g) #[] lb) w.heap.size W0.heap.size .ready none with state := .exhausted }) = W3 := ⟨_, rfl⟩;rw [hW3] at hend;have hg3 : W2.grownBy W3 (some (W0.heap.size + 1)) := (by rw [<- hW3]; exact grownBy_putObj_a _ _ _);have hv3 : W3.heap[w.heap.size]? = some (.cells #[v] (42) (0, 0)) := (by rw [<- hW3]; exact (World.putObj_heap_other (by omega)).trans hv);have hK3 : W3.heap[W0.heap.size]? = some (.deferred (some [])) := (by rw [<- hW3]; exact (World.putObj_heap_other (by omega)).trans h2.K);have hrow3 := hrow.kept hg3 (ownsRow_ne_a hrow h2.L (fun cur e => by first | cases e | exact hne (Obj.cells.inj e).2.1))
  have hb3 : Below w.heap.size w W3 := h2.below.grown hg3 h2.below.size (fun k e => by cases e; omega);obtain ⟨hc3, hf3⟩ := cell_of_box_a hv3;clear hW3;refine ⟨none, W3, hend, ?_⟩
  gi_wp2
  rw [<- hs0];refine ⟨by simp, .inl ⟨_, _, rfl, run_takeDeferred hK3, ?_⟩⟩;exact ⟨_, results_tmp rfl _ _ _, v, ss, rfl, hS, hrow3.kept (grownBy_putObj_a _ _ _) (ownsRow_ne_a hrow3 hK3 (fun cur e => by first | cases e | exact hne (Obj.cells.inj e).2.1)), hnil, hb3.grown (grownBy_putObj_a _ _ _) hb3.size (fun k e => by cases e; omega)⟩
theorem collect_in (F : Fence) (n : Nat) (h8 : F.fn 115) (h11 : F.fn 164) (hro : F.round = none) (hn : 3 <= n) (g : Nat) (lb : Array Value) (hFg : F.fn g) (eg : ∀ args w, (callFunc g args).run Tryz.prog w = .ok (.enter g args) w)
  (S : List Int -> Prop) (N : Nat) (hN : N <= maxLen) (hNb : N * 8 <= 140737488355328) (w : World) (hseq : SeqGives F (n - 1 - 1) Tryz.prog g lb runeV S N w) :
  CallsIn F n Tryz.prog 115 #[.func (.func g) #[] lb] w fun e w' => ∃ (v : Value) (ss : List Int), e = .returned v /\ S ss /\ w'.ownsRow w.heap.size (21) 1 v ss.length (ss.map runeV) /\ (v = .slice none 0 0 ↔ ss = []) /\ Below w.heap.size w w' := by
 have h1 : 1 <= n := (by omega);have e11 : ∀ args w, (callFunc 164 args).run Tryz.prog w = .ok (.enter 164 args) w := enters_of Tryz.func164 (by kernel_rfl) rfl;refine callsIn_of_wp Tryz.func115 rfl h8 ?_ hro;simp only [Tryz.ntmps115, List.size_toArray, List.length_cons, List.length_nil, Nat.reduceAdd, Nat.reduceSub, Array.replicate_succ, Array.replicate_zero, List.push_toArray, List.append_toArray, List.nil_append, List.cons_append]
 gi_wp2_with (gi_at_fn 164; refine (appendSeq_in F (n - 1) h11 hro (by omega) g lb hFg eg S N hN hNb _ hseq).mono ?_; rintro e w' ⟨v, ss, rfl, hS, hrow, hnil, hb⟩)
 go_ret
 exact ⟨v, ss, rfl, hS, hrow, hnil, hb⟩
theorem sorted_in (n : Nat) (hn : 4 <= n) (g : Nat) (lb : Array Value) (eg : ∀ args w, (callFunc g args).run Tryz.prog w = .ok (.enter g args) w)
  (S : List Int -> Prop) (N : Nat) (hN : N <= maxLen) (hNb : N * 8 <= 140737488355328) (w : World) (hseq : SeqGives Fence.wide (n - 1 - 1 - 1) Tryz.prog g lb runeV S N w) :
  CallsIn Fence.wide n Tryz.prog 71 #[.func (.func g) #[] lb] w fun e w' => ∃ (A : Option Addr) (c : Nat) (ss : List Int), e = .returned (.slice A ss.length c) /\ S ss /\
   w'.ownsRow w.heap.size 21 1 (.slice A ss.length c) ss.length (Rs (srt ss)) /\ (A = none -> ss.length = 0 /\ c = 0) /\ ss.length <= N /\ Below w.heap.size w w' := by
 have hro : Fence.wide.round = none := rfl;have h1 : 1 <= n := (by omega);have e8 : ∀ args w, (callFunc 115 args).run Tryz.prog w = .ok (.enter 115 args) w := enters_of Tryz.func115 (by kernel_rfl) rfl;refine callsIn_of_wp Tryz.func71 rfl trivial ?_ hro;simp only [Tryz.ntmps71, List.size_toArray, List.length_cons, List.length_nil, Nat.reduceAdd, Nat.reduceSub, Array.replicate_succ, Array.replicate_zero, List.push_toArray, List.append_toArray, List.nil_append, List.cons_append]
 gi_wp2_with (refine ⟨trivial, ?_⟩; gi_at_fn 115; refine (collect_in Fence.wide (n - 1) trivial trivial hro (by omega) g lb trivial eg _ N hN hNb _ hseq.bounded).mono ?_; rintro e W ⟨v, ss, rfl, ⟨hS, hlen⟩, hrow, hnil, hb⟩)
 obtain ⟨A, c, rfl, hA⟩ : ∃ A c, v = .slice A ss.length c /\ (A = none -> ss.length = 0 /\ c = 0) := by
  rcases hrow.2 with ⟨rfl, hz⟩ | ⟨gb, cap, cur, rfl, _⟩
  ·exact ⟨none, 0, by rw [hz], fun _ => ⟨hz, rfl⟩⟩
  ·exact ⟨_, _, rfl, fun h => by cases h⟩
 have hsz : ss.length < 4611686018427387904 := (by unfold maxLen at hN; omega);have hsort := zkh A ss.length c w.heap.size ss W hrow hsz;have hlt := fun k e => (hrow.lt k e).1;clear hrow hnil
 gi_wp2
 refine ⟨trivial, (callsIn_wide.2 hsort).mono ?_⟩;rintro e w' ⟨rfl, hown', hg'⟩
 gi_wp2
 go_ret
 exact ⟨A, c, ss, rfl, hS, hown', hA, hlen, hb.grown hg' hb.size hlt⟩
end
section
open Go.RowKit Go.Lib Go.Maps Go.Sort Go.Shelf
attribute [local go_sem] Oper.semAt_some
def KpV (g : Nat) (W W' : World) : Prop := W.heap.size <= W'.heap.size /\ W'.heap[g]? = W.heap[g]?
theorem KpV.refl (g : Nat) (W : World) : KpV g W W := ⟨Nat.le_refl _, rfl⟩
theorem KpV.trans {g : Nat} {A B C : World} (h : KpV g A B) (k : KpV g B C) : KpV g A C := ⟨Nat.le_trans h.1 k.1, k.2.trans h.2⟩
theorem KpV.put {g : Nat} {B : Nat} (hg : g < B) (W : World) (l : Nat) (o o' : Obj) (hl : B <= l) (_ : W.heap[l]? = some o) (_ : o.isCells = false) (_ : o.isWalk = false) : KpV g W (W.putObj l o') :=
 ⟨by simp [World.putObj], World.putObj_heap_other (by omega)⟩
theorem KpV.cell {g off : Nat} {W W' : World} (h : KpV g W W') : W'.cell? ⟨g, off, none⟩ = W.cell? ⟨g, off, none⟩ := World.cell?_of_block h.2
theorem KpV.of_below {g n : Nat} {W W' : World} (h : Below n W W') (hg : g < n) : KpV g W W' := ⟨h.size, h.block g hg⟩
def ItAt (w : World) (g Bs : Nat) (ks : List Int) : Prop :=
 Bs < w.heap.size /\ ((ks = [] /\ w.cell? ⟨Bs, 0, none⟩ = some (.slice none 0 0)) \/ (g < w.heap.size /\ ∃ cap, w.cell? ⟨Bs, 0, none⟩ = some (.slice (some ⟨g, 0, none⟩) ks.length cap) /\ ∀ j u, (Rs ks)[j]? = some u -> w.cell? ⟨g, 0 + j, none⟩ = some u))
theorem ItAt.below {w w' : World} {g Bs : Nat} {ks : List Int} (h : ItAt w g Bs ks) (hb : Below w.heap.size w w') : ItAt w' g Bs ks := by
 obtain ⟨h1, h2⟩ := h;have hs := hb.size;refine ⟨by omega, ?_⟩;rcases h2 with ⟨e, h2⟩ | ⟨h2, cap, h3, h4⟩
 ·exact .inl ⟨e, (hb.cell (p := ⟨Bs, 0, none⟩) h1).trans h2⟩
 ·exact .inr ⟨by omega, cap, (hb.cell (p := ⟨Bs, 0, none⟩) h1).trans h3, fun j u hu => (hb.cell (p := ⟨g, 0 + j, none⟩) h2).trans (h4 j u hu)⟩
theorem values_any (A : Option Addr) (n c : Nat) (w : World) :
  Calls Tryz.prog 70 #[.slice A n c] w fun e w' => e = .returned (.func (.func 114) #[] #[.pointer (some ⟨w.heap.size, 0, none⟩)]) /\ w' = w.alloc (.cells #[.slice A n c] 42) := by
 go_enter Tryz.func70, Tryz.ntmps70;go_wp2;go_returns;exact ⟨rfl, rfl⟩
def KnownP (prt : Int -> Option (List UInt8 × List Int)) (n : Nat) (w : World) (e : Ending) (w' : World) : Prop :=
 ∃ g Bs ks, e = .returned (.func (.func 114) #[] #[.pointer (some ⟨Bs, 0, none⟩)]) /\ ItAt w' g Bs ks /\ zef R32 prt ks /\ ks.length <= n /\ w.heap.size <= Bs /\ w.heap.size <= g /\ g < w'.heap.size /\ Below w.heap.size w w'
section
variable {w : World} {bp n : Nat} {a : BAddr} {cls : Int -> Int} {prt : Int -> Option (List UInt8 × List Int)} {pr : Int × Int -> Option Int} {md : Int -> Option (Int × Int)} {sc : Int -> Option Int}
theorem zjc (h : BaseM w bp a n cls prt pr md sc) (hn : n <= 1000000) : Calls Tryz.prog 29 #[.pointer (some ⟨bp, 0, none⟩)] w (KnownP prt n w) := by
 have c1 := za h.box 1 rfl;obtain ⟨f, hm, hp⟩ := h.prt
 have hsome : ∀ r, R32 r -> (f r).isSome = (prt r).isSome := fun r hr => by
  have := hp r hr
  cases hf : f r <;> cases hq : prt r <;> rw [hf, hq] at this <;> first | rfl | exact this.elim
 have hbl := hm.lt;refine (callsIn_wide (n := 6)).1 ?_;have hro : Fence.wide.round = none := rfl;have h1 : 1 <= 6 := (by omega);refine callsIn_of_wp Tryz.func29 rfl trivial ?_ hro;simp only [Tryz.ntmps29, List.size_toArray, List.length_cons, List.length_nil, Nat.reduceAdd, Nat.reduceSub, Array.replicate_succ, Array.replicate_zero, List.push_toArray, List.append_toArray, List.nil_append, List.cons_append];have KY := keysP_any (some a.m1) w;have ba : Below w.heap.size w (w.alloc (.cells #[.map (some a.m1)] 76)) := (Below.refl _ _).alloc (Nat.le_refl _) _;have hg := keysP_gives Fence.wide (6 - 1 - 1 - 1 - 1) trivial rfl (by omega) w.heap.size a.m1 n f (w.alloc (.cells #[.map (some a.m1)] 76)) (by simp) (za (zj w _ _) 0 rfl) (hm.alloc _);have SO := sorted_in (6 - 1) (by omega) 116 #[.pointer (some ⟨w.heap.size, 0, none⟩)] (enters_of Tryz.func116 (by kernel_rfl) rfl) _ n (by unfold maxLen; omega) (by omega) _ hg;clear hm hp hg h
 gi_wp2
 refine ⟨trivial, (callsIn_wide.2 KY).mono ?_⟩;rintro e w' ⟨rfl, rfl⟩
 gi_wp2
 refine ⟨trivial, SO.mono ?_⟩;rintro e w2 ⟨A, c, ss, rfl, hS, hown, hA, hle, hb2⟩
 gi_wp2
 refine ⟨trivial, (callsIn_wide.2 (values_any _ _ _ _)).mono ?_⟩;rintro e w3 ⟨rfl, rfl⟩
 gi_wp2
 go_ret
 have hb3 : Below w.heap.size w w2 := zb ba hb2;have hs3 := hb3.size;have hs2 := hb2.size;simp only [World.size_alloc] at hs2;have hbn : Below w.heap.size w (w2.alloc (.cells #[.slice A ss.length c] 42)) := hb3.alloc hs3 _;have hcb : (w2.alloc (.cells #[.slice A ss.length c] 42)).cell? ⟨w2.heap.size, 0, none⟩ = some (.slice A ss.length c) := za (zj w2 _ _) 0 rfl
 have hall : zef R32 prt (srt ss) := by
  refine ⟨(zdm ss).nodup_iff.2 hS.1, fun x => ?_⟩;rw [(zdm ss).mem_iff, hS.2 x];constructor
  ·rintro ⟨h1, h2⟩; exact ⟨h1, by rw [<- hsome x h1]; exact h2⟩
  ·rintro ⟨h1, h2⟩; exact ⟨h1, by rw [hsome x h1]; exact h2⟩
 have hl : (srt ss).length = ss.length := (zdm ss).length_eq;rcases hown.2 with ⟨hv, hz⟩ | ⟨g, cap, cur, hv, hbase, hgb, r1, r2, r3, r4⟩
 ·injection hv with e1 e2 e3;subst e1 e3;have hse : srt ss = [] := List.eq_nil_of_length_eq_zero (by omega);exact ⟨w2.heap.size, w2.heap.size, srt ss, rfl, ⟨by simp, .inl ⟨hse, by rw [hcb, hz]⟩⟩, hall, by omega, hs3, hs3, by simp, hbn⟩
 ·injection hv with e1 e2 e3;subst e1 e3;have hgl := (Array.getElem?_eq_some_iff.1 hgb).1;refine ⟨g, w2.heap.size, srt ss, rfl, ⟨by simp, .inr ⟨by simp; omega, _, by rw [hl]; exact hcb, fun j u hu => ?_⟩⟩, hall, by omega, hs3, by simp at hbase; omega, by simp; omega, hbn⟩;obtain ⟨A2, c2, hv2, _, _, hr⟩ := Rd.of_own hown;injection hv2 with i1 i2 i3;have hj : j < (Rs (srt ss)).length := (List.getElem?_eq_some_iff.1 hu).1;have hpos : 0 < ss.length := (by rw [<- hl]; simp [Rs] at hj; omega);obtain ⟨b, off, he, hbl2, hcx⟩ := hr.at_ hpos;rw [<- i1] at he;injection he with he;injection he with he1 he2;subst he1 he2;exact (World.cell?_of_block (Below.heap_alloc w2 _ g hgl)).trans (hcx j u hu)
end
end
section
open Go.RowKit Go.Lib Go.Maps
theorem nodup_le {β : Type} [DecidableEq β] {l m : List β} (h : l.Nodup) (hs : ∀ x ∈ l, x ∈ m) : l.length <= m.length := by
 induction l generalizing m with
 | nil => simp
 | cons a l ih =>
  rw [List.nodup_cons] at h;have ha := hs a (List.mem_cons_self);have := ih (m := m.erase a) h.2 fun x hx => (List.mem_erase_of_ne (fun e => h.1 (by rw [<- e]; exact hx))).2 (hs x (List.mem_cons_of_mem _ hx));rw [List.length_erase_of_mem ha] at this;have hp : 0 < m.length := List.length_pos_of_mem ha;simp;omega
theorem MapF.tight {α β : Type} {P : Program} {K : TypeId} {mk : α -> Value} {lit : α -> Lit} {ok : α -> Prop} {mkV : β -> Value} {w : World} {b n : Nat} {f : α -> Option β} (h : MapF w P K lit ok mkV b n f) (B : KeyB P K mk lit ok) {U : List α}
  (hU : ∀ a, ok a -> (f a).isSome = true -> a ∈ U) : MapF w P K lit ok mkV b U.length f := by
 obtain ⟨D, h, s⟩ := h;obtain ⟨es0, hD0, hko⟩ := h.keysOf;obtain ⟨es1, hD1, hpw⟩ := h.tidy B.keyed
 have hsz : Maps.size D <= U.length := by
  classical
  subst hD0;injection hD1 with hD1;subst hD1;show es0.length <= U.length;have hn : (es0.map (·.1)).Nodup := List.pairwise_map.2 hpw
  have := nodup_le (m := U.map lit) hn fun x hx => by
   obtain ⟨p, hp, rfl⟩ := List.mem_map.1 hx;obtain ⟨v, hv⟩ := hko p hp;obtain ⟨a, ha, _, hl⟩ := B.inv hv
   have hh : Maps.has (.map es0 : DataW Value) (lit a) = true := by
    rw [has_eq, List.any_eq_true];exact ⟨p, hp, by rw [hl]; exact WideAt.sameKey_self (B.keyed.key (B.of ha))⟩
   rw [(s a ha).1] at hh;rw [hl];exact List.mem_map.2 ⟨a, hU a ha hh, rfl⟩
  simpa using this
 obtain ⟨es, clock, hb, F, hs, hD⟩ := h;refine ⟨D, ⟨es, clock, hb, F, ?_, hD⟩, s⟩;have : Maps.size D = es.size := (by rw [hD]; simp [Maps.size, length_sorted]);omega
@[irreducible] def allR : List Int := List.map Int.ofNat (List.range 1114112)
theorem zln : allR.length = 1114112 := by unfold allR; rw [List.length_map, List.length_range]
theorem zdu {x : Int} : x ∈ allR ↔ 0 <= x /\ x < 1114112 := by
 unfold allR;rw [List.mem_map];constructor
 ·rintro ⟨n, hn, rfl⟩;rw [List.mem_range] at hn;simp only [Int.ofNat_eq_natCast];omega
 ·rintro ⟨h1, h2⟩;exact ⟨x.toNat, by rw [List.mem_range]; omega, by simp only [Int.ofNat_eq_natCast]; omega⟩
theorem zd4 {x : Int} (h : x ∈ allR) : R32 x := by
 rw [zdu] at h;unfold R32;omega
def gd (f : Int -> Option Int) (x : Int) : Int := (f x).getD 0
theorem zd2 {f : Int -> Option Int} {r x v : Int} : gd (upd f r (some v)) x = if x = r then v else gd f x := by
 unfold gd upd;split <;> rfl
def cntL (l : List Int) (f : Int -> Option Int) : Nat := l.countP fun x => decide (gd f x = 0)
theorem zng {f g : Int -> Option Int} (h : ∀ x, gd g x = 0 -> gd f x = 0) (l : List Int) : cntL l g <= cntL l f := by
 unfold cntL;exact List.countP_mono_left fun x _ hx => by simp at hx ⊢; exact h x hx
theorem znf {f g : Int -> Option Int} (h : ∀ x, gd g x = 0 -> gd f x = 0) {r : Int} (h1 : gd f r = 0) (h2 : gd g r ≠ 0) : ∀ {l : List Int}, r ∈ l -> cntL l g < cntL l f
 | [], hr => by cases hr
 | a :: l, hr => by
  have hle := zng h l;unfold cntL at hle ⊢;rw [List.countP_cons, List.countP_cons]
  by_cases e : r = a
  ·subst e;rw [if_neg (by simpa using h2), if_pos (by simpa using h1)];omega
  ·have ih := znf h h1 h2 (l := l) (by simpa [e] using hr);unfold cntL at ih
   by_cases hg : gd g a = 0
   ·rw [if_pos (by simpa using hg), if_pos (by simpa using h a hg)];omega
   ·rw [if_neg (by simpa using hg)];omega
def Marks (f : Int -> Option Int) : Prop := (∀ x, gd f x = 0 \/ gd f x = 1) /\ ∀ x, R32 x -> (f x).isSome = true -> x ∈ allR
theorem Marks.upd {f : Int -> Option Int} (h : Marks f) {r : Int} (hr : r ∈ allR) {v : Int} (hv : v = 0 \/ v = 1) : Marks (upd f r (some v)) := by
 refine ⟨fun x => ?_, fun x hx hs => ?_⟩
 ·rw [zd2];split
  ·exact hv
  ·exact h.1 x
 ·unfold Go.Proofs.YtolcabjkbefjgaaGreatDoor.upd at hs;split at hs
  ·rename_i e; rw [e]; exact hr
  ·exact h.2 x hx hs
end
section
open Go.RowKit Go.Lib Go.Maps
inductive Down (D : Int -> List Int) : Int -> Int -> Prop
 | one {x y : Int} : y ∈ D x -> Down D x y
 | more {x y z : Int} : Down D x y -> z ∈ D y -> Down D x z
theorem Down.cut {D : Int -> List Int} {x z : Int} (h : Down D x z) : ∃ c ∈ D x, c = z \/ Down D c z := by
 induction h with
 | one h => exact ⟨_, h, .inl rfl⟩
 | more _ hz ih =>
  obtain ⟨c, hc, rfl | hd⟩ := ih
  ·exact ⟨_, hc, .inr (.one hz)⟩
  ·exact ⟨_, hc, .inr (.more hd hz)⟩
def Ends (D : Int -> List Int) (x : Int) : Prop := Acc (fun y x => y ∈ D x) x
theorem Ends.irr {D : Int -> List Int} {a : Int} (h : Ends D a) : ¬ Down D a a := by
 induction h with
 | intro a _ ih =>
  intro hd;obtain ⟨c, hc, e | hd2⟩ := hd.cut
  ·subst e; exact ih _ hc hd
  ·exact ih c hc (.more hd2 hc)
theorem Ends.of {D : Int -> List Int} {a : Int} (h : ∀ y ∈ D a, Ends D y) : Ends D a := Acc.intro _ h
theorem zcn : Tryz.prog.underlying 79 = some (.map 21 3) := secsT
structure LSt (w : World) (wb db : Nat) (D : Int -> List Int) (wy dn : Int -> Option Int) : Prop where
 mwy : MapF w Tryz.prog 21 zr R32 intV wb 1114112 wy
 mdn : MapF w Tryz.prog 21 zr R32 intV db 1114112 dn
 mw : Marks wy
 md : Marks dn
 ok : ∀ x, gd dn x = 1 -> Ends D x
abbrev MB (wb db : Nat) (k : Nat) : Prop := k = wb \/ k = db
theorem LSt.at_ {w w' : World} {wb db : Nat} {D : Int -> List Int} {wy dn : Int -> Option Int} (h : LSt w wb db D wy dn) (hb : Below w.heap.size w w') : LSt w' wb db D wy dn :=
 ⟨h.mwy.below hb h.mwy.lt, h.mdn.below hb h.mdn.lt, h.mw, h.md, h.ok⟩
theorem zh6 {w : World} {b n : Nat} {f : Int -> Option Int} (h : MapF w Tryz.prog 21 zr R32 intV b n f) (hm : Marks f) : MapF w Tryz.prog 21 zr R32 intV b 1114112 f := by
 have := h.tight zk hm.2;rwa [zln] at this
theorem below_wr {W0 w w' : World} {wb db : Nat} (hb : Below W0.heap.size W0 w) (hW : Wrote (MB wb db) w w') (h1 : W0.heap.size <= wb) (h2 : W0.heap.size <= db) : Below W0.heap.size W0 w' :=
 hb.trans (hW.below (by rintro k (rfl | rfl) <;> assumption) hb.size)
def zjs (wb db : Nat) (D : Int -> List Int) (wy dn : Int -> Option Int) (r : Int) (w : World) (e : Ending) (w' : World) : Prop :=
 Wrote (MB wb db) w w' /\ ((e = .returned (.bool true) /\ ∃ x ∈ allR, ¬ Ends D x) \/
 (e = .returned (.bool false) /\ ∃ wy' dn', LSt w' wb db D wy' dn' /\ (∀ x, gd wy' x = gd wy x) /\ (∀ x, gd dn x = 1 -> gd dn' x = 1) /\ (∀ x, gd wy x = 1 -> gd dn' x = gd dn x) /\ gd dn' r = 1))
def LoI (wb db : Nat) (D : Int -> List Int) (wy1 dn : Int -> Option Int) (il : List Int) (w2 wr : World) (k : Nat) : Prop :=
 ∃ wy' dn', LSt wr wb db D wy' dn' /\ (∀ x, gd wy' x = gd wy1 x) /\ (∀ x, gd dn x = 1 -> gd dn' x = 1) /\ (∀ x, gd wy1 x = 1 -> gd dn' x = gd dn x) /\ (∀ y ∈ il.take k, gd dn' y = 1) /\ Wrote (MB wb db) w2 wr
section
variable {W0 : World} {bp n : Nat} {a : BAddr} {cls : Int -> Int} {prt : Int -> Option (List UInt8 × List Int)} {pr : Int × Int -> Option Int} {md : Int -> Option (Int × Int)} {sc : Int -> Option Int}
theorem loops_any (h : BaseM W0 bp a n cls prt pr md sc) (hk : Kinds W0) (hD : ∀ x ∈ allR, ∀ y ∈ (decH prt x).2, y ∈ allR) (hDl : ∀ x, (decH prt x).2.length <= 18) {wb db : Nat} (hwd : wb ≠ db) (hwb : W0.heap.size <= wb) (hdb : W0.heap.size <= db) :
  ∀ (m : Nat) (w : World) (r : Int) (wy dn : Int -> Option Int), r ∈ allR -> cntL allR wy < m -> Below W0.heap.size W0 w -> LSt w wb db (fun x => (decH prt x).2) wy dn -> (∀ x, gd wy x = 1 -> Down (fun x => (decH prt x).2) x r) ->
  Calls Tryz.prog 30 #[.pointer (some ⟨bp, 0, none⟩), .int .i32 r, .map (some wb), .map (some db)] w (zjs wb db (fun x => (decH prt x).2) wy dn r w) := by
 intro m;induction m with
 | zero => intro w r wy dn _ hc; exact absurd hc (Nat.not_lt_zero _)
 | succ m ih =>
  intro w r wy dn hr hcnt hb hS hdown;obtain ⟨D, hDe⟩ : ∃ D, D = fun x => (decH prt x).2 := ⟨_, rfl⟩;have HDE := hz0q hDe;rw [<- hDe] at ih hS hdown;rw [<- hDe];have hrR : R32 r := zd4 hr;have hmx : 1114112 < maxLen := by unfold maxLen; omega
  by_cases hdone : gd dn r = 1
  ·have hdn := hS.mdn;have HG : Hid ((dn r).getD 0 = 1) := hdone;have HP : Hid (zjs wb db D wy dn r w (.returned (.bool false)) w) := ⟨Wrote.refl _ _, .inr ⟨rfl, wy, dn, hS, fun _ => rfl, fun _ h => h, fun _ _ => rfl, hdone⟩⟩;clear ih hDe hdone hcnt hS hdown hD hDl h;go_enter Tryz.func30, Tryz.ntmps30;go_wp2_with (first | (at_lookup; refine zp rfl _ _ rfl zk zcn (zbb _) hdn (k := r) hrR rfl rfl ?_; rw [HG.out]) | go_in)
   go_returns;exact HP.out
  ·have hd0 : gd dn r = 0 := (hS.md.1 r).resolve_right hdone
   by_cases hway : gd wy r = 1
   ·have hdn := hS.mdn;have hwy := hS.mwy;have HG : Hid ((dn r).getD 0 = 0) := hd0;have HW : Hid ((wy r).getD 0 = 1) := hway;have HP : Hid (zjs wb db D wy dn r w (.returned (.bool true)) w) := ⟨Wrote.refl _ _, .inl ⟨rfl, r, hr, fun he => he.irr (hdown r hway)⟩⟩;clear ih hDe hdone hcnt hS hdown hD hDl h hd0 hway;go_enter Tryz.func30, Tryz.ntmps30;go_wp2_with (first | (at_lookup; refine zp rfl _ _ rfl zk zcn (zbb _) hdn (k := r) hrR rfl rfl ?_; rw [HG.out]) | (at_lookup; refine zp rfl _ _ rfl zk zcn (zbb _) hwy (k := r) hrR rfl rfl ?_; rw [HW.out]) | go_in)
    go_returns;exact HP.out
   ·have hw0 : gd wy r = 0 := (hS.mw.1 r).resolve_right hway;have hdn := hS.mdn;have hwy := hS.mwy;have HG : Hid ((dn r).getD 0 = 0) := hd0;have HW : Hid ((wy r).getD 0 = 0) := hw0;have HWW : Hid (gd wy r = 0) := hw0;have HDR : Hid (D r = (decH prt r).2) := (by show _ = _; rw [hDe]);obtain ⟨il, hil⟩ : ∃ il, il = (decH prt r).2 := ⟨_, rfl⟩;obtain ⟨kd, hkd⟩ : ∃ kd, kd = (decH prt r).1 := ⟨_, rfl⟩;have HIL : Hid (D r = il) := (by show _ = _; rw [hil]; exact HDR.out);have hill : il.length <= 18 := (by rw [hil]; exact hDl r);have hilr : ∀ y ∈ il, y ∈ allR := fun y hy => hD r hr y (by rw [<- hil]; exact hy)
    have DC : ∀ W, Below W0.heap.size W0 W -> Calls Tryz.prog 73 #[.pointer (some ⟨bp, 0, none⟩), .int .i32 r] W (DecP kd il W) := fun W hW => by
     rw [hil, hkd];exact ze7 (h.below hW) r hrR (hk.below' hW)
    have HCN := hz0q hcnt;have HST := hz0q hS;have HDN := hz0q hdown;have HIH := hz0q ih;have HBB := hz0q hb;clear ih hDe hdone hcnt hS hdown hD hDl h hd0 hway hw0 hil hkd hb;go_enter Tryz.func30, Tryz.ntmps30;go_wp2_with (first | (at_lookup; refine zp rfl _ _ rfl zk zcn (zbb _) hdn (k := r) hrR rfl rfl ?_; rw [HG.out]) | (at_lookup; refine zp rfl _ _ rfl zk zcn (zbb _) hwy (k := r) hrR rfl rfl ?_; rw [HW.out]) | (refine zct rfl _ _ _ rfl zk zcn hmx hwy (k := r) hrR 1 rfl rfl rfl ?_; intro w1 hm1 hg1 hs1; have hbw1 := HBB.out.grown hg1 HBB.out.size (fun k e => by cases e; exact hwb)) | (go_at_call 73; refine (DC _ hbw1).mono ?_; rintro e w2 ⟨A, c, rfl, hown, hb2⟩) | go_in)
    have hS := HST.out;have hs12 : w1.heap.size <= w2.heap.size := hb2.size;have hwl := hS.mwy.lt;have hdl := hS.mdn.lt
    have hm2 : LSt w2 wb db D (upd wy r (some 1)) dn := by
     have e1 := zh6 hm1 (hS.mw.upd hr (.inr rfl));have e2 := hS.mdn.kept hg1 (by simpa using fun e => hwd e.symm);exact ⟨e1.below hb2 e1.lt, e2.below hb2 e2.lt, hS.mw.upd hr (.inr rfl), hS.md, hS.ok⟩
    obtain ⟨wy1, hwy1⟩ : ∃ f, f = upd wy r (some 1) := ⟨_, rfl⟩;have HY : ∀ x, gd wy1 x = if x = r then 1 else gd wy x := fun x => by rw [hwy1]; exact zd2
    rw [<- hwy1] at hm2;have HY1 := hz0q HY
    have hcn : cntL allR wy1 < m := by
     have := znf (f := wy) (g := wy1) (fun x hx => by rw [HY] at hx; by_cases e : x = r <;> simp [e] at hx; exact hx) (r := r) HW.out (by rw [HY]; simp) hr;have := HCN.out;omega
    have HDW : Hid (∀ x, gd wy1 x = 1 -> ∀ y ∈ il, Down D x y) := fun x hx y hy => by
     rw [<- HIL.out] at hy;rw [HY] at hx
     by_cases e : x = r
     ·rw [e]; exact .one hy
     ·rw [if_neg e] at hx; exact .more (HDN.out x hx) hy
    have hb02 := zb hbw1 hb2;have HW2 : Hid (Wrote (MB wb db) w w2) := (Wrote.grown hg1 fun k e => by cases e; exact .inl rfl).trans (.of_below hb2);obtain ⟨A2, c2, hv2, _, _, hrd⟩ := Rd.of_own hown;injection hv2 with hA2 hn2 hc2;rw [<- hA2] at hrd;clear hn2 hc2
    have HAB : Hid (∀ a, A = some a -> ¬ MB wb db a.block) := fun a ha => by
     rcases hown.2 with ⟨hv, _⟩ | ⟨g, cap, cur, hv, hbase, _⟩
     ·injection hv with e; rw [ha] at e; cases e
     ·injection hv with e _ _;rw [ha] at e;injection e with e;subst e;rintro (e | e) <;> simp only [] at e <;> omega
    clear hwy1 HY hown hm1 hg1 hs1 hbw1 hb2 hA2 hdn hwy HW hS
    go_loopw [33] (fun i wr => ∃ k : Nat, k <= il.length /\ i = .int .i64 k /\ LoI wb db D wy1 dn il w2 wr k) (fun i _ => il.length - (intOf i).toNat)
    case atStart => exact ⟨0, Nat.zero_le _, rfl, wy1, dn, hm2, fun _ => rfl, fun _ h => h, fun _ _ => rfl, by simp, Wrote.refl _ _⟩
    case round =>
     obtain ⟨k, hkl, rfl, wy', dn', hS', e1, e2, e3, e4, hW⟩ := hrel;have hbr : Below W0.heap.size W0 wr := below_wr hb02 hW hwb hdb
     by_cases hlt : k < il.length
     ·obtain ⟨x, hx⟩ : ∃ x, il[k]? = some x := ⟨_, List.getElem?_eq_getElem hlt⟩;have hxm : x ∈ il := List.mem_of_getElem? hx;have HC := HIH.out wr x wy' dn' (hilr x hxm) (Nat.lt_of_le_of_lt (zng (fun y hy => by rw [<- e1 y]; exact hy) _) hcn) hbr hS' (fun y hy => HDW.out y (by rw [<- e1 y]; exact hy) x hxm);obtain ⟨b, off, rfl, hbl, hcx⟩ := (hrd.wrote hW (fun _ a ha => HAB.out a ha)).at_ (by omega);have c0 : wr.cell? ⟨b, off + k, none⟩ = some (.int .i32 x) := hcx k _ (by simp [Rs, hx]);have hi : (k : Int) < (il.length : Int) := (by omega);have HTK : Hid (il.take (k + 1) = il.take k ++ [x]) := (by show _ = _; rw [List.take_add_one, hx]; rfl);have HE := hz0q (And.intro e1 (And.intro e2 (And.intro e3 e4)));clear hx hcx hS' e1 e2 e3 e4 hbl hxm;go_wp2_with fail;refine HC.mono ?_;rintro e w3 ⟨hW3, (⟨rfl, hex⟩ | ⟨rfl, wy2, dn2, hS3, i1, i2, i3, i4⟩)⟩
      ·have HP : Hid (zjs wb db D wy dn r w (.returned (.bool true)) w3) := ⟨(HW2.out.trans hW).trans hW3, .inl ⟨rfl, hex⟩⟩;clear HC hW3 hex hm2 hrd;go_wp2;go_returns;exact HP.out
      ·obtain ⟨e1, e2, e3, e4⟩ := HE.out
       have hI : LoI wb db D wy1 dn il w2 w3 (k + 1) := ⟨wy2, dn2, hS3, fun y => (i1 y).trans (e1 y), fun y hy => i2 y (e2 y hy), fun y hy => (i3 y (by rw [e1 y]; exact hy)).trans (e3 y hy), fun y hy => by
        rw [HTK.out, List.mem_append, List.mem_singleton] at hy;rcases hy with hy | rfl
        ·exact i2 y (e4 y hy)
        ·exact i4, hW.trans hW3⟩
       clear HC hW3 i1 i2 i3 i4 e1 e2 e3 e4 hm2 hrd;go_wp2;go_roundw
       case rel => exact ⟨k + 1, by omega, by go_num, hI⟩
       case measure => simp [intOf]; omega
     ·obtain rfl : k = il.length := (by omega);rw [List.take_length] at e4;have hi : (il.length : Int) <= (il.length : Int) := Int.le_refl _;have hwy' := hS'.mwy;have hdn' := hS'.mdn;have h1 : gd wy1 r = 1 := (by rw [HY1.out, if_pos rfl]);have HW' : Hid ((wy' r).getD 0 = 1) := (e1 r).trans h1;have HG' : Hid ((dn' r).getD 0 = 0) := (e3 r h1).trans HG.out;have HE := hz0q (And.intro hS' (And.intro e1 (And.intro e2 (And.intro e3 e4))));have hne : (some db : Option Nat) ≠ some wb := (by simpa using fun e => hwd e.symm);clear hS' e1 e2 e3 e4 hm2 h1 hrd hb02 hbr;go_wp2_with (first | (at_lookup; refine zp rfl _ _ rfl zk zcn (zbb _) hwy' (k := r) hrR rfl rfl ?_; rw [HW'.out]) | (refine zct rfl _ _ _ rfl zk zcn hmx hwy' (k := r) hrR 0 rfl rfl rfl ?_; intro w4 hm4 hg4 hs4; have hdn4 := hdn'.kept hg4 hne) | (at_lookup; refine zp rfl _ _ rfl zk zcn (zbb _) hdn4 (k := r) hrR rfl rfl ?_; rw [HG'.out]) | (refine zct rfl _ _ _ rfl zk zcn hmx hdn4 (k := r) hrR 1 rfl rfl rfl ?_; intro w5 hm5 hg5 hs5) | go_in)
      go_returns;obtain ⟨hS', e1, e2, e3, e4⟩ := HE.out;have n1 := zh6 hm4 (hS'.mw.upd hr (.inl rfl));have n2 := zh6 hm5 (hS'.md.upd hr (.inr rfl));refine ⟨((HW2.out.trans hW).trans (Wrote.grown hg4 fun k e => by cases e; exact .inl rfl)).trans (Wrote.grown hg5 fun k e => by cases e; exact .inr rfl), .inr ⟨rfl, _, _, ⟨n1.kept hg5 (by simpa using hwd), n2, hS'.mw.upd hr (.inl rfl), hS'.md.upd hr (.inr rfl), fun x hx => ?_⟩, fun x => ?_, fun x hx => ?_, fun x hx => ?_, ?_⟩⟩
      ·rw [zd2] at hx
       by_cases e : x = r
       ·subst e;exact Ends.of fun y hy => hS'.ok y (e4 y (by rw [<- HIL.out]; exact hy))
       ·rw [if_neg e] at hx; exact hS'.ok x hx
      ·rw [zd2]
       by_cases e : x = r
       ·rw [if_pos e, e]; exact HWW.out.symm
       ·rw [if_neg e, e1, HY1.out, if_neg e]
      ·rw [zd2]
       by_cases e : x = r
       ·rw [if_pos e]
       ·rw [if_neg e]; exact e2 x hx
      ·have e : x ≠ r := fun e => by rw [e, HWW.out] at hx; cases hx
       rw [zd2, if_neg e];exact e3 x (by rw [HY1.out, if_neg e]; exact hx)
      ·rw [zd2, if_pos rfl]
end
end
section
section
variable {prt : Int -> Option (List UInt8 × List Int)}
theorem zew {r : Int} (h : 44032 <= r /\ r < 55204) : (decH prt r).2 = [(z6 r).1, (z6 r).2.1] := by unfold decH; rw [if_pos h]
theorem zft {r : Int} (h : ¬ (44032 <= r /\ r < 55204)) : (decH prt r).2 = ((prt r).getD ([], [])).2 := by unfold decH; rw [if_neg h]
theorem zdx (hK : ∀ r, (prt r).isSome = true -> Ends (fun x => (decH prt x).2) r) {r : Int} (h : ¬ (44032 <= r /\ r < 55204)) : Ends (fun x => (decH prt x).2) r := by
 cases hp : prt r with
 | some q => exact hK r (by rw [hp]; rfl)
 | none =>
  refine Ends.of fun y hy => ?_;rw [zft h, hp] at hy
  cases hy
theorem zf4 {r : Int} (h : 44032 <= r /\ r < 55204) (ht : (r - 44032) % 28 = 0) : (z6 r).1 = 4352 + (r - 44032) / 588 /\ (z6 r).2.1 = 4449 + (r - 44032) / 28 % 21 := by
 unfold z6;rw [if_pos h, if_neg (by omega)];exact ⟨rfl, rfl⟩
theorem zd9 {r : Int} (h : 44032 <= r /\ r < 55204) (ht : (r - 44032) % 28 ≠ 0) : (z6 r).1 = r - (r - 44032) % 28 /\ (z6 r).2.1 = 4519 + (r - 44032) % 28 := by
 unfold z6;rw [if_pos h, if_pos (by omega)];exact ⟨rfl, rfl⟩
theorem zmp (hK : ∀ r, (prt r).isSome = true -> Ends (fun x => (decH prt x).2) r) {r : Int} (h : 44032 <= r /\ r < 55204) (ht : (r - 44032) % 28 = 0) : Ends (fun x => (decH prt x).2) r := by
 refine Ends.of fun y hy => ?_;obtain ⟨e1, e2⟩ := zf4 h ht;rw [zew h, e1, e2] at hy;simp only [List.mem_cons, List.not_mem_nil, or_false] at hy;rcases hy with rfl | rfl
 ·exact zdx hK (by omega)
 ·exact zdx hK (by omega)
theorem zfr (hK : ∀ r, (prt r).isSome = true -> Ends (fun x => (decH prt x).2) r) (r : Int) : Ends (fun x => (decH prt x).2) r := by
 by_cases h : 44032 <= r /\ r < 55204
 ·by_cases ht : (r - 44032) % 28 = 0
  ·exact zmp hK h ht
  ·refine Ends.of fun y hy => ?_;obtain ⟨e1, e2⟩ := zd9 h ht;rw [zew h, e1, e2] at hy;simp only [List.mem_cons, List.not_mem_nil, or_false] at hy;rcases hy with rfl | rfl
   ·exact zmp hK (by omega) (by omega)
   ·exact zdx hK (by omega)
 ·exact zdx hK h
theorem zjj (hI : ∀ r q, prt r = some q -> ∀ y ∈ q.2, y ∈ allR) (x : Int) : ∀ y ∈ (decH prt x).2, y ∈ allR := by
 intro y hy
 by_cases h : 44032 <= x /\ x < 55204
 ·by_cases ht : (x - 44032) % 28 = 0
  ·obtain ⟨e1, e2⟩ := zf4 h ht;rw [zew h, e1, e2] at hy;simp only [List.mem_cons, List.not_mem_nil, or_false] at hy;rw [zdu];rcases hy with rfl | rfl <;> omega
  ·obtain ⟨e1, e2⟩ := zd9 h ht;rw [zew h, e1, e2] at hy;simp only [List.mem_cons, List.not_mem_nil, or_false] at hy;rw [zdu];rcases hy with rfl | rfl <;> omega
 ·rw [zft h] at hy
  cases hp : prt x with
  | none => rw [hp] at hy; cases hy
  | some q => rw [hp] at hy; exact hI x q hp y hy
theorem zld (hI : ∀ r q, prt r = some q -> q.2.length <= 18) (x : Int) : (decH prt x).2.length <= 18 := by
 by_cases h : 44032 <= x /\ x < 55204
 ·rw [zew h]; simp
 ·rw [zft h]
  cases hp : prt x with
  | none => simp
  | some q => exact hI x q hp
end
end
section
theorem zet {α β : Type} (P : α -> Prop) (f : α -> β -> α) : ∀ (l : List β) (a : α), P a -> (∀ a x, x ∈ l -> P a -> P (f a x)) -> P (l.foldl f a)
 | [], a, h, _ => h
 | x :: l, a, h, hs => zet P f l (f a x) (hs a x List.mem_cons_self h) fun a y hy => hs a y (List.mem_cons_of_mem _ hy)
theorem zhq {l : List RowS} (h : ∀ x ∈ l, 0 <= x.cl) (r : Int) : 0 <= clsL l r := by
 unfold clsL;refine zet (fun f => 0 <= f r) clsN l (fun _ => 0) (Int.le_refl 0) fun f x hx hf => ?_;unfold clsN;split
 ·exact h x hx
 ·exact hf
theorem cls_hang {l : List RowS} (h : ∀ x ∈ l, 0 <= x.cl) (ht : ∀ x ∈ l, zbu x = false) {r : Int} (hr : 44032 <= r /\ r < 55204) : clsL l r = 0 := by
 unfold clsL;refine zet (fun f => f r = 0) clsN l (fun _ => 0) rfl fun f x hx hf => ?_;unfold clsN;split
 ·rename_i hc;have h1 := h x hx;have h2 := ht x hx;unfold zbu at h2;have h3 := of_decide_eq_false h2;have : ¬ 0 < x.cl := fun e => h3 ⟨.inl e, by omega, by omega⟩;omega
 ·exact hf
theorem zh1 {l : List RowS} {r : Int} {q : List UInt8 × List Int} (h : prtL l r = some q) : ∃ x ∈ l, x.fr = r /\ x.il ≠ [] /\ q = (x.kd, x.il) := by
 unfold prtL at h;refine zet (fun f => ∀ q, f r = some q -> ∃ x ∈ l, x.fr = r /\ x.il ≠ [] /\ q = (x.kd, x.il)) prtN l (fun _ => none) (fun q hq => by cases hq) (fun f x hx hf q hq => ?_) q h;unfold prtN at hq
 by_cases e : x.il = []
 ·rw [if_pos e] at hq; exact hf q hq
 ·rw [if_neg e] at hq;unfold upd at hq
  by_cases e2 : r = x.fr
  ·rw [if_pos e2] at hq;injection hq with hq;exact ⟨x, hx, e2.symm, e, hq.symm⟩
  ·rw [if_neg e2] at hq; exact hf q hq
theorem prt_hang {l : List RowS} (ht : ∀ x ∈ l, zbu x = false) (hle : ∀ x ∈ l, x.fr <= x.up) {r : Int} (hr : 44032 <= r /\ r < 55204) : prtL l r = none := by
 cases hp : prtL l r with
 | none => rfl
 | some q =>
  obtain ⟨x, hx, h1, h2, _⟩ := zh1 hp;have h3 := ht x hx;unfold zbu at h3;have h4 := of_decide_eq_false h3;have := hle x hx;exact absurd ⟨.inr (List.length_pos_iff.2 h2), by omega, by omega⟩ h4
end
end Go.Proofs.YtolcabjkbefjgaaGreatDoor
