/- An argument that is lines of characters and of exclusions, opened. Rows of a file: plain words, and how rows lie in memory. -/
import Derived.Test.YtolcabjkbefjgaaGreatDoorZ13
set_option linter.unusedSimpArgs false
set_option linter.unusedVariables false
set_option maxRecDepth 20000
set_option maxHeartbeats 4000000
namespace Go.Proofs.YtolcabjkbefjgaaGreatDoor
section
open Go.ChangeShapes Go.WideShapes Go.ChangeAt Go.RowKit Go.Lib
theorem txt_c : Tryz.prog.cellsOf 23 = 2 := by kernel_rfl
theorem txt_cs : Tryz.prog.cellsOf 9 = 1 := by kernel_rfl
theorem open_text {H : Type} {enc : TypeId × Value -> H} {W : World} {base base' : Nat} {sp : Nat -> Bool} {held : Bool} {v : Value} {d : DataW H} {p : List MemPlace} (hv : Value.okWide Tryz.prog W .any base' 23 v)
  (h : DataW.Trod enc Tryz.prog W base sp held 23 v d p) : ∃ (s o : ByteArray), v = .agg #[.string s, .string o] := by
 obtain ⟨cs, rfl, _⟩ := okWide_struct Tryz.underlying23 hv;obtain ⟨fuel, hf⟩ := h;obtain ⟨y0, y1, n, _, hl, g0, g1⟩ := Go.ChangeShapes.trod_struct2 Tryz.underlying23 hf;rw [txt_c] at hl;obtain ⟨l⟩ := cs;have hcl : (Value.agg ⟨l⟩).cells.toList = l := (by simp [Value.cells]);rw [hcl] at hl g0 g1;match l, hl with
 | [a, b], _ =>
  have g0' : DataW.trod enc Tryz.prog W base sp held n 9 (([a, b].drop 0).take (Tryz.prog.cellsOf 9)) = some y0 := g0;have g1' : DataW.trod enc Tryz.prog W base sp held n 9 (([a, b].drop 1).take (Tryz.prog.cellsOf 9)) = some y1 := g1;rw [txt_cs] at g0' g1';obtain ⟨s, e0, _, _⟩ := DataW.trod_string Tryz.underlying9 g0';obtain ⟨o, e1, _, _⟩ := DataW.trod_string Tryz.underlying9 g1';simp at e0 e1;subst e0 e1;exact ⟨s, o, rfl⟩
end
section
open Go.RowKit
def FSTB : List UInt8 := [44, 32, 70, 105, 114, 115, 116, 62]
def LSTB : List UInt8 := [44, 32, 76, 97, 115, 116, 62]
def zc6 (f x : RowS) : Prop := (zbk x.nm LSTB).1 ≠ (zbk f.nm FSTB).1 \/ x.ct ≠ f.ct \/ x.cl ≠ f.cl \/ 0 < x.il.length + f.il.length \/ x.fr < f.fr
instance (f x : RowS) : Decidable (zc6 f x) := by unfold zc6; exact inferInstance
def zfi (f x : RowS) : RowS := ⟨f.fr, x.fr, (zbk f.nm FSTB).1, x.ct, x.cl, [], []⟩
structure StU where
 out : List RowS
 op : Option RowS
 was : Int
def zcp (st : StU) (f x : RowS) : StU × Int := if zc6 f x then (st, 10) else (⟨st.out ++ [zfi f x], none, x.fr⟩, 0)
def freeS (st : StU) (x : RowS) : StU × Int := if x.fr <= st.was then (st, 12) else if (zbk x.nm FSTB).2 = true then (⟨st.out, some x, st.was⟩, 0) else (⟨st.out ++ [x], none, x.fr⟩, 0)
def takeR (st : StU) (x : RowS) : StU × Int :=
 match st.op with
 | some f => if (zbk x.nm LSTB).2 = false then (st, 10) else zcp st f x
 | none => if (zbk x.nm LSTB).2 = true then (st, 10) else freeS st x
def takeS (st : StU) (l : List UInt8) : StU × Int := if (zaf l).2 ≠ 0 then (st, (zaf l).2) else takeR st (zaf l).1
def rowsW : StU -> List (Int × List UInt8) -> StU × Int × Int
 | st, [] => (st, 0, 0)
 | st, p :: ls => if (takeS st p.2).2 ≠ 0 then (st, p.1, (takeS st p.2).2) else rowsW (takeS st p.2).1 ls
def zky (ls : List (Int × List UInt8)) : Int := match ls.getLast? with | some p => p.1 | none => 0
def endU (ls : List (Int × List UInt8)) (r : StU × Int × Int) : List RowS × Int × Int :=
 if r.2.2 ≠ 0 then ([], r.2.1, r.2.2) else if r.1.op.isSome = true then ([], zky ls, 10) else (r.1.out, 0, 0)
def rowsS (s : List UInt8) : List RowS × Int × Int :=
 if (zbo s).2 ≠ 0 then ([], 0, (zbo s).2) else endU (zbo s).1 (rowsW ⟨[], none, -1⟩ (zbo s).1)
def RowOk (N : Nat) (x : RowS) : Prop := x.nm.length <= N /\ x.il.length <= 18
theorem into_il (s : List UInt8) : (intoS s).2.1.length <= 18 := by
 have hr : ∀ k t, (intoR k t).2.1.length <= 18 := by
  intro k t;unfold intoR;split
  ·simp
  ·split
   ·simp
   ·simp only []; omega
 unfold intoS;split
 ·split
  ·simp
  ·exact hr _ _
 ·exact hr _ _
theorem zh2 (l : List UInt8) : RowOk l.length (zaf l).1 := by
 have hpart := zdf 59 l;unfold zaf zi1;have hn : RowOk l.length RowS.none := ⟨Nat.zero_le _, Nat.zero_le _⟩;split
 ·exact hn
 ·split
  ·exact hn
  ·split
   ·exact hn
   ·split
    ·exact hn
    ·split
     ·exact hn
     ·refine ⟨?_, into_il _⟩;show (((cutL 59 l).map bareL).getD 1 []).length <= l.length;rw [List.getD_eq_getElem?_getD, List.getElem?_map]
      cases h : (cutL 59 l)[1]? with
      | none => simp
      | some y =>
       have h1 := hpart y (List.mem_of_getElem? h);have h2 := zcq y;show (bareL y).length <= l.length;omega
abbrev RA := RowS × Option Addr × Nat
def rowC (x : RA) : List Value := [.int .i32 x.1.fr, .int .i32 x.1.up, .string (mk8 x.1.nm), .string (mk8 x.1.ct), .int .i64 x.1.cl, .string (mk8 x.1.kd), .slice x.2.1 x.1.il.length x.2.2]
def Vs (os : List RA) : List Value := os.flatMap rowC
theorem Vs_snoc (os : List RA) (x : RA) : Vs (os ++ [x]) = Vs os ++ rowC x := by simp [Vs]
theorem Vs_at : ∀ (os : List RA) (i : Nat) (x : RA), os[i]? = some x -> ∀ j u, (rowC x)[j]? = some u -> (Vs os)[i * 7 + j]? = some u
 | [], i, x, h => by simp at h
 | y :: t, 0, x, h => by
  intro j u hu;simp at h;subst h;have hj : j < (rowC y).length := (List.getElem?_eq_some_iff.1 hu).1;show (rowC y ++ Vs t)[0 * 7 + j]? = some u;rw [Nat.zero_mul, Nat.zero_add, List.getElem?_append_left hj];exact hu
 | y :: t, i + 1, x, h => by
  intro j u hu;have ih := Vs_at t i x (by simpa using h) j u hu;show (rowC y ++ Vs t)[(i + 1) * 7 + j]? = some u;rw [List.getElem?_append_right (by show 7 <= (i + 1) * 7 + j; omega), show (i + 1) * 7 + j - (rowC y).length = i * 7 + j by show (i + 1) * 7 + j - 7 = _; omega];exact ih
theorem zkk (x : RA) : ∀ u ∈ rowC x, u.oneCell' = true := by
 intro u hu;simp [rowC] at hu;rcases hu with rfl | rfl | rfl | rfl | rfl | rfl | rfl <;> rfl
theorem zhy : ElemK Tryz.prog 69 143 (.agg #[.int .i32 0, .int .i32 0, .string ByteArray.empty, .string ByteArray.empty, .int .i64 0, .string ByteArray.empty, .slice none 0 0]) 7 88 := ⟨Tryz.underlying69, by kernel_rfl, rfl, by omega⟩
def zhs (B : Nat) (w : World) (x : RA) : Prop := w.ownsRow B 21 1 (.slice x.2.1 x.1.il.length x.2.2) x.1.il.length (Rs x.1.il)
structure zak (T : TypeId) (B : Nat) (w : World) (os : List RA) (A : Option Addr) (c : Nat) : Prop where
 own : w.ownsRow B T 7 (.slice A os.length c) os.length (Vs os)
 into : ∀ x ∈ os, zhs B w x
section
variable {w w' : World} {T : TypeId} {B : Nat} {os : List RA} {A : Option Addr} {c : Nat}
theorem zak.nil (T : TypeId) (B : Nat) (w : World) : zak T B w [] none 0 := ⟨World.ownsRow_nil _ _ _ _, fun x hx => absurd hx (by simp)⟩
theorem zh3 {k n : Nat} {e : TypeId} {v : Value} {xs : List Value} (h : w.ownsRow B e k v n xs) (hk : ∀ g, B <= g -> g < w.heap.size -> w'.heap[g]? = w.heap[g]?) : w'.ownsRow B e k v n xs := by
 refine ⟨h.1, ?_⟩;rcases h.2 with hn | ⟨g, cap, cur, hv, hg, hh, rest⟩
 ·exact .inl hn
 ·exact .inr ⟨g, cap, cur, hv, hg, (hk g hg (Array.getElem?_eq_some_iff.1 hh).1).trans hh, rest⟩
theorem zak.same (h : zak T B w os A c) (hk : ∀ g, B <= g -> g < w.heap.size -> w'.heap[g]? = w.heap[g]?) : zak T B w' os A c :=
 ⟨zh3 h.own hk, fun x hx => zh3 (h.into x hx) hk⟩
theorem zak.below (h : zak T B w os A c) (hb : Below w.heap.size w w') : zak T B w' os A c := h.same fun g _ hg => hb.block g hg
theorem zak.base {B' : Nat} (h : zak T B w os A c) (hb : B' <= B) : zak T B' w os A c := ⟨zba h.own hb, fun x hx => zba (h.into x hx) hb⟩
theorem zak.setCell {p : Addr} {u : Value} (h : zak T B w os A c) (hp : p.block < B) : zak T B (w.setCell p u) os A c :=
 h.same fun g hg _ => Below.heap_setCell w p u g (by omega)
theorem zje {B1 B2 n1 n2 k1 k2 : Nat} {e1 e2 : TypeId} {v1 v2 : Value} {xs1 xs2 : List Value} (h : w.ownsRow B1 e1 k1 v1 n1 xs1) (h2 : w.ownsRow B2 e2 k2 v2 n2 xs2) (hne : e1 ≠ e2) (hg : w.grownBy w' v2.ownBlock) : w'.ownsRow B1 e1 k1 v1 n1 xs1 := by
 refine h.kept hg ?_;rcases h.2 with ⟨rfl, _⟩ | ⟨g, cap, cur, rfl, _, hh, _⟩
 ·exact .inl rfl
 ·refine .inr ?_;intro heq;rcases h2.2 with ⟨rfl, _⟩ | ⟨g2, cap2, cur2, rfl, _, hh2, _⟩
  ·cases heq
  ·injection heq with heq;simp only [] at heq;subst heq;rw [hh] at hh2;injection hh2 with hh2;injection hh2 with _ hh2 _;exact hne hh2
theorem zak.app {x : RA} {A' : Option Addr} {c' : Nat} (h : zak T B w os A c) (hx : zhs B w x) (hT : (21 : TypeId) ≠ T) (hown : w'.ownsRow B T 7 (.slice A' (os.length + 1) c') (os.length + 1) (Vs os ++ rowC x)) (hg : w.grownBy w' (Value.slice A os.length c).ownBlock) : zak T B w' (os ++ [x]) A' c' := by
 refine ⟨?_, ?_⟩
 ·rw [Vs_snoc, List.length_append, List.length_singleton];exact hown
 ·intro y hy;rcases List.mem_append.1 hy with hy | hy
  ·exact zje (h.into y hy) h.own hT hg
  ·rw [List.mem_singleton] at hy;subst hy;exact zje hx h.own hT hg
end
section
variable {P : Program}
theorem run_appR {t e : TypeId} {z : Value} {k bytes : Nat} (E : ElemK P t e z k bytes) (w : World) (ty : TypeId) (base : Nat)
  {v : Value} {n : Nat} {xs : List Value} (hown : w.ownsRow base e k v n xs) {A : Option Addr} {c : Nat} {news : List Value} (hr : RdK w A 1 k news) (h1 : ∀ u ∈ news, u.oneCell' = true)
  (h63 : n + 1 <= 1099511627776) (hby : bytes <= 128) (hbase : base <= w.heap.size) :
  ∃ A' c' w', (Builtin.append_ #[t, t] ty #[v, .slice A 1 c]).run P w = .ok (.slice A' (n + 1) c') w' /\ w'.ownsRow base e k (.slice A' (n + 1) c') (n + 1) (xs ++ news) /\ w.grownBy w' v.ownBlock := by
 obtain ⟨i, hi, hz0, hz1, hz2⟩ := info_parts E.hi;have hb : (n + 1) * bytes <= 140737488355328 := Nat.le_trans (Nat.mul_le_mul h63 hby) (by omega);have hml : n + 1 <= maxLen := (by unfold maxLen; omega);obtain ⟨b, off, rfl, hcell⟩ := hr.2 (by omega);obtain ⟨v', w', hrun, h2, h3, _, h5⟩ := run_append_own_at (P := P) w base t ty e i z k bytes E.ht hi hz0 hz1 hz2 E.hz E.hk v n xs hown ⟨b, off, none⟩ 1 c news hr.1 (fun j u hu => by rw [Addr.add_lit]; exact hcell j u hu) h1 hml hb hbase;obtain ⟨A', c', rfl⟩ := ze5 h2;exact ⟨A', c', w', hrun, h2, h3⟩
theorem zem {t e : TypeId} {z : Value} {k bytes : Nat} (E : ElemK P t e z k bytes) (w : World) {ops : Array Oper} {o : Oper} {a : Act} {K : Act -> World -> Prop} {Q : Exit -> Act -> World -> Prop} {R : Prop} (hgd : o.guard = none) (s x : Operand)
  (ho : o.op = .call { callee := .builtin .append, args := #[s, x], argTypes := #[t, t] }) (base : Nat)
  {v : Value} {n : Nat} {xs : List Value} (hs : a.eval s = v) (hown : w.ownsRow base e k v n xs) {A : Option Addr} {c : Nat} {news : List Value} (hx : a.eval x = .slice A 1 c) (hr : RdK w A 1 k news) (h1 : ∀ u ∈ news, u.oneCell' = true)
  (h63 : n + 1 <= 1099511627776) (hby : bytes <= 128) (hbase : base <= w.heap.size)
  (h : ∀ A' c' w', w'.ownsRow base e k (.slice A' (n + 1) c') (n + 1) (xs ++ news) -> w.grownBy w' v.ownBlock -> K (a.put o.dst (.slice A' (n + 1) c')) w') :
  if Region.wanted o (yielded ops a.tmps) = true then Oper.wp P o a w K Q else R := by
 rw [if_pos (by simp [Region.wanted, hgd])];obtain ⟨A', c', w', hrun, h2, h3⟩ := run_appR E w o.type base hown (c := c) hr h1 h63 hby hbase;unfold Oper.wp execOp;simp only [ho, resolve, invoke, builtin, Sem.run_bind, Sem.run_pure, Result.andThen_ok, List.map_toArray, List.map_cons, List.map_nil, hs, hx, hrun];exact h A' c' w' h2 h3
end
theorem zt {w w' : World} {b : Nat} {cur : Array Value} {t : TypeId} {row : Option Nat} (h : w.heap[b]? = some (.cells cur t (0, 0))) (hg : w.grownBy w' row) (hne : row ≠ some b) : w'.heap[b]? = some (.cells cur t (0, 0)) :=
 (hg.block b (zbl h) (fun e => hne e.symm)).trans h
theorem zx {w : World} {b B j : Nat} {cur : Array Value} {t : TypeId} {v : Value} (h : w.heap[b]? = some (.cells cur t (0, 0))) (hne : b ≠ B) : (w.setCell ⟨B, j, none⟩ v).heap[b]? = some (.cells cur t (0, 0)) :=
 (Below.heap_setCell w ⟨B, j, none⟩ v b hne).trans h
theorem zbm {w : World} {b : Nat} {cur : Array Value} {t : TypeId} (o : Obj) (h : w.heap[b]? = some (.cells cur t (0, 0))) : (w.alloc o).heap[b]? = some (.cells cur t (0, 0)) := (Below.heap_alloc w o b (zbl h)).trans h
def closV (p : Nat) : Value := .func (.func 56) #[] #[.pointer (some ⟨p + 1, 0, none⟩), .pointer (some ⟨p, 0, none⟩), .pointer (some ⟨p + 2, 0, none⟩)]
structure zig (p : Nat) (st : StU) (w : World) (os : List RA) (A : Option Addr) (c : Nat) (q : Option Addr) : Prop where
 outs : os.map (·.1) = st.out
 out : w.heap[p]? = some (.cells #[.slice A os.length c] 69 (0, 0))
 rows : zak 143 (p + 4) w os A c
 first : w.heap[p + 1]? = some (.cells #[.pointer q] 141 (0, 0))
 shut : st.op = none -> q = none
 opens : ∀ f, st.op = some f -> ∃ b A' c', p + 4 <= b /\ q = some ⟨b, 0, none⟩ /\ w.heap[b]? = some (.cells (rowC (f, A', c')).toArray 143 (0, 0)) /\ (Value.slice A os.length c).ownBlock ≠ some b
 was : w.heap[p + 2]? = some (.cells #[.int .i32 st.was] 21 (0, 0))
 clo : w.heap[p + 3]? = some (.cells #[closV p] 146 (0, 0))
def zcr (p : Nat) (st : StU) (w : World) : Prop := ∃ os A c q, zig p st w os A c q
theorem zcr.below {p : Nat} {st : StU} {w w' : World} (h : zcr p st w) (hb : Below w.heap.size w w') : zcr p st w' := by
 obtain ⟨os, A, c, q, h1, h2, h3, h4, h5, h6, h7, h8⟩ := h;refine ⟨os, A, c, q, h1, zd h2 hb, h3.below hb, zd h4 hb, h5, ?_, zd h7 hb, zd h8 hb⟩;intro f hf;obtain ⟨b, A', c', hbp, hq, hh, hn⟩ := h6 f hf;exact ⟨b, A', c', hbp, hq, zd hh hb, hn⟩
end
end Go.Proofs.YtolcabjkbefjgaaGreatDoor
