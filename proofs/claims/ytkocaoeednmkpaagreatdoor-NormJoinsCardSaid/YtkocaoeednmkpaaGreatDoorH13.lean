/- Rows of a file: plain words, and how rows lie in memory. An entry that is asked for, and then written: 'a[x], b[y] = u, v'. -/
import Derived.Test.YtkocaoeednmkpaaGreatDoorH12
import Derived.WideKeyEntry
set_option linter.unusedSimpArgs false
set_option linter.unusedVariables false
set_option maxRecDepth 20000
set_option maxHeartbeats 4000000
namespace Go.Proofs.YtkocaoeednmkpaaGreatDoor
section
open Go.RowKit
def FSTB : List UInt8 := [44, 32, 70, 105, 114, 115, 116, 62]
def LSTB : List UInt8 := [44, 32, 76, 97, 115, 116, 62]
def zce (f x : RowS) : Prop := (zam x.nm LSTB).1 ≠ (zam f.nm FSTB).1 \/ x.ct ≠ f.ct \/ x.cl ≠ f.cl \/ 0 < x.il.length + f.il.length \/ x.fr < f.fr
instance (f x : RowS) : Decidable (zce f x) := by unfold zce; exact inferInstance
def zft (f x : RowS) : RowS := ⟨f.fr, x.fr, (zam f.nm FSTB).1, x.ct, x.cl, [], []⟩
structure StU where
 out : List RowS
 op : Option RowS
 was : Int
def zcj (st : StU) (f x : RowS) : StU × Int := if zce f x then (st, 10) else (⟨st.out ++ [zft f x], none, x.fr⟩, 0)
def freeS (st : StU) (x : RowS) : StU × Int := if x.fr <= st.was then (st, 12) else if (zam x.nm FSTB).2 = true then (⟨st.out, some x, st.was⟩, 0) else (⟨st.out ++ [x], none, x.fr⟩, 0)
def takeR (st : StU) (x : RowS) : StU × Int :=
 match st.op with
 | some f => if (zam x.nm LSTB).2 = false then (st, 10) else zcj st f x
 | none => if (zam x.nm LSTB).2 = true then (st, 10) else freeS st x
def takeS (st : StU) (l : List UInt8) : StU × Int := if (zah l).2 ≠ 0 then (st, (zah l).2) else takeR st (zah l).1
def rowsW : StU -> List (Int × List UInt8) -> StU × Int × Int
 | st, [] => (st, 0, 0)
 | st, p :: ls => if (takeS st p.2).2 ≠ 0 then (st, p.1, (takeS st p.2).2) else rowsW (takeS st p.2).1 ls
def zl5 (ls : List (Int × List UInt8)) : Int := match ls.getLast? with | some p => p.1 | none => 0
def endU (ls : List (Int × List UInt8)) (r : StU × Int × Int) : List RowS × Int × Int :=
 if r.2.2 ≠ 0 then ([], r.2.1, r.2.2) else if r.1.op.isSome = true then ([], zl5 ls, 10) else (r.1.out, 0, 0)
def rowsS (s : List UInt8) : List RowS × Int × Int :=
 if (zbq s).2 ≠ 0 then ([], 0, (zbq s).2) else endU (zbq s).1 (rowsW ⟨[], none, -1⟩ (zbq s).1)
def RowOk (N : Nat) (x : RowS) : Prop := x.nm.length <= N /\ x.il.length <= 18
theorem into_il (s : List UInt8) : (intoS s).2.1.length <= 18 := by
 have hr : ∀ k t, (intoR k t).2.1.length <= 18 := by
  intro k t;unfold intoR;split
  ·simp
  ·split
   ·simp
   ·simp only []; omega
 unfold intoS;split
 ·split
  ·simp
  ·exact hr _ _
 ·exact hr _ _
theorem zha (l : List UInt8) : RowOk l.length (zah l).1 := by
 have hpart := zb6 59 l;unfold zah zjm;have hn : RowOk l.length RowS.none := ⟨Nat.zero_le _, Nat.zero_le _⟩;split
 ·exact hn
 ·split
  ·exact hn
  ·split
   ·exact hn
   ·split
    ·exact hn
    ·split
     ·exact hn
     ·refine ⟨?_, into_il _⟩;show (((cutL 59 l).map bareL).getD 1 []).length <= l.length;rw [List.getD_eq_getElem?_getD, List.getElem?_map]
      cases h : (cutL 59 l)[1]? with
      | none => simp
      | some y =>
       have h1 := hpart y (List.mem_of_getElem? h);have h2 := zbv y;show (bareL y).length <= l.length;omega
abbrev RA := RowS × Option Addr × Nat
def rowC (x : RA) : List Value := [.int .i32 x.1.fr, .int .i32 x.1.up, .string (mk8 x.1.nm), .string (mk8 x.1.ct), .int .i64 x.1.cl, .string (mk8 x.1.kd), .slice x.2.1 x.1.il.length x.2.2]
def Vs (os : List RA) : List Value := os.flatMap rowC
theorem Vs_snoc (os : List RA) (x : RA) : Vs (os ++ [x]) = Vs os ++ rowC x := by simp [Vs]
theorem Vs_at : ∀ (os : List RA) (i : Nat) (x : RA), os[i]? = some x -> ∀ j u, (rowC x)[j]? = some u -> (Vs os)[i * 7 + j]? = some u
 | [], i, x, h => by simp at h
 | y :: t, 0, x, h => by
  intro j u hu;simp at h;subst h;have hj : j < (rowC y).length := (List.getElem?_eq_some_iff.1 hu).1;show (rowC y ++ Vs t)[0 * 7 + j]? = some u;rw [Nat.zero_mul, Nat.zero_add, List.getElem?_append_left hj];exact hu
 | y :: t, i + 1, x, h => by
  intro j u hu;have ih := Vs_at t i x (by simpa using h) j u hu;show (rowC y ++ Vs t)[(i + 1) * 7 + j]? = some u;rw [List.getElem?_append_right (by show 7 <= (i + 1) * 7 + j; omega), show (i + 1) * 7 + j - (rowC y).length = i * 7 + j by show (i + 1) * 7 + j - 7 = _; omega];exact ih
theorem zg8 (x : RA) : ∀ u ∈ rowC x, u.oneCell' = true := by
 intro u hu;simp [rowC] at hu;rcases hu with rfl | rfl | rfl | rfl | rfl | rfl | rfl <;> rfl
theorem zkc : ElemK Tryz.prog 104 158 (.agg #[.int .i32 0, .int .i32 0, .string ByteArray.empty, .string ByteArray.empty, .int .i64 0, .string ByteArray.empty, .slice none 0 0]) 7 88 := ⟨Tryz.underlying104, by kernel_rfl, rfl, by omega⟩
theorem znt : ElemK Tryz.prog 44 99 (.agg #[.int .i32 0, .int .i32 0, .string ByteArray.empty, .string ByteArray.empty, .int .i64 0, .string ByteArray.empty, .slice none 0 0]) 7 88 := ⟨Tryz.underlying44, by kernel_rfl, rfl, by omega⟩
def zg4 (B : Nat) (w : World) (x : RA) : Prop := w.ownsRow B 21 1 (.slice x.2.1 x.1.il.length x.2.2) x.1.il.length (Rs x.1.il)
structure zaf (T : TypeId) (B : Nat) (w : World) (os : List RA) (A : Option Addr) (c : Nat) : Prop where
 own : w.ownsRow B T 7 (.slice A os.length c) os.length (Vs os)
 into : ∀ x ∈ os, zg4 B w x
section
variable {w w' : World} {T : TypeId} {B : Nat} {os : List RA} {A : Option Addr} {c : Nat}
theorem zaf.nil (T : TypeId) (B : Nat) (w : World) : zaf T B w [] none 0 := ⟨World.ownsRow_nil _ _ _ _, fun x hx => absurd hx (by simp)⟩
theorem zhb {k n : Nat} {e : TypeId} {v : Value} {xs : List Value} (h : w.ownsRow B e k v n xs) (hk : ∀ g, B <= g -> g < w.heap.size -> w'.heap[g]? = w.heap[g]?) : w'.ownsRow B e k v n xs := by
 refine ⟨h.1, ?_⟩;rcases h.2 with hn | ⟨g, cap, cur, hv, hg, hh, rest⟩
 ·exact .inl hn
 ·exact .inr ⟨g, cap, cur, hv, hg, (hk g hg (Array.getElem?_eq_some_iff.1 hh).1).trans hh, rest⟩
theorem zaf.same (h : zaf T B w os A c) (hk : ∀ g, B <= g -> g < w.heap.size -> w'.heap[g]? = w.heap[g]?) : zaf T B w' os A c :=
 ⟨zhb h.own hk, fun x hx => zhb (h.into x hx) hk⟩
theorem zaf.below (h : zaf T B w os A c) (hb : Below w.heap.size w w') : zaf T B w' os A c := h.same fun g _ hg => hb.block g hg
theorem zaf.base {B' : Nat} (h : zaf T B w os A c) (hb : B' <= B) : zaf T B' w os A c := ⟨zc7 h.own hb, fun x hx => zc7 (h.into x hx) hb⟩
theorem zaf.setCell {p : Addr} {u : Value} (h : zaf T B w os A c) (hp : p.block < B) : zaf T B (w.setCell p u) os A c :=
 h.same fun g hg _ => Below.heap_setCell w p u g (by omega)
theorem zma {B1 B2 n1 n2 k1 k2 : Nat} {e1 e2 : TypeId} {v1 v2 : Value} {xs1 xs2 : List Value} (h : w.ownsRow B1 e1 k1 v1 n1 xs1) (h2 : w.ownsRow B2 e2 k2 v2 n2 xs2) (hne : e1 ≠ e2) (hg : w.grownBy w' v2.ownBlock) : w'.ownsRow B1 e1 k1 v1 n1 xs1 := by
 refine h.kept hg ?_;rcases h.2 with ⟨rfl, _⟩ | ⟨g, cap, cur, rfl, _, hh, _⟩
 ·exact .inl rfl
 ·refine .inr ?_;intro heq;rcases h2.2 with ⟨rfl, _⟩ | ⟨g2, cap2, cur2, rfl, _, hh2, _⟩
  ·cases heq
  ·injection heq with heq;simp only [] at heq;subst heq;rw [hh] at hh2;injection hh2 with hh2;injection hh2 with _ hh2 _;exact hne hh2
theorem zaf.app {x : RA} {A' : Option Addr} {c' : Nat} (h : zaf T B w os A c) (hx : zg4 B w x) (hT : (21 : TypeId) ≠ T) (hown : w'.ownsRow B T 7 (.slice A' (os.length + 1) c') (os.length + 1) (Vs os ++ rowC x)) (hg : w.grownBy w' (Value.slice A os.length c).ownBlock) : zaf T B w' (os ++ [x]) A' c' := by
 refine ⟨?_, ?_⟩
 ·rw [Vs_snoc, List.length_append, List.length_singleton];exact hown
 ·intro y hy;rcases List.mem_append.1 hy with hy | hy
  ·exact zma (h.into y hy) h.own hT hg
  ·rw [List.mem_singleton] at hy;subst hy;exact zma hx h.own hT hg
end
section
variable {P : Program}
theorem zns {t e : TypeId} {z : Value} {k bytes : Nat} (E : ElemK P t e z k bytes) (w : World) (ty : TypeId) (base : Nat)
  {v : Value} {n : Nat} {xs : List Value} (hown : w.ownsRow base e k v n xs) {A : Option Addr} {c : Nat} {news : List Value} (hr : RdK w A 1 k news) (h1 : ∀ u ∈ news, u.oneCell' = true)
  (h63 : n + 1 <= 1099511627776) (hby : bytes <= 128) (hbase : base <= w.heap.size) :
  ∃ A' c' w', (Builtin.append_ #[t, t] ty #[v, .slice A 1 c]).run P w = .ok (.slice A' (n + 1) c') w' /\ w'.ownsRow base e k (.slice A' (n + 1) c') (n + 1) (xs ++ news) /\ w.grownBy w' v.ownBlock := by
 obtain ⟨i, hi, hz0, hz1, hz2⟩ := info_parts E.hi;have hb : (n + 1) * bytes <= 140737488355328 := Nat.le_trans (Nat.mul_le_mul h63 hby) (by omega);have hml : n + 1 <= maxLen := (by unfold maxLen; omega);obtain ⟨b, off, rfl, hcell⟩ := hr.2 (by omega);obtain ⟨v', w', hrun, h2, h3, _, h5⟩ := run_append_own_at (P := P) w base t ty e i z k bytes E.ht hi hz0 hz1 hz2 E.hz E.hk v n xs hown ⟨b, off, none⟩ 1 c news hr.1 (fun j u hu => by rw [Addr.add_lit]; exact hcell j u hu) h1 hml hb hbase;obtain ⟨A', c', rfl⟩ := zgl h2;exact ⟨A', c', w', hrun, h2, h3⟩
theorem zhn {t e : TypeId} {z : Value} {k bytes : Nat} (E : ElemK P t e z k bytes) (w : World) {ops : Array Oper} {rest : List Oper} {o : Oper} {a : Act} {Q : Exit -> Act -> World -> Prop} (hgd : o.guard = none) (s x : Operand)
  (ho : o.op = .call { callee := .builtin .append, args := #[s, x], argTypes := #[t, t] }) (base : Nat)
  {v : Value} {n : Nat} {xs : List Value} (hs : a.eval s = v) (hown : w.ownsRow base e k v n xs) {A : Option Addr} {c : Nat} {news : List Value} (hx : a.eval x = .slice A 1 c) (hr : RdK w A 1 k news) (h1 : ∀ u ∈ news, u.oneCell' = true)
  (h63 : n + 1 <= 1099511627776) (hby : bytes <= 128) (hbase : base <= w.heap.size)
  (h : ∀ A' c' w', w'.ownsRow base e k (.slice A' (n + 1) c') (n + 1) (xs ++ news) -> w.grownBy w' v.ownBlock -> wpList P ops Q rest (a.put o.dst (.slice A' (n + 1) c')) w') : wpList P ops Q (o :: rest) a w := by
 refine wpList_plain hgd fun K hK => ?_;obtain ⟨A', c', w', hrun, h2, h3⟩ := zns E w o.type base hown (c := c) hr h1 h63 hby hbase;unfold Oper.wp execOp;simp only [ho, resolve, invoke, builtin, Sem.run_bind, Sem.run_pure, Result.andThen_ok, List.map_toArray, List.map_cons, List.map_nil, hs, hx, hrun];exact hK _ _ (h A' c' w' h2 h3)
theorem zfm {t e : TypeId} {z : Value} {k bytes : Nat} (E : ElemK P t e z k bytes) (w : World) {ops : Array Oper} {o : Oper} {a : Act} {K : Act -> World -> Prop} {Q : Exit -> Act -> World -> Prop} {R : Prop} (hgd : o.guard = none) (s x : Operand)
  (ho : o.op = .call { callee := .builtin .append, args := #[s, x], argTypes := #[t, t] }) (base : Nat)
  {v : Value} {n : Nat} {xs : List Value} (hs : a.eval s = v) (hown : w.ownsRow base e k v n xs) {A : Option Addr} {c : Nat} {news : List Value} (hx : a.eval x = .slice A 1 c) (hr : RdK w A 1 k news) (h1 : ∀ u ∈ news, u.oneCell' = true)
  (h63 : n + 1 <= 1099511627776) (hby : bytes <= 128) (hbase : base <= w.heap.size)
  (h : ∀ A' c' w', w'.ownsRow base e k (.slice A' (n + 1) c') (n + 1) (xs ++ news) -> w.grownBy w' v.ownBlock -> K (a.put o.dst (.slice A' (n + 1) c')) w') :
  if Region.wanted o (yielded ops a.tmps) = true then Oper.wp P o a w K Q else R := by
 rw [if_pos (by simp [Region.wanted, hgd])];obtain ⟨A', c', w', hrun, h2, h3⟩ := zns E w o.type base hown (c := c) hr h1 h63 hby hbase;unfold Oper.wp execOp;simp only [ho, resolve, invoke, builtin, Sem.run_bind, Sem.run_pure, Result.andThen_ok, List.map_toArray, List.map_cons, List.map_nil, hs, hx, hrun];exact h A' c' w' h2 h3
end
theorem zz {w w' : World} {b : Nat} {cur : Array Value} {t : TypeId} {row : Option Nat} (h : w.heap[b]? = some (.cells cur t (0, 0))) (hg : w.grownBy w' row) (hne : row ≠ some b) : w'.heap[b]? = some (.cells cur t (0, 0)) :=
 (hg.block b (zbr h) (fun e => hne e.symm)).trans h
theorem zag {w : World} {b B j : Nat} {cur : Array Value} {t : TypeId} {v : Value} (h : w.heap[b]? = some (.cells cur t (0, 0))) (hne : b ≠ B) : (w.setCell ⟨B, j, none⟩ v).heap[b]? = some (.cells cur t (0, 0)) :=
 (Below.heap_setCell w ⟨B, j, none⟩ v b hne).trans h
theorem zbf {w : World} {b : Nat} {cur : Array Value} {t : TypeId} (o : Obj) (h : w.heap[b]? = some (.cells cur t (0, 0))) : (w.alloc o).heap[b]? = some (.cells cur t (0, 0)) := (Below.heap_alloc w o b (zbr h)).trans h
def closV (p : Nat) : Value := .func (.func 101) #[] #[.pointer (some ⟨p + 1, 0, none⟩), .pointer (some ⟨p, 0, none⟩), .pointer (some ⟨p + 2, 0, none⟩)]
structure zk2 (p : Nat) (st : StU) (w : World) (os : List RA) (A : Option Addr) (c : Nat) (q : Option Addr) : Prop where
 outs : os.map (·.1) = st.out
 out : w.heap[p]? = some (.cells #[.slice A os.length c] 104 (0, 0))
 rows : zaf 158 (p + 4) w os A c
 first : w.heap[p + 1]? = some (.cells #[.pointer q] 157 (0, 0))
 shut : st.op = none -> q = none
 opens : ∀ f, st.op = some f -> ∃ b A' c', p + 4 <= b /\ q = some ⟨b, 0, none⟩ /\ w.heap[b]? = some (.cells (rowC (f, A', c')).toArray 158 (0, 0)) /\ (Value.slice A os.length c).ownBlock ≠ some b
 was : w.heap[p + 2]? = some (.cells #[.int .i32 st.was] 21 (0, 0))
 clo : w.heap[p + 3]? = some (.cells #[closV p] 159 (0, 0))
def zdh (p : Nat) (st : StU) (w : World) : Prop := ∃ os A c q, zk2 p st w os A c q
theorem zdh.below {p : Nat} {st : StU} {w w' : World} (h : zdh p st w) (hb : Below w.heap.size w w') : zdh p st w' := by
 obtain ⟨os, A, c, q, h1, h2, h3, h4, h5, h6, h7, h8⟩ := h;refine ⟨os, A, c, q, h1, zd h2 hb, h3.below hb, zd h4 hb, h5, ?_, zd h7 hb, zd h8 hb⟩;intro f hf;obtain ⟨b, A', c', hbp, hq, hh, hn⟩ := h6 f hf;exact ⟨b, A', c', hbp, hq, zd hh hb, hn⟩
end
section
open Go.RowKit Go.Lib Go.Maps Go.ChangeMaps Go.MapKept Go.WideElems
section
variable {α β : Type} {P : Program} {K : TypeId} {mk : α -> Value} {lit : α -> Lit} {ok : α -> Prop} {mkV : β -> Value} {w : World} {b n : Nat} {f : α -> Option β}
def HalfF (P : Program) (t K : TypeId) (lit : α -> Lit) (ok : α -> Prop) (mkV : β -> Value) [DecidableEq α] (w1 : World) (b n : Nat) (f : α -> Option β) (k : α) (st : Value) : Prop :=
 b < w1.heap.size /\ ∀ (w2 : World) (c : β), w2.heap[b]? = w1.heap[b]? -> ∃ w', (Instr.entryStore t (.map (some b)) st (mkV c)).run P w2 = .ok () w' /\ MapF w' P K lit ok mkV b (n + 1) (upd f k (some c)) /\ w2.grownBy w' (some b) /\ w'.heap.size = w2.heap.size
theorem zcx (w : World) (b : Nat) (o : Obj) : w.grownBy (setBlock w b o) (some b) := ⟨rfl, rfl, rfl, by simp [setBlock], fun k _ hk => by
 have : b ≠ k := fun e => hk (by rw [e])
 simp [setBlock, Array.getElem?_modify, this]⟩
theorem MapF.entry [DecidableEq α] {t e : TypeId} {zv : β} (h : MapF w P K lit ok mkV b n f) (B : KeyB P K mk lit ok) (ht : P.underlying t = some (.map K e)) (hz : ∀ u : World, (zeroValue e).run P u = .ok (mkV zv) u) (hn : n < maxLen) {k : α} (hk : ok k) :
  ∃ v0 st w1, (Instr.mapEntry t (.map (some b)) (mk k)).run P w = .ok (.tuple #[v0, st]) w1 /\ HalfF P t K lit ok mkV w1 b n f k st /\ w.grownBy w1 (some b) /\ w1.heap.size = w.heap.size := by
 have hput := fun c => h.put B ht hn hk c;have hlt := h.lt;obtain ⟨D, ⟨es, clock, hb, F, hs, hD⟩, s⟩ := h;obtain ⟨s1, s2, _⟩ := F.stamped;have hkey := B.of hk;have KK := B.keyed;have blk : ∀ (u : World) (x : Array MapEntry) (y : Nat) (o' : Obj), u.heap[b]? = some (.map x y) -> (setBlock u b o').heap[b]? = some o' := fun u x y o' hu => heap_setBlock_same hu o'
 have fin : ∀ (w1 : World) (st : Value) (es1 : Array MapEntry) (clock1 : Nat), w1 = setBlock w b (.map es1 clock1) ->
   (∀ (w2 : World) (c : β), w2.heap[b]? = some (.map es1 clock1) -> ∃ es' clock', (Instr.entryStore t (.map (some b)) st (mkV c)).run P w2 = .ok () (setBlock w2 b (.map es' clock')) /\ (Instr.mapUpdate t (.map (some b)) (mk k) (mkV c)).run P w = .ok () (setBlock w b (.map es' clock'))) ->
   HalfF P t K lit ok mkV w1 b n f k st := by
  rintro w1 st es1 clock1 rfl hall;refine ⟨by simpa [setBlock] using hlt, fun w2 c h2 => ?_⟩;obtain ⟨es', clock', r1, r2⟩ := hall w2 c (h2.trans (blk w _ _ _ hb));have h2b : w2.heap[b]? = some (.map es1 clock1) := h2.trans (blk w _ _ _ hb);obtain ⟨w', p1, p2, _, _⟩ := hput c;rw [r2] at p1;injection p1 with _ p1;subst p1;exact ⟨_, r1, p2.at ((blk w2 _ _ _ h2b).trans (blk w _ _ _ hb).symm), zcx _ _ _, by simp [setBlock]⟩
 rcases KK.find w hkey es.toList F.keys with ⟨h1, h2⟩ | ⟨j, e0, h1, h2, h3⟩
 ·refine ⟨mkV zv, goInt clock, setBlock w b (.map (es.push ⟨mk k, mkV zv, clock⟩) (clock + 1)), ?_, fin _ _ _ _ rfl fun w2 c hw2 => ⟨es.push ⟨mk k, mkV c, clock⟩, clock + 1, ?_, ?_⟩, zcx _ _ _, by simp [setBlock]⟩
  ·simp [Instr.mapEntry, run_underlying ht, MapKept.run_getObj_map hb, KK.check w false hkey, h1, hz, MapKept.run_setObj_map _ hb, Result.andThen, setBlock]
  ·have hnd : ((es.push ⟨mk k, mkV zv, clock⟩).toList.map (·.born)).Nodup := by
    rw [Array.toList_push, List.map_append, List.nodup_append];refine ⟨s2, by simp, fun a ha c hc e1 => ?_⟩;obtain ⟨x, hx, rfl⟩ := List.mem_map.1 ha;have := s1 x hx;simp at hc;omega
   have hidx : (es.push ⟨mk k, mkV zv, clock⟩).findIdx? (fun e => ((e.born : Nat) : Int) == ((clock : Nat) : Int)) = some es.size := by
    rw [findIdx_arr];exact findIdx_born hnd (j := es.size) (e0 := ⟨mk k, mkV zv, clock⟩) (by simp)
   have hmod : (es.push ⟨mk k, mkV zv, clock⟩).modify es.size (fun e => { e with val := mkV c }) = es.push ⟨mk k, mkV c, clock⟩ :=
    Array.ext' (by rw [Array.toList_modify, Array.toList_push, Array.toList_push, <- Array.length_toList, modify_last])
   simp [Instr.entryStore, MapKept.run_getObj_map hw2, asInt, asIntOf, goInt, hidx, hmod, MapKept.run_setObj_map _ hw2, Result.andThen, setBlock]
  ·simp [Instr.mapUpdate, run_underlying ht, MapKept.run_getObj_map hb, KK.check w false hkey, h1, MapKept.run_setObj_map _ hb, Result.andThen, setBlock]
 ·have hj : es[j]? = some e0 := by simpa using h2
  have hid : es.modify j (fun e => { e with key := mk k }) = es := Array.ext' (by
   rw [Array.toList_modify, modify_eq_set _ _ _ _ h2];have : ({ e0 with key := mk k } : MapEntry) = e0 := (by rw [<- h3]);rw [this]
   exact set_self _ _ _ h2)
  refine ⟨e0.val, goInt e0.born, setBlock w b (.map es clock), ?_, fin _ _ _ _ rfl fun w2 c hw2 => ⟨es.modify j (fun e' => { e' with key := mk k, val := mkV c }), clock, ?_, ?_⟩, zcx _ _ _, by simp [setBlock]⟩
  ·simp [Instr.mapEntry, run_underlying ht, MapKept.run_getObj_map hb, KK.check w false hkey, h1, hj, h3, KK.stays w hkey, hid, MapKept.run_setObj_map _ hb, Result.andThen, setBlock]
  ·have hidx : es.findIdx? (fun e => ((e.born : Nat) : Int) == ((e0.born : Nat) : Int)) = some j := by
    rw [findIdx_arr];exact findIdx_born s2 h2
   have hmod : es.modify j (fun e => { e with val := mkV c }) = es.modify j (fun e' => { e' with key := mk k, val := mkV c }) := Array.ext' (by
    rw [Array.toList_modify, Array.toList_modify, modify_eq_set _ _ _ _ h2, modify_eq_set _ _ _ _ h2];congr 1
    rw [<- h3])
   simp [Instr.entryStore, MapKept.run_getObj_map hw2, asInt, asIntOf, goInt, hidx, hmod, MapKept.run_setObj_map _ hw2, Result.andThen, setBlock]
  ·simp [Instr.mapUpdate, run_underlying ht, MapKept.run_getObj_map hb, KK.check w false hkey, h1, hj, h3, KK.stays w hkey, MapKept.run_setObj_map _ hb, Result.andThen, setBlock]
variable {ops : Array Oper} {rest : List Oper} {o : Oper} {a : Act} {Q : Exit -> Act -> World -> Prop}
theorem zht [DecidableEq α] {K' : Act -> World -> Prop} {R : Prop} {t e : TypeId} {zv : β} (hg : o.guard = none) (m x : Operand) (hop : o.op = Op.mapEntry t m x) (B : KeyB P K mk lit ok) (ht : P.underlying t = some (.map K e)) (hz : ∀ u : World, (zeroValue e).run P u = .ok (mkV zv) u) (hn : n < maxLen)
  (h : MapF w P K lit ok mkV b n f) {k : α} (hk : ok k) (hm : a.eval m = .map (some b)) (hx : a.eval x = mk k)
  (hK : ∀ v0 st w1, HalfF P t K lit ok mkV w1 b n f k st -> w.grownBy w1 (some b) -> w1.heap.size = w.heap.size -> K' (a.put o.dst (.tuple #[v0, st])) w1) : if Region.wanted o (yielded ops a.tmps) = true then Oper.wp P o a w K' Q else R := by
 rw [if_pos (by simp [Region.wanted, hg])];obtain ⟨v0, st, w1, hrun, r1, r2, r3⟩ := h.entry B ht hz hn hk;unfold Oper.wp;simp [execOp, hop, hm, hx, hrun, Result.andThen];exact hK v0 st w1 r1 r2 r3
theorem zd1 [DecidableEq α] {K' : Act -> World -> Prop} {R : Prop} {t : TypeId} {w1 : World} {st : Value} {k : α} (hg : o.guard = none) (m s x : Operand) (hop : o.op = Op.entryStore t m s x)
  (h : HalfF P t K lit ok mkV w1 b n f k st) (hb : w.heap[b]? = w1.heap[b]?) (c : β) (hm : a.eval m = .map (some b)) (hs : a.eval s = st) (hx : a.eval x = mkV c)
  (hK : ∀ w', MapF w' P K lit ok mkV b (n + 1) (upd f k (some c)) -> w.grownBy w' (some b) -> w'.heap.size = w.heap.size -> K' (a.put o.dst undef) w') : if Region.wanted o (yielded ops a.tmps) = true then Oper.wp P o a w K' Q else R := by
 rw [if_pos (by simp [Region.wanted, hg])];obtain ⟨w', hrun, r1, r2, r3⟩ := h.2 w c hb;unfold Oper.wp;simp [execOp, hop, hm, hs, hx, hrun, Result.andThen];exact hK w' r1 r2 r3
end
end
end Go.Proofs.YtkocaoeednmkpaaGreatDoor
