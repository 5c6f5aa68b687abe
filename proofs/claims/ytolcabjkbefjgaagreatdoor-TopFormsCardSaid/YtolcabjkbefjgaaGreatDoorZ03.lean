/- Keys that are characters, and pairs of them. An entry that is asked for, and then written: 'a[x], b[y] = u, v'. -/
import Derived.Test.YtolcabjkbefjgaaGreatDoorZ02
import Derived.WideKeyEntry
set_option linter.unusedSimpArgs false
set_option linter.unusedVariables false
set_option maxRecDepth 20000
set_option maxHeartbeats 4000000
namespace Go.Proofs.YtolcabjkbefjgaaGreatDoor
section
open Go.RowKit Go.Lib Go.Maps
abbrev runeV (x : Int) : Value := .int .i32 x
abbrev zr (x : Int) : Lit := .int .i32 x
def R32 (x : Int) : Prop := -2147483648 <= x /\ x < 2147483648
theorem R32.wf {x : Int} (h : R32 x) : (Lit.int .i32 x).wf = true := by
 obtain ⟨h1, h2⟩ := h;exact WalkArith.wf_i32 ⟨h1, by omega⟩
theorem R32.of_wf {x : Int} (h : (Lit.int .i32 x).wf = true) : R32 x := by
 have := bounds_i32 h;unfold R32;omega
theorem runeB {P : Program} {K : TypeId} (hk : P.underlying K = some (.int .i32)) : KeyB P K runeV zr R32 where
 keyed := int_keyed hk
 of := fun ha => keyOf_int_mk hk ha.wf
 inv := fun h => by
  obtain ⟨x, rfl, rfl, hw⟩ := Maps.keyOf_int_inv hk h;exact ⟨x, .of_wf hw, rfl, rfl⟩
 mkinj := fun h => by cases h; rfl
abbrev pairV (x : Int × Int) : Value := .agg #[.int .i32 x.1, .int .i32 x.2]
def zda (x : Int × Int) : Lit := .string (keyBytes [.int .i32 x.1, .int .i32 x.2])
def R32P (x : Int × Int) : Prop := R32 x.1 /\ R32 x.2
theorem zhj {P : Program} {K e : TypeId} {m : Nat} (A : WideMaps.ArrKey P K e 2) (he : P.underlying e = some (.int .i32)) (hsz : P.types.size = m + 1) (x : Int × Int) (hx : R32P x) : keyOf P K (pairV x) = some (zda x) := by
 obtain ⟨h1, h2⟩ := hx;have hkt : P.keyType K = true := A.keyType ⟨m, hsz⟩;have hf : (pairV x).formed P K = true := by simp [Value.formed, A.hu, A.size]
 have hk : P.keyLits (P.types.size + 1) K (pairV x).cells.toList = some [.int .i32 x.1, .int .i32 x.2] := by
  rw [hsz];simp [Program.keyLits, A.hu, A.size, A.one, he, Value.cells, List.range_succ, h1.wf, h2.wf]
 unfold keyOf;rw [A.hu];simp only [hkt, hf, Bool.and_self, if_true];rw [hk];rfl
theorem keyOf_pair_inv {P : Program} {K e : TypeId} {m : Nat} (A : WideMaps.ArrKey P K e 2) (he : P.underlying e = some (.int .i32)) (hsz : P.types.size = m + 1) {v : Value} {l : Lit} (h : keyOf P K v = some l) : ∃ x, R32P x /\ v = pairV x /\ l = zda x := by
 have h0 := h;unfold keyOf at h;rw [A.hu] at h;simp only [] at h;split at h
 ·rename_i hc;simp only [Bool.and_eq_true] at hc
  cases v <;> simp [Value.formed, A.hu] at hc
  rename_i cs;have hs : cs.size = 2 := by rw [hc.2, A.size]
  obtain ⟨a, b, rfl⟩ : ∃ a b, cs = #[a, b] := by
   rcases cs with ⟨l⟩;match l, hs with
   | [a, b], _ => exact ⟨a, b, rfl⟩
  rw [hsz] at h;simp [Program.keyLits, A.hu, A.size, A.one, he, Value.cells, List.range_succ] at h;obtain ⟨q1, n1, rfl⟩ : ∃ q n, a = .int q n := by cases a <;> simp at h; exact ⟨_, _, rfl⟩
  obtain ⟨q2, n2, rfl⟩ : ∃ q n, b = .int q n := by
   cases b <;> first | exact ⟨_, _, rfl⟩ | (exfalso; by_cases c1 : q1 = .i32 /\ (Lit.int .i32 n1).wf = true <;> simp [c1] at h)
  simp only [] at h
  by_cases c1 : q1 = .i32 /\ (Lit.int .i32 n1).wf = true
  ·by_cases c2 : q2 = .i32 /\ (Lit.int .i32 n2).wf = true
   ·obtain ⟨rfl, w1⟩ := c1;obtain ⟨rfl, w2⟩ := c2;refine ⟨(n1, n2), ⟨.of_wf w1, .of_wf w2⟩, rfl, ?_⟩;have := zhj A he hsz (n1, n2) ⟨.of_wf w1, .of_wf w2⟩;rw [h0] at this;exact Option.some.inj this
   ·simp [c1, c2] at h
  ·simp [c1] at h
 ·cases h
theorem pairB {P : Program} {K e : TypeId} {m : Nat} (A : WideMaps.ArrKey P K e 2) (he : P.underlying e = some (.int .i32)) (hsz : P.types.size = m + 1) : KeyB P K pairV zda R32P where
 keyed := Keyed.of_law A.law
 of := fun ha => zhj A he hsz _ ha
 inv := fun h => keyOf_pair_inv A he hsz h
 mkinj := fun {a b} h => by
  obtain ⟨a1, a2⟩ := a;obtain ⟨b1, b2⟩ := b;simp at h;simp [h]
end
section
open Go.RowKit Go.Lib Go.Maps Go.ChangeMaps Go.MapKept Go.WideElems
section
variable {α β : Type} {P : Program} {K : TypeId} {mk : α -> Value} {lit : α -> Lit} {ok : α -> Prop} {mkV : β -> Value} {w : World} {b n : Nat} {f : α -> Option β}
def HalfF (P : Program) (t K : TypeId) (lit : α -> Lit) (ok : α -> Prop) (mkV : β -> Value) [DecidableEq α] (w1 : World) (b n : Nat) (f : α -> Option β) (k : α) (st : Value) : Prop :=
 b < w1.heap.size /\ ∀ (w2 : World) (c : β), w2.heap[b]? = w1.heap[b]? -> ∃ w', (Instr.entryStore t (.map (some b)) st (mkV c)).run P w2 = .ok () w' /\ MapF w' P K lit ok mkV b (n + 1) (upd f k (some c)) /\ w2.grownBy w' (some b) /\ w'.heap.size = w2.heap.size
theorem zcj (w : World) (b : Nat) (o : Obj) : w.grownBy (setBlock w b o) (some b) := ⟨rfl, rfl, rfl, by simp [setBlock], fun k _ hk => by
 have : b ≠ k := fun e => hk (by rw [e])
 simp [setBlock, Array.getElem?_modify, this]⟩
theorem MapF.entry [DecidableEq α] {t e : TypeId} {zv : β} (h : MapF w P K lit ok mkV b n f) (B : KeyB P K mk lit ok) (ht : P.underlying t = some (.map K e)) (hz : ∀ u : World, (zeroValue e).run P u = .ok (mkV zv) u) (hn : n < maxLen) {k : α} (hk : ok k) :
  ∃ v0 st w1, (Instr.mapEntry t (.map (some b)) (mk k)).run P w = .ok (.tuple #[v0, st]) w1 /\ HalfF P t K lit ok mkV w1 b n f k st /\ w.grownBy w1 (some b) /\ w1.heap.size = w.heap.size := by
 have hput := fun c => h.put B ht hn hk c;have hlt := h.lt;obtain ⟨D, ⟨es, clock, hb, F, hs, hD⟩, s⟩ := h;obtain ⟨s1, s2, _⟩ := F.stamped;have hkey := B.of hk;have KK := B.keyed;have blk : ∀ (u : World) (x : Array MapEntry) (y : Nat) (o' : Obj), u.heap[b]? = some (.map x y) -> (setBlock u b o').heap[b]? = some o' := fun u x y o' hu => heap_setBlock_same hu o'
 have fin : ∀ (w1 : World) (st : Value) (es1 : Array MapEntry) (clock1 : Nat), w1 = setBlock w b (.map es1 clock1) ->
   (∀ (w2 : World) (c : β), w2.heap[b]? = some (.map es1 clock1) -> ∃ es' clock', (Instr.entryStore t (.map (some b)) st (mkV c)).run P w2 = .ok () (setBlock w2 b (.map es' clock')) /\ (Instr.mapUpdate t (.map (some b)) (mk k) (mkV c)).run P w = .ok () (setBlock w b (.map es' clock'))) ->
   HalfF P t K lit ok mkV w1 b n f k st := by
  rintro w1 st es1 clock1 rfl hall;refine ⟨by simpa [setBlock] using hlt, fun w2 c h2 => ?_⟩;obtain ⟨es', clock', r1, r2⟩ := hall w2 c (h2.trans (blk w _ _ _ hb));have h2b : w2.heap[b]? = some (.map es1 clock1) := h2.trans (blk w _ _ _ hb);obtain ⟨w', p1, p2, _, _⟩ := hput c;rw [r2] at p1;injection p1 with _ p1;subst p1;exact ⟨_, r1, p2.at ((blk w2 _ _ _ h2b).trans (blk w _ _ _ hb).symm), zcj _ _ _, by simp [setBlock]⟩
 rcases KK.find w hkey es.toList F.keys with ⟨h1, h2⟩ | ⟨j, e0, h1, h2, h3⟩
 ·refine ⟨mkV zv, goInt clock, setBlock w b (.map (es.push ⟨mk k, mkV zv, clock⟩) (clock + 1)), ?_, fin _ _ _ _ rfl fun w2 c hw2 => ⟨es.push ⟨mk k, mkV c, clock⟩, clock + 1, ?_, ?_⟩, zcj _ _ _, by simp [setBlock]⟩
  ·simp [Instr.mapEntry, run_underlying ht, MapKept.run_getObj_map hb, KK.check w false hkey, h1, hz, MapKept.run_setObj_map _ hb, Result.andThen, setBlock]
  ·have hnd : ((es.push ⟨mk k, mkV zv, clock⟩).toList.map (·.born)).Nodup := by
    rw [Array.toList_push, List.map_append, List.nodup_append];refine ⟨s2, by simp, fun a ha c hc e1 => ?_⟩;obtain ⟨x, hx, rfl⟩ := List.mem_map.1 ha;have := s1 x hx;simp at hc;omega
   have hidx : (es.push ⟨mk k, mkV zv, clock⟩).findIdx? (fun e => ((e.born : Nat) : Int) == ((clock : Nat) : Int)) = some es.size := by
    rw [findIdx_arr];exact findIdx_born hnd (j := es.size) (e0 := ⟨mk k, mkV zv, clock⟩) (by simp)
   have hmod : (es.push ⟨mk k, mkV zv, clock⟩).modify es.size (fun e => { e with val := mkV c }) = es.push ⟨mk k, mkV c, clock⟩ :=
    Array.ext' (by rw [Array.toList_modify, Array.toList_push, Array.toList_push, <- Array.length_toList, modify_last])
   simp [Instr.entryStore, MapKept.run_getObj_map hw2, asInt, asIntOf, goInt, hidx, hmod, MapKept.run_setObj_map _ hw2, Result.andThen, setBlock]
  ·simp [Instr.mapUpdate, run_underlying ht, MapKept.run_getObj_map hb, KK.check w false hkey, h1, MapKept.run_setObj_map _ hb, Result.andThen, setBlock]
 ·have hj : es[j]? = some e0 := by simpa using h2
  have hid : es.modify j (fun e => { e with key := mk k }) = es := Array.ext' (by
   rw [Array.toList_modify, modify_eq_set _ _ _ _ h2];have : ({ e0 with key := mk k } : MapEntry) = e0 := (by rw [<- h3]);rw [this]
   exact set_self _ _ _ h2)
  refine ⟨e0.val, goInt e0.born, setBlock w b (.map es clock), ?_, fin _ _ _ _ rfl fun w2 c hw2 => ⟨es.modify j (fun e' => { e' with key := mk k, val := mkV c }), clock, ?_, ?_⟩, zcj _ _ _, by simp [setBlock]⟩
  ·simp [Instr.mapEntry, run_underlying ht, MapKept.run_getObj_map hb, KK.check w false hkey, h1, hj, h3, KK.stays w hkey, hid, MapKept.run_setObj_map _ hb, Result.andThen, setBlock]
  ·have hidx : es.findIdx? (fun e => ((e.born : Nat) : Int) == ((e0.born : Nat) : Int)) = some j := by
    rw [findIdx_arr];exact findIdx_born s2 h2
   have hmod : es.modify j (fun e => { e with val := mkV c }) = es.modify j (fun e' => { e' with key := mk k, val := mkV c }) := Array.ext' (by
    rw [Array.toList_modify, Array.toList_modify, modify_eq_set _ _ _ _ h2, modify_eq_set _ _ _ _ h2];congr 1
    rw [<- h3])
   simp [Instr.entryStore, MapKept.run_getObj_map hw2, asInt, asIntOf, goInt, hidx, hmod, MapKept.run_setObj_map _ hw2, Result.andThen, setBlock]
  ·simp [Instr.mapUpdate, run_underlying ht, MapKept.run_getObj_map hb, KK.check w false hkey, h1, hj, h3, KK.stays w hkey, MapKept.run_setObj_map _ hb, Result.andThen, setBlock]
variable {ops : Array Oper} {rest : List Oper} {o : Oper} {a : Act} {Q : Exit -> Act -> World -> Prop}
theorem zf2 [DecidableEq α] {K' : Act -> World -> Prop} {R : Prop} {t e : TypeId} {zv : β} (hg : o.guard = none) (m x : Operand) (hop : o.op = Op.mapEntry t m x) (B : KeyB P K mk lit ok) (ht : P.underlying t = some (.map K e)) (hz : ∀ u : World, (zeroValue e).run P u = .ok (mkV zv) u) (hn : n < maxLen)
  (h : MapF w P K lit ok mkV b n f) {k : α} (hk : ok k) (hm : a.eval m = .map (some b)) (hx : a.eval x = mk k)
  (hK : ∀ v0 st w1, HalfF P t K lit ok mkV w1 b n f k st -> w.grownBy w1 (some b) -> w1.heap.size = w.heap.size -> K' (a.put o.dst (.tuple #[v0, st])) w1) : if Region.wanted o (yielded ops a.tmps) = true then Oper.wp P o a w K' Q else R := by
 rw [if_pos (by simp [Region.wanted, hg])];obtain ⟨v0, st, w1, hrun, r1, r2, r3⟩ := h.entry B ht hz hn hk;unfold Oper.wp;simp [execOp, hop, hm, hx, hrun, Result.andThen];exact hK v0 st w1 r1 r2 r3
theorem zc3 [DecidableEq α] {K' : Act -> World -> Prop} {R : Prop} {t : TypeId} {w1 : World} {st : Value} {k : α} (hg : o.guard = none) (m s x : Operand) (hop : o.op = Op.entryStore t m s x)
  (h : HalfF P t K lit ok mkV w1 b n f k st) (hb : w.heap[b]? = w1.heap[b]?) (c : β) (hm : a.eval m = .map (some b)) (hs : a.eval s = st) (hx : a.eval x = mkV c)
  (hK : ∀ w', MapF w' P K lit ok mkV b (n + 1) (upd f k (some c)) -> w.grownBy w' (some b) -> w'.heap.size = w.heap.size -> K' (a.put o.dst undef) w') : if Region.wanted o (yielded ops a.tmps) = true then Oper.wp P o a w K' Q else R := by
 rw [if_pos (by simp [Region.wanted, hg])];obtain ⟨w', hrun, r1, r2, r3⟩ := h.2 w c hb;unfold Oper.wp;simp [execOp, hop, hm, hs, hx, hrun, Result.andThen];exact hK w' r1 r2 r3
end
end
end Go.Proofs.YtolcabjkbefjgaaGreatDoor
