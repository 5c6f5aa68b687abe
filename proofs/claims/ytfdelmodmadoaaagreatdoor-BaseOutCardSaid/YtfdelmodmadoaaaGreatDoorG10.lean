/- A table of characters: its blocks as values, and how they are made, compared and told. -/
import Derived.Deep.WholeRow
import Derived.Test.YtfdelmodmadoaaaGreatDoorG02
set_option linter.unusedSimpArgs false
set_option linter.unusedVariables false
set_option maxRecDepth 20000
set_option maxHeartbeats 4000000
namespace Go.Proofs.YtfdelmodmadoaaaGreatDoor
section
open Go.RowKit Go.Lib Go.Maps
def zh (g : Nat -> Int) : List Value := (List.range 256).map fun i => .int .i64 (g i)
abbrev zdp (g : Nat -> Int) : Value := .agg (zh g).toArray
theorem zaa (g : Nat -> Int) : (zh g).length = 256 := by simp [zh]
theorem zbd (g : Nat -> Int) {i : Nat} (hi : i < 256) : (zh g)[i]? = some (.int .i64 (g i)) := by simp [zh, hi]
theorem zd2 (g : Nat -> Int) : ∀ v ∈ zh g, v.oneCell' = true := fun v hv => by
 obtain ⟨i, _, rfl⟩ := List.mem_map.1 hv;rfl
theorem zap {g h : Nat -> Int} (e : ∀ i, i < 256 -> g i = h i) : zh g = zh h := by
 apply List.map_congr_left;intro i hi;rw [e i (List.mem_range.1 hi)]
theorem zbo {P : Program} {e : TypeId} (he : P.underlying e = some (.int .i64)) (d : Nat) (g h : Nat -> Int) (w : World) : ∀ is : List Nat, (∀ i ∈ is, i < 256) ->
  (Op.eqItems (d + 1) e 1 (zh g).toArray (zh h).toArray is).run P w = .ok (is.all fun i => g i == h i) w
 | [], _ => by simp [Op.eqItems]
 | i :: is, hs => by
  have hi := hs i (by simp);have hp : P.plainKey e = true := (by simp [Program.plainKey, he]);have h1 := run_part_plain (P := P) w hp (xs := (zh g).toArray) (off := i * 1) (v := .int .i64 (g i)) (by simpa using zbd g hi);have h2 := run_part_plain (P := P) w hp (xs := (zh h).toArray) (off := i * 1) (v := .int .i64 (h i)) (by simpa using zbd h hi);simp only [Op.eqItems, Sem.run_bind, h1, h2, Result.andThen_ok, run_equalIn_int w d e .i64 .i64 (g i) (h i) he]
  cases hgh : (g i == h i)
  ·simp [hgh]
  ·have := zbo he d g h w is (fun j hj => hs j (by simp [hj]));simp [hgh, this]
theorem run_eql_block {P : Program} {t e : TypeId} {i : TypeInfo} (ht : P.underlying t = some (.array 256 e)) (he : P.underlying e = some (.int .i64)) (hi : P.info? e = some i) (hc : P.cellsOf e = 1) (g h : Nat -> Int) (w : World) :
  (binOp .eql t (zdp g) (zdp h)).run P w = .ok (.bool ((List.range 256).all fun i => g i == h i)) w := by
 unfold zdp;rw [run_eql_struct, run_equalIn_array w 9999 _ _ ht hi, hc, zbo he 9998 g h w _ (fun j hj => List.mem_range.1 hj)];rfl
section
variable {P : Program} {ops : Array Oper} {rest : List Oper} {o : Oper} {a : Act} {Q : Exit -> Act -> World -> Prop} {w : World}
theorem zab {t e : TypeId} {n b : Nat} {c : Array Value} {fr : Nat × Nat} {x : Operand} (hg : o.guard = none) (hop : o.op = Op.load t x) (hu : P.underlying t = some (.array n e)) (hi : (P.info? t).map (·.size) = some c.size) (h : w.heap[b]? = some (.cells c t fr))
  (hx : a.eval x = .pointer (some ⟨b, 0, none⟩)) (hK : wpList P ops Q rest (a.put o.dst (.agg c)) w) : wpList P ops Q (o :: rest) a w := by
 refine wpList_plain hg fun K' hK' => ?_;have hrun := run_loadVar_row (P := P) w b t t c fr _ h hu rfl hi
 have hr2 : (Instr.loadAt t (.pointer (some ⟨b, 0, none⟩))).run P w = .ok (.agg c) w := by
  simp only [Instr.loadAt, Instr.sureAddr, Sem.run_bind, Sem.run_pure, Result.andThen];exact hrun
 unfold Oper.wp;simp [execOp, hop, hx, hr2, Result.andThen];exact hK' _ _ hK
theorem zbu {t : TypeId} {b : Nat} {old c : Array Value} {x v : Operand} (hg : o.guard = none) (hop : o.op = Op.store t x v) (hi : (P.info? t).map (·.size) = some c.size) (ho : old.size = c.size) (h1 : c.all (·.oneCell') = true) (h : w.heap[b]? = some (.cells old t (0, 0)))
  (hx : a.eval x = .pointer (some ⟨b, 0, none⟩)) (hv : a.eval v = .agg c) (hK : wpList P ops Q rest (a.put o.dst undef) (w.setRow b c)) : wpList P ops Q (o :: rest) a w := by
 refine wpList_plain hg fun K' hK' => ?_;have hrun := run_storeVar_row (P := P) w b t t old c h hi ho h1
 have hr2 : (Instr.storeAt t (.pointer (some ⟨b, 0, none⟩)) (.agg c)).run P w = .ok () (w.setRow b c) := by
  simp only [Instr.storeAt, Instr.sureAddr, Sem.run_bind, Sem.run_pure, Result.andThen];exact hrun
 unfold Oper.wp;simp [execOp, hop, hx, hv, hr2, Result.andThen];exact hK' _ _ hK
theorem zfu {t e : TypeId} {n b : Nat} {c : Array Value} {fr : Nat × Nat} {x : Operand} (hop : o.op = Op.load t x) (hu : P.underlying t = some (.array n e)) (hi : (P.info? t).map (·.size) = some c.size) (h : w.heap[b]? = some (.cells c t fr))
  (hx : a.eval x = .pointer (some ⟨b, 0, none⟩)) : (execOp a.eval o).run P w = .ok (.value (.agg c)) w := by
 have hrun := run_loadVar_row (P := P) w b t t c fr _ h hu rfl hi
 have hr2 : (Instr.loadAt t (.pointer (some ⟨b, 0, none⟩))).run P w = .ok (.agg c) w := by
  simp only [Instr.loadAt, Instr.sureAddr, Sem.run_bind, Sem.run_pure, Result.andThen];exact hrun
 simp [execOp, hop, hx, hr2, Result.andThen]
end
theorem setRow_blk {w : World} {b : Nat} {old c : Array Value} {t : TypeId} {fr : Nat × Nat} (h : w.heap[b]? = some (.cells old t fr)) : (w.setRow b c).heap[b]? = some (.cells c t fr) := by
 have hb := (Array.getElem?_eq_some_iff.1 h).1;simp [World.setRow, Array.getElem?_modify, h]
theorem setRow_other {w : World} {b k : Nat} {c : Array Value} (h : k ≠ b) : (w.setRow b c).heap[k]? = w.heap[k]? := by
 have hne : ¬ b = k := fun e => h e.symm;simp [World.setRow, Array.getElem?_modify, hne]
theorem setRow_size {w : World} {b : Nat} {c : Array Value} : (w.setRow b c).heap.size = w.heap.size := by simp [World.setRow]
theorem setRow_below {B b : Nat} {w w' : World} (h : Below B w w') (hb : B <= b) (c : Array Value) : Below B w (w'.setRow b c) :=
 ⟨h.os, h.tape, h.output, by rw [setRow_size]; exact h.size, fun k hk => (setRow_other (by omega)).trans (h.block k hk)⟩
end
end Go.Proofs.YtfdelmodmadoaaaGreatDoor
