/- A table of characters: its blocks as values, and how they are made, compared and told. Bytes of strings as lists, and the numbers that digits tell. No program stands here. -/
import Derived.Test.YtggichcfklbjiaaGreatDoorG02
import Derived.ChangeKeysEq
import Derived.Deep.MidRow
import Derived.RowKit
import Derived.OwnWalk
import Derived.Deep.WholeRow
import Derived.Test.YtggichcfklbjiaaGreatDoorG01
import Derived.Laws.RangeAny
import Derived.Lib.Strings
section
set_option linter.unusedSimpArgs false
set_option linter.unusedVariables false
namespace Go.Proofs.YtggichcfklbjiaaGreatDoor
open Go.RowKit Go.Lib Go.Maps
/-- The cells of a block of 256 numbers. -/
def blockC (g : Nat → Int) : List Value := (List.range 256).map fun i => .int .i64 (g i)
abbrev blockV (g : Nat → Int) : Value := .agg (blockC g).toArray
theorem blockC_length (g : Nat → Int) : (blockC g).length = 256 := by simp [blockC]
theorem blockC_at (g : Nat → Int) {i : Nat} (hi : i < 256) : (blockC g)[i]? = some (.int .i64 (g i)) := by simp [blockC, hi]
theorem blockC_one (g : Nat → Int) : ∀ v ∈ blockC g, v.oneCell' = true := fun v hv => by
  obtain ⟨i, _, rfl⟩ := List.mem_map.1 hv
  rfl
theorem blockC_congr {g h : Nat → Int} (e : ∀ i, i < 256 → g i = h i) : blockC g = blockC h := by
  apply List.map_congr_left
  intro i hi
  rw [e i (List.mem_range.1 hi)]
theorem blockV_congr {g h : Nat → Int} (e : ∀ i, i < 256 → g i = h i) : blockV g = blockV h := by unfold blockV; rw [blockC_congr e]
theorem run_eqItems_block {P : Program} {e : TypeId} (he : P.underlying e = some (.int .i64)) (d : Nat) (g h : Nat → Int) (w : World) : ∀ is : List Nat, (∀ i ∈ is, i < 256) →
    (Op.eqItems (d + 1) e 1 (blockC g).toArray (blockC h).toArray is).run P w = .ok (is.all fun i => g i == h i) w
  | [], _ => by simp [Op.eqItems]
  | i :: is, hs => by
    have hi := hs i (by simp)
    have hp : P.plainKey e = true := by simp [Program.plainKey, he]
    have h1 := run_part_plain (P := P) w hp (xs := (blockC g).toArray) (off := i * 1) (v := .int .i64 (g i)) (by simpa using blockC_at g hi)
    have h2 := run_part_plain (P := P) w hp (xs := (blockC h).toArray) (off := i * 1) (v := .int .i64 (h i)) (by simpa using blockC_at h hi)
    simp only [Op.eqItems, Sem.run_bind, h1, h2, Result.andThen_ok, run_equalIn_int w d e .i64 .i64 (g i) (h i) he]
    cases hgh : (g i == h i)
    · simp [hgh]
    · have := run_eqItems_block he d g h w is (fun j hj => hs j (by simp [hj]))
      simp [hgh, this]
theorem run_eql_block {P : Program} {t e : TypeId} {i : TypeInfo} (ht : P.underlying t = some (.array 256 e)) (he : P.underlying e = some (.int .i64)) (hi : P.info? e = some i) (hc : P.cellsOf e = 1) (g h : Nat → Int) (w : World) :
    (binOp .eql t (blockV g) (blockV h)).run P w = .ok (.bool ((List.range 256).all fun i => g i == h i)) w := by
  unfold blockV
  rw [run_eql_struct, run_equalIn_array w 9999 _ _ ht hi, hc, run_eqItems_block he 9998 g h w _ (fun j hj => List.mem_range.1 hj)]
  rfl
/-! ### a whole array, read and written -/
section
variable {P : Program} {ops : Array Oper} {rest : List Oper} {o : Oper} {a : Act} {Q : Exit → Act → World → Prop} {w : World}
theorem wpList_loadW {t e : TypeId} {n b : Nat} {c : Array Value} {fr : Nat × Nat} {x : Operand} (hg : o.guard = none) (hop : o.op = Op.load t x) (hu : P.underlying t = some (.array n e)) (hi : (P.info? t).map (·.size) = some c.size) (h : w.heap[b]? = some (.cells c t fr))
    (hx : a.eval x = .pointer (some ⟨b, 0, none⟩)) (hK : wpList P ops Q rest (a.put o.dst (.agg c)) w) : wpList P ops Q (o :: rest) a w := by
  refine wpList_plain hg fun K' hK' => ?_
  have hrun := run_loadVar_row (P := P) w b t t c fr _ h hu rfl hi
  have hr2 : (Instr.loadAt t (.pointer (some ⟨b, 0, none⟩))).run P w = .ok (.agg c) w := by
    simp only [Instr.loadAt, Instr.sureAddr, Sem.run_bind, Sem.run_pure, Result.andThen]
    exact hrun
  unfold Oper.wp
  simp [execOp, hop, hx, hr2, Result.andThen]
  exact hK' _ _ hK
theorem wpList_storeW {t : TypeId} {b : Nat} {old c : Array Value} {x v : Operand} (hg : o.guard = none) (hop : o.op = Op.store t x v) (hi : (P.info? t).map (·.size) = some c.size) (ho : old.size = c.size) (h1 : c.all (·.oneCell') = true) (h : w.heap[b]? = some (.cells old t (0, 0)))
    (hx : a.eval x = .pointer (some ⟨b, 0, none⟩)) (hv : a.eval v = .agg c) (hK : wpList P ops Q rest (a.put o.dst undef) (w.setRow b c)) : wpList P ops Q (o :: rest) a w := by
  refine wpList_plain hg fun K' hK' => ?_
  have hrun := run_storeVar_row (P := P) w b t t old c h hi ho h1
  have hr2 : (Instr.storeAt t (.pointer (some ⟨b, 0, none⟩)) (.agg c)).run P w = .ok () (w.setRow b c) := by
    simp only [Instr.storeAt, Instr.sureAddr, Sem.run_bind, Sem.run_pure, Result.andThen]
    exact hrun
  unfold Oper.wp
  simp [execOp, hop, hx, hv, hr2, Result.andThen]
  exact hK' _ _ hK
theorem exec_loadW {t e : TypeId} {n b : Nat} {c : Array Value} {fr : Nat × Nat} {x : Operand} (hop : o.op = Op.load t x) (hu : P.underlying t = some (.array n e)) (hi : (P.info? t).map (·.size) = some c.size) (h : w.heap[b]? = some (.cells c t fr))
    (hx : a.eval x = .pointer (some ⟨b, 0, none⟩)) : (execOp a.eval o).run P w = .ok (.value (.agg c)) w := by
  have hrun := run_loadVar_row (P := P) w b t t c fr _ h hu rfl hi
  have hr2 : (Instr.loadAt t (.pointer (some ⟨b, 0, none⟩))).run P w = .ok (.agg c) w := by
    simp only [Instr.loadAt, Instr.sureAddr, Sem.run_bind, Sem.run_pure, Result.andThen]
    exact hrun
  simp [execOp, hop, hx, hr2, Result.andThen]
/-- The same two at a step of a region that draws its order. -/
theorem step_loadW {K : Act → World → Prop} {R : Prop} {t e : TypeId} {n b : Nat} {c : Array Value} {fr : Nat × Nat} {x : Operand} (hg : o.guard = none) (hop : o.op = Op.load t x) (hu : P.underlying t = some (.array n e)) (hi : (P.info? t).map (·.size) = some c.size) (h : w.heap[b]? = some (.cells c t fr))
    (hx : a.eval x = .pointer (some ⟨b, 0, none⟩)) (hK : K (a.put o.dst (.agg c)) w) : if Region.wanted o (yielded ops a.tmps) = true then Oper.wp P o a w K Q else R := by
  rw [if_pos (by simp [Region.wanted, hg])]
  have hrun := run_loadVar_row (P := P) w b t t c fr _ h hu rfl hi
  have hr2 : (Instr.loadAt t (.pointer (some ⟨b, 0, none⟩))).run P w = .ok (.agg c) w := by
    simp only [Instr.loadAt, Instr.sureAddr, Sem.run_bind, Sem.run_pure, Result.andThen]
    exact hrun
  unfold Oper.wp
  simp [execOp, hop, hx, hr2, Result.andThen]
  exact hK
end
theorem setRow_blk {w : World} {b : Nat} {old c : Array Value} {t : TypeId} {fr : Nat × Nat} (h : w.heap[b]? = some (.cells old t fr)) : (w.setRow b c).heap[b]? = some (.cells c t fr) := by
  have hb := (Array.getElem?_eq_some_iff.1 h).1
  simp [World.setRow, Array.getElem?_modify, h]
theorem setRow_other {w : World} {b k : Nat} {c : Array Value} (h : k ≠ b) : (w.setRow b c).heap[k]? = w.heap[k]? := by
  have hne : ¬ b = k := fun e => h e.symm
  simp [World.setRow, Array.getElem?_modify, hne]
theorem setRow_size {w : World} {b : Nat} {c : Array Value} : (w.setRow b c).heap.size = w.heap.size := by simp [World.setRow]
theorem setRow_below {B b : Nat} {w w' : World} (h : Below B w w') (hb : B ≤ b) (c : Array Value) : Below B w (w'.setRow b c) :=
  ⟨h.os, h.tape, h.output, by rw [setRow_size]; exact h.size, fun k hk => (setRow_other (by omega)).trans (h.block k hk)⟩
end Go.Proofs.YtggichcfklbjiaaGreatDoor
end

section
set_option linter.unusedSimpArgs false
set_option linter.unusedVariables false
namespace Go.Proofs.YtggichcfklbjiaaGreatDoor
open Go.RowKit

/-- A string's bytes. -/
def bs (s : ByteArray) : List UInt8 := s.data.toList
theorem bs_length (s : ByteArray) : (bs s).length = s.size := by simp [bs]
theorem bs_get (s : ByteArray) (i : Nat) (h : i < s.size) : (bs s)[i]? = some (s[i]'h) := by
  have hl : i < (bs s).length := by rw [bs_length]; exact h
  rw [List.getElem?_eq_getElem hl]
  rfl
theorem bs_drop (s : ByteArray) (i : Nat) (h : i < s.size) : (bs s).drop i = s[i]'h :: (bs s).drop (i + 1) := by
  have hl : i < (bs s).length := by rw [bs_length]; exact h
  rw [List.drop_eq_getElem_cons hl]
  rfl
theorem bs_drop_end (s : ByteArray) (i : Nat) (h : s.size ≤ i) : (bs s).drop i = [] := List.drop_eq_nil_of_le (by rw [bs_length]; exact h)
theorem bs_inj {s t : ByteArray} (h : bs s = bs t) : s = t := by
  cases s with | mk a => cases t with | mk b => cases a; cases b; simp [bs] at h; rw [h]
theorem bs_mk (l : List UInt8) : bs ⟨l.toArray⟩ = l := rfl
theorem mk_bs (s : ByteArray) : (⟨(bs s).toArray⟩ : ByteArray) = s := by cases s; rfl
theorem bs_nil {s : ByteArray} (h : s.size = 0) : bs s = [] := List.eq_nil_of_length_eq_zero (by rw [bs_length]; exact h)
theorem bs_append (s t : ByteArray) : bs (s ++ t) = bs s ++ bs t := by simp [bs]
theorem bs_extract (s : ByteArray) (a b : Nat) : bs (s.extract a b) = ((bs s).take b).drop a := by
  simp [bs, ByteArray.data_extract]
  rw [List.drop_take]

theorem toList_bs (s : ByteArray) : s.toList = bs s := ByteArray.toList_eq s
/-- A hex digit's number; -1: it is none. -/
def hexDigit (c : Int) : Int :=
  if 48 ≤ c ∧ c ≤ 57 then c - 48 else if 97 ≤ c ∧ c ≤ 102 then c - 87 else if 65 ≤ c ∧ c ≤ 70 then c - 55 else -1
theorem hexDigit_ge (c : Int) : -1 ≤ hexDigit c := by unfold hexDigit; split <;> (try split) <;> (try split) <;> omega
theorem hexDigit_le (c : Int) : hexDigit c ≤ 15 := by unfold hexDigit; split <;> (try split) <;> (try split) <;> omega
theorem hexDigit_high {c : Int} (h : 128 ≤ c) : hexDigit c = -1 := by unfold hexDigit; rw [if_neg (by omega), if_neg (by omega), if_neg (by omega)]
/-- The number that digits tell behind n; -1: one of them is none. -/
def numFrom (base : Int) : Int → List UInt8 → Int
  | n, [] => n
  | n, b :: t => if hexDigit b.toNat < 0 ∨ base ≤ hexDigit b.toNat then -1 else numFrom base (n * base + hexDigit b.toNat) t
def numS (base : Int) (most : Nat) (l : List UInt8) : Int := if l.length = 0 ∨ most < l.length then -1 else numFrom base 0 l
theorem numFrom_bad {base n : Int} {b : UInt8} {t : List UInt8} (h : hexDigit b.toNat < 0 ∨ base ≤ hexDigit b.toNat) : numFrom base n (b :: t) = -1 := by
  simp only [numFrom]
  rw [if_pos h]
theorem numFrom_good {base n : Int} {b : UInt8} {t : List UInt8} (h : 0 ≤ hexDigit b.toNat) (h' : hexDigit b.toNat < base) : numFrom base n (b :: t) = numFrom base (n * base + hexDigit b.toNat) t := by
  simp only [numFrom]
  rw [if_neg (by omega)]
end Go.Proofs.YtggichcfklbjiaaGreatDoor
end
