/- A table of characters: its blocks as values, and how they are made, compared and told. A table of characters: New, Get. A table of characters: Set. -/
import Derived.Deep.WholeRow
import Derived.Test.YtolcabjkbefjgaaGreatDoorZ03
set_option linter.unusedSimpArgs false
set_option linter.unusedVariables false
set_option maxRecDepth 20000
set_option maxHeartbeats 4000000
namespace Go.Proofs.YtolcabjkbefjgaaGreatDoor
section
open Go.RowKit Go.Lib Go.Maps
def zm (g : Nat -> Int) : List Value := (List.range 256).map fun i => .int .i64 (g i)
abbrev zez (g : Nat -> Int) : Value := .agg (zm g).toArray
theorem zae (g : Nat -> Int) : (zm g).length = 256 := by simp [zm]
theorem zb6 (g : Nat -> Int) {i : Nat} (hi : i < 256) : (zm g)[i]? = some (.int .i64 (g i)) := by simp [zm, hi]
theorem zfc (g : Nat -> Int) : ∀ v ∈ zm g, v.oneCell' = true := fun v hv => by
 obtain ⟨i, _, rfl⟩ := List.mem_map.1 hv;rfl
theorem za3 {g h : Nat -> Int} (e : ∀ i, i < 256 -> g i = h i) : zm g = zm h := by
 apply List.map_congr_left;intro i hi;rw [e i (List.mem_range.1 hi)]
theorem zcl {P : Program} {e : TypeId} (he : P.underlying e = some (.int .i64)) (d : Nat) (g h : Nat -> Int) (w : World) : ∀ is : List Nat, (∀ i ∈ is, i < 256) ->
  (Op.eqItems (d + 1) e 1 (zm g).toArray (zm h).toArray is).run P w = .ok (is.all fun i => g i == h i) w
 | [], _ => by simp [Op.eqItems]
 | i :: is, hs => by
  have hi := hs i (by simp);have hp : P.plainKey e = true := (by simp [Program.plainKey, he]);have h1 := run_part_plain (P := P) w hp (xs := (zm g).toArray) (off := i * 1) (v := .int .i64 (g i)) (by simpa using zb6 g hi);have h2 := run_part_plain (P := P) w hp (xs := (zm h).toArray) (off := i * 1) (v := .int .i64 (h i)) (by simpa using zb6 h hi);simp only [Op.eqItems, Sem.run_bind, h1, h2, Result.andThen_ok, run_equalIn_int w d e .i64 .i64 (g i) (h i) he]
  cases hgh : (g i == h i)
  ·simp [hgh]
  ·have := zcl he d g h w is (fun j hj => hs j (by simp [hj]));simp [hgh, this]
theorem run_eql_block {P : Program} {t e : TypeId} {i : TypeInfo} (ht : P.underlying t = some (.array 256 e)) (he : P.underlying e = some (.int .i64)) (hi : P.info? e = some i) (hc : P.cellsOf e = 1) (g h : Nat -> Int) (w : World) :
  (binOp .eql t (zez g) (zez h)).run P w = .ok (.bool ((List.range 256).all fun i => g i == h i)) w := by
 unfold zez;rw [run_eql_struct, run_equalIn_array w 9999 _ _ ht hi, hc, zcl he 9998 g h w _ (fun j hj => List.mem_range.1 hj)];rfl
section
variable {P : Program} {ops : Array Oper} {rest : List Oper} {o : Oper} {a : Act} {Q : Exit -> Act -> World -> Prop} {w : World}
theorem zai {t e : TypeId} {n b : Nat} {c : Array Value} {fr : Nat × Nat} {x : Operand} (hg : o.guard = none) (hop : o.op = Op.load t x) (hu : P.underlying t = some (.array n e)) (hi : (P.info? t).map (·.size) = some c.size) (h : w.heap[b]? = some (.cells c t fr))
  (hx : a.eval x = .pointer (some ⟨b, 0, none⟩)) (hK : wpList P ops Q rest (a.put o.dst (.agg c)) w) : wpList P ops Q (o :: rest) a w := by
 refine wpList_plain hg fun K' hK' => ?_;have hrun := run_loadVar_row (P := P) w b t t c fr _ h hu rfl hi
 have hr2 : (Instr.loadAt t (.pointer (some ⟨b, 0, none⟩))).run P w = .ok (.agg c) w := by
  simp only [Instr.loadAt, Instr.sureAddr, Sem.run_bind, Sem.run_pure, Result.andThen];exact hrun
 unfold Oper.wp;simp [execOp, hop, hx, hr2, Result.andThen];exact hK' _ _ hK
theorem zcs {t : TypeId} {b : Nat} {old c : Array Value} {x v : Operand} (hg : o.guard = none) (hop : o.op = Op.store t x v) (hi : (P.info? t).map (·.size) = some c.size) (ho : old.size = c.size) (h1 : c.all (·.oneCell') = true) (h : w.heap[b]? = some (.cells old t (0, 0)))
  (hx : a.eval x = .pointer (some ⟨b, 0, none⟩)) (hv : a.eval v = .agg c) (hK : wpList P ops Q rest (a.put o.dst undef) (w.setRow b c)) : wpList P ops Q (o :: rest) a w := by
 refine wpList_plain hg fun K' hK' => ?_;have hrun := run_storeVar_row (P := P) w b t t old c h hi ho h1
 have hr2 : (Instr.storeAt t (.pointer (some ⟨b, 0, none⟩)) (.agg c)).run P w = .ok () (w.setRow b c) := by
  simp only [Instr.storeAt, Instr.sureAddr, Sem.run_bind, Sem.run_pure, Result.andThen];exact hrun
 unfold Oper.wp;simp [execOp, hop, hx, hv, hr2, Result.andThen];exact hK' _ _ hK
theorem zho {t e : TypeId} {n b : Nat} {c : Array Value} {fr : Nat × Nat} {x : Operand} (hop : o.op = Op.load t x) (hu : P.underlying t = some (.array n e)) (hi : (P.info? t).map (·.size) = some c.size) (h : w.heap[b]? = some (.cells c t fr))
  (hx : a.eval x = .pointer (some ⟨b, 0, none⟩)) : (execOp a.eval o).run P w = .ok (.value (.agg c)) w := by
 have hrun := run_loadVar_row (P := P) w b t t c fr _ h hu rfl hi
 have hr2 : (Instr.loadAt t (.pointer (some ⟨b, 0, none⟩))).run P w = .ok (.agg c) w := by
  simp only [Instr.loadAt, Instr.sureAddr, Sem.run_bind, Sem.run_pure, Result.andThen];exact hrun
 simp [execOp, hop, hx, hr2, Result.andThen]
end
theorem setRow_blk {w : World} {b : Nat} {old c : Array Value} {t : TypeId} {fr : Nat × Nat} (h : w.heap[b]? = some (.cells old t fr)) : (w.setRow b c).heap[b]? = some (.cells c t fr) := by
 have hb := (Array.getElem?_eq_some_iff.1 h).1;simp [World.setRow, Array.getElem?_modify, h]
theorem setRow_other {w : World} {b k : Nat} {c : Array Value} (h : k ≠ b) : (w.setRow b c).heap[k]? = w.heap[k]? := by
 have hne : ¬ b = k := fun e => h e.symm;simp [World.setRow, Array.getElem?_modify, hne]
theorem setRow_size {w : World} {b : Nat} {c : Array Value} : (w.setRow b c).heap.size = w.heap.size := by simp [World.setRow]
theorem setRow_below {B b : Nat} {w w' : World} (h : Below B w w') (hb : B <= b) (c : Array Value) : Below B w (w'.setRow b c) :=
 ⟨h.os, h.tape, h.output, by rw [setRow_size]; exact h.size, fun k hk => (setRow_other (by omega)).trans (h.block k hk)⟩
end
section
open Go.RowKit Go.Lib Go.Maps
theorem zk : KeyB Tryz.prog 21 runeV zr R32 := runeB (by kernel_rfl)
theorem zc2 : Tryz.prog.underlying 158 = some (.map 21 240) := by kernel_rfl
theorem zch : Tryz.prog.underlying 240 = some (.array 256 3) := by kernel_rfl
theorem zck (w : World) : (zeroValue 240).run Tryz.prog w = .ok (zez fun _ => 0) w := by kernel_rfl
def TabAt (w : World) (tb mb n : Nat) (T : Int -> Int) : Prop :=
 w.heap[tb]? = some (.cells #[.int .i64 0, .map (some mb)] 160 (0, 0)) /\
 ∃ f, MapF w Tryz.prog 21 zr R32 zez mb n f /\ ∀ r, R32 r -> T r = if r < 0 then 0 else match f (r / 256) with | some g => g (r % 256).toNat | none => 0
theorem zfz (w : World) : Calls Tryz.prog 27 #[.int .i64 0] w fun e w' => e = .returned (.pointer (some ⟨w.heap.size + 1, 0, none⟩)) /\ TabAt w' (w.heap.size + 1) w.heap.size 0 (fun _ => 0) /\ Below w.heap.size w w' /\ w'.heap.size = w.heap.size + 2 := by
 have hmm := @run_makeMap Tryz.prog;go_enter Tryz.func27, Tryz.ntmps27;go_wp2;go_returns;have h1 : Below w.heap.size w (w.alloc (.map #[] 0)) := (Below.refl _ _).alloc (Nat.le_refl _) _;refine ⟨rfl, ⟨?_, fun _ => none, (MapF.made w _ _ _ _ _).alloc _, fun r _ => by simp⟩, h1.alloc (by simp) _, by simp⟩;have := heap_alloc_last (w.alloc (.map #[] 0)) (.cells #[.int .i64 0, .map (some w.heap.size)] 160);simpa using this
theorem zfa : (Tryz.prog.info? 240).map (·.size) = some 256 := by kernel_rfl
theorem zero_size : Tryz.zeroCells240.size = 256 := by kernel_rfl
theorem zd8 (w : World) (g : Nat -> Int) : (storeCells ⟨w.heap.size, 0, none⟩ (zm g) 0).run Tryz.prog (w.alloc (.cells Tryz.zeroCells240 240)) = .ok () (w.alloc (.cells (zm g).toArray 240)) := by
 have := run_storeCells_new (P := Tryz.prog) w 240 Tryz.zeroCells240 (zm g).toArray (by rw [zfa]; simp [zae]) (by rw [zero_size]; simp [zae]) (by simp [zfc]; exact fun x hx => zfc g x hx);simpa using this
theorem zjv {r : Int} (h : R32 r) : wrap32 (r.tdiv 256) = r.tdiv 256 /\ R32 (r.tdiv 256) := by
 obtain ⟨h1, h2⟩ := h
 have h3 : r.tdiv 256 = r / 256 \/ r.tdiv 256 = -((-r) / 256) := by
  rcases Int.le_total 0 r with h | h
  ·exact .inl (Int.tdiv_eq_ediv_of_nonneg h)
  ·right;rw [<- Int.tdiv_eq_ediv_of_nonneg (by omega), Int.neg_tdiv, Int.neg_neg]
 unfold R32 wrap32;omega
theorem trieGet_any {w : World} {tb mb n : Nat} {T : Int -> Int} (h : TabAt w tb mb n T) (r : Int) (hr : R32 r) : Calls Tryz.prog 120 #[.pointer (some ⟨tb, 0, none⟩), .int .i32 r] w fun e w' => e = .returned (.int .i64 (T r)) /\ Below w.heap.size w w' := by
 obtain ⟨hb, f, hm, hT⟩ := h;have c0 : w.cell? ⟨tb, 0, none⟩ = some (.int .i64 0) := (by simp [World.cell?, hb]);have c1 : w.cell? ⟨tb, 0 + 1, none⟩ = some (.map (some mb)) := (by simp [World.cell?, hb]);have htl : tb < w.heap.size := (Array.getElem?_eq_some_iff.1 hb).1;have hst := zd8 w;have hsz := zae;have hTr := hT r hr;obtain ⟨hr1, hr2⟩ := hr;have hkk : R32 (wrap32 (r.tdiv 256)) := (by rw [(zjv ⟨hr1, hr2⟩).1]; exact (zjv ⟨hr1, hr2⟩).2);clear hT hb
 by_cases hn : r < 0
 ·have hT0 : T r = 0 := (by rw [hTr, if_pos hn]);clear hTr;rw [hT0];go_enter Tryz.func120, Tryz.ntmps120;go_wp2_with (first | (at_lookup; refine zp rfl _ _ rfl zk zc2 (zck _) hm (k := wrap32 (r.tdiv 256)) hkk rfl rfl ?_) | go_in)
  go_returns;exact ⟨rfl, (Below.refl _ _).alloc (Nat.le_refl _) _⟩
 ·have hkd : wrap32 (r.tdiv 256) = r / 256 := (by rw [(zjv ⟨hr1, hr2⟩).1, Int.tdiv_eq_ediv_of_nonneg (by omega)]);rw [hkd] at hkk;rw [if_neg hn] at hTr;have hge : 0 <= r := by omega
  cases hf : f (r / 256) with
  | none =>
   rw [hf] at hTr;have hT0 : T r = 0 := hTr;rw [hT0];clear hTr;go_enter Tryz.func120, Tryz.ntmps120;go_wp2_with (first | (at_lookup; refine zp rfl _ _ rfl zk zc2 (zck _) hm (k := r / 256) hkk rfl (by rw [<- hkd]; rfl) ?_; rw [hf]) | go_in)
   go_returns;exact ⟨rfl, (Below.refl _ _).alloc (Nat.le_refl _) _⟩
  | some g =>
   rw [hf] at hTr;have hT0 : T r = g (r % 256).toNat := hTr;rw [hT0];clear hTr;have hm1 : wrap32 (r.tmod 256) = r % 256 := (by rw [Int.tmod_eq_emod_of_nonneg hge]; unfold wrap32; omega);have hm2 : (0 : Int) <= r % 256 := (by omega);have hm3 : (r % 256).toNat < 256 := (by omega);have hm4 : r % 256 < 256 := by omega
   have hc : (w.alloc (.cells (zm g).toArray 240)).cell? ⟨w.heap.size, (r % 256).toNat, none⟩ = some (.int .i64 (g (r % 256).toNat)) := by
    rw [cell_of_row _ _ _ (zm g).toArray 240 (0, 0) (heap_alloc_last w _)];simpa using zb6 g hm3
   go_enter Tryz.func120, Tryz.ntmps120;go_wp2_with (first | (at_lookup; refine zp rfl _ _ rfl zk zc2 (zck _) hm (k := r / 256) hkk rfl (by rw [<- hkd]; rfl) ?_; rw [hf]) | go_in)
   go_returns;exact ⟨rfl, (Below.refl _ _).alloc (Nat.le_refl _) _⟩
end
section
open Go.RowKit Go.Lib Go.Maps
theorem blockC_set (g : Nat -> Int) (i : Nat) (v : Int) : (zm g).toArray.setIfInBounds i (.int .i64 v) = (zm fun k => if k = i then v else g k).toArray := by
 apply Array.ext_getElem?;intro k;rw [Array.getElem?_setIfInBounds];simp only [List.getElem?_toArray, List.size_toArray, zae]
 by_cases hk : k < 256
 ·rw [zb6 _ hk]
  by_cases h : i = k
  ·subst h;simp [hk, zb6]
  ·rw [if_neg h, zb6 _ hk, if_neg (fun e => h e.symm)]
 ·have hn : ∀ g, (zm g)[k]? = none := fun g => List.getElem?_eq_none (by rw [zae]; omega);rw [hn, hn];split
  ·split
   ·omega
   ·rfl
  ·rfl
theorem zfd (g : Nat -> Int) : (zm g).toArray.all (·.oneCell') = true := by simp; exact fun x hx => zfc g x hx
theorem zero_cells : Tryz.zeroCells240 = (zm fun _ => 0).toArray := by kernel_rfl
theorem zfb {w : World} {b : Nat} {g : Nat -> Int} (h : w.heap[b]? = some (.cells (zm g).toArray 240 (0, 0))) {i : Nat} (hi : i < 256) : w.cell? ⟨b, i, none⟩ = some (.int .i64 (g i)) := by
 rw [cell_of_row _ _ _ (zm g).toArray 240 (0, 0) h];simpa using zb6 g hi
theorem zdi {w : World} {b : Nat} {g : Nat -> Int} (h : w.heap[b]? = some (.cells (zm g).toArray 240 (0, 0))) (i : Nat) : w.frozen? ⟨b, i, none⟩ = false := by simp [World.frozen?, h]
theorem zg1 {w : World} {b : Nat} {g : Nat -> Int} (h : w.heap[b]? = some (.cells (zm g).toArray 240 (0, 0))) {i : Nat} (hi : i < 256) (v : Int) :
  (w.setCell ⟨b, i, none⟩ (.int .i64 v)).heap[b]? = some (.cells (zm fun k => if k = i then v else g k).toArray 240 (0, 0)) := by
 have hb := (Array.getElem?_eq_some_iff.1 h).1;simp [World.setCell, Array.getElem?_modify, h, blockC_set g i v]
theorem plain_any {w : World} {tb : Nat} (c0 : w.cell? ⟨tb, 0, none⟩ = some (.int .i64 0)) : Calls Tryz.prog 113 #[.pointer (some ⟨tb, 0, none⟩)] w fun e w' => e = .returned (.agg (zm fun _ => 0).toArray) /\ Below w.heap.size w w' := by
 have hz := zero_cells;have htl : tb < w.heap.size := World.block_lt_of_cell? w _ c0;have hb0 : Below w.heap.size w (w.alloc (.cells Tryz.zeroCells240 240)) := (Below.refl _ _).alloc (Nat.le_refl _) _;have hh0 : (w.alloc (.cells Tryz.zeroCells240 240)).heap[w.heap.size]? = some (.cells (zm fun _ => 0).toArray 240 (0, 0)) := (by rw [<- hz]; exact heap_alloc_last w _);clear hz;go_enter Tryz.func113, Tryz.ntmps113;go_wp2
 go_loopw [4] (fun i wr => ∃ k : Nat, k <= 256 /\ i = .int .i64 k /\ wr.heap[w.heap.size]? = some (.cells (zm fun _ => 0).toArray 240 (0, 0)) /\ Below w.heap.size w wr) (fun i _ => 256 - (intOf i).toNat)
 case atStart => exact ⟨0, Nat.zero_le _, rfl, hh0, hb0⟩
 case round =>
  obtain ⟨k, hk, rfl, hh, hb⟩ := hrel
  by_cases hlt : k < 256
  ·have hki : (k : Int) < 256 := (by omega);have hki0 : (0 : Int) <= (k : Int) := (by omega);have d0 : wr.cell? ⟨tb, 0, none⟩ = some (.int .i64 0) := (hb.cell (p := ⟨tb, 0, none⟩) htl).trans c0;have e0 := zfb hh hlt;have e1 := zdi hh k;have hh2 := zg1 hh hlt 0;have hb2 : Below w.heap.size w (wr.setCell ⟨w.heap.size, k, none⟩ (.int .i64 0)) := hb.setCell (p := ⟨w.heap.size, k, none⟩) (Nat.le_refl _) _
   have hh3 : (wr.setCell ⟨w.heap.size, k, none⟩ (.int .i64 0)).heap[w.heap.size]? = some (.cells (zm fun _ => 0).toArray 240 (0, 0)) := by
    rw [hh2];congr 2;rw [za3 (h := fun _ => 0)];intro i hi;simp
   clear hh hh2 hb;go_wp2;go_roundw
   case rel => exact ⟨k + 1, by omega, by go_num, hh3, hb2⟩
   case measure => simp [intOf]; omega
  ·have hki : (256 : Int) <= (k : Int) := (by omega);have hsz : (zm fun _ => 0).toArray.size = 256 := (by simp [zae]);have hsz2 : (Tryz.prog.info? 240).map (·.size) = some (zm fun _ => 0).toArray.size := (by rw [hsz]; exact zfa);have hone : (zm fun _ => 0).toArray.all (·.oneCell') = true := zfd _;have hb2 := setRow_below hb (b := w.heap.size) (Nat.le_refl _) (zm fun _ => 0).toArray;have hh2 := setRow_blk (c := (zm fun _ => 0).toArray) hh;go_wp2_with (first | (refine zai rfl rfl zch hsz2 hh rfl ?_) | (refine zcs rfl rfl hsz2 rfl hone hh rfl rfl ?_) | go_in)
   have hrun := run_loadVar_row (P := Tryz.prog) _ w.heap.size 240 240 (zm fun _ => 0).toArray _ _ hh2 zch rfl hsz2;refine bodyPost_ret (v := .agg (zm fun _ => 0).toArray) ?_ rfl ⟨rfl, hb2⟩;simp [results, Tryz.f113, Act.put, asAddr, Sem.run_pure, Result.andThen, hrun]
end
end Go.Proofs.YtolcabjkbefjgaaGreatDoor
