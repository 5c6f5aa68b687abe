/- Keys that are characters, and pairs of them. A table of characters: New, Get. A table of characters: Set. -/
import Derived.Test.YtkocaoeednmkpaaGreatDoorH03
set_option linter.unusedSimpArgs false
set_option linter.unusedVariables false
set_option maxRecDepth 20000
set_option maxHeartbeats 4000000
namespace Go.Proofs.YtkocaoeednmkpaaGreatDoor
section
open Go.RowKit Go.Lib Go.Maps
abbrev runeV (x : Int) : Value := .int .i32 x
abbrev z7 (x : Int) : Lit := .int .i32 x
def R32 (x : Int) : Prop := -2147483648 <= x /\ x < 2147483648
theorem R32.wf {x : Int} (h : R32 x) : (Lit.int .i32 x).wf = true := by
 obtain ⟨h1, h2⟩ := h;exact WalkArith.wf_i32 ⟨h1, by omega⟩
theorem R32.of_wf {x : Int} (h : (Lit.int .i32 x).wf = true) : R32 x := by
 have := bounds_i32 h;unfold R32;omega
theorem runeB {P : Program} {K : TypeId} (hk : P.underlying K = some (.int .i32)) : KeyB P K runeV z7 R32 where
 keyed := int_keyed hk
 of := fun ha => keyOf_int_mk hk ha.wf
 inv := fun h => by
  obtain ⟨x, rfl, rfl, hw⟩ := Maps.keyOf_int_inv hk h;exact ⟨x, .of_wf hw, rfl, rfl⟩
 mkinj := fun h => by cases h; rfl
abbrev pairV (x : Int × Int) : Value := .agg #[.int .i32 x.1, .int .i32 x.2]
def zd9 (x : Int × Int) : Lit := .string (keyBytes [.int .i32 x.1, .int .i32 x.2])
def R32P (x : Int × Int) : Prop := R32 x.1 /\ R32 x.2
theorem zjs {P : Program} {K e : TypeId} {m : Nat} (A : WideMaps.ArrKey P K e 2) (he : P.underlying e = some (.int .i32)) (hsz : P.types.size = m + 1) (x : Int × Int) (hx : R32P x) : keyOf P K (pairV x) = some (zd9 x) := by
 obtain ⟨h1, h2⟩ := hx;have hkt : P.keyType K = true := A.keyType ⟨m, hsz⟩;have hf : (pairV x).formed P K = true := by simp [Value.formed, A.hu, A.size]
 have hk : P.keyLits (P.types.size + 1) K (pairV x).cells.toList = some [.int .i32 x.1, .int .i32 x.2] := by
  rw [hsz];simp [Program.keyLits, A.hu, A.size, A.one, he, Value.cells, List.range_succ, h1.wf, h2.wf]
 unfold keyOf;rw [A.hu];simp only [hkt, hf, Bool.and_self, if_true];rw [hk];rfl
theorem keyOf_pair_inv {P : Program} {K e : TypeId} {m : Nat} (A : WideMaps.ArrKey P K e 2) (he : P.underlying e = some (.int .i32)) (hsz : P.types.size = m + 1) {v : Value} {l : Lit} (h : keyOf P K v = some l) : ∃ x, R32P x /\ v = pairV x /\ l = zd9 x := by
 have h0 := h;unfold keyOf at h;rw [A.hu] at h;simp only [] at h;split at h
 ·rename_i hc;simp only [Bool.and_eq_true] at hc
  cases v <;> simp [Value.formed, A.hu] at hc
  rename_i cs;have hs : cs.size = 2 := by rw [hc.2, A.size]
  obtain ⟨a, b, rfl⟩ : ∃ a b, cs = #[a, b] := by
   rcases cs with ⟨l⟩;match l, hs with
   | [a, b], _ => exact ⟨a, b, rfl⟩
  rw [hsz] at h;simp [Program.keyLits, A.hu, A.size, A.one, he, Value.cells, List.range_succ] at h;obtain ⟨q1, n1, rfl⟩ : ∃ q n, a = .int q n := by cases a <;> simp at h; exact ⟨_, _, rfl⟩
  obtain ⟨q2, n2, rfl⟩ : ∃ q n, b = .int q n := by
   cases b <;> first | exact ⟨_, _, rfl⟩ | (exfalso; by_cases c1 : q1 = .i32 /\ (Lit.int .i32 n1).wf = true <;> simp [c1] at h)
  simp only [] at h
  by_cases c1 : q1 = .i32 /\ (Lit.int .i32 n1).wf = true
  ·by_cases c2 : q2 = .i32 /\ (Lit.int .i32 n2).wf = true
   ·obtain ⟨rfl, w1⟩ := c1;obtain ⟨rfl, w2⟩ := c2;refine ⟨(n1, n2), ⟨.of_wf w1, .of_wf w2⟩, rfl, ?_⟩;have := zjs A he hsz (n1, n2) ⟨.of_wf w1, .of_wf w2⟩;rw [h0] at this;exact Option.some.inj this
   ·simp [c1, c2] at h
  ·simp [c1] at h
 ·cases h
theorem pairB {P : Program} {K e : TypeId} {m : Nat} (A : WideMaps.ArrKey P K e 2) (he : P.underlying e = some (.int .i32)) (hsz : P.types.size = m + 1) : KeyB P K pairV zd9 R32P where
 keyed := Keyed.of_law A.law
 of := fun ha => zjs A he hsz _ ha
 inv := fun h => keyOf_pair_inv A he hsz h
 mkinj := fun {a b} h => by
  obtain ⟨a1, a2⟩ := a;obtain ⟨b1, b2⟩ := b;simp at h;simp [h]
end
section
open Go.RowKit Go.Lib Go.Maps
theorem zj : KeyB Tryz.prog 21 runeV z7 R32 := runeB (by kernel_rfl)
theorem zdz : Tryz.prog.underlying 166 = some (.map 21 201) := by kernel_rfl
theorem zct : Tryz.prog.underlying 201 = some (.array 256 3) := by kernel_rfl
theorem zcz (w : World) : (zeroValue 201).run Tryz.prog w = .ok (zf8 fun _ => 0) w := by kernel_rfl
def TabAt (w : World) (tb mb n : Nat) (T : Int -> Int) : Prop :=
 w.heap[tb]? = some (.cells #[.int .i64 0, .map (some mb)] 168 (0, 0)) /\
 ∃ f, MapF w Tryz.prog 21 z7 R32 zf8 mb n f /\ ∀ r, R32 r -> T r = if r < 0 then 0 else match f (r / 256) with | some g => g (r % 256).toNat | none => 0
theorem zhp (w : World) : Calls Tryz.prog 72 #[.int .i64 0] w fun e w' => e = .returned (.pointer (some ⟨w.heap.size + 1, 0, none⟩)) /\ TabAt w' (w.heap.size + 1) w.heap.size 0 (fun _ => 0) /\ Below w.heap.size w w' /\ w'.heap.size = w.heap.size + 2 := by
 have hmm := @run_makeMap Tryz.prog;go_enter Tryz.func72, Tryz.ntmps72;go_wp2;go_returns;have h1 : Below w.heap.size w (w.alloc (.map #[] 0)) := (Below.refl _ _).alloc (Nat.le_refl _) _;refine ⟨rfl, ⟨?_, fun _ => none, (MapF.made w _ _ _ _ _).alloc _, fun r _ => by simp⟩, h1.alloc (by simp) _, by simp⟩;have := heap_alloc_last (w.alloc (.map #[] 0)) (.cells #[.int .i64 0, .map (some w.heap.size)] 168);simpa using this
theorem zgt : (Tryz.prog.info? 201).map (·.size) = some 256 := by kernel_rfl
theorem zero_size : Tryz.zeroCells201.size = 256 := by kernel_rfl
theorem ze8 (w : World) (g : Nat -> Int) : (storeCells ⟨w.heap.size, 0, none⟩ (zp g) 0).run Tryz.prog (w.alloc (.cells Tryz.zeroCells201 201)) = .ok () (w.alloc (.cells (zp g).toArray 201)) := by
 have := run_storeCells_new (P := Tryz.prog) w 201 Tryz.zeroCells201 (zp g).toArray (by rw [zgt]; simp [zaq]) (by rw [zero_size]; simp [zaq]) (by simp [zgv]; exact fun x hx => zgv g x hx);simpa using this
theorem zm0 {r : Int} (h : R32 r) : wrap32 (r.tdiv 256) = r.tdiv 256 /\ R32 (r.tdiv 256) := by
 obtain ⟨h1, h2⟩ := h
 have h3 : r.tdiv 256 = r / 256 \/ r.tdiv 256 = -((-r) / 256) := by
  rcases Int.le_total 0 r with h | h
  ·exact .inl (Int.tdiv_eq_ediv_of_nonneg h)
  ·right;rw [<- Int.tdiv_eq_ediv_of_nonneg (by omega), Int.neg_tdiv, Int.neg_neg]
 unfold R32 wrap32;omega
theorem trieGet_any {w : World} {tb mb n : Nat} {T : Int -> Int} (h : TabAt w tb mb n T) (r : Int) (hr : R32 r) : Calls Tryz.prog 121 #[.pointer (some ⟨tb, 0, none⟩), .int .i32 r] w fun e w' => e = .returned (.int .i64 (T r)) /\ Below w.heap.size w w' := by
 obtain ⟨hb, f, hm, hT⟩ := h;have c0 : w.cell? ⟨tb, 0, none⟩ = some (.int .i64 0) := (by simp [World.cell?, hb]);have c1 : w.cell? ⟨tb, 0 + 1, none⟩ = some (.map (some mb)) := (by simp [World.cell?, hb]);have htl : tb < w.heap.size := (Array.getElem?_eq_some_iff.1 hb).1;have hst := ze8 w;have hsz := zaq;have hTr := hT r hr;obtain ⟨hr1, hr2⟩ := hr;have hkk : R32 (wrap32 (r.tdiv 256)) := (by rw [(zm0 ⟨hr1, hr2⟩).1]; exact (zm0 ⟨hr1, hr2⟩).2);clear hT hb
 by_cases hn : r < 0
 ·have hT0 : T r = 0 := (by rw [hTr, if_pos hn]);clear hTr;rw [hT0];go_enter Tryz.func121, Tryz.ntmps121;go_wp2_with (first | (at_lookup; refine zw rfl _ _ rfl zj zdz (zcz _) hm (k := wrap32 (r.tdiv 256)) hkk rfl rfl ?_) | go_in)
  go_returns;exact ⟨rfl, (Below.refl _ _).alloc (Nat.le_refl _) _⟩
 ·have hkd : wrap32 (r.tdiv 256) = r / 256 := (by rw [(zm0 ⟨hr1, hr2⟩).1, Int.tdiv_eq_ediv_of_nonneg (by omega)]);rw [hkd] at hkk;rw [if_neg hn] at hTr;have hge : 0 <= r := by omega
  cases hf : f (r / 256) with
  | none =>
   rw [hf] at hTr;have hT0 : T r = 0 := hTr;rw [hT0];clear hTr;go_enter Tryz.func121, Tryz.ntmps121;go_wp2_with (first | (at_lookup; refine zw rfl _ _ rfl zj zdz (zcz _) hm (k := r / 256) hkk rfl (by rw [<- hkd]; rfl) ?_; rw [hf]) | go_in)
   go_returns;exact ⟨rfl, (Below.refl _ _).alloc (Nat.le_refl _) _⟩
  | some g =>
   rw [hf] at hTr;have hT0 : T r = g (r % 256).toNat := hTr;rw [hT0];clear hTr;have hm1 : wrap32 (r.tmod 256) = r % 256 := (by rw [Int.tmod_eq_emod_of_nonneg hge]; unfold wrap32; omega);have hm2 : (0 : Int) <= r % 256 := (by omega);have hm3 : (r % 256).toNat < 256 := (by omega);have hm4 : r % 256 < 256 := by omega
   have hc : (w.alloc (.cells (zp g).toArray 201)).cell? ⟨w.heap.size, (r % 256).toNat, none⟩ = some (.int .i64 (g (r % 256).toNat)) := by
    rw [cell_of_row _ _ _ (zp g).toArray 201 (0, 0) (heap_alloc_last w _)];simpa using zcl g hm3
   go_enter Tryz.func121, Tryz.ntmps121;go_wp2_with (first | (at_lookup; refine zw rfl _ _ rfl zj zdz (zcz _) hm (k := r / 256) hkk rfl (by rw [<- hkd]; rfl) ?_; rw [hf]) | go_in)
   go_returns;exact ⟨rfl, (Below.refl _ _).alloc (Nat.le_refl _) _⟩
end
section
open Go.RowKit Go.Lib Go.Maps
theorem blockC_set (g : Nat -> Int) (i : Nat) (v : Int) : (zp g).toArray.setIfInBounds i (.int .i64 v) = (zp fun k => if k = i then v else g k).toArray := by
 apply Array.ext_getElem?;intro k;rw [Array.getElem?_setIfInBounds];simp only [List.getElem?_toArray, List.size_toArray, zaq]
 by_cases hk : k < 256
 ·rw [zcl _ hk]
  by_cases h : i = k
  ·subst h;simp [hk, zcl]
  ·rw [if_neg h, zcl _ hk, if_neg (fun e => h e.symm)]
 ·have hn : ∀ g, (zp g)[k]? = none := fun g => List.getElem?_eq_none (by rw [zaq]; omega);rw [hn, hn];split
  ·split
   ·omega
   ·rfl
  ·rfl
theorem zgw (g : Nat -> Int) : (zp g).toArray.all (·.oneCell') = true := by simp; exact fun x hx => zgv g x hx
theorem zero_cells : Tryz.zeroCells201 = (zp fun _ => 0).toArray := by kernel_rfl
theorem zgu {w : World} {b : Nat} {g : Nat -> Int} (h : w.heap[b]? = some (.cells (zp g).toArray 201 (0, 0))) {i : Nat} (hi : i < 256) : w.cell? ⟨b, i, none⟩ = some (.int .i64 (g i)) := by
 rw [cell_of_row _ _ _ (zp g).toArray 201 (0, 0) h];simpa using zcl g hi
theorem zel {w : World} {b : Nat} {g : Nat -> Int} (h : w.heap[b]? = some (.cells (zp g).toArray 201 (0, 0))) (i : Nat) : w.frozen? ⟨b, i, none⟩ = false := by simp [World.frozen?, h]
theorem ziw {w : World} {b : Nat} {g : Nat -> Int} (h : w.heap[b]? = some (.cells (zp g).toArray 201 (0, 0))) {i : Nat} (hi : i < 256) (v : Int) :
  (w.setCell ⟨b, i, none⟩ (.int .i64 v)).heap[b]? = some (.cells (zp fun k => if k = i then v else g k).toArray 201 (0, 0)) := by
 have hb := (Array.getElem?_eq_some_iff.1 h).1;simp [World.setCell, Array.getElem?_modify, h, blockC_set g i v]
theorem plain_any {w : World} {tb : Nat} (c0 : w.cell? ⟨tb, 0, none⟩ = some (.int .i64 0)) : Calls Tryz.prog 146 #[.pointer (some ⟨tb, 0, none⟩)] w fun e w' => e = .returned (.agg (zp fun _ => 0).toArray) /\ Below w.heap.size w w' := by
 have hz := zero_cells;have htl : tb < w.heap.size := World.block_lt_of_cell? w _ c0;have hb0 : Below w.heap.size w (w.alloc (.cells Tryz.zeroCells201 201)) := (Below.refl _ _).alloc (Nat.le_refl _) _;have hh0 : (w.alloc (.cells Tryz.zeroCells201 201)).heap[w.heap.size]? = some (.cells (zp fun _ => 0).toArray 201 (0, 0)) := (by rw [<- hz]; exact heap_alloc_last w _);clear hz;go_enter Tryz.func146, Tryz.ntmps146;go_wp2
 go_loopw [4] (fun i wr => ∃ k : Nat, k <= 256 /\ i = .int .i64 k /\ wr.heap[w.heap.size]? = some (.cells (zp fun _ => 0).toArray 201 (0, 0)) /\ Below w.heap.size w wr) (fun i _ => 256 - (intOf i).toNat)
 case atStart => exact ⟨0, Nat.zero_le _, rfl, hh0, hb0⟩
 case round =>
  obtain ⟨k, hk, rfl, hh, hb⟩ := hrel
  by_cases hlt : k < 256
  ·have hki : (k : Int) < 256 := (by omega);have hki0 : (0 : Int) <= (k : Int) := (by omega);have d0 : wr.cell? ⟨tb, 0, none⟩ = some (.int .i64 0) := (hb.cell (p := ⟨tb, 0, none⟩) htl).trans c0;have e0 := zgu hh hlt;have e1 := zel hh k;have hh2 := ziw hh hlt 0;have hb2 : Below w.heap.size w (wr.setCell ⟨w.heap.size, k, none⟩ (.int .i64 0)) := hb.setCell (p := ⟨w.heap.size, k, none⟩) (Nat.le_refl _) _
   have hh3 : (wr.setCell ⟨w.heap.size, k, none⟩ (.int .i64 0)).heap[w.heap.size]? = some (.cells (zp fun _ => 0).toArray 201 (0, 0)) := by
    rw [hh2];congr 2;rw [zbm (h := fun _ => 0)];intro i hi;simp
   clear hh hh2 hb;go_wp2;go_roundw
   case rel => exact ⟨k + 1, by omega, by go_num, hh3, hb2⟩
   case measure => simp [intOf]; omega
  ·have hki : (256 : Int) <= (k : Int) := (by omega);have hsz : (zp fun _ => 0).toArray.size = 256 := (by simp [zaq]);have hsz2 : (Tryz.prog.info? 201).map (·.size) = some (zp fun _ => 0).toArray.size := (by rw [hsz]; exact zgt);have hone : (zp fun _ => 0).toArray.all (·.oneCell') = true := zgw _;have hb2 := setRow_below hb (b := w.heap.size) (Nat.le_refl _) (zp fun _ => 0).toArray;have hh2 := setRow_blk (c := (zp fun _ => 0).toArray) hh;go_wp2_with (first | (refine zax rfl rfl zct hsz2 hh rfl ?_) | (refine zdi rfl rfl hsz2 rfl hone hh rfl rfl ?_) | go_in)
   have hrun := run_loadVar_row (P := Tryz.prog) _ w.heap.size 201 201 (zp fun _ => 0).toArray _ _ hh2 zct rfl hsz2;refine bodyPost_ret (v := .agg (zp fun _ => 0).toArray) ?_ rfl ⟨rfl, hb2⟩;simp [results, Tryz.f146, Act.put, asAddr, Sem.run_pure, Result.andThen, hrun]
end
end Go.Proofs.YtkocaoeednmkpaaGreatDoor
