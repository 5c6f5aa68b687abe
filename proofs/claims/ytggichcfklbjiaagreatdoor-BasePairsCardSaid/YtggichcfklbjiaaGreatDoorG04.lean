/- A table of characters: New, Get. What a call that writes to some blocks leaves: all others stand. Over any program. -/
import Derived.Test.YtggichcfklbjiaaGreatDoorG03
import Derived.Test.YtggichcfklbjiaaGreatDoorRows
import Derived.Test.YtggichcfklbjiaaGreatDoorG02
import Derived.Deep.QuietTactic
import Derived.WalkSpells
section
set_option linter.unusedSimpArgs false
set_option linter.unusedVariables false
namespace Go.Proofs.YtggichcfklbjiaaGreatDoor
open Go.RowKit Go.Lib Go.Maps
theorem rune_keyed : KeyB Tryz.prog 21 runeV runeLit R32 := runeB (by kernel_rfl)
theorem blocksT : Tryz.prog.underlying 103 = some (.map 21 117) := by kernel_rfl
theorem blockT : Tryz.prog.underlying 117 = some (.array 256 3) := by kernel_rfl
theorem zero_block (w : World) : (zeroValue 117).run Tryz.prog w = .ok (blockV fun _ => 0) w := by kernel_rfl
/-- A TABLE IN MEMORY: its block, its map's block, and what it says of each character. -/
def TabAt (w : World) (tb mb n : Nat) (T : Int → Int) : Prop :=
  w.heap[tb]? = some (.cells #[.int .i64 0, .map (some mb)] 105 (0, 0)) ∧
  ∃ f, MapF w Tryz.prog 21 runeLit R32 blockV mb n f ∧ ∀ r, R32 r → T r = if r < 0 then 0 else match f (r / 256) with | some g => g (r % 256).toNat | none => 0
set_option maxRecDepth 100000 in
theorem trieNew_any (w : World) : Calls Tryz.prog 24 #[.int .i64 0] w fun e w' => e = .returned (.pointer (some ⟨w.heap.size + 1, 0, none⟩)) ∧ TabAt w' (w.heap.size + 1) w.heap.size 0 (fun _ => 0) ∧ Below w.heap.size w w' ∧ w'.heap.size = w.heap.size + 2 := by
  have hmm := @run_makeMap Tryz.prog
  go_enter Tryz.func24, Tryz.ntmps24
  go_wp2
  go_returns
  have h1 : Below w.heap.size w (w.alloc (.map #[] 0)) := (Below.refl _ _).alloc (Nat.le_refl _) _
  refine ⟨rfl, ⟨?_, fun _ => none, (MapF.made w _ _ _ _ _).alloc _, fun r _ => by simp⟩, h1.alloc (by simp) _, by simp⟩
  have := heap_alloc_last (w.alloc (.map #[] 0)) (.cells #[.int .i64 0, .map (some w.heap.size)] 105)
  simpa using this
theorem block_info : (Tryz.prog.info? 117).map (·.size) = some 256 := by kernel_rfl
theorem zero_size : Tryz.zeroCells117.size = 256 := by kernel_rfl
theorem store_block (w : World) (g : Nat → Int) : (storeCells ⟨w.heap.size, 0, none⟩ (blockC g) 0).run Tryz.prog (w.alloc (.cells Tryz.zeroCells117 117)) = .ok () (w.alloc (.cells (blockC g).toArray 117)) := by
  have := run_storeCells_new (P := Tryz.prog) w 117 Tryz.zeroCells117 (blockC g).toArray (by rw [block_info]; simp [blockC_length]) (by rw [zero_size]; simp [blockC_length]) (by simp [blockC_one]; exact fun x hx => blockC_one g x hx)
  simpa using this
theorem tdiv_in {r : Int} (h : R32 r) : wrap32 (r.tdiv 256) = r.tdiv 256 ∧ R32 (r.tdiv 256) := by
  obtain ⟨h1, h2⟩ := h
  have h3 : r.tdiv 256 = r / 256 ∨ r.tdiv 256 = -((-r) / 256) := by
    rcases Int.le_total 0 r with h | h
    · exact .inl (Int.tdiv_eq_ediv_of_nonneg h)
    · right
      rw [← Int.tdiv_eq_ediv_of_nonneg (by omega), Int.neg_tdiv, Int.neg_neg]
  unfold R32 wrap32
  omega
set_option maxRecDepth 100000 in
set_option maxHeartbeats 1000000 in
theorem trieGet_any {w : World} {tb mb n : Nat} {T : Int → Int} (h : TabAt w tb mb n T) (r : Int) (hr : R32 r) : Calls Tryz.prog 36 #[.pointer (some ⟨tb, 0, none⟩), .int .i32 r] w fun e w' => e = .returned (.int .i64 (T r)) ∧ Below w.heap.size w w' := by
  obtain ⟨hb, f, hm, hT⟩ := h
  have c0 : w.cell? ⟨tb, 0, none⟩ = some (.int .i64 0) := by simp [World.cell?, hb]
  have c1 : w.cell? ⟨tb, 0 + 1, none⟩ = some (.map (some mb)) := by simp [World.cell?, hb]
  have htl : tb < w.heap.size := (Array.getElem?_eq_some_iff.1 hb).1
  have hst := store_block w
  have hsz := blockC_length
  have hTr := hT r hr
  obtain ⟨hr1, hr2⟩ := hr
  have hkk : R32 (wrap32 (r.tdiv 256)) := by rw [(tdiv_in ⟨hr1, hr2⟩).1]; exact (tdiv_in ⟨hr1, hr2⟩).2
  clear hT hb
  by_cases hn : r < 0
  · have hT0 : T r = 0 := by rw [hTr, if_pos hn]
    clear hTr
    rw [hT0]
    go_enter Tryz.func36, Tryz.ntmps36
    go_wp2_with (first | (at_lookup; refine wpList_lookF rfl _ _ rfl rune_keyed blocksT (zero_block _) hm (k := wrap32 (r.tdiv 256)) hkk rfl rfl ?_) | go_in)
    go_returns
    exact ⟨rfl, (Below.refl _ _).alloc (Nat.le_refl _) _⟩
  · have hkd : wrap32 (r.tdiv 256) = r / 256 := by rw [(tdiv_in ⟨hr1, hr2⟩).1, Int.tdiv_eq_ediv_of_nonneg (by omega)]
    rw [hkd] at hkk
    rw [if_neg hn] at hTr
    have hge : 0 ≤ r := by omega
    cases hf : f (r / 256) with
    | none =>
      rw [hf] at hTr
      have hT0 : T r = 0 := hTr
      rw [hT0]
      clear hTr
      go_enter Tryz.func36, Tryz.ntmps36
      go_wp2_with (first | (at_lookup; refine wpList_lookF rfl _ _ rfl rune_keyed blocksT (zero_block _) hm (k := r / 256) hkk rfl (by rw [← hkd]; rfl) ?_; rw [hf]) | go_in)
      go_returns
      exact ⟨rfl, (Below.refl _ _).alloc (Nat.le_refl _) _⟩
    | some g =>
      rw [hf] at hTr
      have hT0 : T r = g (r % 256).toNat := hTr
      rw [hT0]
      clear hTr
      have hm1 : wrap32 (r.tmod 256) = r % 256 := by rw [Int.tmod_eq_emod_of_nonneg hge]; unfold wrap32; omega
      have hm2 : (0 : Int) ≤ r % 256 := by omega
      have hm3 : (r % 256).toNat < 256 := by omega
      have hm4 : r % 256 < 256 := by omega
      have hc : (w.alloc (.cells (blockC g).toArray 117)).cell? ⟨w.heap.size, (r % 256).toNat, none⟩ = some (.int .i64 (g (r % 256).toNat)) := by
        rw [cell_of_row _ _ _ (blockC g).toArray 117 (0, 0) (heap_alloc_last w _)]
        simpa using blockC_at g hm3
      go_enter Tryz.func36, Tryz.ntmps36
      go_wp2_with (first | (at_lookup; refine wpList_lookF rfl _ _ rfl rune_keyed blocksT (zero_block _) hm (k := r / 256) hkk rfl (by rw [← hkd]; rfl) ?_; rw [hf]) | go_in)
      go_returns
      exact ⟨rfl, (Below.refl _ _).alloc (Nat.le_refl _) _⟩
end Go.Proofs.YtggichcfklbjiaaGreatDoor
end

section
set_option linter.unusedSimpArgs false
set_option linter.unusedVariables false
namespace Go.Proofs.YtggichcfklbjiaaGreatDoor
open Go.RowKit

/-- All blocks that there were stand, but those of S. -/
structure Wrote (S : Nat → Prop) (w w' : World) : Prop where
  os : w'.os = w.os
  tape : w'.tape = w.tape
  output : w'.output = w.output
  size : w.heap.size ≤ w'.heap.size
  block : ∀ k, k < w.heap.size → ¬ S k → w'.heap[k]? = w.heap[k]?
section
variable {S R : Nat → Prop} {a b c w w' : World} {B : Nat}
theorem Wrote.refl (S : Nat → Prop) (w : World) : Wrote S w w := ⟨rfl, rfl, rfl, Nat.le_refl _, fun _ _ _ => rfl⟩
theorem Wrote.trans (h : Wrote S a b) (k : Wrote S b c) : Wrote S a c :=
  ⟨k.os.trans h.os, k.tape.trans h.tape, k.output.trans h.output, Nat.le_trans h.size k.size, fun i hi hs => (k.block i (Nat.lt_of_lt_of_le hi h.size) hs).trans (h.block i hi hs)⟩
theorem Wrote.mono (h : Wrote S w w') (hs : ∀ k, k < w.heap.size → S k → R k) : Wrote R w w' := ⟨h.os, h.tape, h.output, h.size, fun k hk hn => h.block k hk fun hS => hn (hs k hk hS)⟩
theorem Wrote.of_below (h : Below w.heap.size w w') : Wrote S w w' := ⟨h.os, h.tape, h.output, h.size, fun k hk _ => h.block k hk⟩
theorem Wrote.below (h : Wrote S w w') (hS : ∀ k, S k → B ≤ k) (hB : B ≤ w.heap.size) : Below B w w' :=
  ⟨h.os, h.tape, h.output, h.size, fun k hk => h.block k (Nat.lt_of_lt_of_le hk hB) fun hs => by have := hS k hs; omega⟩
theorem Wrote.then_below (h : Wrote S a b) (k : Below b.heap.size b c) : Wrote S a c := h.trans (.of_below k)
theorem Wrote.none (h : Wrote (fun _ => False) w w') : Below w.heap.size w w' := h.below (fun _ h => h.elim) (Nat.le_refl _)
theorem Wrote.setCell {p : Addr} (hp : S p.block ∨ w.heap.size ≤ p.block) (v : Value) : Wrote S w (w.setCell p v) := by
  refine ⟨rfl, rfl, rfl, by simp [World.setCell], fun k hk hn => Below.heap_setCell w p v k ?_⟩
  rintro rfl
  rcases hp with hp | hp
  · exact hn hp
  · omega
theorem Wrote.grown {row : Option Nat} (hg : w.grownBy w' row) (hS : ∀ k, row = some k → S k) : Wrote S w w' := by
  have hb : Below 0 w w' := (Below.refl 0 w).grown hg (Nat.zero_le _) (fun j hj => Nat.zero_le _)
  exact ⟨hb.os, hb.tape, hb.output, hb.size, fun k hk hn => hg.block k hk fun e => hn (hS k e.symm)⟩
theorem Wrote.cell (h : Wrote S w w') {p : Addr} (hp : p.block < w.heap.size) (hn : ¬ S p.block) : w'.cell? p = w.cell? p := World.cell?_of_block (h.block p.block hp hn)
theorem Wrote.blk (h : Wrote S w w') {g : Nat} {o : Obj} (ho : w.heap[g]? = some o) (hn : ¬ S g) : w'.heap[g]? = some o := (h.block g (Array.getElem?_eq_some_iff.1 ho).1 hn).trans ho
end
theorem Rd.wrote {S : Nat → Prop} {w w' : World} {A : Option Addr} {n : Nat} {xs : List Value} (h : Rd w A n xs) (hb : Wrote S w w') (hn : 0 < n → ∀ a, A = some a → ¬ S a.block) : Rd w' A n xs := by
  refine ⟨h.1, fun h0 => ?_⟩
  obtain ⟨b, off, rfl, hl, hc⟩ := h.at_ h0
  exact ⟨b, off, rfl, fun j u hu => (hb.cell (p := ⟨b, off + j, none⟩) hl (hn h0 ⟨b, off, none⟩ rfl)).trans (hc j u hu)⟩
end Go.Proofs.YtggichcfklbjiaaGreatDoor
end
