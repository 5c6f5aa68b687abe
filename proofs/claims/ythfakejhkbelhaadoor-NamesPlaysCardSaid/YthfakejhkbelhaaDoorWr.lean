/- What a call that writes to some blocks leaves: all others stand. Over any program. -/
import Derived.Test.YthfakejhkbelhaaDoorMem
set_option linter.unusedSimpArgs false
set_option linter.unusedVariables false
namespace Go.Proofs.YthfakejhkbelhaaDoor
open Go.RowKit

/-- All blocks that there were stand, but those of S. -/
structure Wrote (S : Nat → Prop) (w w' : World) : Prop where
  os : w'.os = w.os
  tape : w'.tape = w.tape
  output : w'.output = w.output
  size : w.heap.size ≤ w'.heap.size
  block : ∀ k, k < w.heap.size → ¬ S k → w'.heap[k]? = w.heap[k]?
section
variable {S R : Nat → Prop} {a b c w w' : World} {B : Nat}
theorem Wrote.refl (S : Nat → Prop) (w : World) : Wrote S w w := ⟨rfl, rfl, rfl, Nat.le_refl _, fun _ _ _ => rfl⟩
theorem Wrote.trans (h : Wrote S a b) (k : Wrote S b c) : Wrote S a c :=
  ⟨k.os.trans h.os, k.tape.trans h.tape, k.output.trans h.output, Nat.le_trans h.size k.size, fun i hi hs => (k.block i (Nat.lt_of_lt_of_le hi h.size) hs).trans (h.block i hi hs)⟩
theorem Wrote.mono (h : Wrote S w w') (hs : ∀ k, k < w.heap.size → S k → R k) : Wrote R w w' := ⟨h.os, h.tape, h.output, h.size, fun k hk hn => h.block k hk fun hS => hn (hs k hk hS)⟩
theorem Wrote.of_below (h : Below w.heap.size w w') : Wrote S w w' := ⟨h.os, h.tape, h.output, h.size, fun k hk _ => h.block k hk⟩
theorem Wrote.below (h : Wrote S w w') (hS : ∀ k, S k → B ≤ k) (hB : B ≤ w.heap.size) : Below B w w' :=
  ⟨h.os, h.tape, h.output, h.size, fun k hk => h.block k (Nat.lt_of_lt_of_le hk hB) fun hs => by have := hS k hs; omega⟩
theorem Wrote.then_below (h : Wrote S a b) (k : Below b.heap.size b c) : Wrote S a c := h.trans (.of_below k)
theorem Wrote.none (h : Wrote (fun _ => False) w w') : Below w.heap.size w w' := h.below (fun _ h => h.elim) (Nat.le_refl _)
theorem Wrote.setCell {p : Addr} (hp : S p.block ∨ w.heap.size ≤ p.block) (v : Value) : Wrote S w (w.setCell p v) := by
  refine ⟨rfl, rfl, rfl, by simp [World.setCell], fun k hk hn => Below.heap_setCell w p v k ?_⟩
  rintro rfl
  rcases hp with hp | hp
  · exact hn hp
  · omega
theorem Wrote.grown {row : Option Nat} (hg : w.grownBy w' row) (hS : ∀ k, row = some k → S k) : Wrote S w w' := by
  have hb : Below 0 w w' := (Below.refl 0 w).grown hg (Nat.zero_le _) (fun j hj => Nat.zero_le _)
  exact ⟨hb.os, hb.tape, hb.output, hb.size, fun k hk hn => hg.block k hk fun e => hn (hS k e.symm)⟩
theorem Wrote.cell (h : Wrote S w w') {p : Addr} (hp : p.block < w.heap.size) (hn : ¬ S p.block) : w'.cell? p = w.cell? p := World.cell?_of_block (h.block p.block hp hn)
theorem Wrote.blk (h : Wrote S w w') {g : Nat} {o : Obj} (ho : w.heap[g]? = some o) (hn : ¬ S g) : w'.heap[g]? = some o := (h.block g (Array.getElem?_eq_some_iff.1 ho).1 hn).trans ho
end
theorem Rd.wrote {S : Nat → Prop} {w w' : World} {A : Option Addr} {n : Nat} {xs : List Value} (h : Rd w A n xs) (hb : Wrote S w w') (hn : 0 < n → ∀ a, A = some a → ¬ S a.block) : Rd w' A n xs := by
  refine ⟨h.1, fun h0 => ?_⟩
  obtain ⟨b, off, rfl, hl, hc⟩ := h.at_ h0
  exact ⟨b, off, rfl, fun j u hu => (hb.cell (p := ⟨b, off + j, none⟩) hl (hn h0 ⟨b, off, none⟩ rfl)).trans (hc j u hu)⟩
end Go.Proofs.YthfakejhkbelhaaDoor
