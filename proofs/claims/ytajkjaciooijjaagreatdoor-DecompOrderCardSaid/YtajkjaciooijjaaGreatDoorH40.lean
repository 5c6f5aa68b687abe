/- Lists of lists of characters in memory; how decomp.Runs cuts: plain. Lists of lists whose last one grows: memory. decomp.Runs, and the document's: the code. What a law over both bases knows; two lists that are compared. Two lists that grow side by side, as a law knows them. -/
import Derived.Test.YtajkjaciooijjaaGreatDoorH02
import Derived.Test.YtajkjaciooijjaaGreatDoorH06
import Derived.Test.YtajkjaciooijjaaGreatDoorH09
import Derived.Test.YtajkjaciooijjaaGreatDoorH04
import Derived.Test.YtajkjaciooijjaaGreatDoorH10
import Derived.Test.YtajkjaciooijjaaGreatDoorH19
import Derived.Test.YtajkjaciooijjaaGreatDoorH07
import Derived.Test.YtajkjaciooijjaaGreatDoorH13
import Derived.Test.YtajkjaciooijjaaGreatDoorH14
import Derived.Test.YtajkjaciooijjaaGreatDoorH15
import Derived.Test.YtajkjaciooijjaaGreatDoorH18
import Derived.Test.YtajkjaciooijjaaGreatDoorH08
import Derived.Test.YtajkjaciooijjaaGreatDoorH22
import Derived.Test.YtajkjaciooijjaaGreatDoorH25
import Derived.Test.YtajkjaciooijjaaGreatDoorH27
import Derived.Test.YtajkjaciooijjaaGreatDoorH32
import Derived.Test.YtajkjaciooijjaaGreatDoorH35
import Derived.Test.YtajkjaciooijjaaGreatDoorH28
import Derived.Test.YtajkjaciooijjaaGreatDoorH38
import Derived.Test.YtajkjaciooijjaaGreatDoorH12
import Derived.Test.YtajkjaciooijjaaGreatDoorH37
import Derived.Test.YtajkjaciooijjaaGreatDoorH05
import Derived.Test.YtajkjaciooijjaaGreatDoorH20
section
set_option linter.unusedSimpArgs false
set_option linter.unusedVariables false
namespace Go.Proofs.YtajkjaciooijjaaGreatDoor
open Go.RowKit
abbrev LA := List Int × Option Addr × Nat
abbrev laV (x : LA) : Value := .slice x.2.1 x.1.length x.2.2
abbrev LLs (os : List LA) : List Value := os.map laV
theorem listElem : Elem Tryz.prog 34 30 (.slice none 0 0) 24 := ⟨Tryz.underlying34, by kernel_rfl, rfl⟩
theorem list_ne : (21 : TypeId) ≠ 30 := by decide
structure ListsAt (B : Nat) (w : World) (os : List LA) (A : Option Addr) (c : Nat) : Prop where
 own : w.ownsRow B 30 1 (.slice A os.length c) os.length (LLs os)
 into : ∀ x ∈ os, w.ownsRow B 21 1 (laV x) x.1.length (Rs x.1)
section
variable {w w' : World} {B : Nat} {os : List LA} {A : Option Addr} {c : Nat}
theorem ListsAt.nil (B : Nat) (w : World) : ListsAt B w [] none 0 := ⟨World.ownsRow_nil _ _ _ _, fun x hx => absurd hx (by simp)⟩
theorem ListsAt.same (h : ListsAt B w os A c) (hk : ∀ g, B ≤ g → g < w.heap.size → w'.heap[g]? = w.heap[g]?) : ListsAt B w' os A c :=
 ⟨own_same h.own hk, fun x hx => own_same (h.into x hx) hk⟩
theorem ListsAt.below (h : ListsAt B w os A c) (hb : Below w.heap.size w w') : ListsAt B w' os A c := h.same fun g _ hg => hb.block g hg
theorem ListsAt.base {B' : Nat} (h : ListsAt B w os A c) (hb : B' ≤ B) : ListsAt B' w os A c := ⟨own_baseK h.own hb, fun x hx => own_baseK (h.into x hx) hb⟩
theorem ListsAt.app {x : LA} {A' : Option Addr} {c' : Nat} (h : ListsAt B w os A c) (hx : w.ownsRow B 21 1 (laV x) x.1.length (Rs x.1)) (hown : w'.ownsRow B 30 1 (.slice A' (os.length + 1) c') (os.length + 1) (LLs os ++ [laV x])) (hg : w.grownBy w' (Value.slice A os.length c).ownBlock) : ListsAt B w' (os ++ [x]) A' c' := by
 refine ⟨?_, ?_⟩
 ·rw [List.length_append, List.length_singleton, LLs, List.map_append]
  exact hown
 ·intro y hy
  rcases List.mem_append.1 hy with hy | hy
  ·exact into_kept (h.into y hy) h.own list_ne hg
  ·rw [List.mem_singleton] at hy
   subst hy
   exact into_kept hx h.own list_ne hg
theorem ListsAt.rd (h : ListsAt B w os A c) : Rd w A os.length (LLs os) ∧ ∀ x ∈ os, Rd w x.2.1 x.1.length (Rs x.1) := by
 refine ⟨?_, fun x hx => ?_⟩
 ·obtain ⟨A', c', hv, _, _, hr⟩ := Rd.of_own h.own
  injection hv with h1 _ _
  subst h1
  exact hr
 ·obtain ⟨A', c', hv, _, _, hr⟩ := Rd.of_own (h.into x hx)
  injection hv with h1 _ _
  subst h1
  exact hr
end
def FreshLL (w : World) (yss : List (List Int)) (e : Ending) (w' : World) : Prop :=
 ∃ (os : List LA) (A : Option Addr) (c : Nat), os.map (·.1) = yss ∧ e = .returned (.slice A yss.length c) ∧ ListsAt w.heap.size w' os A c ∧ Below w.heap.size w w'
theorem Rd.part {w : World} {b off n : Nat} {xs : List Int} (h : Rd w (some ⟨b, off, none⟩) n (Rs xs)) (hn : xs.length = n) (from_ k : Nat) (h1 : from_ ≤ k) (h2 : k ≤ n) : Rd w (some ⟨b, off + from_, none⟩) (k - from_) (Rs ((xs.take k).drop from_)) := by
 refine ⟨by simp; omega, fun h0 => ⟨b, off + from_, rfl, fun j u hu => ?_⟩⟩
 obtain ⟨b', off', e, hc⟩ := h.2 (by omega)
 injection e with e
 injection e with e1 e2
 subst e1 e2
 have hj : j < k - from_ := by
  have := (List.getElem?_eq_some_iff.1 hu).1
  simp at this
  omega
 rw [Nat.add_assoc]
 refine hc (from_ + j) u ?_
 rw [← hu]
 simp [Rs, List.getElem?_drop, List.getElem?_take]
 omega
structure RunI (B : BaseF) (xs : List Int) (k : Nat) (out : List (List Int)) (fr : Nat) : Prop where
 le : fr ≤ k
 zero : k = 0 → fr = 0 ∧ out = []
 run : 0 < k → fr < k ∧ B.runs (xs.take k) = out ++ [(xs.take k).drop fr]
section
variable {B : BaseF} {xs : List Int} {k fr : Nat} {out : List (List Int)}
theorem RunI.start (B : BaseF) (xs : List Int) : RunI B xs 0 [] 0 := ⟨Nat.le_refl _, fun _ => ⟨rfl, rfl⟩, fun h => absurd h (by omega)⟩
theorem take_last {y : Int} (hy : xs[k]? = some y) : (xs.take (k + 1)).drop k = [y] := by
 have hk := (List.getElem?_eq_some_iff.1 hy).1
 rw [List.take_add_one, hy, List.drop_append_of_le_length (by rw [List.length_take]; omega), List.drop_eq_nil_of_le (by rw [List.length_take]; omega)]
 rfl
theorem RunI.cut (h : RunI B xs k out fr) {y : Int} (hy : xs[k]? = some y) (hf : fr < k) (hc : B.cls y = 0) : RunI B xs (k + 1) (out ++ [(xs.take k).drop fr]) k := by
 refine ⟨by omega, fun e => by omega, fun _ => ⟨by omega, ?_⟩⟩
 rw [runs_take hy, (h.run (by omega)).2, runStep_open, if_pos hc, take_last hy]
theorem RunI.keep (h : RunI B xs k out fr) {y : Int} (hy : xs[k]? = some y) (hno : ¬ (fr < k ∧ B.cls y = 0)) : RunI B xs (k + 1) out fr := by
 have hk := (List.getElem?_eq_some_iff.1 hy).1
 refine ⟨by have := h.le; omega, fun e => by omega, fun _ => ⟨by have := h.le; omega, ?_⟩⟩
 rcases Nat.eq_zero_or_pos k with h0 | h0
 ·obtain ⟨rfl, rfl⟩ := h.zero h0
  subst h0
  rw [runs_take hy]
  have e1 : B.runs (xs.take 0) = [] := rfl
  have e2 := take_last hy
  rw [e1, runStep_nil, e2]
  rfl
 ·obtain ⟨h1, h2⟩ := h.run h0
  rw [runs_take hy, h2, runStep_open, if_neg (fun e => hno ⟨h1, e⟩), List.take_add_one, hy, List.drop_append_of_le_length (by rw [List.length_take]; omega)]
  rfl
theorem RunI.done (h : RunI B xs k out fr) (hk : k = xs.length) : B.runs xs = if fr < k then out ++ [xs.drop fr] else out := by
 rcases Nat.eq_zero_or_pos k with h0 | h0
 ·obtain ⟨rfl, rfl⟩ := h.zero h0
  have : xs = [] := List.eq_nil_of_length_eq_zero (by omega)
  subst this
  rw [if_neg (by omega)]
  rfl
 ·obtain ⟨h1, h2⟩ := h.run h0
  rw [if_pos h1]
  rw [List.take_of_length_le (by omega)] at h2
  exact h2
end
end Go.Proofs.YtajkjaciooijjaaGreatDoor
end

section
set_option linter.unusedSimpArgs false
set_option linter.unusedVariables false
namespace Go.Proofs.YtajkjaciooijjaaGreatDoor
open Go.RowKit
structure RunsAt (B : Nat) (w : World) (os : List LA) (A : Option Addr) (c : Nat) : Prop where
 l : ListsAt B w os A c
 apart : os.Pairwise fun x y => ∀ g, (laV x).ownBlock = some g → (laV y).ownBlock ≠ some g
section
variable {w w' : World} {B : Nat} {os : List LA} {A : Option Addr} {c : Nat}
theorem RunsAt.nil (B : Nat) (w : World) : RunsAt B w [] none 0 := ⟨.nil B w, .nil⟩
theorem RunsAt.below (h : RunsAt B w os A c) (hb : Below w.heap.size w w') : RunsAt B w' os A c := ⟨h.l.below hb, h.apart⟩
theorem RunsAt.app {w0 : World} {x : LA} {A' : Option Addr} {c' : Nat} (h : RunsAt B w0 os A c) (hb : Below w0.heap.size w0 w) (hx : w.ownsRow B 21 1 (laV x) x.1.length (Rs x.1)) (hxb : ∀ g, (laV x).ownBlock = some g → w0.heap.size ≤ g)
  (hown : w'.ownsRow B 30 1 (.slice A' (os.length + 1) c') (os.length + 1) (LLs os ++ [laV x])) (hg : w.grownBy w' (Value.slice A os.length c).ownBlock) : RunsAt B w' (os ++ [x]) A' c' := by
 refine ⟨(h.l.below hb).app hx hown hg, List.pairwise_append.2 ⟨h.apart, List.pairwise_singleton _ _, fun a ha y hy g hga e => ?_⟩⟩
 rw [List.mem_singleton] at hy
 subst hy
 have h1 := own_block_lt (h.l.into a ha) g hga
 have h2 := hxb g e
 omega
theorem own_cellOther {B1 B2 n1 n2 c2 g j : Nat} {e1 e2 : TypeId} {v1 u : Value} {xs1 xs2 : List Value} (h : w.ownsRow B1 e1 1 v1 n1 xs1) (h2 : w.ownsRow B2 e2 1 (.slice (some ⟨g, 0, none⟩) n2 c2) n2 xs2) (hne : e1 ≠ e2) : (w.setCell ⟨g, j, none⟩ u).ownsRow B1 e1 1 v1 n1 xs1 := by
 refine own_blk h fun k hk => Below.heap_setCell w ⟨g, j, none⟩ u k ?_
 intro e
 have e : k = g := e
 subst e
 rcases h.2 with ⟨rfl, _⟩ | ⟨g1, cap, cur, rfl, _, hh, _⟩
 ·cases hk
 ·injection hk with hk
  simp only [] at hk
  subst hk
  rcases h2.2 with ⟨hv, _⟩ | ⟨g2, cap2, cur2, hv, _, hh2, _⟩
  ·injection hv with hv; cases hv
  ·injection hv with hv
   injection hv with hv
   injection hv with hv
   subst hv
   rw [hh] at hh2
   injection hh2 with hh2
   injection hh2 with _ hh2 _
   exact hne hh2
theorem own_setAt {n g j : Nat} {e : TypeId} {xs : List Value} (h : w.ownsRow B e 1 (.slice (some ⟨g, 0, none⟩) n c) n xs) (hj : j < n) (v : Value) : (w.setCell ⟨g, j, none⟩ v).ownsRow B e 1 (.slice (some ⟨g, 0, none⟩) n c) n (xs.set j v) := by
 refine ⟨by rw [List.length_set]; exact h.1, ?_⟩
 rcases h.2 with ⟨hh, _⟩ | ⟨g', cap, cur, hv, hB, hh, hn, hm, hs, ht⟩
 ·simp at hh
 ·simp only [Value.slice.injEq, Option.some.injEq, Addr.mk.injEq, and_true, true_and] at hv
  obtain ⟨rfl, rfl⟩ := hv
  refine .inr ⟨g, c, cur.setIfInBounds j v, rfl, hB, cells_put hh j v, hn, hm, by rw [Array.size_setIfInBounds]; exact hs, ?_⟩
  rw [← ht, Array.toList_setIfInBounds, List.take_set]
theorem RunsAt.grow {w2 w1 : World} {init : List LA} {x : LA} {g : Nat} {A' : Option Addr} {c' : Nat} {y : Int} (h : RunsAt B w (init ++ [x]) (some ⟨g, 0, none⟩) c) (hb : Below w.heap.size w w1)
  (hown : w2.ownsRow B 21 1 (.slice A' (x.1.length + 1) c') (x.1.length + 1) (Rs x.1 ++ [.int .i32 y])) (hg : w1.grownBy w2 (laV x).ownBlock)
  (hat : (Value.slice A' (x.1.length + 1) c').ownBlock = (laV x).ownBlock ∨ (Value.slice A' (x.1.length + 1) c').ownBlock = some w1.heap.size) :
  RunsAt B (w2.setCell ⟨g, init.length, none⟩ (.slice A' (x.1.length + 1) c')) (init ++ [(x.1 ++ [y], A', c')]) (some ⟨g, 0, none⟩) c := by
 have h1 := h.below hb
 have hxm : x ∈ init ++ [x] := by simp
 have hx1 := h1.l.into x hxm
 have hout2 := into_kept h1.l.own hx1 (Ne.symm list_ne) hg
 have hl : (init ++ [(x.1 ++ [y], A', c')]).length = (init ++ [x]).length := by simp
 have hV : laV (x.1 ++ [y], A', c') = .slice A' (x.1.length + 1) c' := by simp [laV]
 have hap := List.pairwise_append.1 h.apart
 refine ⟨⟨?_, fun z hz => ?_⟩, ?_⟩
 ·rw [hl]
  have := own_setAt (j := init.length) hout2 (by simp) (.slice A' (x.1.length + 1) c')
  have e : (LLs (init ++ [x])).set init.length (.slice A' (x.1.length + 1) c') = LLs (init ++ [(x.1 ++ [y], A', c')]) := by
   rw [LLs, LLs, List.map_append, List.map_append, List.set_append_right _ _ (by simp)]
   simp
  rw [e] at this
  exact this
 ·rcases List.mem_append.1 hz with hz | hz
  ·have hz1 := h1.l.into z (by simp [hz])
   refine own_cellOther (own_grown hz1 hg fun k hk e => ?_) hout2 list_ne
   exact hap.2.2 z hz x (by simp) k hk e
  ·rw [List.mem_singleton] at hz
   subst hz
   refine own_cellOther ?_ hout2 list_ne
   have e : Rs (x.1 ++ [y]) = Rs x.1 ++ [.int .i32 y] := by simp [Rs]
   have e2 : (x.1 ++ [y]).length = x.1.length + 1 := by simp
   rw [hV]
   show w2.ownsRow B 21 1 _ (x.1 ++ [y]).length (Rs (x.1 ++ [y]))
   rw [e, e2]
   exact hown
 ·refine List.pairwise_append.2 ⟨hap.1, List.pairwise_singleton _ _, fun a ha z hz k hk => ?_⟩
  rw [List.mem_singleton] at hz
  subst hz
  rw [hV]
  rcases hat with e | e
  ·rw [e]
   exact hap.2.2 a ha x (by simp) k hk
  ·rw [e]
   intro e2
   injection e2 with e2
   have h2 := own_block_lt (h1.l.into a (by simp [ha])) k hk
   omega
end
theorem own_len {w : World} {B m : Nat} {q : List Int} {A : Option Addr} {c : Nat} (e : m = q.length) (h : w.ownsRow B 21 1 (.slice A m c) m (Rs q)) : w.ownsRow B 21 1 (laV (q, A, c)) (q, A, c).1.length (Rs (q, A, c).1) := by subst e; exact h
theorem own_one (w : World) (e : TypeId) (u : Value) (B : Nat) (hB : B ≤ w.heap.size) : (w.alloc (.cells #[u] e)).ownsRow B e 1 (.slice (some ⟨w.heap.size, 0, none⟩) 1 1) 1 [u] :=
 ⟨rfl, .inr ⟨w.heap.size, 1, #[u], rfl, hB, box_new _ _ _, Nat.le_refl _, by unfold maxLen; omega, rfl, rfl⟩⟩
section
variable {w w1 w5 : World} {B g c n k m : Nat} {os : List LA} {x : LA}
theorem runs_blk (h : RunsAt B w os (some ⟨g, 0, none⟩) c) : B ≤ g ∧ ∃ cur, w.heap[g]? = some (.cells cur 30 (0, 0)) := by
 rcases h.l.own.2 with ⟨hv, _⟩ | ⟨g', cap, cur, hv, hB, hh, _⟩
 ·injection hv with hv; cases hv
 ·injection hv with hv
  injection hv with hv
  injection hv with hv
  subst hv
  exact ⟨hB, cur, hh⟩
theorem runs_ge (h : RunsAt B w os (some ⟨g, 0, none⟩) c) : B ≤ g := (runs_blk h).1
theorem runs_other (h : RunsAt B w (os ++ [x]) (some ⟨g, 0, none⟩) c) (hb : Below w.heap.size w w1) : (laV x).ownBlock ≠ some g := by
 intro e
 obtain ⟨_, cur, hh⟩ := runs_blk h
 rcases (h.l.into x (by simp)).2 with ⟨hv, _⟩ | ⟨g', cap, cur2, hv, _, hh2, _⟩
 ·rw [hv] at e; cases e
 ·rw [hv] at e
  injection e with e
  simp only [] at e
  subst e
  rw [hh] at hh2
  injection hh2 with hh2
  injection hh2 with _ hh2 _
  exact list_ne hh2.symm
theorem runs_base {b : Nat} (h : RunsAt B w (os ++ [x]) (some ⟨g, 0, none⟩) c) (hb : b < B) : (laV x).ownBlock ≠ some b := by
 intro e
 rcases (h.l.into x (by simp)).2 with ⟨hv, _⟩ | ⟨g', cap, cur2, hv, hB, hh2, _⟩
 ·rw [hv] at e; cases e
 ·rw [hv] at e
  injection e with e
  simp only [] at e
  omega
theorem runs_neg {b : Nat} (h : RunsAt B w os (some ⟨g, 0, none⟩) c) (hb : b < B) : g ≠ b := by
 have := runs_ge h
 omega
theorem runs_froz (h : RunsAt B w (os ++ [x]) (some ⟨g, 0, none⟩) c) (hb : Below w.heap.size w w1) (hg : w1.grownBy w5 (laV x).ownBlock) : w5.frozen? ⟨g, m, none⟩ = false := by
 obtain ⟨_, cur, hh⟩ := runs_blk h
 have hl := (Array.getElem?_eq_some_iff.1 hh).1
 have h1 := (hb.block g hl).trans hh
 exact box_frozen ((hg.block g (Array.getElem?_eq_some_iff.1 h1).1 (fun e => runs_other h hb e.symm)).trans h1) m
theorem runs_set {b j : Nat} {u v z : Value} (h : w.cell? ⟨g, m, none⟩ = some u ∧ w.cell? ⟨b, j, none⟩ = some z) (hne : g ≠ b) : (w.setCell ⟨g, m, none⟩ v).cell? ⟨b, j, none⟩ = some z :=
 (World.cell?_setCell_other _ _ _ _ (by intro e; injection e with e; exact hne e)).trans h.2
end
end Go.Proofs.YtajkjaciooijjaaGreatDoor
end

section
set_option linter.unusedSimpArgs false
set_option linter.unusedVariables false
namespace Go.Proofs.YtajkjaciooijjaaGreatDoor
open Go.RowKit
section
variable {w : World} {p : Option Addr} {B : BaseF}
set_option maxRecDepth 20000 in
set_option maxHeartbeats 4000000 in
theorem runs_any (hB : BaseIs w (.pointer p) B) (A : Option Addr) (n cp : Nat) (xs : List Int) (hrd : Rd w A n (Rs xs)) (hn : xs.length = n) (hcp : n ≤ cp) (hx : ∀ x ∈ xs, R32 x) (hn2 : n ≤ 1000000) :
  Calls Tryz.prog 15 #[.pointer p, .slice A n cp] w (FreshLL w (B.runs xs)) := by
 have HN := Lib.hid hn
 have HX := Lib.hid hx
 have HB := Lib.hid hB
 have HRD := Lib.hid hrd
 clear hrd hn hx hB
 go_enter Tryz.func15, Tryz.ntmps15
 go_wp2
 go_loopw [5, 6, 11] (fun s5 s6 i wr => ∃ (k fr L : Nat) (out : List (List Int)) (os : List LA) (A9 : Option Addr) (c9 : Nat), k ≤ n ∧ fr ≤ k ∧ L ≤ k ∧ i = .int .i64 k ∧ s6 = .int .i64 fr ∧ s5 = .slice A9 L c9 ∧ Hid (L = os.length) ∧ Hid (os.map (·.1) = out) ∧ Hid (RunI B xs k out fr) ∧ Hid (ListsAt w.heap.size wr os A9 c9) ∧ Hid (Below w.heap.size w wr)) (fun _ _ i _ => n - (intOf i).toNat)
 case atStart => exact ⟨0, 0, 0, [], [], none, 0, Nat.zero_le _, Nat.le_refl _, Nat.le_refl _, rfl, rfl, rfl, rfl, rfl, RunI.start B xs, ListsAt.nil _ _, Below.refl _ _⟩
 case round =>
  obtain ⟨k, fr, L, out, os, A9, c9, hk, hfk, hLk, rfl, rfl, rfl, HLL, HO, HI, HL, HBW⟩ := hrel
  by_cases hlt : k < n
  ·obtain ⟨y, hy⟩ : ∃ y, xs[k]? = some y := ⟨_, List.getElem?_eq_getElem (by rw [HN.out]; exact hlt)⟩
   obtain ⟨b, off, rfl, _, hcx⟩ := (HRD.out.below HBW.out).at_ (by omega)
   have c0 := hcx k (.int .i32 y) (by simp [Rs, hy])
   have hki : (k : Int) < (n : Int) := by omega
   have HY := Lib.hid hy
   by_cases hf : fr < k
   ·have hfi : (fr : Int) < (k : Int) := by omega
    have C1 := class_is (HB.out.below HBW.out) y (HX.out y (List.mem_of_getElem? hy))
    obtain ⟨cl, hcl⟩ : ∃ cl, cl = B.cls y := ⟨_, rfl⟩
    rw [← hcl] at C1
    have HCL := Lib.hid hcl
    clear hy hcx hcl
    go_wp2_with fail
    refine C1.mono ?_
    rintro e w1 ⟨rfl, hb1⟩
    have hbW := below_then HBW.out hb1
    have HL1 := Lib.hid (HL.out.below hb1)
    clear C1 c0
    by_cases h0 : cl = 0
    ·subst h0
     have CL := rclone_any (some ⟨b, off + fr, none⟩) (k - fr) (cp - fr) ((xs.take k).drop fr) w1 (Rd.part (HRD.out.below hbW) HN.out fr k (by omega) (by omega)) (fun e => by cases e) (by omega)
     have hne : ¬ cp = fr := by omega
     have hfc : (k : Int) ≤ (cp : Int) := by omega
     have hfl : (fr : Int) ≤ (k : Int) := by omega
     obtain ⟨q, hq⟩ : ∃ q, q = (xs.take k).drop fr := ⟨_, rfl⟩
     rw [← hq] at CL
     have hql : k - fr = q.length := by rw [hq, List.length_drop, List.length_take]; have := HN.out; omega
     have HQ := Lib.hid hq
     have HQL := Lib.hid hql
     have HBX := Lib.hid hbW
     clear hq hql hbW hb1
     go_wp2_with fail
     refine CL.mono ?_
     rintro e w2 ⟨A2, c2, rfl, hown2, hb2⟩
     have hb2a : Below w2.heap.size w2 (w2.alloc (.cells #[.slice A2 (k - fr) c2] 30)) := (Below.refl _ _).alloc (Nat.le_refl _) _
     have HL3 := Lib.hid ((HL1.out.below hb2).below hb2a)
     have hbW := below_then (below_then HBX.out hb2) hb2a
     have hbs := hbW.size
     have hownD := HL3.out.own
     rw [← HLL.out] at hownD
     have hx2 := own_below (own_base hown2 HBX.out.size) hb2a
     have HX2 := Lib.hid hx2
     clear CL hown2 hb2 hb2a hx2
     go_wp2_with (at_builtin; refine wpList_app listElem _ rfl _ _ rfl w.heap.size rfl hownD rfl (Rd.new1 _ _ _) (one_of rfl) (by omega) (by omega) hbs ?_)
     intro A4 c4 w4 hown4 hg4 hat4
     have HB4 := Lib.hid (below_app hbW hbs hownD hg4)
     have HL4 : Hid (ListsAt w.heap.size w4 (os ++ [(q, A2, c2)]) A4 c4) := by
      have h1 := own_len HQL.out HX2.out
      rw [HQL.out] at hown4
      rw [HLL.out] at hown4 hg4
      exact HL3.out.app (x := (q, A2, c2)) h1 hown4 hg4
     have HO4 : Hid ((os ++ [(q, A2, c2)]).map (·.1) = out ++ [(xs.take k).drop fr]) := by show _ = _; rw [List.map_append, HO.out, ← HQ.out]; rfl
     have HLN : Hid (L + 1 = (os ++ [(q, A2, c2)]).length) := by show _ = _; rw [List.length_append, HLL.out]; rfl
     have HI4 := Lib.hid (HI.out.cut HY.out hf HCL.out.symm)
     clear hown4 hg4 hat4 hownD hbW hbs
     go_wp2
     go_roundw
     case rel => exact ⟨k + 1, k, L + 1, _, _, A4, c4, by omega, by omega, by omega, by go_num, rfl, rfl, HLN, HO4, HI4, HL4, HB4⟩
     case measure => simp [intOf]; omega
    ·have hcb : (cl == 0) = false := by simpa using h0
     have HI4 := Lib.hid (HI.out.keep HY.out (fun e => h0 (HCL.out.trans e.2)))
     have HBX := Lib.hid hbW
     clear hbW hb1 h0
     go_wp2
     go_roundw
     case rel => exact ⟨k + 1, fr, L, _, _, A9, c9, by omega, by omega, by omega, by go_num, rfl, rfl, HLL, HO, HI4, HL1, HBX⟩
     case measure => simp [intOf]; omega
   ·have hfi : ¬ (fr : Int) < (k : Int) := by omega
    have HI4 := Lib.hid (HI.out.keep hy (fun e => hf e.1))
    clear hy hcx
    go_wp2
    go_roundw
    case rel => exact ⟨k + 1, fr, L, _, _, A9, c9, by omega, by omega, by omega, by go_num, rfl, rfl, HLL, HO, HI4, HL, HBW⟩
    case measure => simp [intOf]; omega
  ·obtain rfl : k = n := by omega
   have hki : (k : Int) ≤ (k : Int) := Int.le_refl _
   have HE := Lib.hid (HI.out.done HN.out.symm)
   by_cases hf : fr < k
   ·have hfi : (fr : Int) < (k : Int) := by omega
    obtain ⟨b, off, rfl, _, _⟩ := (HRD.out.below HBW.out).at_ (by omega)
    have hR := Rd.part (HRD.out.below HBW.out) HN.out fr k (by omega) (Nat.le_refl _)
    rw [List.take_of_length_le (by rw [HN.out]; exact Nat.le_refl _)] at hR
    have CL := rclone_any (some ⟨b, off + fr, none⟩) (k - fr) (cp - fr) (xs.drop fr) wr hR (fun e => by cases e) (by omega)
    have hne : ¬ cp = fr := by omega
    have hfl : (fr : Int) ≤ (k : Int) := by omega
    obtain ⟨q, hq⟩ : ∃ q, q = xs.drop fr := ⟨_, rfl⟩
    rw [← hq] at CL
    have hql : k - fr = q.length := by rw [hq, List.length_drop]; have := HN.out; omega
    have HE2 : Hid (B.runs xs = out ++ [q]) := by show _ = _; rw [HE.out, if_pos hf, hq]
    have HQL := Lib.hid hql
    clear hq hql hR
    go_wp2_with fail
    refine CL.mono ?_
    rintro e w2 ⟨A2, c2, rfl, hown2, hb2⟩
    have hb2a : Below w2.heap.size w2 (w2.alloc (.cells #[.slice A2 (k - fr) c2] 30)) := (Below.refl _ _).alloc (Nat.le_refl _) _
    have HL3 := Lib.hid ((HL.out.below hb2).below hb2a)
    have hbW := below_then (below_then HBW.out hb2) hb2a
    have hbs := hbW.size
    have hownD := HL3.out.own
    rw [← HLL.out] at hownD
    have HX2 := Lib.hid (own_below (own_base hown2 HBW.out.size) hb2a)
    clear CL hown2 hb2 hb2a
    go_wp2_with (at_builtin; refine wpList_app listElem _ rfl _ _ rfl w.heap.size rfl hownD rfl (Rd.new1 _ _ _) (one_of rfl) (by omega) (by omega) hbs ?_)
    intro A4 c4 w4 hown4 hg4 hat4
    have hb4 := below_app hbW hbs hownD hg4
    have HF : Hid (FreshLL w (B.runs xs) (.returned (.slice A4 (L + 1 : Nat) c4)) w4) := by
     have h1 := own_len HQL.out HX2.out
     rw [HQL.out] at hown4
     rw [HLL.out] at hown4 hg4
     refine ⟨os ++ [(q, A2, c2)], A4, c4, by rw [List.map_append, HO.out, HE2.out]; rfl, ?_, HL3.out.app (x := (q, A2, c2)) h1 hown4 hg4, hb4⟩
     rw [HE2.out, HLL.out, List.length_append, ← HO.out, List.length_map]
     rfl
    clear hown4 hg4 hat4 hownD hbW hbs hb4
    go_wp2
    go_returns
    exact HF.out
   ·have hfi : ¬ (fr : Int) < (k : Int) := by omega
    have HF : Hid (FreshLL w (B.runs xs) (.returned (.slice A9 L c9)) wr) := by
     rw [if_neg hf] at HE
     refine ⟨os, A9, c9, by rw [HO.out, HE.out], ?_, HL.out, HBW.out⟩
     rw [HE.out, HLL.out, ← HO.out, List.length_map]
    go_wp2
    go_returns
    exact HF.out
end
section
variable {w : World} {pv : Value} {B : BaseF}
set_option maxRecDepth 20000 in
set_option maxHeartbeats 4000000 in
theorem rruns_any (hR : RefIs w pv B) (A : Option Addr) (n cp : Nat) (xs : List Int) (hrd : Rd w A n (Rs xs)) (hn : xs.length = n) (hn2 : n ≤ 1000000) :
  Calls Tryz.prog 21 #[pv, .slice A n cp] w (FreshLL w (B.runs xs)) := by
 have HN := Lib.hid hn
 have HR := Lib.hid hR
 have HRD := Lib.hid hrd
 clear hrd hn hR
 go_enter Tryz.func21, Tryz.ntmps21
 go_wp2
 go_loopw [5, 6] (fun s5 i wr => ∃ (k L : Nat) (os : List LA) (A9 : Option Addr) (c9 : Nat), k ≤ n ∧ L ≤ k ∧ i = .int .i64 k ∧ s5 = .slice A9 L c9 ∧ Hid (L = os.length) ∧ Hid (os.map (·.1) = B.runs (xs.take k)) ∧ Hid (RunsAt w.heap.size wr os A9 c9) ∧ Hid (Below w.heap.size w wr)) (fun _ i _ => n - (intOf i).toNat)
 case atStart => exact ⟨0, 0, [], none, 0, Nat.zero_le _, Nat.le_refl _, rfl, rfl, rfl, rfl, RunsAt.nil _ _, Below.refl _ _⟩
 case round =>
  obtain ⟨k, L, os, A9, c9, hk, hLk, rfl, rfl, HLL, HO, HL, HBW⟩ := hrel
  by_cases hlt : k < n
  ·obtain ⟨y, hy⟩ : ∃ y, xs[k]? = some y := ⟨_, List.getElem?_eq_getElem (by rw [HN.out]; exact hlt)⟩
   have hrdw := HRD.out.below HBW.out
   obtain ⟨b, off, rfl, hbl, hcx⟩ := HRD.out.at_ (by omega)
   have c00 := hcx k (.int .i32 y) (by simp [Rs, hy])
   have c0 : wr.cell? ⟨b, off + k, none⟩ = some (.int .i32 y) := (HBW.out.cell (p := ⟨b, off + k, none⟩) hbl).trans c00
   have hki : (k : Int) < (n : Int) := by omega
   have HNX := Lib.hid (runs_take (B := B) hy)
   have HBL := Lib.hid hbl
   have NEW : Hid (∀ W2 : World, W2 = (wr.alloc (.cells #[.int .i32 y] 21)).alloc (.cells #[.slice (some ⟨wr.heap.size, 0, none⟩) 1 1] 30) → Below wr.heap.size wr W2 ∧ W2.ownsRow w.heap.size 30 1 (.slice A9 L c9) L (LLs os) ∧
     ∀ A4 c4 w4, w4.ownsRow w.heap.size 30 1 (.slice A4 (L + 1) c4) (L + 1) (LLs os ++ [.slice (some ⟨wr.heap.size, 0, none⟩) 1 1]) → W2.grownBy w4 (Value.slice A9 L c9).ownBlock → RunsAt w.heap.size w4 (os ++ [([y], some ⟨wr.heap.size, 0, none⟩, 1)]) A4 c4) := by
    intro W2 hW2
    have h1 : Below wr.heap.size wr (wr.alloc (.cells #[.int .i32 y] 21)) := (Below.refl _ _).alloc (Nat.le_refl _) _
    have h2 : Below (wr.alloc (.cells #[.int .i32 y] 21)).heap.size (wr.alloc (.cells #[.int .i32 y] 21)) W2 := by rw [hW2]; exact (Below.refl _ _).alloc (Nat.le_refl _) _
    have h3 := below_then h1 h2
    have h4 := (HL.out.below h3).l.own
    rw [← HLL.out] at h4
    refine ⟨h3, h4, fun A4 c4 w4 hown4 hg4 => ?_⟩
    rw [HLL.out] at hown4 hg4
    refine HL.out.app (x := ([y], some ⟨wr.heap.size, 0, none⟩, 1)) h3 (own_below (own_one wr 21 (.int .i32 y) w.heap.size HBW.out.size) h2) (fun g hg => ?_) hown4 hg4
    injection hg with hg
    rw [← hg]
    exact Nat.le_refl _
   obtain ⟨W2, hW2⟩ : ∃ W2, (wr.alloc (.cells #[.int .i32 y] 21)).alloc (.cells #[.slice (some ⟨wr.heap.size, 0, none⟩) 1 1] 30) = W2 := ⟨_, rfl⟩
   obtain ⟨hb2, hown2, HN2⟩ := NEW.out W2 hW2.symm
   have HRD2 : Rd W2 (some ⟨wr.heap.size + 1, 0, none⟩) 1 [.slice (some ⟨wr.heap.size, 0, none⟩) 1 1] := by rw [← hW2]; exact Rd.newAt _ _ _ (by simp)
   have HNW := Lib.hid HN2
   have hbW2 := below_then HBW.out hb2
   have hbs2 := hbW2.size
   clear NEW HN2 hcx hrdw c00 hbl
   rcases Nat.eq_zero_or_pos L with h0 | h0
   ·subst h0
    have HNR : Hid (B.runs (xs.take (k + 1)) = B.runs (xs.take k) ++ [[y]]) := by
     show _ = _
     have h1 : os = [] := List.eq_nil_of_length_eq_zero HLL.out.symm
     have h2 := HO.out
     rw [h1] at h2
     rw [HNX.out, ← h2]
     exact runStep_nil y
    clear hy
    go_wp2_with (at_builtin; (try rw [hW2]); refine wpList_app listElem _ rfl _ _ rfl w.heap.size rfl hown2 rfl HRD2 (one_of rfl) (by omega) (by omega) hbs2 ?_)
    intro A4 c4 w4 hown4 hg4 hat4
    have HB4 := Lib.hid (below_app hbW2 hbs2 hown2 hg4)
    have HL4 := Lib.hid (HNW.out A4 c4 w4 hown4 hg4)
    have HO4 : Hid ((os ++ [(([y], some ⟨wr.heap.size, 0, none⟩, 1) : LA)]).map (·.1) = B.runs (xs.take (k + 1))) := by show _ = _; rw [List.map_append, HO.out, HNR.out]; rfl
    have HLN : Hid (0 + 1 = (os ++ [(([y], some ⟨wr.heap.size, 0, none⟩, 1) : LA)]).length) := by show _ = _; rw [List.length_append, ← HLL.out]; rfl
    clear hown4 hg4 hat4 hown2 hW2 hb2 HRD2 HNW hbW2 hbs2
    go_wp2
    go_roundw
    case rel => exact ⟨k + 1, 0 + 1, _, A4, c4, by omega, by omega, by go_num, rfl, HLN, HO4, HL4, HB4⟩
    case measure => simp [intOf]; omega
   ·have hz : ((L : Int) == 0) = false := by rw [beq_eq_false_iff_ne]; omega
    have C1 := rclass_is (HR.out.below HBW.out) y
    obtain ⟨cl, hcl⟩ : ∃ cl, cl = B.cls y := ⟨_, rfl⟩
    rw [← hcl] at C1
    have HCL := Lib.hid hcl
    obtain ⟨init, x, hos⟩ : ∃ init x, os = init ++ [x] := by
     rcases List.eq_nil_or_concat os with h | ⟨i, x, h⟩
     ·have := HLL.out; rw [h] at this; simp at this; omega
     ·exact ⟨i, x, by rw [h, List.concat_eq_append]⟩
    have hrs : B.runs (xs.take k) = init.map (·.1) ++ [x.1] := by rw [← HO.out, hos]; simp
    have HRS := Lib.hid hrs
    have HOS := Lib.hid hos
    clear hy hcl hrs
    go_wp2_with fail
    refine C1.mono ?_
    rintro e w1 ⟨rfl, rfl⟩
    clear C1
    by_cases hc : cl = 0
    ·subst hc
     have HNR : Hid (B.runs (xs.take (k + 1)) = B.runs (xs.take k) ++ [[y]]) := by
      show _ = _
      rw [HNX.out, HRS.out, runStep_open, if_pos HCL.out.symm]
     clear hos
     go_wp2_with (at_builtin; (try rw [hW2]); refine wpList_app listElem _ rfl _ _ rfl w.heap.size rfl hown2 rfl HRD2 (one_of rfl) (by omega) (by omega) hbs2 ?_)
     intro A4 c4 w4 hown4 hg4 hat4
     have HB4 := Lib.hid (below_app hbW2 hbs2 hown2 hg4)
     have HL4 := Lib.hid (HNW.out A4 c4 w4 hown4 hg4)
     have HO4 : Hid ((os ++ [(([y], some ⟨wr.heap.size, 0, none⟩, 1) : LA)]).map (·.1) = B.runs (xs.take (k + 1))) := by show _ = _; rw [List.map_append, HO.out, HNR.out]; rfl
     have HLN : Hid (L + 1 = (os ++ [(([y], some ⟨wr.heap.size, 0, none⟩, 1) : LA)]).length) := by show _ = _; rw [List.length_append, ← HLL.out]; rfl
     clear hown4 hg4 hat4 hown2 hW2 hb2 HRD2 HNW hbW2 hbs2
     go_wp2
     go_roundw
     case rel => exact ⟨k + 1, L + 1, _, A4, c4, by omega, by omega, by go_num, rfl, HLN, HO4, HL4, HB4⟩
     case measure => simp [intOf]; omega
    ·have hcb : (cl == 0) = false := by simpa using hc
     have HNR : Hid (B.runs (xs.take (k + 1)) = init.map (·.1) ++ [x.1 ++ [y]]) := by
      show _ = _
      rw [HNX.out, HRS.out, runStep_open, if_neg (fun e => hc (HCL.out.trans e))]
     have hxk : x.1.length ≤ k := by
      have h1 := (runs_ok (B := B) (xs.take k)).flat
      rw [HRS.out] at h1
      have h2 := congrArg List.length h1
      simp at h2
      omega
     obtain ⟨q, Ax, cx⟩ := x
     clear hW2 hb2 hown2 HRD2 HNW hbW2 hbs2
     subst hos
     have hLm : L = init.length + 1 := by rw [HLL.out]; simp
     obtain ⟨m, hm⟩ : ∃ m, m = init.length := ⟨_, rfl⟩
     have hj : (L : Int) - 1 = (m : Int) := by omega
     have hwm : IntKind.i64.wrap (m : Int) = (m : Int) := IntWalk.i64_in _ (by omega)
     have hmL : (m : Int) < (L : Int) := by omega
     have HM := Lib.hid hm
     have HML : Hid (m < L) := by show _ < _; omega
     obtain ⟨g, hgA, hcg⟩ : ∃ g, A9 = some ⟨g, 0, none⟩ ∧ wr.cell? ⟨g, m, none⟩ = some (.slice Ax q.length cx) := by
      obtain ⟨g, hg⟩ := own_addr HL.out.l.own (own_some HL.out.l.own (by simp; rfl))
      refine ⟨g, hg, ?_⟩
      obtain ⟨h1, _⟩ := HL.out.l.rd
      obtain ⟨b', o', e, hc'⟩ := h1.2 (by simp)
      rw [hg] at e
      injection e with e
      injection e with e1 e2
      subst e1 e2
      have := hc' m (.slice Ax q.length cx) (by rw [hm]; simp [LLs, laV])
      rwa [Nat.zero_add] at this
     subst hgA
     have hfg : wr.frozen? ⟨g, m, none⟩ = false := by
      obtain ⟨cur, hcur⟩ : ∃ cur, wr.heap[g]? = some (.cells cur 30 (0, 0)) := by
       rcases HL.out.l.own.2 with ⟨hv, _⟩ | ⟨g', cap, cur, hv, _, hh, _⟩
       ·injection hv with hv; cases hv
       ·injection hv with hv
        injection hv with hv
        injection hv with hv
        subst hv
        exact ⟨cur, hh⟩
      exact box_frozen hcur m
     have HFG := Lib.hid hfg
     have HCG := Lib.hid hcg
     have HC0 := Lib.hid c0
     have HS0 : Hid (wr.drew.cell? ⟨g, m, none⟩ = some (.slice Ax q.length cx) ∧ wr.drew.cell? ⟨b, off + k, none⟩ = some (.int .i32 y)) := ⟨hcg, c0⟩
     obtain ⟨W1, hW1⟩ : ∃ W1, W1 = (wr.alloc (.cells #[.int .i32 y] 21)).drew := ⟨_, rfl⟩
     have hbw1 : Below wr.heap.size wr W1 := by rw [hW1]; exact below_then ((Below.refl _ _).alloc (Nat.le_refl _) _) (Drew.to ⟨1, rfl⟩)
     have HBW1 := Lib.hid hbw1
     have HS1 : Hid (W1.cell? ⟨g, m, none⟩ = some (.slice Ax q.length cx) ∧ W1.cell? ⟨b, off + k, none⟩ = some (.int .i32 y)) := ⟨(hbw1.cell (p := ⟨g, m, none⟩) (World.block_lt_of_cell? wr _ hcg)).trans hcg, (hbw1.cell (p := ⟨b, off + k, none⟩) (World.block_lt_of_cell? wr _ c0)).trans c0⟩
     have hxow : W1.ownsRow w.heap.size 21 1 (.slice Ax q.length cx) q.length (Rs q) := (HL.out.below hbw1).l.into (q, Ax, cx) (by simp)
     have HXO := Lib.hid hxow
     have hrd1 : Rd W1 (some ⟨wr.heap.size, 0, none⟩) 1 [.int .i32 y] := by rw [hW1]; exact (Rd.newAt _ _ _ rfl).drew
     have hbs1 : w.heap.size ≤ W1.heap.size := Nat.le_trans HBW.out.size hbw1.size
     have hcgd := HS0.out.1
     have hcg1 := HS1.out.1
     have HW1 := Lib.hid hW1
     clear hm hLm c0 hcg hfg hbw1 hc hxow hW1
     go_upto_region 8 with fail
     refine wp_region_held_drew (S := fun w' => w'.cell? ⟨b, off + k, none⟩ = some (.int .i32 y)) (by kernel_rfl) (HS0.out.2) (fun hH0 => ?_)
     refine wpAnyH_take (i := 0) (v := .slice (some ⟨g, 0, none⟩) L c9) rfl (by kernel_rfl) (by kernel_rfl) (by kernel_rfl) (fun _ _ _ h => h) (Or.inl ⟨by kernel_rfl, ?_⟩) hH0 ?_
     ·intro w hSw
      (try dsimp only at hSw)
      go_simp
      all_goals try with_reducible rfl
     try simp only [List.getElem_toArray, List.getElem_cons_succ, List.getElem_cons_zero, Act.put, List.setIfInBounds_toArray, List.set_cons_zero, List.set_cons_succ]
     refine wpAnyH_take (i := 1) (v := .int .i64 L) rfl (by kernel_rfl) (by kernel_rfl) (by kernel_rfl) (fun _ _ _ h => h) (Or.inl ⟨by kernel_rfl, ?_⟩) hH0 ?_
     ·intro w hSw
      (try dsimp only at hSw)
      go_simp
      all_goals try with_reducible rfl
     try simp only [List.getElem_toArray, List.getElem_cons_succ, List.getElem_cons_zero, Act.put, List.setIfInBounds_toArray, List.set_cons_zero, List.set_cons_succ]
     refine wpAnyH_take (i := 2) (v := .int .i64 m) rfl (by kernel_rfl) (by kernel_rfl) (by kernel_rfl) (fun _ _ _ h => h) (Or.inl ⟨by kernel_rfl, ?_⟩) hH0 ?_
     ·intro w hSw
      (try dsimp only at hSw)
      go_simp
      all_goals try with_reducible rfl
     try simp only [List.getElem_toArray, List.getElem_cons_succ, List.getElem_cons_zero, Act.put, List.setIfInBounds_toArray, List.set_cons_zero, List.set_cons_succ]
     refine wpAnyH_take (i := 3) (v := .slice (some ⟨g, 0, none⟩) L c9) rfl (by kernel_rfl) (by kernel_rfl) (by kernel_rfl) (fun _ _ _ h => h) (Or.inl ⟨by kernel_rfl, ?_⟩) hH0 ?_
     ·intro w hSw
      (try dsimp only at hSw)
      go_simp
      all_goals try with_reducible rfl
     try simp only [List.getElem_toArray, List.getElem_cons_succ, List.getElem_cons_zero, Act.put, List.setIfInBounds_toArray, List.set_cons_zero, List.set_cons_succ]
     refine wpAnyH_take (i := 4) (v := .int .i64 L) rfl (by kernel_rfl) (by kernel_rfl) (by kernel_rfl) (fun _ _ _ h => h) (Or.inl ⟨by kernel_rfl, ?_⟩) hH0 ?_
     ·intro w hSw
      (try dsimp only at hSw)
      go_simp
      all_goals try with_reducible rfl
     try simp only [List.getElem_toArray, List.getElem_cons_succ, List.getElem_cons_zero, Act.put, List.setIfInBounds_toArray, List.set_cons_zero, List.set_cons_succ]
     refine wpAnyH_take (i := 5) (v := .int .i64 m) rfl (by kernel_rfl) (by kernel_rfl) (by kernel_rfl) (fun _ _ _ h => h) (Or.inl ⟨by kernel_rfl, ?_⟩) hH0 ?_
     ·intro w hSw
      (try dsimp only at hSw)
      go_simp
      all_goals try with_reducible rfl
     try simp only [List.getElem_toArray, List.getElem_cons_succ, List.getElem_cons_zero, Act.put, List.setIfInBounds_toArray, List.set_cons_zero, List.set_cons_succ]
     refine wpAnyH_take (i := 6) (v := .pointer (some ⟨g, m, none⟩)) rfl (by kernel_rfl) (by kernel_rfl) (by kernel_rfl) (fun _ _ _ h => h) (Or.inl ⟨by kernel_rfl, ?_⟩) hH0 ?_
     ·intro w hSw
      (try dsimp only at hSw)
      go_simp
      all_goals try with_reducible rfl
     try simp only [List.getElem_toArray, List.getElem_cons_succ, List.getElem_cons_zero, Act.put, List.setIfInBounds_toArray, List.set_cons_zero, List.set_cons_succ]
     refine wpAnyH_take (i := 8) (v := .slice (some ⟨b, off, none⟩) n cp) rfl (by kernel_rfl) (by kernel_rfl) (by kernel_rfl) (fun _ _ _ h => h) (Or.inl ⟨by kernel_rfl, ?_⟩) hH0 ?_
     ·intro w hSw
      (try dsimp only at hSw)
      go_simp
      all_goals try with_reducible rfl
     try simp only [List.getElem_toArray, List.getElem_cons_succ, List.getElem_cons_zero, Act.put, List.setIfInBounds_toArray, List.set_cons_zero, List.set_cons_succ]
     refine wpAnyH_take (i := 9) (v := .int .i64 k) rfl (by kernel_rfl) (by kernel_rfl) (by kernel_rfl) (fun _ _ _ h => h) (Or.inl ⟨by kernel_rfl, ?_⟩) hH0 ?_
     ·intro w hSw
      (try dsimp only at hSw)
      go_simp
      all_goals try with_reducible rfl
     try simp only [List.getElem_toArray, List.getElem_cons_succ, List.getElem_cons_zero, Act.put, List.setIfInBounds_toArray, List.set_cons_zero, List.set_cons_succ]
     refine wpAnyH_take (i := 10) (v := .pointer (some ⟨b, off + k, none⟩)) rfl (by kernel_rfl) (by kernel_rfl) (by kernel_rfl) (fun _ _ _ h => h) (Or.inl ⟨by kernel_rfl, ?_⟩) hH0 ?_
     ·intro w hSw
      (try dsimp only at hSw)
      go_simp
      all_goals try with_reducible rfl
     try simp only [List.getElem_toArray, List.getElem_cons_succ, List.getElem_cons_zero, Act.put, List.setIfInBounds_toArray, List.set_cons_zero, List.set_cons_succ]
     refine wpAnyH_take (i := 11) (v := .int .i32 y) rfl (by kernel_rfl) (by kernel_rfl) (by kernel_rfl) (fun _ _ _ h => h) (Or.inl ⟨by kernel_rfl, ?_⟩) hH0 ?_
     ·intro w hSw
      (try dsimp only at hSw)
      go_simp
      all_goals try with_reducible rfl
     try simp only [List.getElem_toArray, List.getElem_cons_succ, List.getElem_cons_zero, Act.put, List.setIfInBounds_toArray, List.set_cons_zero, List.set_cons_succ]
     refine wpAnyH_ready (rs := [7, 12]) (by kernel_rfl) (by simp) ?_
     refine AllReadyH.cons rfl (fun K hK => ?_) (AllReadyH.cons rfl (fun K hK => ?_) AllReadyH.nil)
     ·go_simp
      refine hK.out _ _ (by first | exact HS0.out.2 | exact HS1.out.2) (fun hH1 => ?_)
      clear hK K hH0
      try simp only [List.getElem_toArray, List.getElem_cons_succ, List.getElem_cons_zero, Act.put, List.setIfInBounds_toArray, List.set_cons_zero, List.set_cons_succ]
      refine wpAnyH_ready (rs := [12]) (by kernel_rfl) (by simp) ?_
      refine AllReadyH.cons rfl (fun K hK => ?_) AllReadyH.nil
      go_simp
      rw [← HW1.out]
      refine hK.out _ _ (HS1.out.2) (fun hH2 => ?_)
      clear hK K hH1
      try simp only [List.getElem_toArray, List.getElem_cons_succ, List.getElem_cons_zero, Act.put, List.setIfInBounds_toArray, List.set_cons_zero, List.set_cons_succ]
      refine wpAnyH_ready (rs := [13]) (by kernel_rfl) (by simp) ?_
      refine AllReadyH.cons rfl (fun K hK => ?_) AllReadyH.nil
      refine step_app runeElem _ rfl (.tmp 42) (.tmp 47) rfl w.heap.size rfl HXO.out rfl hrd1 (one_of rfl) (by omega) (by omega) hbs1 ?_
      intro A5 c5 w5 hown5 hg5 hat5
      have hS5 : w5.cell? ⟨g, m, none⟩ = some (.slice Ax q.length cx) ∧ w5.cell? ⟨b, off + k, none⟩ = some (.int .i32 y) := ⟨(hg5.cell HS1.out.1 (Ne.symm (runs_other HL.out HBW1.out))), (hg5.cell HS1.out.2 (Ne.symm (runs_base HL.out HBL.out)))⟩
      refine hK.out _ _ (hS5.2) (fun hH3 => ?_)
      clear hK K hH2
      try simp only [List.getElem_toArray, List.getElem_cons_succ, List.getElem_cons_zero, Act.put, List.setIfInBounds_toArray, List.set_cons_zero, List.set_cons_succ]
      refine wpAnyH_take (i := 14) (v := .pointer (some ⟨g, m, none⟩)) rfl (by kernel_rfl) (by kernel_rfl) (by kernel_rfl) (fun _ _ _ h => h) (Or.inl ⟨by kernel_rfl, ?_⟩) hH3 ?_
      ·intro w hSw
       (try dsimp only at hSw)
       go_simp
       all_goals try with_reducible rfl
      try simp only [List.getElem_toArray, List.getElem_cons_succ, List.getElem_cons_zero, Act.put, List.setIfInBounds_toArray, List.set_cons_zero, List.set_cons_succ]
      refine wpAnyH_ready (rs := [15]) (by kernel_rfl) (by simp) ?_
      refine AllReadyH.cons rfl (fun K hK => ?_) AllReadyH.nil
      have hfw : w5.frozen? ⟨g, m, none⟩ = false := runs_froz HL.out HBW1.out hg5
      have hcw := hS5.1
      go_simp
      refine hK.out _ _ (runs_set hS5 (runs_neg HL.out HBL.out)) (fun hH4 => ?_)
      clear hK K hH3
      try simp only [List.getElem_toArray, List.getElem_cons_succ, List.getElem_cons_zero, Act.put, List.setIfInBounds_toArray, List.set_cons_zero, List.set_cons_succ]
      refine wpAnyH_done (by kernel_rfl) ?_ _
      have hgr := HL.out.grow (x := (q, Ax, cx)) HBW1.out hown5 hg5 hat5
      rw [← HM.out] at hgr
      have HL4 := Lib.hid hgr
      have HB4 := Lib.hid (Below.setCell (p := ⟨g, m, none⟩) (below_app (below_then HBW.out HBW1.out) hbs1 HXO.out hg5) (runs_ge HL.out) (.slice A5 (q.length + 1) c5))
      have HO4 : Hid ((init ++ [((q ++ [y], A5, c5) : LA)]).map (·.1) = B.runs (xs.take (k + 1))) := by show _ = _; rw [List.map_append, HNR.out]; rfl
      have HLN : Hid (L = (init ++ [((q ++ [y], A5, c5) : LA)]).length) := by show _ = _; rw [HLL.out, List.length_append, List.length_append]; rfl
      clear hH4 hown5 hg5 hat5 hS5 hcw hfw hgr hrd1 hbs1
      go_wp2
      go_roundw
      case rel => exact ⟨k + 1, L, _, _, c9, by omega, by omega, by go_num, rfl, HLN, HO4, HL4, HB4⟩
      case measure => simp [intOf]; omega
     ·go_simp
      rw [← HW1.out]
      refine hK.out _ _ (HS1.out.2) (fun hH1 => ?_)
      clear hK K hH0
      try simp only [List.getElem_toArray, List.getElem_cons_succ, List.getElem_cons_zero, Act.put, List.setIfInBounds_toArray, List.set_cons_zero, List.set_cons_succ]
      refine wpAnyH_ready (rs := [7]) (by kernel_rfl) (by simp) ?_
      refine AllReadyH.cons rfl (fun K hK => ?_) AllReadyH.nil
      go_simp
      refine hK.out _ _ (by first | exact HS0.out.2 | exact HS1.out.2) (fun hH2 => ?_)
      clear hK K hH1
      try simp only [List.getElem_toArray, List.getElem_cons_succ, List.getElem_cons_zero, Act.put, List.setIfInBounds_toArray, List.set_cons_zero, List.set_cons_succ]
      refine wpAnyH_ready (rs := [13]) (by kernel_rfl) (by simp) ?_
      refine AllReadyH.cons rfl (fun K hK => ?_) AllReadyH.nil
      refine step_app runeElem _ rfl (.tmp 42) (.tmp 47) rfl w.heap.size rfl HXO.out rfl hrd1 (one_of rfl) (by omega) (by omega) hbs1 ?_
      intro A5 c5 w5 hown5 hg5 hat5
      have hS5 : w5.cell? ⟨g, m, none⟩ = some (.slice Ax q.length cx) ∧ w5.cell? ⟨b, off + k, none⟩ = some (.int .i32 y) := ⟨(hg5.cell HS1.out.1 (Ne.symm (runs_other HL.out HBW1.out))), (hg5.cell HS1.out.2 (Ne.symm (runs_base HL.out HBL.out)))⟩
      refine hK.out _ _ (hS5.2) (fun hH3 => ?_)
      clear hK K hH2
      try simp only [List.getElem_toArray, List.getElem_cons_succ, List.getElem_cons_zero, Act.put, List.setIfInBounds_toArray, List.set_cons_zero, List.set_cons_succ]
      refine wpAnyH_take (i := 14) (v := .pointer (some ⟨g, m, none⟩)) rfl (by kernel_rfl) (by kernel_rfl) (by kernel_rfl) (fun _ _ _ h => h) (Or.inl ⟨by kernel_rfl, ?_⟩) hH3 ?_
      ·intro w hSw
       (try dsimp only at hSw)
       go_simp
       all_goals try with_reducible rfl
      try simp only [List.getElem_toArray, List.getElem_cons_succ, List.getElem_cons_zero, Act.put, List.setIfInBounds_toArray, List.set_cons_zero, List.set_cons_succ]
      refine wpAnyH_ready (rs := [15]) (by kernel_rfl) (by simp) ?_
      refine AllReadyH.cons rfl (fun K hK => ?_) AllReadyH.nil
      have hfw : w5.frozen? ⟨g, m, none⟩ = false := runs_froz HL.out HBW1.out hg5
      have hcw := hS5.1
      go_simp
      refine hK.out _ _ (runs_set hS5 (runs_neg HL.out HBL.out)) (fun hH4 => ?_)
      clear hK K hH3
      try simp only [List.getElem_toArray, List.getElem_cons_succ, List.getElem_cons_zero, Act.put, List.setIfInBounds_toArray, List.set_cons_zero, List.set_cons_succ]
      refine wpAnyH_done (by kernel_rfl) ?_ _
      have hgr := HL.out.grow (x := (q, Ax, cx)) HBW1.out hown5 hg5 hat5
      rw [← HM.out] at hgr
      have HL4 := Lib.hid hgr
      have HB4 := Lib.hid (Below.setCell (p := ⟨g, m, none⟩) (below_app (below_then HBW.out HBW1.out) hbs1 HXO.out hg5) (runs_ge HL.out) (.slice A5 (q.length + 1) c5))
      have HO4 : Hid ((init ++ [((q ++ [y], A5, c5) : LA)]).map (·.1) = B.runs (xs.take (k + 1))) := by show _ = _; rw [List.map_append, HNR.out]; rfl
      have HLN : Hid (L = (init ++ [((q ++ [y], A5, c5) : LA)]).length) := by show _ = _; rw [HLL.out, List.length_append, List.length_append]; rfl
      clear hH4 hown5 hg5 hat5 hS5 hcw hfw hgr hrd1 hbs1
      go_wp2
      go_roundw
      case rel => exact ⟨k + 1, L, _, _, c9, by omega, by omega, by go_num, rfl, HLN, HO4, HL4, HB4⟩
      case measure => simp [intOf]; omega
  ·obtain rfl : k = n := by omega
   have hki : (k : Int) ≤ (k : Int) := Int.le_refl _
   have HF : Hid (FreshLL w (B.runs xs) (.returned (.slice A9 L c9)) wr) := by
    have h1 := HO.out
    rw [List.take_of_length_le (by rw [HN.out]; exact Nat.le_refl _)] at h1
    refine ⟨os, A9, c9, h1, ?_, HL.out.l, HBW.out⟩
    rw [← h1, HLL.out, List.length_map]
   go_wp2
   go_returns
   exact HF.out
end
end Go.Proofs.YtajkjaciooijjaaGreatDoor
end

section
set_option linter.unusedSimpArgs false
set_option linter.unusedVariables false
namespace Go.Proofs.YtajkjaciooijjaaGreatDoor
open Go.RowKit Go.Lib
structure LawSt (w : World) (bp : Nat) (x : Value) (B : BaseF) : Prop where
 b : BaseIs w (.pointer (some ⟨bp, 0, none⟩)) B
 r : RefIs w x B
 bd : BaseBd B
 e : Env w
 k : Kinds w
theorem LawSt.below {w w' : World} {bp : Nat} {x : Value} {B : BaseF} (h : LawSt w bp x B) (hb : Below w.heap.size w w') : LawSt w' bp x B :=
 ⟨h.b.below hb, h.r.below hb, h.bd, h.e.below hb, h.k.below' hb⟩
theorem runes_b (A A2 : Option Addr) (n m ca cb : Nat) (xs ys : List Int) (w : World) (hx : Rd w A n (Rs xs)) (hy : Rd w A2 m (Rs ys)) (hn : n ≤ 1099511627776) (hm : m ≤ 1099511627776) :
  Calls Tryz.prog 12 #[.slice A n ca, .slice A2 m cb] w fun e w' => e = .returned (.bool (decide (xs = ys))) ∧ Below w.heap.size w w' :=
 (runes_any A A2 n m ca cb xs ys w hx hy hn hm).mono fun _ _ ⟨h1, h2⟩ => ⟨h1, h2.below _⟩
theorem runes_same {A A2 : Option Addr} {n m ca cb : Nat} {xs ys : List Int} {w : World} (hx : Rd w A n (Rs xs)) (hy : Rd w A2 m (Rs ys)) (he : xs = ys) (hn : n ≤ 1099511627776) (hm : m ≤ 1099511627776) :
  Calls Tryz.prog 12 #[.slice A n ca, .slice A2 m cb] w fun e w' => e = .returned (.bool true) ∧ Below w.heap.size w w' :=
 (runes_any A A2 n m ca cb xs ys w hx hy hn hm).mono fun _ _ ⟨h1, h2⟩ => ⟨by rw [h1, decide_eq_true he], h2.below _⟩
theorem FreshR.arg {w w' : World} {zs : List Int} {e : Ending} (h : FreshR w zs e w') (hR : ∀ x ∈ zs, R32 x) : ∃ A c, e = .returned (.slice A zs.length c) ∧ ArgR w' A zs.length c zs ∧ Below w.heap.size w w' := by
 obtain ⟨A, c, he, hown, hb⟩ := h
 obtain ⟨A', c', e2, h1, h2, hr⟩ := Rd.of_own hown
 injection e2 with e2a _ e2c
 subst e2a e2c
 refine ⟨A, c, he, ⟨hr, rfl, hR, h1, h2, fun hA => ?_⟩, hb⟩
 rcases hown.2 with ⟨hv, h0⟩ | ⟨g, cap, cur, hv, _⟩
 ·injection hv with _ _ hc
  exact ⟨h0, hc⟩
 ·injection hv with hv _ _
  rw [hA] at hv
  cases hv
structure ListsRd (w : World) (A : Option Addr) (os : List LA) : Prop where
 rd : Rd w A os.length (LLs os)
 into : ∀ x ∈ os, Rd w x.2.1 x.1.length (Rs x.1)
theorem ListsRd.below {w w' : World} {A : Option Addr} {os : List LA} (h : ListsRd w A os) (hb : Below w.heap.size w w') : ListsRd w' A os := ⟨h.rd.below hb, fun x hx => (h.into x hx).below hb⟩
theorem FreshLL.rd {w w' : World} {yss : List (List Int)} {e : Ending} (h : FreshLL w yss e w') : ∃ os A c, os.map (·.1) = yss ∧ e = .returned (.slice A yss.length c) ∧ ListsRd w' A os ∧ Below w.heap.size w w' := by
 obtain ⟨os, A, c, h1, h2, h3, h4⟩ := h
 exact ⟨os, A, c, h1, h2, ⟨h3.rd.1, h3.rd.2⟩, h4⟩
theorem ListsRd.at_ {w : World} {A : Option Addr} {os : List LA} {yss : List (List Int)} (h : ListsRd w A os) (hm : os.map (·.1) = yss) {k : Nat} (hk : k < yss.length) :
  ∃ b off q Ax cx, A = some ⟨b, off, none⟩ ∧ w.cell? ⟨b, off + k, none⟩ = some (.slice Ax q.length cx) ∧ Rd w Ax q.length (Rs q) ∧ yss[k]? = some q ∧ b < w.heap.size := by
 have hl : os.length = yss.length := by rw [← hm, List.length_map]
 obtain ⟨x, hx⟩ : ∃ x, os[k]? = some x := ⟨_, List.getElem?_eq_getElem (by omega)⟩
 obtain ⟨b, off, rfl, hb, hc⟩ := h.rd.at_ (by omega)
 refine ⟨b, off, x.1, x.2.1, x.2.2, rfl, hc k _ (by rw [LLs, List.getElem?_map, hx]; rfl), h.into x (List.mem_of_getElem? hx), ?_, hb⟩
 rw [← hm, List.getElem?_map, hx]
 rfl
section
variable {B : BaseF}
theorem flat_count : ∀ (l : List (List Int)), (∀ q ∈ l, q ≠ []) → l.length ≤ l.flatten.length
 | [], _ => Nat.zero_le _
 | q :: l, h => by
  have ih := flat_count l fun p hp => h p (by simp [hp])
  have hq : 0 < q.length := List.length_pos_iff.2 (h q (by simp))
  rw [List.flatten_cons, List.length_append, List.length_cons]
  omega
theorem runs_len (l : List Int) : (B.runs l).length ≤ l.length := by
 have h := runs_ok (B := B) l
 have h1 := flat_count _ h.ne
 rw [h.flat] at h1
 exact h1
theorem flat_mem_len : ∀ {l : List (List Int)} {q : List Int}, q ∈ l → q.length ≤ l.flatten.length
 | p :: l, q, h => by
  rw [List.flatten_cons, List.length_append]
  rcases List.mem_cons.1 h with h | h
  ·subst h; omega
  ·have := flat_mem_len h; omega
theorem runs_each (l : List Int) {q : List Int} (h : q ∈ B.runs l) : q.length ≤ l.length := by
 have h1 := flat_mem_len h
 rw [(runs_ok (B := B) l).flat] at h1
 exact h1
end
end Go.Proofs.YtajkjaciooijjaaGreatDoor
end

section
set_option linter.unusedSimpArgs false
set_option linter.unusedVariables false
namespace Go.Proofs.YtajkjaciooijjaaGreatDoor
open Go.RowKit Go.Lib
structure TwoR (base : Nat) (w : World) (A1 : Option Addr) (c1 : Nat) (xs : List Int) (A2 : Option Addr) (c2 : Nat) (ys : List Int) : Prop where
 o1 : w.ownsRow base 21 1 (.slice A1 xs.length c1) xs.length (Rs xs)
 o2 : w.ownsRow base 21 1 (.slice A2 ys.length c2) ys.length (Rs ys)
 ap : Apart (.slice A1 xs.length c1) (.slice A2 ys.length c2)
section
variable {base : Nat} {w w' : World} {A1 A2 A' : Option Addr} {c1 c2 c' : Nat} {xs ys zs : List Int}
theorem TwoR.nil (base : Nat) (w : World) : TwoR base w none 0 [] none 0 [] := ⟨World.ownsRow_nil _ _ _ _, World.ownsRow_nil _ _ _ _, fun b h => by cases h⟩
theorem TwoR.below (h : TwoR base w A1 c1 xs A2 c2 ys) (hb : Below w.heap.size w w') : TwoR base w' A1 c1 xs A2 c2 ys := ⟨own_below h.o1 hb, own_below h.o2 hb, h.ap⟩
theorem TwoR.swap (h : TwoR base w A1 c1 xs A2 c2 ys) : TwoR base w A2 c2 ys A1 c1 xs := ⟨h.o2, h.o1, h.ap.symm⟩
theorem TwoR.app {n m : Nat} (h : TwoR base w A1 c1 xs A2 c2 ys) (hn : n = xs.length) (hm : m = zs.length) (hown : w'.ownsRow base 21 1 (.slice A' (n + m) c') (n + m) (Rs xs ++ Rs zs)) (hg : w.grownBy w' (Value.slice A1 n c1).ownBlock)
  (hat : (Value.slice A' (n + m) c').ownBlock = (Value.slice A1 n c1).ownBlock ∨ (Value.slice A' (n + m) c').ownBlock = some w.heap.size) : TwoR base w' A' c' (xs ++ zs) A2 c2 ys := by
 subst hn hm
 have e : (xs ++ zs).length = xs.length + zs.length := List.length_append
 have e2 : Rs (xs ++ zs) = Rs xs ++ Rs zs := List.map_append
 refine ⟨by rw [e, e2]; exact hown, own_grown h.o2 hg (fun b hb => h.ap b hb), ?_⟩
 rw [e]
 exact h.ap.step hat (own_block_lt h.o2)
end
end Go.Proofs.YtajkjaciooijjaaGreatDoor
end
