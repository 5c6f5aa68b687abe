/- A table of characters: Set. Plain functions for fields of files: blanks, what stands between bytes, lines, characters told by digits, bytes told by digits. No program stands here. -/
import Derived.Test.YtggichcfklbjiaaGreatDoorG04
import Derived.Test.YtggichcfklbjiaaGreatDoorG03
section
set_option linter.unusedSimpArgs false
set_option linter.unusedVariables false
namespace Go.Proofs.YtggichcfklbjiaaGreatDoor
open Go.RowKit Go.Lib Go.Maps

theorem blockC_set (g : Nat → Int) (i : Nat) (v : Int) : (blockC g).toArray.setIfInBounds i (.int .i64 v) = (blockC fun k => if k = i then v else g k).toArray := by
  apply Array.ext_getElem?
  intro k
  rw [Array.getElem?_setIfInBounds]
  simp only [List.getElem?_toArray, List.size_toArray, blockC_length]
  by_cases hk : k < 256
  · rw [blockC_at _ hk]
    by_cases h : i = k
    · subst h
      simp [hk, blockC_at]
    · rw [if_neg h, blockC_at _ hk, if_neg (fun e => h e.symm)]
  · have hn : ∀ g, (blockC g)[k]? = none := fun g => List.getElem?_eq_none (by rw [blockC_length]; omega)
    rw [hn, hn]
    split
    · split
      · omega
      · rfl
    · rfl
theorem blockC_all (g : Nat → Int) : (blockC g).toArray.all (·.oneCell') = true := by simp; exact fun x hx => blockC_one g x hx
theorem zero_cells : Tryz.zeroCells117 = (blockC fun _ => 0).toArray := by kernel_rfl
theorem block_cell {w : World} {b : Nat} {g : Nat → Int} (h : w.heap[b]? = some (.cells (blockC g).toArray 117 (0, 0))) {i : Nat} (hi : i < 256) : w.cell? ⟨b, i, none⟩ = some (.int .i64 (g i)) := by
  rw [cell_of_row _ _ _ (blockC g).toArray 117 (0, 0) h]
  simpa using blockC_at g hi
theorem block_frozen {w : World} {b : Nat} {g : Nat → Int} (h : w.heap[b]? = some (.cells (blockC g).toArray 117 (0, 0))) (i : Nat) : w.frozen? ⟨b, i, none⟩ = false := by simp [World.frozen?, h]
theorem block_put {w : World} {b : Nat} {g : Nat → Int} (h : w.heap[b]? = some (.cells (blockC g).toArray 117 (0, 0))) {i : Nat} (hi : i < 256) (v : Int) :
    (w.setCell ⟨b, i, none⟩ (.int .i64 v)).heap[b]? = some (.cells (blockC fun k => if k = i then v else g k).toArray 117 (0, 0)) := by
  have hb := (Array.getElem?_eq_some_iff.1 h).1
  simp [World.setCell, Array.getElem?_modify, h, blockC_set g i v]
set_option maxRecDepth 100000 in
set_option maxHeartbeats 1000000 in
theorem plain_any {w : World} {tb : Nat} (c0 : w.cell? ⟨tb, 0, none⟩ = some (.int .i64 0)) : Calls Tryz.prog 82 #[.pointer (some ⟨tb, 0, none⟩)] w fun e w' => e = .returned (.agg (blockC fun _ => 0).toArray) ∧ Below w.heap.size w w' := by
  have hz := zero_cells
  have htl : tb < w.heap.size := World.block_lt_of_cell? w _ c0
  have hb0 : Below w.heap.size w (w.alloc (.cells Tryz.zeroCells117 117)) := (Below.refl _ _).alloc (Nat.le_refl _) _
  have hh0 : (w.alloc (.cells Tryz.zeroCells117 117)).heap[w.heap.size]? = some (.cells (blockC fun _ => 0).toArray 117 (0, 0)) := by rw [← hz]; exact heap_alloc_last w _
  clear hz
  go_enter Tryz.func82, Tryz.ntmps82
  go_wp2
  go_loopw [4] (fun i wr => ∃ k : Nat, k ≤ 256 ∧ i = .int .i64 k ∧ wr.heap[w.heap.size]? = some (.cells (blockC fun _ => 0).toArray 117 (0, 0)) ∧ Below w.heap.size w wr) (fun i _ => 256 - (intOf i).toNat)
  case atStart => exact ⟨0, Nat.zero_le _, rfl, hh0, hb0⟩
  case round =>
    obtain ⟨k, hk, rfl, hh, hb⟩ := hrel
    by_cases hlt : k < 256
    · have hki : (k : Int) < 256 := by omega
      have hki0 : (0 : Int) ≤ (k : Int) := by omega
      have d0 : wr.cell? ⟨tb, 0, none⟩ = some (.int .i64 0) := (hb.cell (p := ⟨tb, 0, none⟩) htl).trans c0
      have e0 := block_cell hh hlt
      have e1 := block_frozen hh k
      have hh2 := block_put hh hlt 0
      have hb2 : Below w.heap.size w (wr.setCell ⟨w.heap.size, k, none⟩ (.int .i64 0)) := hb.setCell (p := ⟨w.heap.size, k, none⟩) (Nat.le_refl _) _
      have hh3 : (wr.setCell ⟨w.heap.size, k, none⟩ (.int .i64 0)).heap[w.heap.size]? = some (.cells (blockC fun _ => 0).toArray 117 (0, 0)) := by
        rw [hh2]
        congr 2
        rw [blockC_congr (h := fun _ => 0)]
        intro i hi
        simp
      clear hh hh2 hb
      go_wp2
      go_roundw
      case rel => exact ⟨k + 1, by omega, by go_num, hh3, hb2⟩
      case measure => simp [intOf]; omega
    · have hki : (256 : Int) ≤ (k : Int) := by omega
      have hsz : (blockC fun _ => 0).toArray.size = 256 := by simp [blockC_length]
      have hsz2 : (Tryz.prog.info? 117).map (·.size) = some (blockC fun _ => 0).toArray.size := by rw [hsz]; exact block_info
      have hone : (blockC fun _ => 0).toArray.all (·.oneCell') = true := blockC_all _
      have hb2 := setRow_below hb (b := w.heap.size) (Nat.le_refl _) (blockC fun _ => 0).toArray
      have hh2 := setRow_blk (c := (blockC fun _ => 0).toArray) hh
      go_wp2_with (first | (refine wpList_loadW rfl rfl blockT hsz2 hh rfl ?_) | (refine wpList_storeW rfl rfl hsz2 rfl hone hh rfl rfl ?_) | go_in)
      have hrun := run_loadVar_row (P := Tryz.prog) _ w.heap.size 117 117 (blockC fun _ => 0).toArray _ _ hh2 blockT rfl hsz2
      refine bodyPost_ret (v := .agg (blockC fun _ => 0).toArray) ?_ rfl ⟨rfl, hb2⟩
      simp [results, Tryz.f82, Act.put, asAddr, Sem.run_pure, Result.andThen, hrun]
end Go.Proofs.YtggichcfklbjiaaGreatDoor
end

section
set_option linter.unusedSimpArgs false
set_option linter.unusedVariables false
namespace Go.Proofs.YtggichcfklbjiaaGreatDoor
open Go.RowKit

/-- A string of these bytes. -/
def mk8 (l : List UInt8) : ByteArray := ⟨l.toArray⟩
theorem bs_mk8 (l : List UInt8) : bs (mk8 l) = l := rfl
theorem mk8_bs (s : ByteArray) : mk8 (bs s) = s := mk_bs s
theorem mk8_size (l : List UInt8) : (mk8 l).size = l.length := by rw [← bs_length, bs_mk8]
theorem mk8_eq {s : ByteArray} {l : List UInt8} (h : bs s = l) : s = mk8 l := by rw [← h, mk8_bs]
/-- A string's length, of a value. -/
def strLen : Value → Nat
  | .string t => t.size
  | _ => 0

def blankI (b : Int) : Bool := decide (b = 9 ∨ b = 13 ∨ b = 32)
def blankB (b : UInt8) : Bool := blankI b.toNat
/-- A text without the blanks at its ends. -/
def lstrip (l : List UInt8) : List UInt8 := l.dropWhile blankB
def rstrip (l : List UInt8) : List UInt8 := (l.reverse.dropWhile blankB).reverse
def bareL (l : List UInt8) : List UInt8 := rstrip (lstrip l)
theorem lstrip_yes {b : UInt8} {t : List UInt8} (h : blankB b = true) : lstrip (b :: t) = lstrip t := by simp [lstrip, List.dropWhile_cons, h]
theorem lstrip_no {b : UInt8} {t : List UInt8} (h : blankB b = false) : lstrip (b :: t) = b :: t := by simp [lstrip, List.dropWhile_cons, h]
theorem rstrip_yes {b : UInt8} {t : List UInt8} (h : blankB b = true) : rstrip (t ++ [b]) = rstrip t := by simp [rstrip, List.dropWhile_cons, h]
theorem rstrip_no {b : UInt8} {t : List UInt8} (h : blankB b = false) : rstrip (t ++ [b]) = t ++ [b] := by simp [rstrip, List.dropWhile_cons, h]
theorem lstrip_nil : lstrip [] = [] := rfl
theorem rstrip_nil : rstrip [] = [] := rfl
theorem dropWhile_len {α : Type} (p : α → Bool) (l : List α) : (l.dropWhile p).length ≤ l.length := (List.dropWhile_sublist p).length_le
theorem bareL_len (l : List UInt8) : (bareL l).length ≤ l.length := by
  have h1 := dropWhile_len blankB l
  have h2 := dropWhile_len blankB (lstrip l).reverse
  simp only [bareL, rstrip, List.length_reverse, lstrip] at h1 h2 ⊢
  omega

/-- What stands between bytes: what is there so far, and what has come since the last one. -/
def cutStep (sep : UInt8) (p : List (List UInt8) × List UInt8) (b : UInt8) : List (List UInt8) × List UInt8 :=
  if b = sep then (p.1 ++ [p.2], []) else (p.1, p.2 ++ [b])
def cutF (sep : UInt8) (l : List UInt8) : List (List UInt8) × List UInt8 := l.foldl (cutStep sep) ([], [])
def cutL (sep : UInt8) (l : List UInt8) : List (List UInt8) := (cutF sep l).1 ++ [(cutF sep l).2]
theorem cutF_snoc (sep : UInt8) (l : List UInt8) (b : UInt8) : cutF sep (l ++ [b]) = cutStep sep (cutF sep l) b := by simp [cutF]
theorem cutF_len (sep : UInt8) (l : List UInt8) : (cutF sep l).1.length + (cutF sep l).2.length ≤ l.length := by
  suffices h : ∀ (l : List UInt8) (p : List (List UInt8) × List UInt8), (l.foldl (cutStep sep) p).1.length + (l.foldl (cutStep sep) p).2.length ≤ p.1.length + p.2.length + l.length by
    simpa [cutF] using h l ([], [])
  intro l
  induction l with
  | nil => intro p; simp
  | cons b t ih =>
    intro p
    have := ih (cutStep sep p b)
    simp only [List.foldl_cons, List.length_cons]
    have h2 : (cutStep sep p b).1.length + (cutStep sep p b).2.length ≤ p.1.length + p.2.length + 1 := by
      unfold cutStep; split <;> simp <;> omega
    omega
theorem take_snocB {s : ByteArray} {k : Nat} (h : k < s.size) : (bs s).take (k + 1) = (bs s).take k ++ [s[k]'h] := by
  rw [List.take_add_one, bs_get s k h]
  rfl
theorem cutF_take {sep : UInt8} {s : ByteArray} {k : Nat} (h : k < s.size) : cutF sep ((bs s).take (k + 1)) = cutStep sep (cutF sep ((bs s).take k)) (s[k]'h) := by
  rw [take_snocB h, cutF_snoc]
theorem cutL_len (sep : UInt8) (l : List UInt8) : (cutL sep l).length ≤ l.length + 1 := by
  have := cutF_len sep l
  simp only [cutL, List.length_append, List.length_singleton]
  omega
/-- None of the parts is longer than all. -/
theorem cutF_part (sep : UInt8) (l : List UInt8) : (∀ x ∈ (cutF sep l).1, x.length ≤ l.length) ∧ (cutF sep l).2.length ≤ l.length := by
  suffices h : ∀ (l : List UInt8) (n : Nat) (p : List (List UInt8) × List UInt8), (∀ x ∈ p.1, x.length ≤ n) → p.2.length ≤ n →
      (∀ x ∈ (l.foldl (cutStep sep) p).1, x.length ≤ n + l.length) ∧ (l.foldl (cutStep sep) p).2.length ≤ n + l.length by
    have := h l 0 ([], []) (by simp) (by simp)
    simpa [cutF] using this
  intro l
  induction l with
  | nil => intro n p h1 h2; exact ⟨by simpa using h1, by simpa using h2⟩
  | cons b t ih =>
    intro n p h1 h2
    have := ih (n + 1) (cutStep sep p b) (by
      unfold cutStep
      split
      · intro x hx
        simp at hx
        rcases hx with hx | rfl
        · have := h1 x hx; omega
        · omega
      · intro x hx
        have := h1 x hx
        omega) (by unfold cutStep; split <;> simp; omega)
    rw [show n + (b :: t).length = n + 1 + t.length by simp; omega]
    exact this
theorem cutL_part (sep : UInt8) (l : List UInt8) : ∀ x ∈ cutL sep l, x.length ≤ l.length := by
  intro x hx
  have := cutF_part sep l
  simp only [cutL, List.mem_append, List.mem_singleton] at hx
  rcases hx with hx | rfl
  · exact this.1 x hx
  · exact this.2

/-- The words of a text: what stands between blanks and is not empty. -/
def wordsFrom : List UInt8 → List UInt8 → List (List UInt8)
  | w, [] => if w = [] then [] else [w]
  | w, b :: t => if blankB b = true then (if w = [] then wordsFrom [] t else w :: wordsFrom [] t) else wordsFrom (w ++ [b]) t
def wordsL (l : List UInt8) : List (List UInt8) := wordsFrom [] l
theorem words_blank {b : UInt8} (w t : List UInt8) (h : blankB b = true) : wordsFrom w (b :: t) = if w = [] then wordsFrom [] t else w :: wordsFrom [] t := by
  simp only [wordsFrom]
  rw [if_pos h]
theorem words_more {b : UInt8} (w t : List UInt8) (h : blankB b = false) : wordsFrom w (b :: t) = wordsFrom (w ++ [b]) t := by
  simp only [wordsFrom]
  rw [if_neg (by rw [h]; simp)]
theorem words_len : ∀ (l w : List UInt8), (wordsFrom w l).length ≤ l.length + 1 ∧ ∀ x ∈ wordsFrom w l, x.length ≤ w.length + l.length := by
  intro l
  induction l with
  | nil =>
    intro w
    simp only [wordsFrom]
    split
    · simp
    · simp
  | cons b t ih =>
    intro w
    simp only [wordsFrom]
    split
    · have := ih []
      simp only [List.length_nil] at this
      split
      · exact ⟨by simp only [List.length_cons]; omega, fun x hx => by have := this.2 x hx; simp only [List.length_cons]; omega⟩
      · refine ⟨by simp only [List.length_cons]; omega, fun x hx => ?_⟩
        simp only [List.mem_cons] at hx
        rcases hx with rfl | hx
        · simp
        · have := this.2 x hx; simp only [List.length_cons]; omega
    · have := ih (w ++ [b])
      simp only [List.length_append, List.length_singleton] at this
      exact ⟨by simp only [List.length_cons]; omega, fun x hx => by have := this.2 x hx; simp only [List.length_cons]; omega⟩
end Go.Proofs.YtggichcfklbjiaaGreatDoor
end
