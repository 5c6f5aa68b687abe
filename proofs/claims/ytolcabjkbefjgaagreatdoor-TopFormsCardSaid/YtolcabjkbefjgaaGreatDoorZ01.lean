/- Bytes of strings as lists, and the numbers that digits tell. No program stands here. Plain functions for fields of files: blanks, what stands between bytes, lines, characters told by digits, bytes told by digits. No program stands here. -/
import Derived.Lib.Strings
import Derived.Handy
import Derived.Deep.Draws
import Derived.Lib.Hide
import Derived.Deep.RegionHeld
set_option linter.unusedSimpArgs false
set_option linter.unusedVariables false
set_option maxRecDepth 20000
set_option maxHeartbeats 4000000
namespace Go.Proofs.YtolcabjkbefjgaaGreatDoor
section
open Go.RowKit
def bs (s : ByteArray) : List UInt8 := s.data.toList
theorem ze (s : ByteArray) : (bs s).length = s.size := by simp [bs]
theorem zlk (s : ByteArray) (i : Nat) (h : i < s.size) : (bs s)[i]? = some (s[i]'h) := by
 have hl : i < (bs s).length := (by rw [ze]; exact h);rw [List.getElem?_eq_getElem hl];rfl
theorem zc1 (s : ByteArray) (i : Nat) (h : i < s.size) : (bs s).drop i = s[i]'h :: (bs s).drop (i + 1) := by
 have hl : i < (bs s).length := (by rw [ze]; exact h);rw [List.drop_eq_getElem_cons hl];rfl
theorem zbf (s : ByteArray) (i : Nat) (h : s.size <= i) : (bs s).drop i = [] := List.drop_eq_nil_of_le (by rw [ze]; exact h)
theorem znh {s t : ByteArray} (h : bs s = bs t) : s = t := by
 cases s with | mk a => cases t with | mk b => cases a; cases b; simp [bs] at h; rw [h]
theorem mk_bs (s : ByteArray) : (⟨(bs s).toArray⟩ : ByteArray) = s := by cases s; rfl
theorem zlj {s : ByteArray} (h : s.size = 0) : bs s = [] := List.eq_nil_of_length_eq_zero (by rw [ze]; exact h)
theorem z8 (s : ByteArray) (a b : Nat) : bs (s.extract a b) = ((bs s).take b).drop a := by
 simp [bs, ByteArray.data_extract];rw [List.drop_take]
theorem zah (s : ByteArray) : s.toList = bs s := ByteArray.toList_eq s
def zw (c : Int) : Int :=
 if 48 <= c /\ c <= 57 then c - 48 else if 97 <= c /\ c <= 102 then c - 87 else if 65 <= c /\ c <= 70 then c - 55 else -1
theorem zgu (c : Int) : -1 <= zw c := by unfold zw; split <;> (try split) <;> (try split) <;> omega
theorem zeb (c : Int) : zw c <= 15 := by unfold zw; split <;> (try split) <;> (try split) <;> omega
theorem zbz {c : Int} (h : 128 <= c) : zw c = -1 := by unfold zw; rw [if_neg (by omega), if_neg (by omega), if_neg (by omega)]
def zy (base : Int) : Int -> List UInt8 -> Int
 | n, [] => n
 | n, b :: t => if zw b.toNat < 0 \/ base <= zw b.toNat then -1 else zy base (n * base + zw b.toNat) t
def numS (base : Int) (most : Nat) (l : List UInt8) : Int := if l.length = 0 \/ most < l.length then -1 else zy base 0 l
theorem zbq {base n : Int} {b : UInt8} {t : List UInt8} (h : zw b.toNat < 0 \/ base <= zw b.toNat) : zy base n (b :: t) = -1 := by
 simp only [zy];rw [if_pos h]
theorem zfk {base n : Int} {b : UInt8} {t : List UInt8} (h : 0 <= zw b.toNat) (h' : zw b.toNat < base) : zy base n (b :: t) = zy base (n * base + zw b.toNat) t := by
 simp only [zy];rw [if_neg (by omega)]
end
section
open Go.RowKit
def mk8 (l : List UInt8) : ByteArray := ⟨l.toArray⟩
theorem zay (l : List UInt8) : bs (mk8 l) = l := rfl
theorem zmd (s : ByteArray) : mk8 (bs s) = s := mk_bs s
theorem zab (l : List UInt8) : (mk8 l).size = l.length := by rw [<- ze, zay]
def zjo (b : Int) : Bool := decide (b = 9 \/ b = 13 \/ b = 32)
def zao (b : UInt8) : Bool := zjo b.toNat
def lstrip (l : List UInt8) : List UInt8 := l.dropWhile zao
def rstrip (l : List UInt8) : List UInt8 := (l.reverse.dropWhile zao).reverse
def bareL (l : List UInt8) : List UInt8 := rstrip (lstrip l)
theorem lstrip_yes {b : UInt8} {t : List UInt8} (h : zao b = true) : lstrip (b :: t) = lstrip t := by simp [lstrip, List.dropWhile_cons, h]
theorem zgi {b : UInt8} {t : List UInt8} (h : zao b = false) : lstrip (b :: t) = b :: t := by simp [lstrip, List.dropWhile_cons, h]
theorem zev {α : Type} (p : α -> Bool) (l : List α) : (l.dropWhile p).length <= l.length := (List.dropWhile_sublist p).length_le
theorem zcq (l : List UInt8) : (bareL l).length <= l.length := by
 have h1 := zev zao l;have h2 := zev zao (lstrip l).reverse;simp only [bareL, rstrip, List.length_reverse, lstrip] at h1 h2 ⊢;omega
def zbe (sep : UInt8) (p : List (List UInt8) × List UInt8) (b : UInt8) : List (List UInt8) × List UInt8 :=
 if b = sep then (p.1 ++ [p.2], []) else (p.1, p.2 ++ [b])
def cutF (sep : UInt8) (l : List UInt8) : List (List UInt8) × List UInt8 := l.foldl (zbe sep) ([], [])
def cutL (sep : UInt8) (l : List UInt8) : List (List UInt8) := (cutF sep l).1 ++ [(cutF sep l).2]
theorem cutF_len (sep : UInt8) (l : List UInt8) : (cutF sep l).1.length + (cutF sep l).2.length <= l.length := by
 suffices h : ∀ (l : List UInt8) (p : List (List UInt8) × List UInt8), (l.foldl (zbe sep) p).1.length + (l.foldl (zbe sep) p).2.length <= p.1.length + p.2.length + l.length by
  simpa [cutF] using h l ([], [])
 intro l;induction l with
 | nil => intro p; simp
 | cons b t ih =>
  intro p;have := ih (zbe sep p b);simp only [List.foldl_cons, List.length_cons]
  have h2 : (zbe sep p b).1.length + (zbe sep p b).2.length <= p.1.length + p.2.length + 1 := by
   unfold zbe; split <;> simp <;> omega
  omega
theorem zli (sep : UInt8) (l : List UInt8) : (cutL sep l).length <= l.length + 1 := by
 have := cutF_len sep l;simp only [cutL, List.length_append, List.length_singleton];omega
theorem cutF_part (sep : UInt8) (l : List UInt8) : (∀ x ∈ (cutF sep l).1, x.length <= l.length) /\ (cutF sep l).2.length <= l.length := by
 suffices h : ∀ (l : List UInt8) (n : Nat) (p : List (List UInt8) × List UInt8), (∀ x ∈ p.1, x.length <= n) -> p.2.length <= n ->
   (∀ x ∈ (l.foldl (zbe sep) p).1, x.length <= n + l.length) /\ (l.foldl (zbe sep) p).2.length <= n + l.length by
  have := h l 0 ([], []) (by simp) (by simp);simpa [cutF] using this
 intro l;induction l with
 | nil => intro n p h1 h2; exact ⟨by simpa using h1, by simpa using h2⟩
 | cons b t ih =>
  intro n p h1 h2
  have := ih (n + 1) (zbe sep p b) (by
   unfold zbe;split
   ·intro x hx;simp at hx;rcases hx with hx | rfl
    ·have := h1 x hx; omega
    ·omega
   ·intro x hx;have := h1 x hx
    omega) (by unfold zbe; split <;> simp; omega)
  rw [show n + (b :: t).length = n + 1 + t.length by simp; omega];exact this
theorem zdf (sep : UInt8) (l : List UInt8) : ∀ x ∈ cutL sep l, x.length <= l.length := by
 intro x hx;have := cutF_part sep l;simp only [cutL, List.mem_append, List.mem_singleton] at hx;rcases hx with hx | rfl
 ·exact this.1 x hx
 ·exact this.2
def zq : List UInt8 -> List UInt8 -> List (List UInt8)
 | w, [] => if w = [] then [] else [w]
 | w, b :: t => if zao b = true then (if w = [] then zq [] t else w :: zq [] t) else zq (w ++ [b]) t
def zff (l : List UInt8) : List (List UInt8) := zq [] l
theorem zd7 {b : UInt8} (w t : List UInt8) (h : zao b = true) : zq w (b :: t) = if w = [] then zq [] t else w :: zq [] t := by
 simp only [zq];rw [if_pos h]
theorem zdk {b : UInt8} (w t : List UInt8) (h : zao b = false) : zq w (b :: t) = zq (w ++ [b]) t := by
 simp only [zq];rw [if_neg (by rw [h]; simp)]
theorem zih : ∀ (l w : List UInt8), (zq w l).length <= l.length + 1 /\ ∀ x ∈ zq w l, x.length <= w.length + l.length := by
 intro l;induction l with
 | nil =>
  intro w;simp only [zq];split
  ·simp
  ·simp
 | cons b t ih =>
  intro w;simp only [zq];split
  ·have := ih [];simp only [List.length_nil] at this;split
   ·exact ⟨by simp only [List.length_cons]; omega, fun x hx => by have := this.2 x hx; simp only [List.length_cons]; omega⟩
   ·refine ⟨by simp only [List.length_cons]; omega, fun x hx => ?_⟩;simp only [List.mem_cons] at hx;rcases hx with rfl | hx
    ·simp
    ·have := this.2 x hx; simp only [List.length_cons]; omega
  ·have := ih (w ++ [b]);simp only [List.length_append, List.length_singleton] at this;exact ⟨by simp only [List.length_cons]; omega, fun x hx => by have := this.2 x hx; simp only [List.length_cons]; omega⟩
end
end Go.Proofs.YtolcabjkbefjgaaGreatDoor
