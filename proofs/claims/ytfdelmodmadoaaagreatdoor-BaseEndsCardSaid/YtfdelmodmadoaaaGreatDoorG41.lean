/- Lines of a text tell few rows: plain. -/
import Derived.Test.YtfdelmodmadoaaaGreatDoorG34
set_option linter.unusedSimpArgs false
set_option linter.unusedVariables false
set_option maxRecDepth 20000
set_option maxHeartbeats 4000000
namespace Go.Proofs.YtfdelmodmadoaaaGreatDoor
section
open Go.RowKit
def wtL : List (List UInt8) -> Nat
 | [] => 0
 | l :: t => l.length + 1 + wtL t
theorem zi1 : ∀ a b : List (List UInt8), wtL (a ++ b) = wtL a + wtL b
 | [], b => by simp [wtL]
 | l :: t, b => by
  show l.length + 1 + wtL (t ++ b) = l.length + 1 + wtL t + wtL b;rw [zi1 t b];omega
theorem zi0 (sep : UInt8) : ∀ (l : List UInt8) (p : List (List UInt8) × List UInt8), wtL (l.foldl (zad sep) p).1 + (l.foldl (zad sep) p).2.length = wtL p.1 + p.2.length + l.length
 | [], p => by simp
 | b :: t, p => by
  rw [List.foldl_cons, zi0 sep t, List.length_cons]
  have h : wtL (zad sep p b).1 + (zad sep p b).2.length = wtL p.1 + p.2.length + 1 := by
   unfold zad;split
   ·show wtL (p.1 ++ [p.2]) + 0 = _;rw [zi1];show wtL p.1 + (p.2.length + 1 + 0) + 0 = _;omega
   ·show wtL p.1 + (p.2 ++ [b]).length = _;rw [List.length_append];show wtL p.1 + (p.2.length + 1) = _;omega
  omega
theorem zjr (sep : UInt8) (l : List UInt8) : wtL (cutL sep l) = l.length + 1 := by
 have h := zi0 sep l ([], []);have h1 : wtL (cutF sep l).1 + (cutF sep l).2.length = 0 + 0 + l.length := h;show wtL ((cutF sep l).1 ++ [(cutF sep l).2]) = _;rw [zi1];show wtL (cutF sep l).1 + ((cutF sep l).2.length + 1 + 0) = _;omega
def wtP : List (Int × List UInt8) -> Nat
 | [] => 0
 | p :: t => p.2.length + 1 + wtP t
theorem zi2 : ∀ a b : List (Int × List UInt8), wtP (a ++ b) = wtP a + wtP b
 | [], b => by simp [wtP]
 | l :: t, b => by
  show l.2.length + 1 + wtP (t ++ b) = l.2.length + 1 + wtP t + wtP b;rw [zi2 t b];omega
theorem zf1 : ∀ (ls : List (List UInt8)) (out : List (Int × List UInt8)) (k : Nat), wtP (zan out k ls).1 <= wtP out + wtL ls
 | [], out, k => by show wtP out <= _; simp [wtL]
 | l :: ls, out, k => by
  by_cases h : 512 < l.length
  ·rw [zc5 h];exact Nat.zero_le _
  ·by_cases ht : tellL l = []
   ·rw [zc4 h ht];have := zf1 ls out (k + 1);show _ <= wtP out + (l.length + 1 + wtL ls);omega
   ·rw [zb1 h ht];have h1 := zf1 ls (out ++ [((k : Int) + 1, tellL l)]) (k + 1);have h2 := zgn l;rw [zi2] at h1;have h3 : wtP [((k : Int) + 1, tellL l)] = (tellL l).length + 1 + 0 := rfl;show _ <= wtP out + (l.length + 1 + wtL ls);omega
theorem wt_text (s : List UInt8) : wtP (zak s).1 <= s.length + 1 := by
 unfold zak;split
 ·exact Nat.zero_le _
 ·have := zf1 (cutL 10 s) [] 0;rw [zjr] at this;have h : wtP ([] : List (Int × List UInt8)) = 0 := rfl;omega
theorem zjq : ∀ (ls : List (List UInt8)) (n : Nat), n < ls.length -> ls.length + (ls.getD n []).length <= wtL ls
 | [], n, h => by simp at h
 | l :: t, 0, h => by
  have : ∀ t : List (List UInt8), t.length <= wtL t := fun t => by
   induction t with
   | nil => exact Nat.zero_le _
   | cons a t ih => show t.length + 1 <= a.length + 1 + wtL t; omega
  have := this t;show t.length + 1 + l.length <= l.length + 1 + wtL t;omega
 | l :: t, n + 1, h => by
  have := zjq t n (by simpa using h);show t.length + 1 + (t.getD n []).length <= l.length + 1 + wtL t;omega
theorem zhi (ls : List (List UInt8)) (n : Nat) : ((ls.map bareL).getD n []).length <= (ls.getD n []).length := by
 rw [List.getD_eq_getElem?_getD, List.getD_eq_getElem?_getD, List.getElem?_map]
 cases ls[n]? with
 | none => simp
 | some y => exact zbe y
theorem parse_seven (l : List UInt8) (h0 : (zx l).2 = 0) (hi : (zx l).1.il ≠ []) : 7 <= l.length := by
 unfold zx zfo at h0 hi;have hw := zjr 59 l;split at h0
 ·cases h0
 ·rename_i hl;rw [if_neg hl] at hi;split at h0
  ·rename_i hx;exact absurd h0 hx
  ·rename_i hx;rw [if_neg hx] at hi;split at h0
   ·rename_i hd;exact absurd h0 hd
   ·rename_i hd;rw [if_neg hd] at hi;split at h0
    ·cases h0
    ·rename_i h25;rw [if_neg h25] at hi;split at h0
     ·rename_i hin;exact absurd h0 hin
     ·rename_i hin;rw [if_neg hin] at hi;rw [List.length_map] at hl
      have f0 : 0 < (((cutL 59 l).map bareL).getD 0 []).length := by
       apply List.length_pos_iff.2;intro e;rw [e] at hx;exact hx (by decide)
      have f5 : 0 < (((cutL 59 l).map bareL).getD 5 []).length := by
       apply List.length_pos_iff.2;intro e;rw [e] at hi;exact hi (show (intoS []).2.1 = [] from by kernel_rfl)
      have b0 := zhi (cutL 59 l) 0;have b5 := zhi (cutL 59 l) 5
      obtain ⟨a, t, e⟩ : ∃ a t, cutL 59 l = a :: t := by
       cases hc : cutL 59 l with
       | nil => rw [hc] at hl; simp at hl
       | cons a t => exact ⟨a, t, rfl⟩
      rw [e] at hl hw b0 b5;have h5 := zjq t 4 (by simp at hl; omega);have e5 : ((a :: t).getD 5 []) = t.getD 4 [] := rfl;have e0 : ((a :: t).getD 0 []) = a := rfl;rw [e5] at b5;rw [e0] at b0;rw [e] at f0 f5;have hww : a.length + 1 + wtL t = l.length + 1 := hw;simp only [List.length_cons] at hl;omega
theorem zhd (a : List RowS) (x : RowS) : (keysL (a ++ [x])).length = (keysL a).length + (if x.il = [] then 0 else 1) := by
 unfold keysL;rw [List.filter_append, List.map_append, List.length_append];congr 1
 by_cases h : x.il = []
 ·simp [h]
 ·have : x.il.isEmpty = false := (by cases hx : x.il with | nil => exact absurd hx h | cons _ _ => rfl);simp [this, h]
theorem take_keys (st : StU) (l : List UInt8) : 8 * (keysL (takeS st l).1.out).length <= 8 * (keysL st.out).length + (l.length + 1) := by
 unfold takeS;split
 ·show 8 * (keysL st.out).length <= _; omega
 ·rename_i h0;have h0 : (zx l).2 = 0 := (by simpa using h0);have h7 := parse_seven l h0;generalize (zx l).1 = x at h7
  have free : 8 * (keysL (freeS st x).1.out).length <= 8 * (keysL st.out).length + (l.length + 1) := by
   unfold freeS;split
   ·show 8 * (keysL st.out).length <= _; omega
   ·split
    ·show 8 * (keysL st.out).length <= _; omega
    ·show 8 * (keysL (st.out ++ [x])).length <= _;rw [zhd]
     by_cases h : x.il = []
     ·rw [if_pos h]; omega
     ·rw [if_neg h]; have := h7 h; omega
  unfold takeR
  cases st.op with
  | some f =>
   simp only [];split
   ·show 8 * (keysL st.out).length <= _; omega
   ·unfold zbj;split
    ·show 8 * (keysL st.out).length <= _; omega
    ·show 8 * (keysL (st.out ++ [zcw f x])).length <= _;rw [zhd];have : (zcw f x).il = [] := rfl;rw [if_pos this];omega
  | none =>
   simp only [];split
   ·show 8 * (keysL st.out).length <= _; omega
   ·exact free
theorem zfl : ∀ (ls : List (Int × List UInt8)) (st : StU), 8 * (keysL (rowsW st ls).1.out).length <= 8 * (keysL st.out).length + wtP ls
 | [], st => by show 8 * (keysL st.out).length <= _; exact Nat.le_add_right _ _
 | p :: ls, st => by
  have h1 := take_keys st p.2;unfold rowsW;split
  ·show 8 * (keysL st.out).length <= _; exact Nat.le_add_right _ _
  ·have h2 := zfl ls (takeS st p.2).1;show _ <= 8 * (keysL st.out).length + (p.2.length + 1 + wtP ls);omega
theorem rows_keys (s : List UInt8) (h : s.length <= 3000) : (keysL (rowsS s).1).length <= 380 := by
 have h1 := wt_text s;unfold rowsS;split
 ·exact Nat.zero_le _
 ·unfold endU;split
  ·exact Nat.zero_le _
  ·split
   ·exact Nat.zero_le _
   ·have h2 := zfl (zak s).1 ⟨[], none, -1⟩;have h3 : (keysL ([] : List RowS)).length = 0 := rfl;simp only [] at h2;rw [h3] at h2;show (keysL (rowsW ⟨[], none, -1⟩ (zak s).1).1.out).length <= 380;omega
end
end Go.Proofs.YtfdelmodmadoaaaGreatDoor
