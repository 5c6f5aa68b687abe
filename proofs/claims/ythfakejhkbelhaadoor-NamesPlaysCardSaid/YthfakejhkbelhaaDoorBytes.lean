/- Bytes of strings as lists, and the numbers that digits tell. No program stands here. -/
import Derived.Test.YthfakejhkbelhaaDoorBase
import Derived.Laws.RangeAny
import Derived.Lib.Strings
set_option linter.unusedSimpArgs false
set_option linter.unusedVariables false
namespace Go.Proofs.YthfakejhkbelhaaDoor
open Go.RowKit

/-- A string's bytes. -/
def bs (s : ByteArray) : List UInt8 := s.data.toList
theorem bs_length (s : ByteArray) : (bs s).length = s.size := by simp [bs]
theorem bs_get (s : ByteArray) (i : Nat) (h : i < s.size) : (bs s)[i]? = some (s[i]'h) := by
  have hl : i < (bs s).length := by rw [bs_length]; exact h
  rw [List.getElem?_eq_getElem hl]
  rfl
theorem bs_drop (s : ByteArray) (i : Nat) (h : i < s.size) : (bs s).drop i = s[i]'h :: (bs s).drop (i + 1) := by
  have hl : i < (bs s).length := by rw [bs_length]; exact h
  rw [List.drop_eq_getElem_cons hl]
  rfl
theorem bs_drop_end (s : ByteArray) (i : Nat) (h : s.size ≤ i) : (bs s).drop i = [] := List.drop_eq_nil_of_le (by rw [bs_length]; exact h)
theorem bs_inj {s t : ByteArray} (h : bs s = bs t) : s = t := by
  cases s with | mk a => cases t with | mk b => cases a; cases b; simp [bs] at h; rw [h]
theorem bs_mk (l : List UInt8) : bs ⟨l.toArray⟩ = l := rfl
theorem mk_bs (s : ByteArray) : (⟨(bs s).toArray⟩ : ByteArray) = s := by cases s; rfl
theorem bs_nil {s : ByteArray} (h : s.size = 0) : bs s = [] := List.eq_nil_of_length_eq_zero (by rw [bs_length]; exact h)
theorem bs_append (s t : ByteArray) : bs (s ++ t) = bs s ++ bs t := by simp [bs]
theorem bs_extract (s : ByteArray) (a b : Nat) : bs (s.extract a b) = ((bs s).take b).drop a := by
  simp [bs, ByteArray.data_extract]
  rw [List.drop_take]

theorem toList_bs (s : ByteArray) : s.toList = bs s := ByteArray.toList_eq s
/-- A hex digit's number; -1: it is none. -/
def hexDigit (c : Int) : Int :=
  if 48 ≤ c ∧ c ≤ 57 then c - 48 else if 97 ≤ c ∧ c ≤ 102 then c - 87 else if 65 ≤ c ∧ c ≤ 70 then c - 55 else -1
theorem hexDigit_ge (c : Int) : -1 ≤ hexDigit c := by unfold hexDigit; split <;> (try split) <;> (try split) <;> omega
theorem hexDigit_le (c : Int) : hexDigit c ≤ 15 := by unfold hexDigit; split <;> (try split) <;> (try split) <;> omega
theorem hexDigit_high {c : Int} (h : 128 ≤ c) : hexDigit c = -1 := by unfold hexDigit; rw [if_neg (by omega), if_neg (by omega), if_neg (by omega)]
/-- The number that digits tell behind n; -1: one of them is none. -/
def numFrom (base : Int) : Int → List UInt8 → Int
  | n, [] => n
  | n, b :: t => if hexDigit b.toNat < 0 ∨ base ≤ hexDigit b.toNat then -1 else numFrom base (n * base + hexDigit b.toNat) t
def numS (base : Int) (most : Nat) (l : List UInt8) : Int := if l.length = 0 ∨ most < l.length then -1 else numFrom base 0 l
theorem numFrom_bad {base n : Int} {b : UInt8} {t : List UInt8} (h : hexDigit b.toNat < 0 ∨ base ≤ hexDigit b.toNat) : numFrom base n (b :: t) = -1 := by
  simp only [numFrom]
  rw [if_pos h]
theorem numFrom_good {base n : Int} {b : UInt8} {t : List UInt8} (h : 0 ≤ hexDigit b.toNat) (h' : hexDigit b.toNat < base) : numFrom base n (b :: t) = numFrom base (n * base + hexDigit b.toNat) t := by
  simp only [numFrom]
  rw [if_neg (by omega)]
end Go.Proofs.YthfakejhkbelhaaDoor
