/- Plain functions for names: which may be, and what they are plain. No program stands here. -/
import Derived.Test.YthfakejhkbelhaaDoorFldSpec
import Derived.Lib.TrimAscii
import Derived.Lib.TrimUEq
import Derived.Lib.MapLaws
import Derived.Lib.Case
set_option linter.unusedSimpArgs false
set_option linter.unusedVariables false
namespace Go.Proofs.YthfakejhkbelhaaDoor
open Go.RowKit

def digI (b : Int) : Bool := decide (48 ≤ b ∧ b ≤ 57)
def ltrI (b : Int) : Bool := decide (97 ≤ b ∧ b ≤ 122)
/-- A letter as a small one. -/
def lowN (b : UInt8) : UInt8 := if 65 ≤ b.toNat ∧ b.toNat ≤ 90 then b + 32 else b
def isB (b : UInt8) : Bool := digI (lowN b).toNat || ltrI (lowN b).toNat
def betB (b : UInt8) : Bool := decide (b = 45 ∨ b = 95 ∨ b = 46 ∨ b = 58 ∨ b = 43 ∨ b = 40 ∨ b = 41 ∨ b = 32)
def mayF : Bool → List UInt8 → Int
  | sm, [] => if sm = true then 0 else 10
  | sm, b :: t => if isB b = true then mayF true t else if betB b = true then mayF sm t else 10
/-- What is wrong with a name. -/
def mayS (l : List UInt8) : Int := if l.length < 1 ∨ 64 < l.length then 11 else mayF false l
def headDig : List UInt8 → Bool
  | [] => false
  | c :: _ => digI c.toNat
def zeroF : Bool → List UInt8 → List UInt8
  | _, [] => []
  | ahead, b :: t => if b = 48 ∧ ahead = false ∧ headDig t = true then zeroF false t else b :: zeroF (digI b.toNat) t
def filtL (l : List UInt8) : List UInt8 := (l.filter isB).map lowN
/-- A name's letters and digits. -/
def plainS (l : List UInt8) : List UInt8 := if mayS l = 0 then zeroF false (filtL l) else []

theorem lowN_up {b : UInt8} (h : 65 ≤ b.toNat ∧ b.toNat ≤ 90) : (lowN b).toNat = b.toNat + 32 := by
  unfold lowN
  rw [if_pos h, UInt8.toNat_add, show (32 : UInt8).toNat = 32 from rfl, Nat.mod_eq_of_lt (by omega)]
theorem lowN_no {b : UInt8} (h : ¬ (65 ≤ b.toNat ∧ b.toNat ≤ 90)) : lowN b = b := by
  unfold lowN
  rw [if_neg h]
theorem isB_high {b : UInt8} (h : 128 ≤ b.toNat) : isB b = false := by
  unfold isB digI ltrI
  rw [lowN_no (by omega), Bool.or_eq_false_iff, decide_eq_false_iff_not, decide_eq_false_iff_not]
  omega
theorem betB_high {b : UInt8} (h : 128 ≤ b.toNat) : betB b = false := by
  unfold betB
  rw [decide_eq_false_iff_not]
  intro hh
  rcases hh with rfl | rfl | rfl | rfl | rfl | rfl | rfl | rfl <;> exact absurd h (by decide)
theorem mayF_is {sm : Bool} {b : UInt8} {t : List UInt8} (h : isB b = true) : mayF sm (b :: t) = mayF true t := by simp only [mayF]; rw [if_pos h]
theorem mayF_bet {sm : Bool} {b : UInt8} {t : List UInt8} (h : isB b = false) (h2 : betB b = true) : mayF sm (b :: t) = mayF sm t := by simp only [mayF]; rw [if_neg (by rw [h]; simp), if_pos h2]
theorem mayF_no {sm : Bool} {b : UInt8} {t : List UInt8} (h : isB b = false) (h2 : betB b = false) : mayF sm (b :: t) = 10 := by simp only [mayF]; rw [if_neg (by rw [h]; simp), if_neg (by rw [h2]; simp)]
theorem mayF_ascii : ∀ (l : List UInt8) (s : Bool), mayF s l = 0 → ∀ b ∈ l, b.toNat < 128
  | [], _, _, b, hb => by simp at hb
  | c :: t, s, h, b, hb => by
    have hc : c.toNat < 128 := by
      by_cases hh : c.toNat < 128
      · exact hh
      · rw [mayF_no (isB_high (by omega)) (betB_high (by omega))] at h
        exact absurd h (by decide)
    rcases List.mem_cons.1 hb with rfl | hb
    · exact hc
    · cases hi : isB c with
      | true => rw [mayF_is hi] at h; exact mayF_ascii t _ h b hb
      | false =>
        cases h2 : betB c with
        | true => rw [mayF_bet hi h2] at h; exact mayF_ascii t _ h b hb
        | false => rw [mayF_no hi h2] at h; exact absurd h (by decide)
theorem mayS_ascii {l : List UInt8} (h : mayS l = 0) : l.length ≤ 64 ∧ ∀ b ∈ l, b.toNat < 128 := by
  unfold mayS at h
  split at h
  · exact absurd h (by decide)
  · exact ⟨by omega, mayF_ascii l _ h⟩
theorem mayF_val : ∀ (l : List UInt8) (s : Bool), mayF s l = 0 ∨ mayF s l = 10
  | [], s => by cases s <;> simp [mayF]
  | b :: t, s => by
    simp only [mayF]
    split
    · exact mayF_val t _
    · split
      · exact mayF_val t _
      · exact .inr rfl
theorem filtL_len (l : List UInt8) : (filtL l).length ≤ l.length := by
  unfold filtL
  rw [List.length_map]
  exact List.length_filter_le _ _
theorem filtL_cons (b : UInt8) (t : List UInt8) : filtL (b :: t) = if isB b = true then lowN b :: filtL t else filtL t := by
  unfold filtL
  by_cases h : isB b = true
  · rw [if_pos h, List.filter_cons_of_pos h]; rfl
  · rw [if_neg h, List.filter_cons_of_neg h]
theorem zeroF_drop {ahead : Bool} {b : UInt8} {t : List UInt8} (h : b = 48 ∧ ahead = false ∧ headDig t = true) : zeroF ahead (b :: t) = zeroF false t := by simp only [zeroF]; rw [if_pos h]
theorem zeroF_keep {ahead : Bool} {b : UInt8} {t : List UInt8} (h : ¬ (b = 48 ∧ ahead = false ∧ headDig t = true)) : zeroF ahead (b :: t) = b :: zeroF (digI b.toNat) t := by simp only [zeroF]; rw [if_neg h]
theorem zeroF_len : ∀ (l : List UInt8) (a : Bool), (zeroF a l).length ≤ l.length
  | [], a => by simp [zeroF]
  | b :: t, a => by
    simp only [zeroF]
    split
    · have := zeroF_len t false; simp; omega
    · have := zeroF_len t (digI b.toNat); simp; omega
theorem plainS_len (l : List UInt8) : (plainS l).length ≤ 64 := by
  unfold plainS
  split
  · rename_i h
    have h1 := (mayS_ascii h).1
    have h2 := filtL_len l
    have h3 := zeroF_len (filtL l) false
    omega
  · simp

/-! What Go's own functions make of bytes. -/
theorem enc_ascii : ∀ n : Nat, n < 128 → Lib.encodeRune (n : Int) = [UInt8.ofNat n] := by decide
theorem mapD_ascii (f : Int → Int) (hf : ∀ n : Nat, n < 128 → f (n : Int) = (n : Int) ∨ f (n : Int) < 0) : ∀ l : List UInt8, (∀ b ∈ l, b.toNat < 128) → Lib.mapD f l = l.filter (fun b => decide (0 ≤ f b.toNat))
  | [], _ => rfl
  | b :: t, h => by
    have hb : b.toNat < 128 := h b (by simp)
    have ih := mapD_ascii f hf t (fun c hc => h c (by simp [hc]))
    rw [Lib.mapD_step f (b :: t) (by simp), Lib.decodeL_ascii b t hb]
    simp only [List.drop_succ_cons, List.drop_zero]
    rw [ih]
    rcases hf b.toNat hb with h1 | h1
    · rw [if_pos (by omega), List.filter_cons_of_pos (by rw [decide_eq_true_eq]; omega), h1, enc_ascii _ hb]
      simp
    · rw [if_neg (by omega), List.filter_cons_of_neg (by rw [decide_eq_true_eq]; omega)]
      rfl
/-- What ToLower makes of one byte. -/
def lowL (x : UInt8) : List UInt8 := if x.toNat < 128 then [lowN x] else [239, 191, 189]
def low0 (x : UInt8) : UInt8 := if x.toNat < 128 then lowN x else 239
theorem low0_is (x : UInt8) : (digI (low0 x).toNat || ltrI (low0 x).toNat) = isB x := by
  unfold low0
  by_cases h : x.toNat < 128
  · rw [if_pos h]; rfl
  · rw [if_neg h, isB_high (by omega)]; rfl
theorem decodeL_high {x : UInt8} (h : 128 ≤ x.toNat) : Lib.decodeL [x] = (65533, 1) := by
  unfold Lib.decodeL
  rw [Lib.decode_at]
  exact Lib.decodeN_alone _ _ _ _ _ h (.inl (Nat.le_refl 1))
theorem lower_err : Lib.toLowerU 65533 = 65533 := by kernel_rfl
theorem toLower_high {x : UInt8} (h : 128 ≤ x.toNat) : Lib.toLowerD [x] = [239, 191, 189] := by
  unfold Lib.toLowerD
  rw [Lib.mapD_step _ _ (by simp), decodeL_high h]
  simp only [List.drop_succ_cons, List.drop_zero]
  rw [show ((65533 : Nat) : Int) = 65533 from rfl, lower_err]
  rfl
theorem lowerB_eq (b : UInt8) : Lib.lowerB b = lowN b := by
  unfold Lib.lowerB lowN Lib.isUpperB
  by_cases h : 65 ≤ b.toNat ∧ b.toNat ≤ 90
  · rw [if_pos h, if_pos]
    simp only [Bool.and_eq_true, decide_eq_true_eq]
    exact h
  · rw [if_neg h, if_neg]
    simp only [Bool.and_eq_true, decide_eq_true_eq]
    exact h
end Go.Proofs.YthfakejhkbelhaaDoor
