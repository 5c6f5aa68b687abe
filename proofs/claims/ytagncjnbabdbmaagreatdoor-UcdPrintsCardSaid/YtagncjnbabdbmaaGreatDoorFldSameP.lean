/- Digits small or large, blanks more or fewer, remarks: plain words. No program stands here. -/
import Derived.Test.YtagncjnbabdbmaaGreatDoorFldBackP
import Derived.Test.YtagncjnbabdbmaaGreatDoorFldL
set_option linter.unusedSimpArgs false
set_option linter.unusedVariables false
namespace Go.Proofs.YtagncjnbabdbmaaGreatDoor
open Go.RowKit

def lowB (b : UInt8) : UInt8 := if 65 ≤ b.toNat ∧ b.toNat ≤ 70 then b + 32 else b
theorem lowB_yes {b : UInt8} (h : 65 ≤ b.toNat ∧ b.toNat ≤ 70) : (lowB b).toNat = b.toNat + 32 := by
  unfold lowB
  rw [if_pos h, UInt8.toNat_add, show (32 : UInt8).toNat = 32 from rfl, Nat.mod_eq_of_lt (by omega)]
theorem lowB_no {b : UInt8} (h : ¬ (65 ≤ b.toNat ∧ b.toNat ≤ 70)) : lowB b = b := by
  unfold lowB
  rw [if_neg h]
theorem low_hex (b : UInt8) : hexDigit ((lowB b).toNat : Int) = hexDigit (b.toNat : Int) := by
  by_cases h : 65 ≤ b.toNat ∧ b.toNat ≤ 70
  · rw [lowB_yes h]
    unfold hexDigit
    rw [if_neg (by omega), if_pos (by omega), if_neg (by omega), if_neg (by omega), if_pos (by omega)]
    omega
  · rw [lowB_no h]
theorem low_blank (b : UInt8) : blankB (lowB b) = blankB b := by
  by_cases h : 65 ≤ b.toNat ∧ b.toNat ≤ 70
  · unfold blankB blankI
    rw [lowB_yes h, Bool.eq_iff_iff, decide_eq_true_iff, decide_eq_true_iff]
    omega
  · rw [lowB_no h]
theorem numFrom_low : ∀ (l : List UInt8) (v : Int), numFrom 16 v (l.map lowB) = numFrom 16 v l
  | [], v => rfl
  | b :: t, v => by simp only [List.map_cons, numFrom, low_hex, numFrom_low t]
theorem hexS_low (l : List UInt8) : hexS (l.map lowB) = hexS l := by
  have : numS 16 6 (l.map lowB) = numS 16 6 l := by unfold numS; rw [List.length_map, numFrom_low]
  unfold hexS
  rw [this]
theorem words_low : ∀ (l w : List UInt8), wordsFrom (w.map lowB) (l.map lowB) = (wordsFrom w l).map (List.map lowB)
  | [], w => by
    simp only [List.map_nil, wordsFrom]
    by_cases h : w = []
    · subst h; rfl
    · rw [if_neg (by simpa using h), if_neg h]; rfl
  | b :: t, w => by
    rw [List.map_cons]
    by_cases hb : blankB b = true
    · rw [words_blank _ _ (by rw [low_blank]; exact hb), words_blank _ _ hb]
      have := words_low t []
      rw [List.map_nil] at this
      by_cases h : w = []
      · subst h; simpa using this
      · rw [if_neg (by simpa using h), if_neg h, this]; rfl
    · have hb' : blankB b = false := by simpa using hb
      rw [words_more _ _ (by rw [low_blank]; exact hb'), words_more _ _ hb', ← words_low t, List.map_append]
      rfl
theorem runesW_low : ∀ (ws : List (List UInt8)) (out : List Int), runesW out (ws.map (List.map lowB)) = runesW out ws
  | [], out => rfl
  | w :: ws, out => by simp only [List.map_cons, runesW, hexS_low, runesW_low ws]
theorem runesS_low (l : List UInt8) : runesS (l.map lowB) = runesS l := by
  have := words_low l []
  rw [List.map_nil] at this
  unfold runesS wordsL
  rw [this, runesW_low]
def wideB (b : UInt8) : List UInt8 := if blankB b = true then [b, 32, 9] else [b]
def wideL (l : List UInt8) : List UInt8 := l.flatMap wideB
theorem wideL_snoc (l : List UInt8) (b : UInt8) : wideL (l ++ [b]) = wideL l ++ wideB b := by simp [wideL]
theorem wideB_le (b : UInt8) : (wideB b).length ≤ 3 := by unfold wideB; split <;> simp
theorem wideL_le : ∀ l : List UInt8, (wideL l).length ≤ 3 * l.length
  | [] => by simp [wideL]
  | b :: t => by
    have h1 := wideL_le t
    have h2 := wideB_le b
    simp only [wideL, List.flatMap_cons, List.length_append, List.length_cons] at h1 ⊢
    omega
theorem words_wide : ∀ (l w : List UInt8), wordsFrom w (wideL l) = wordsFrom w l
  | [], w => rfl
  | b :: t, w => by
    have hc : wideL (b :: t) = wideB b ++ wideL t := by simp [wideL]
    rw [hc]
    unfold wideB
    by_cases hb : blankB b = true
    · rw [if_pos hb]
      show wordsFrom w (b :: 32 :: 9 :: wideL t) = _
      have : wordsFrom [] (32 :: 9 :: wideL t) = wordsFrom [] t := by
        rw [words_blank _ _ (by decide), if_pos rfl, words_blank _ _ (by decide), if_pos rfl, words_wide t]
      rw [words_blank _ _ hb, words_blank _ _ hb, this]
    · have hb' : blankB b = false := by simpa using hb
      rw [if_neg hb]
      show wordsFrom w (b :: wideL t) = _
      rw [words_more _ _ hb', words_more _ _ hb', words_wide t]
theorem words_tab : ∀ (l w : List UInt8), wordsFrom w (l ++ [9]) = wordsFrom w l
  | [], w => by
    rw [List.nil_append, words_blank _ _ (by decide)]
    by_cases h : w = [] <;> simp [wordsFrom, h]
  | b :: t, w => by
    rw [List.cons_append]
    by_cases hb : blankB b = true
    · rw [words_blank _ _ hb, words_blank _ _ hb, words_tab t]
    · have hb' : blankB b = false := by simpa using hb
      rw [words_more _ _ hb', words_more _ _ hb', words_tab t]
theorem runesS_wide (l : List UInt8) : runesS ([32] ++ wideL l ++ [9]) = runesS l := by
  unfold runesS wordsL
  rw [words_tab]
  show runesW [] (wordsFrom [] (32 :: wideL l)) = _
  rw [words_blank _ _ (by decide), if_pos rfl, words_wide]
theorem no_one {c : UInt8} : ∀ {l : List UInt8}, (∀ b ∈ l, b ≠ c) → Lib.index l [c] = -1
  | [], h => rfl
  | b :: t, h => by
    have hb : b ≠ c := h b (by simp)
    have ih := no_one (l := t) (fun d hd => h d (by simp [hd]))
    simp only [Lib.index, ih, pre_one]
    rw [if_neg (by simpa using fun e => hb e.symm)]
    rfl
theorem cut_cons {c b : UInt8} {l : List UInt8} : (Lib.cut (b :: l) [c]).1 = if b = c then [] else b :: (Lib.cut l [c]).1 := by
  have hge := Lib.index_ge l [c]
  unfold Lib.cut
  simp only [Lib.index, pre_one]
  by_cases h : b = c
  · subst h; simp
  · have hcb : (c == b) = false := by simpa using fun e => h e.symm
    rw [hcb, if_neg h]
    by_cases hi : Lib.index l [c] = -1
    · simp [hi]
    · have h1 : (Lib.index l [c] == -1) = false := by simpa using hi
      obtain ⟨i, hi2⟩ : ∃ i : Nat, Lib.index l [c] = i := ⟨(Lib.index l [c]).toNat, by omega⟩
      have h0 : (0 : Int) ≤ (i : Int) := by omega
      have h2 : (0 : Int) ≤ (i : Int) + 1 := by omega
      have h3 : (((i : Int) + 1).toNat) = i + 1 := by omega
      rw [h1, hi2]
      simp [h0, h2, h3]
theorem cut_remark (r : List UInt8) : ∀ s : List UInt8, (Lib.cut (s ++ 35 :: r) [35]).1 = (Lib.cut s [35]).1
  | [] => by rw [List.nil_append, cut_cons, if_pos rfl]; rfl
  | b :: t => by rw [List.cons_append, cut_cons, cut_cons, cut_remark r t]
theorem tell_remark (s r : List UInt8) : tellL (s ++ [35] ++ r) = tellL s := by
  unfold tellL
  rw [List.append_assoc, List.singleton_append, cut_remark]
theorem linesS_one {s : List UInt8} (h : ∀ b ∈ s, b ≠ 10) (hl : s.length ≤ 512) : linesS s = (if tellL s = [] then [] else [(1, tellL s)], 0) := by
  have hc : cutL 10 s = [s] := by rw [cutL_R, cutR_miss 10 s [] (no_one h)]; rfl
  unfold linesS
  rw [hc, if_neg (show ¬ 4096 < [s].length by simp)]
  by_cases ht : tellL s = []
  · rw [linesW_none (by omega) ht, if_pos ht]; rfl
  · rw [linesW_some (by omega) ht, if_neg ht]; rfl
theorem linesS_remark {s r : List UInt8} (h : ∀ b ∈ s, b ≠ 10) (hr : ∀ b ∈ r, b ≠ 10) (hl : s.length + r.length < 512) : linesS (s ++ [35] ++ r) = linesS s := by
  rw [linesS_one h (by omega), linesS_one (s := s ++ [35] ++ r) (by
    intro b hb
    simp only [List.mem_append, List.mem_singleton] at hb
    rcases hb with (hb | rfl) | hb
    · exact h b hb
    · decide
    · exact hr b hb) (by simp; omega), tell_remark]
end Go.Proofs.YtagncjnbabdbmaaGreatDoor
