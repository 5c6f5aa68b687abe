/- Plain functions for rows of files: letters, what stands within a name, what a character is parted into. No program stands here. -/
import Derived.Test.YtagncjnbabdbmaaGreatDoorFldJoin
import Derived.Test.YtagncjnbabdbmaaGreatDoorFldPlain
import Derived.Shelf.GgClosure.StringsIndexFunc
set_option linter.unusedSimpArgs false
set_option linter.unusedVariables false
namespace Go.Proofs.YtagncjnbabdbmaaGreatDoor
open Go.RowKit

def letB (b : UInt8) : Bool := decide ((65 ≤ b.toNat ∧ b.toNat ≤ 90) ∨ (97 ≤ b.toNat ∧ b.toNat ≤ 122))
def lettersL (l : List UInt8) : Bool := l.all letB
/-- No letter, of a character. -/
def notLet (r : Nat) : Bool := decide ((r < 97 ∨ 122 < r) ∧ (r < 65 ∨ 90 < r))
/-- What stands within a name of a range's first or last line: the code's word. -/
def innerS (nm en : List UInt8) : List UInt8 × Bool := if Lib.hasPrefix nm [60] = true then (Lib.trimSuffix (nm.drop 1) en, Lib.hasSuffix (nm.drop 1) en) else ([], false)
/-- .. the document's. -/
def rinnerS (nm en : List UInt8) : List UInt8 × Bool := if (innerS nm en).2 = true then ((innerS nm en).1, true) else ([], false)
def intoR (k s : List UInt8) : List UInt8 × List Int × Int :=
  if (runesS s).2 ≠ 0 then ([], [], (runesS s).2) else if 18 < (runesS s).1.length then ([], [], 11) else (k, (runesS s).1, 0)
/-- What a character is parted into, and in which way. -/
def intoS (s : List UInt8) : List UInt8 × List Int × Int :=
  if Lib.hasPrefix s [60] = true then
    (if (Lib.cut (s.drop 1) [62]).2.2 = false ∨ (Lib.cut (s.drop 1) [62]).1 = [] ∨ lettersL (Lib.cut (s.drop 1) [62]).1 = false ∨ bareL (Lib.cut (s.drop 1) [62]).2.1 = [] then ([], [], 10)
     else intoR (Lib.cut (s.drop 1) [62]).1 (Lib.cut (s.drop 1) [62]).2.1)
  else intoR [] s
/-- A row: from, to, name, category, class, kind, into. -/
structure RowS where
  fr : Int
  up : Int
  nm : List UInt8
  ct : List UInt8
  cl : Int
  kd : List UInt8
  il : List Int
def RowS.none : RowS := ⟨0, 0, [], [], 0, [], []⟩
/-- What a line tells, by itself. -/
def parseF (f : List (List UInt8)) : RowS × Int :=
  if f.length < 6 then (RowS.none, 10)
  else if (hexS (f.getD 0 [])).2 ≠ 0 then (RowS.none, (hexS (f.getD 0 [])).2)
  else if (decS (f.getD 3 [])).2 ≠ 0 then (RowS.none, (decS (f.getD 3 [])).2)
  else if 254 < (decS (f.getD 3 [])).1 then (RowS.none, 11)
  else if (intoS (f.getD 5 [])).2.2 ≠ 0 then (RowS.none, (intoS (f.getD 5 [])).2.2)
  else (⟨(hexS (f.getD 0 [])).1, (hexS (f.getD 0 [])).1, f.getD 1 [], f.getD 2 [], (decS (f.getD 3 [])).1, (intoS (f.getD 5 [])).1, (intoS (f.getD 5 [])).2.1⟩, 0)
def parseS (l : List UInt8) : RowS × Int := parseF ((cutL 59 l).map bareL)

theorem notLet_byte (b : UInt8) : notLet b.toNat = !letB b := by
  unfold notLet letB
  rw [Bool.eq_iff_iff]
  simp only [decide_eq_true_eq, Bool.not_eq_true', decide_eq_false_iff_not]
  omega
theorem notLet_high {x : Nat} (h : 128 ≤ x) : notLet x = true := by
  unfold notLet
  rw [decide_eq_true_eq]
  omega
/-- No letter among the characters, just if none among the bytes. -/
theorem idx_letters (s : ByteArray) : ∀ (f pos : Nat), s.size - pos ≤ f → (decide (0 ≤ Lib.idxFuncFrom notLet true s f pos)) = !lettersL ((bs s).drop pos)
  | f, pos, hf => by
    by_cases hp : pos < s.size
    · obtain ⟨f, rfl⟩ : ∃ g, f = g + 1 := ⟨f - 1, by omega⟩
      have hd := bs_drop s pos hp
      unfold Lib.idxFuncFrom
      rw [if_pos hp]
      by_cases ha : (s[pos]'hp).toNat < 128
      · have hdec : Utf8.decode s pos = ((s[pos]'hp).toNat, 1) := decode_ascii s pos hp ha
        rw [hdec]
        simp only []
        rw [notLet_byte]
        by_cases hl : letB (s[pos]'hp) = true
        · rw [if_neg (by rw [hl]; simp), idx_letters s f (pos + 1) (by omega), hd]
          simp [lettersL, hl]
        · have hl' : letB (s[pos]'hp) = false := by simpa using hl
          rw [if_pos (by rw [hl']; rfl), hd]
          simp [lettersL, hl']
      · have hh := (decode_high s pos hp (by omega)).1
        rw [if_pos (notLet_high hh), hd]
        have hl' : letB (s[pos]'hp) = false := by unfold letB; rw [decide_eq_false_iff_not]; omega
        simp [lettersL, hl']
    · rw [Lib.idxFuncFrom_end _ _ _ _ _ hp, List.drop_eq_nil_of_le (by rw [bs_length]; omega)]
      rfl
theorem idx_letters0 (s : ByteArray) : (decide (0 ≤ Lib.idxFunc notLet true s)) = !lettersL (bs s) := by
  have := idx_letters s s.size 0 (by omega)
  rw [List.drop_zero] at this
  exact this
end Go.Proofs.YtagncjnbabdbmaaGreatDoor
