/- The contract of the document's answer for characters that are told one by one. Plain functions for rows of files: letters, what stands within a name, what a character is parted into. No program stands here. -/
import Derived.Test.YtolcabjkbefjgaaGreatDoorZ02
import Derived.Shelf.Strings.SlTrimAscii
import Derived.Lib.SpaceUEq
import Derived.Shelf.Strings.OnBuilder
import Derived.Shelf.Small.Wraps
import Derived.Shelf.Strings.BuilderRune
import Derived.Shelf.Strings.Shaped
import Derived.Shelf.GgClosure.StringsRunes
import Derived.Shelf.Strings.SplitShaped
import Derived.Shelf.Strings.Explode
import Derived.Shelf.Strings.FieldsFuncGrows
import Derived.Shelf.Strings.BuilderCap
import Derived.Shelf.Slices.Turned
import Derived.Shelf.Slices.Clone
import Derived.Shelf.Slices.SearchI
set_option linter.unusedSimpArgs false
set_option linter.unusedVariables false
set_option maxRecDepth 20000
set_option maxHeartbeats 4000000
namespace Go.Proofs.YtolcabjkbefjgaaGreatDoor
section
open Go.RowKit
def zbn : List Int -> List (List UInt8) -> List Int × Int
 | out, [] => (out, 0)
 | out, w :: ws => if (hexS w).2 = 0 then zbn (out ++ [(hexS w).1]) ws else ([], (hexS w).2)
def zc9 (l : List UInt8) : List Int × Int := zbn [] (zff l)
theorem zf9 {out : List Int} {w : List UInt8} {ws : List (List UInt8)} (h : (hexS w).2 = 0) : zbn out (w :: ws) = zbn (out ++ [(hexS w).1]) ws := by
 simp only [zbn];rw [if_pos h]
theorem zhc {out : List Int} {w : List UInt8} {ws : List (List UInt8)} (h : ¬ (hexS w).2 = 0) : zbn out (w :: ws) = ([], (hexS w).2) := by
 simp only [zbn];rw [if_neg h]
theorem zj4 (l : List UInt8) : 0 <= (hexS l).1 /\ (hexS l).1 <= 1114111 /\ ((hexS l).2 = 0 \/ (hexS l).2 = 10 \/ (hexS l).2 = 11) := by
 unfold hexS;split
 ·simp
 ·split
  ·rename_i h1 h2;simp only [zaa, decide_eq_true_eq] at h2;exact ⟨by simp only []; omega, by simp only []; omega, .inl rfl⟩
  ·simp
end
section
open Go.RowKit
def letB (b : UInt8) : Bool := decide ((65 <= b.toNat /\ b.toNat <= 90) \/ (97 <= b.toNat /\ b.toNat <= 122))
def zbt (l : List UInt8) : Bool := l.all letB
def zd0 (r : Nat) : Bool := decide ((r < 97 \/ 122 < r) /\ (r < 65 \/ 90 < r))
def zbk (nm en : List UInt8) : List UInt8 × Bool := if Lib.hasPrefix nm [60] = true then (Lib.trimSuffix (nm.drop 1) en, Lib.hasSuffix (nm.drop 1) en) else ([], false)
def intoR (k s : List UInt8) : List UInt8 × List Int × Int :=
 if (zc9 s).2 ≠ 0 then ([], [], (zc9 s).2) else if 18 < (zc9 s).1.length then ([], [], 11) else (k, (zc9 s).1, 0)
def intoS (s : List UInt8) : List UInt8 × List Int × Int :=
 if Lib.hasPrefix s [60] = true then
  (if (Lib.cut (s.drop 1) [62]).2.2 = false \/ (Lib.cut (s.drop 1) [62]).1 = [] \/ zbt (Lib.cut (s.drop 1) [62]).1 = false \/ bareL (Lib.cut (s.drop 1) [62]).2.1 = [] then ([], [], 10)
   else intoR (Lib.cut (s.drop 1) [62]).1 (Lib.cut (s.drop 1) [62]).2.1)
 else intoR [] s
structure RowS where
 fr : Int
 up : Int
 nm : List UInt8
 ct : List UInt8
 cl : Int
 kd : List UInt8
 il : List Int
def RowS.none : RowS := ⟨0, 0, [], [], 0, [], []⟩
def zi1 (f : List (List UInt8)) : RowS × Int :=
 if f.length < 6 then (RowS.none, 10)
 else if (hexS (f.getD 0 [])).2 ≠ 0 then (RowS.none, (hexS (f.getD 0 [])).2)
 else if (decS (f.getD 3 [])).2 ≠ 0 then (RowS.none, (decS (f.getD 3 [])).2)
 else if 254 < (decS (f.getD 3 [])).1 then (RowS.none, 11)
 else if (intoS (f.getD 5 [])).2.2 ≠ 0 then (RowS.none, (intoS (f.getD 5 [])).2.2)
 else (⟨(hexS (f.getD 0 [])).1, (hexS (f.getD 0 [])).1, f.getD 1 [], f.getD 2 [], (decS (f.getD 3 [])).1, (intoS (f.getD 5 [])).1, (intoS (f.getD 5 [])).2.1⟩, 0)
def zaf (l : List UInt8) : RowS × Int := zi1 ((cutL 59 l).map bareL)
theorem notLet_byte (b : UInt8) : zd0 b.toNat = !letB b := by
 unfold zd0 letB;rw [Bool.eq_iff_iff];simp only [decide_eq_true_eq, Bool.not_eq_true', decide_eq_false_iff_not];omega
theorem notLet_high {x : Nat} (h : 128 <= x) : zd0 x = true := by
 unfold zd0;rw [decide_eq_true_eq];omega
theorem zgs (s : ByteArray) : ∀ (f pos : Nat), s.size - pos <= f -> (decide (0 <= Lib.idxFuncFrom zd0 true s f pos)) = !zbt ((bs s).drop pos)
 | f, pos, hf => by
  by_cases hp : pos < s.size
  ·obtain ⟨f, rfl⟩ : ∃ g, f = g + 1 := ⟨f - 1, by omega⟩;have hd := zc1 s pos hp;unfold Lib.idxFuncFrom;rw [if_pos hp]
   by_cases ha : (s[pos]'hp).toNat < 128
   ·have hdec : Utf8.decode s pos = ((s[pos]'hp).toNat, 1) := decode_ascii s pos hp ha;rw [hdec];simp only [];rw [notLet_byte]
    by_cases hl : letB (s[pos]'hp) = true
    ·rw [if_neg (by rw [hl]; simp), zgs s f (pos + 1) (by omega), hd];simp [zbt, hl]
    ·have hl' : letB (s[pos]'hp) = false := (by simpa using hl);rw [if_pos (by rw [hl']; rfl), hd];simp [zbt, hl']
   ·have hh := (decode_high s pos hp (by omega)).1;rw [if_pos (notLet_high hh), hd];have hl' : letB (s[pos]'hp) = false := (by unfold letB; rw [decide_eq_false_iff_not]; omega);simp [zbt, hl']
  ·rw [Lib.idxFuncFrom_end _ _ _ _ _ hp, List.drop_eq_nil_of_le (by rw [ze]; omega)];rfl
theorem idx_letters0 (s : ByteArray) : (decide (0 <= Lib.idxFunc zd0 true s)) = !zbt (bs s) := by
 have := zgs s s.size 0 (by omega);rw [List.drop_zero] at this;exact this
end
end Go.Proofs.YtolcabjkbefjgaaGreatDoor
