/- The contracts of the document's answer for syllables. Plain functions for rows of files: letters, what stands within a name, what a character is parted into. No program stands here. -/
import Derived.Test.YtggichcfklbjiaaGreatDoorG16
import Derived.Test.YtggichcfklbjiaaGreatDoorG08
import Derived.Test.YtggichcfklbjiaaGreatDoorG13
import Derived.Test.YtggichcfklbjiaaGreatDoorG06
import Derived.Shelf.GgClosure.StringsIndexFunc
section
namespace Go.Proofs.YtggichcfklbjiaaGreatDoor
open Go.RowKit

theorem rof_any (l v t : Int) (w : World) (h1 : 0 ≤ l) (h2 : l ≤ 19) (h3 : 0 ≤ v) (h4 : v ≤ 21) (h5 : 0 ≤ t) (h6 : t ≤ 28) :
    Calls Tryz.prog 66 #[.int .i64 l, .int .i64 v, .int .i64 t] w fun e w' => e = .returned (.int .i32 (44032 + 588 * l + 28 * v + t)) ∧ w = w' := by
  go_enter Tryz.func66, Tryz.ntmps66
  go_wp2
  go_returns
  exact ⟨rfl, rfl⟩

theorem ret_find {a b c a' b' c' : Int} {p q : Bool} (h1 : a = a') (h2 : b = b') (h3 : c = c') (h4 : p = q) : Ending.returned (.tuple #[.int .i64 a, .int .i64 b, .int .i64 c, .bool p]) = .returned (.tuple #[.int .i64 a', .int .i64 b', .int .i64 c', .bool q]) := by rw [h1, h2, h3, h4]

/-- A syllable's lead, vowel and tail. -/
def findH (r : Int) : Int × Int × Int × Bool :=
  if 44032 ≤ r ∧ r < 55204 then ((r - 44032) / 588, (r - 44032) / 28 % 21, (r - 44032) % 28, true) else (0, 0, 0, false)

theorem find_any (r : Int) (w : World) (hr0 : -2147483648 ≤ r) (hr1 : r ≤ 2147483647) :
    Calls Tryz.prog 65 #[.int .i32 r] w fun e w' => e = .returned (.tuple #[.int .i64 (findH r).1, .int .i64 (findH r).2.1, .int .i64 (findH r).2.2.1, .bool (findH r).2.2.2]) ∧ w = w' := by
  go_enter Tryz.func65, Tryz.ntmps65
  go_wp2_with fail
  go_loop [6] (fun i => ∃ k : Nat, k ≤ 19 ∧ i = .int .i64 k ∧ (r < 44032 ∨ 44032 + 588 * (k : Int) ≤ r)) (fun i => 19 - (intOf i).toNat)
  case atStart => exact ⟨0, by omega, rfl, by omega⟩
  case round =>
    obtain ⟨k, hk, rfl, hrel⟩ := hrel
    by_cases hlt : k < 19
    · by_cases h1 : r < 44032 + 588 * (k : Int)
      · have hr : r < 44032 := by omega
        clear hrel
        go_wp2_with (go_at_call 66; refine (rof_any _ _ _ _ (by omega) (by omega) (by omega) (by omega) (by omega) (by omega)).mono ?_; rintro e w' ⟨rfl, rfl⟩)
        go_round
        case rel => exact ⟨k + 1, by omega, by go_num, .inl hr⟩
        case measure => simp [intOf]; omega
      · by_cases h2 : 44032 + 588 * ((k : Int) + 1) ≤ r
        · have h1' : ¬ r < 44032 + 588 * (k : Int) := h1
          go_wp2_with (go_at_call 66; refine (rof_any _ _ _ _ (by omega) (by omega) (by omega) (by omega) (by omega) (by omega)).mono ?_; rintro e w' ⟨rfl, rfl⟩)
          go_round
          case rel => exact ⟨k + 1, by omega, by go_num, .inr (by omega)⟩
          case measure => simp [intOf]; omega
        · have h2' : r < 44032 + 588 * ((k : Int) + 1) := by omega
          have h1' : 44032 + 588 * (k : Int) ≤ r := by omega
          clear hrel h1 h2
          go_wp2_with (go_at_call 66; refine (rof_any _ _ _ _ (by omega) (by omega) (by omega) (by omega) (by omega) (by omega)).mono ?_; rintro e w' ⟨rfl, rfl⟩)
          go_loop [7, 2, 3, 4, 5, 8] (fun i _ _ _ _ _ => ∃ v : Nat, v ≤ 21 ∧ i = .int .i64 v ∧ 44032 + 588 * (k : Int) + 28 * (v : Int) ≤ r) (fun i _ _ _ _ _ => 21 - (intOf i).toNat)
          case atStart => exact ⟨0, by omega, rfl, by omega⟩
          case round =>
            obtain ⟨v, hv, rfl, hrel⟩ := hrel
            by_cases hv2 : v < 21
            · go_wp2_with fail
              go_loop [8, 2, 3, 4, 5] (fun i _ _ _ _ => ∃ t : Nat, t ≤ 28 ∧ i = .int .i64 t ∧ 44032 + 588 * (k : Int) + 28 * (v : Int) + (t : Int) ≤ r) (fun i _ _ _ _ => 28 - (intOf i).toNat)
              case atStart => exact ⟨0, by omega, rfl, by omega⟩
              case round =>
                obtain ⟨t, ht, rfl, hrel2⟩ := hrel
                by_cases ht2 : t < 28
                · by_cases he : 44032 + 588 * (k : Int) + 28 * (v : Int) + (t : Int) = r
                  · have heb : ((44032 + 588 * (k : Int) + 28 * (v : Int) + (t : Int)) == r) = true := by simpa using he
                    have HE := Lib.hid he; clear he
                    go_wp2_with (go_at_call 66; refine (rof_any _ _ _ _ (by omega) (by omega) (by omega) (by omega) (by omega) (by omega)).mono ?_; rintro e w' ⟨rfl, rfl⟩)
                    go_returns
                    have e : findH r = ((k : Int), (v : Int), (t : Int), true) := by
                      have := HE.out
                      unfold findH
                      rw [if_pos (by omega)]
                      have e1 : (r - 44032) / 588 = k := by omega
                      have e2 : (r - 44032) / 28 % 21 = v := by omega
                      have e3 : (r - 44032) % 28 = t := by omega
                      rw [e1, e2, e3]
                    rw [e]
                    exact ⟨rfl, rfl⟩
                  · have heb : ((44032 + 588 * (k : Int) + 28 * (v : Int) + (t : Int)) == r) = false := by simpa using he
                    go_wp2_with (go_at_call 66; refine (rof_any _ _ _ _ (by omega) (by omega) (by omega) (by omega) (by omega) (by omega)).mono ?_; rintro e w' ⟨rfl, rfl⟩)
                    go_round
                    case rel => exact ⟨t + 1, by omega, by go_num, by omega⟩
                    case measure => simp [intOf]; omega
                · go_wp2_with fail
                  go_round
                  case rel => exact ⟨v + 1, by omega, by go_num, by omega⟩
                  case measure => simp [intOf]; omega
            · exfalso; omega
    · have hk19 : k = 19 := by omega
      subst hk19
      have hf : findH r = (0, 0, 0, false) := by unfold findH; rw [if_neg (by omega)]
      have HF := Lib.hid hf
      clear hrel hf
      go_wp2_with fail
      go_returns
      rw [HF.out]
      exact ⟨rfl, rfl⟩

theorem rsplit_any (r : Int) (w : World) (hr0 : -2147483648 ≤ r) (hr1 : r ≤ 2147483647) :
    Calls Tryz.prog 38 #[.int .i32 r] w fun e w' => e = .returned (.tuple #[.int .i32 (splitH r).1, .int .i32 (splitH r).2.1, .bool (splitH r).2.2]) ∧ w = w' := by
  by_cases h : 44032 ≤ r ∧ r < 55204
  · have hf : findH r = ((r - 44032) / 588, (r - 44032) / 28 % 21, (r - 44032) % 28, true) := by unfold findH; rw [if_pos h]
    have HF := Lib.hid hf; clear hf
    obtain ⟨h1, h2⟩ := h
    by_cases ht : 0 < (r - 44032) % 28
    · have hs : splitH r = (r - (r - 44032) % 28, 4519 + (r - 44032) % 28, true) := by simp [splitH, h1, h2, ht]
      have HS := Lib.hid hs; clear hs
      have hb : ((r - 44032) % 28 == 0) = false := by simp; omega
      go_enter Tryz.func38, Tryz.ntmps38
      go_wp2_with fail
      refine (find_any r _ hr0 hr1).mono ?_
      rw [HF.out]
      rintro e w' ⟨rfl, rfl⟩
      go_wp2_with fail
      refine (rof_any _ _ 0 _ (by omega) (by omega) (by omega) (by omega) (by omega) (by omega)).mono ?_
      rintro e w' ⟨rfl, rfl⟩
      go_wp2
      go_returns
      exact ⟨ret_rrb (by rw [HS.out]; omega) (by rw [HS.out]) (by rw [HS.out]), rfl⟩
    · have hs : splitH r = (4352 + (r - 44032) / 588, 4449 + (r - 44032) / 28 % 21, true) := by simp [splitH, h1, h2, ht]
      have HS := Lib.hid hs; clear hs
      have hb : ((r - 44032) % 28 == 0) = true := by simp; omega
      go_enter Tryz.func38, Tryz.ntmps38
      go_wp2_with fail
      refine (find_any r _ hr0 hr1).mono ?_
      rw [HF.out]
      rintro e w' ⟨rfl, rfl⟩
      go_wp2
      go_returns
      exact ⟨ret_rrb (by rw [HS.out]) (by rw [HS.out]) (by rw [HS.out]), rfl⟩
  · have hf : findH r = (0, 0, 0, false) := by unfold findH; rw [if_neg h]
    have HF := Lib.hid hf; clear hf
    have hs : splitH r = (0, 0, false) := by unfold splitH; rw [if_neg h]
    have HS := Lib.hid hs; clear hs h
    go_enter Tryz.func38, Tryz.ntmps38
    go_wp2_with fail
    refine (find_any r _ hr0 hr1).mono ?_
    rw [HF.out]
    rintro e w' ⟨rfl, rfl⟩
    go_wp2
    go_returns
    exact ⟨ret_rrb (by rw [HS.out]) (by rw [HS.out]) (by rw [HS.out]), rfl⟩

theorem rjoin_any (a b : Int) (w : World) (ha0 : -2147483648 ≤ a) (ha1 : a ≤ 2147483647) (hb0 : -2147483648 ≤ b) (hb1 : b ≤ 2147483647) :
    Calls Tryz.prog 41 #[.int .i32 a, .int .i32 b] w fun e w' => e = .returned (.tuple #[.int .i32 (joinH a b).1, .bool (joinH a b).2]) ∧ w = w' := by
  by_cases h : 4352 ≤ a ∧ a < 4371 ∧ 4449 ≤ b ∧ b < 4470
  · have hj : joinH a b = (44032 + 588 * (a - 4352) + 28 * (b - 4449), true) := by unfold joinH; rw [if_pos h]
    have HJ := Lib.hid hj; clear hj
    obtain ⟨h1, h2, h3, h4⟩ := h
    go_enter Tryz.func41, Tryz.ntmps41
    go_wp2_with fail
    refine (rof_any (a - 4352) (b - 4449) 0 _ (by omega) (by omega) (by omega) (by omega) (by omega) (by omega)).mono ?_
    rintro e w' ⟨rfl, rfl⟩
    go_wp2
    go_returns
    exact ⟨ret_i32_bool (by rw [HJ.out]; try omega) (by rw [HJ.out]), rfl⟩
  · have hj : joinH a b = if 44032 ≤ a ∧ a < 55204 ∧ (a - 44032) % 28 = 0 ∧ 4519 < b ∧ b < 4547 then (a + (b - 4519), true) else (0, false) := by unfold joinH; rw [if_neg h]
    have HJ := Lib.hid hj; clear hj
    have step : ∀ (W : World), Calls Tryz.prog 41 #[.int .i32 a, .int .i32 b] W fun e w' => e = .returned (.tuple #[.int .i32 (joinH a b).1, .bool (joinH a b).2]) ∧ W = w' := by
      intro W
      by_cases hs : 44032 ≤ a ∧ a < 55204
      · have hf : findH a = ((a - 44032) / 588, (a - 44032) / 28 % 21, (a - 44032) % 28, true) := by unfold findH; rw [if_pos hs]
        have HF := Lib.hid hf; clear hf
        obtain ⟨h1, h2⟩ := hs
        by_cases hz : (a - 44032) % 28 = 0
        · have hzb : ((a - 44032) % 28 == 0) = true := by simpa using hz
          have HZ := Lib.hid hz; clear hz
          rcases (show (4519 < b ∧ b < 4547) ∨ b ≤ 4519 ∨ (4519 < b ∧ 4547 ≤ b) by omega) with ⟨h5, h6⟩ | h5 | ⟨h5, h6⟩
          · go_enter Tryz.func41, Tryz.ntmps41
            go_wp2_with fail
            refine (find_any a _ ha0 ha1).mono ?_
            rw [HF.out]
            rintro e w' ⟨rfl, rfl⟩
            go_wp2_with fail
            refine (rof_any _ _ (b - 4519) _ (by omega) (by omega) (by omega) (by omega) (by omega) (by omega)).mono ?_
            rintro e w' ⟨rfl, rfl⟩
            go_wp2
            go_returns
            exact ⟨ret_i32_bool (by rw [HJ.out, if_pos ⟨h1, h2, HZ.out, h5, h6⟩]; have := HZ.out; try omega) (by rw [HJ.out, if_pos ⟨h1, h2, HZ.out, h5, h6⟩]), rfl⟩
          all_goals
            have hn : ¬ (44032 ≤ a ∧ a < 55204 ∧ (a - 44032) % 28 = 0 ∧ 4519 < b ∧ b < 4547) := by omega
            have HN := Lib.hid hn; clear hn
            go_enter Tryz.func41, Tryz.ntmps41
            go_wp2_with fail
            refine (find_any a _ ha0 ha1).mono ?_
            rw [HF.out]
            rintro e w' ⟨rfl, rfl⟩
            go_wp2
            go_returns
            exact ⟨ret_i32_bool (by rw [HJ.out, if_neg HN.out]) (by rw [HJ.out, if_neg HN.out]), rfl⟩
        · have hzb : ((a - 44032) % 28 == 0) = false := by simpa using hz
          have hn : ¬ (44032 ≤ a ∧ a < 55204 ∧ (a - 44032) % 28 = 0 ∧ 4519 < b ∧ b < 4547) := fun hh => hz hh.2.2.1
          have HN := Lib.hid hn; clear hn hz
          go_enter Tryz.func41, Tryz.ntmps41
          go_wp2_with fail
          refine (find_any a _ ha0 ha1).mono ?_
          rw [HF.out]
          rintro e w' ⟨rfl, rfl⟩
          go_wp2
          go_returns
          exact ⟨ret_i32_bool (by rw [HJ.out, if_neg HN.out]) (by rw [HJ.out, if_neg HN.out]), rfl⟩
      · have hf : findH a = (0, 0, 0, false) := by unfold findH; rw [if_neg hs]
        have HF := Lib.hid hf; clear hf
        have hn : ¬ (44032 ≤ a ∧ a < 55204 ∧ (a - 44032) % 28 = 0 ∧ 4519 < b ∧ b < 4547) := fun hh => hs ⟨hh.1, hh.2.1⟩
        have HN := Lib.hid hn; clear hn hs
        have hways : a < 4352 ∨ 4371 ≤ a ∨ (4352 ≤ a ∧ a < 4371 ∧ b < 4449) ∨ (4352 ≤ a ∧ a < 4371 ∧ 4449 ≤ b ∧ 4470 ≤ b) := by omega
        rcases hways with h1 | h1 | ⟨h1, h2, h3⟩ | ⟨h1, h2, h3, h4⟩
        all_goals
          clear h
          go_enter Tryz.func41, Tryz.ntmps41
          go_wp2_with fail
          refine (find_any a _ ha0 ha1).mono ?_
          rw [HF.out]
          rintro e w' ⟨rfl, rfl⟩
          go_wp2
          go_returns
          exact ⟨ret_i32_bool (by rw [HJ.out, if_neg HN.out]) (by rw [HJ.out, if_neg HN.out]), rfl⟩
    exact step w
end Go.Proofs.YtggichcfklbjiaaGreatDoor
end

section
set_option linter.unusedSimpArgs false
set_option linter.unusedVariables false
namespace Go.Proofs.YtggichcfklbjiaaGreatDoor
open Go.RowKit

def letB (b : UInt8) : Bool := decide ((65 ≤ b.toNat ∧ b.toNat ≤ 90) ∨ (97 ≤ b.toNat ∧ b.toNat ≤ 122))
def lettersL (l : List UInt8) : Bool := l.all letB
/-- No letter, of a character. -/
def notLet (r : Nat) : Bool := decide ((r < 97 ∨ 122 < r) ∧ (r < 65 ∨ 90 < r))
/-- What stands within a name of a range's first or last line: the code's word. -/
def innerS (nm en : List UInt8) : List UInt8 × Bool := if Lib.hasPrefix nm [60] = true then (Lib.trimSuffix (nm.drop 1) en, Lib.hasSuffix (nm.drop 1) en) else ([], false)
/-- .. the document's. -/
def rinnerS (nm en : List UInt8) : List UInt8 × Bool := if (innerS nm en).2 = true then ((innerS nm en).1, true) else ([], false)
def intoR (k s : List UInt8) : List UInt8 × List Int × Int :=
  if (runesS s).2 ≠ 0 then ([], [], (runesS s).2) else if 18 < (runesS s).1.length then ([], [], 11) else (k, (runesS s).1, 0)
/-- What a character is parted into, and in which way. -/
def intoS (s : List UInt8) : List UInt8 × List Int × Int :=
  if Lib.hasPrefix s [60] = true then
    (if (Lib.cut (s.drop 1) [62]).2.2 = false ∨ (Lib.cut (s.drop 1) [62]).1 = [] ∨ lettersL (Lib.cut (s.drop 1) [62]).1 = false ∨ bareL (Lib.cut (s.drop 1) [62]).2.1 = [] then ([], [], 10)
     else intoR (Lib.cut (s.drop 1) [62]).1 (Lib.cut (s.drop 1) [62]).2.1)
  else intoR [] s
/-- A row: from, to, name, category, class, kind, into. -/
structure RowS where
  fr : Int
  up : Int
  nm : List UInt8
  ct : List UInt8
  cl : Int
  kd : List UInt8
  il : List Int
def RowS.none : RowS := ⟨0, 0, [], [], 0, [], []⟩
/-- What a line tells, by itself. -/
def parseF (f : List (List UInt8)) : RowS × Int :=
  if f.length < 6 then (RowS.none, 10)
  else if (hexS (f.getD 0 [])).2 ≠ 0 then (RowS.none, (hexS (f.getD 0 [])).2)
  else if (decS (f.getD 3 [])).2 ≠ 0 then (RowS.none, (decS (f.getD 3 [])).2)
  else if 254 < (decS (f.getD 3 [])).1 then (RowS.none, 11)
  else if (intoS (f.getD 5 [])).2.2 ≠ 0 then (RowS.none, (intoS (f.getD 5 [])).2.2)
  else (⟨(hexS (f.getD 0 [])).1, (hexS (f.getD 0 [])).1, f.getD 1 [], f.getD 2 [], (decS (f.getD 3 [])).1, (intoS (f.getD 5 [])).1, (intoS (f.getD 5 [])).2.1⟩, 0)
def parseS (l : List UInt8) : RowS × Int := parseF ((cutL 59 l).map bareL)

theorem notLet_byte (b : UInt8) : notLet b.toNat = !letB b := by
  unfold notLet letB
  rw [Bool.eq_iff_iff]
  simp only [decide_eq_true_eq, Bool.not_eq_true', decide_eq_false_iff_not]
  omega
theorem notLet_high {x : Nat} (h : 128 ≤ x) : notLet x = true := by
  unfold notLet
  rw [decide_eq_true_eq]
  omega
/-- No letter among the characters, just if none among the bytes. -/
theorem idx_letters (s : ByteArray) : ∀ (f pos : Nat), s.size - pos ≤ f → (decide (0 ≤ Lib.idxFuncFrom notLet true s f pos)) = !lettersL ((bs s).drop pos)
  | f, pos, hf => by
    by_cases hp : pos < s.size
    · obtain ⟨f, rfl⟩ : ∃ g, f = g + 1 := ⟨f - 1, by omega⟩
      have hd := bs_drop s pos hp
      unfold Lib.idxFuncFrom
      rw [if_pos hp]
      by_cases ha : (s[pos]'hp).toNat < 128
      · have hdec : Utf8.decode s pos = ((s[pos]'hp).toNat, 1) := decode_ascii s pos hp ha
        rw [hdec]
        simp only []
        rw [notLet_byte]
        by_cases hl : letB (s[pos]'hp) = true
        · rw [if_neg (by rw [hl]; simp), idx_letters s f (pos + 1) (by omega), hd]
          simp [lettersL, hl]
        · have hl' : letB (s[pos]'hp) = false := by simpa using hl
          rw [if_pos (by rw [hl']; rfl), hd]
          simp [lettersL, hl']
      · have hh := (decode_high s pos hp (by omega)).1
        rw [if_pos (notLet_high hh), hd]
        have hl' : letB (s[pos]'hp) = false := by unfold letB; rw [decide_eq_false_iff_not]; omega
        simp [lettersL, hl']
    · rw [Lib.idxFuncFrom_end _ _ _ _ _ hp, List.drop_eq_nil_of_le (by rw [bs_length]; omega)]
      rfl
theorem idx_letters0 (s : ByteArray) : (decide (0 ≤ Lib.idxFunc notLet true s)) = !lettersL (bs s) := by
  have := idx_letters s s.size 0 (by omega)
  rw [List.drop_zero] at this
  exact this
end Go.Proofs.YtggichcfklbjiaaGreatDoor
end
