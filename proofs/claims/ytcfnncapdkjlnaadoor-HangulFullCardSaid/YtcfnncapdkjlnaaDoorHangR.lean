/- The contracts of the document's answer for syllables. -/
import Derived.Test.YtcfnncapdkjlnaaDoorHangSpec
import Derived.Test.YtcfnncapdkjlnaaDoorRunes
namespace Go.Proofs.YtcfnncapdkjlnaaDoor
open Go.RowKit

theorem rof_any (l v t : Int) (w : World) (h1 : 0 ≤ l) (h2 : l ≤ 19) (h3 : 0 ≤ v) (h4 : v ≤ 21) (h5 : 0 ≤ t) (h6 : t ≤ 28) :
    Calls Tryd.prog 24 #[.int .i64 l, .int .i64 v, .int .i64 t] w fun e w' => e = .returned (.int .i32 (44032 + 588 * l + 28 * v + t)) ∧ w = w' := by
  go_enter Tryd.func24, Tryd.ntmps24
  go_wp2
  go_returns
  exact ⟨rfl, rfl⟩

theorem ret_find {a b c a' b' c' : Int} {p q : Bool} (h1 : a = a') (h2 : b = b') (h3 : c = c') (h4 : p = q) : Ending.returned (.tuple #[.int .i64 a, .int .i64 b, .int .i64 c, .bool p]) = .returned (.tuple #[.int .i64 a', .int .i64 b', .int .i64 c', .bool q]) := by rw [h1, h2, h3, h4]

/-- A syllable's lead, vowel and tail. -/
def findH (r : Int) : Int × Int × Int × Bool :=
  if 44032 ≤ r ∧ r < 55204 then ((r - 44032) / 588, (r - 44032) / 28 % 21, (r - 44032) % 28, true) else (0, 0, 0, false)

theorem find_any (r : Int) (w : World) (hr0 : -2147483648 ≤ r) (hr1 : r ≤ 2147483647) :
    Calls Tryd.prog 23 #[.int .i32 r] w fun e w' => e = .returned (.tuple #[.int .i64 (findH r).1, .int .i64 (findH r).2.1, .int .i64 (findH r).2.2.1, .bool (findH r).2.2.2]) ∧ w = w' := by
  go_enter Tryd.func23, Tryd.ntmps23
  go_wp2_with fail
  go_loop [6] (fun i => ∃ k : Nat, k ≤ 19 ∧ i = .int .i64 k ∧ (r < 44032 ∨ 44032 + 588 * (k : Int) ≤ r)) (fun i => 19 - (intOf i).toNat)
  case atStart => exact ⟨0, by omega, rfl, by omega⟩
  case round =>
    obtain ⟨k, hk, rfl, hrel⟩ := hrel
    by_cases hlt : k < 19
    · by_cases h1 : r < 44032 + 588 * (k : Int)
      · have hr : r < 44032 := by omega
        clear hrel
        go_wp2_with (go_at_call 24; refine (rof_any _ _ _ _ (by omega) (by omega) (by omega) (by omega) (by omega) (by omega)).mono ?_; rintro e w' ⟨rfl, rfl⟩)
        go_round
        case rel => exact ⟨k + 1, by omega, by go_num, .inl hr⟩
        case measure => simp [intOf]; omega
      · by_cases h2 : 44032 + 588 * ((k : Int) + 1) ≤ r
        · have h1' : ¬ r < 44032 + 588 * (k : Int) := h1
          go_wp2_with (go_at_call 24; refine (rof_any _ _ _ _ (by omega) (by omega) (by omega) (by omega) (by omega) (by omega)).mono ?_; rintro e w' ⟨rfl, rfl⟩)
          go_round
          case rel => exact ⟨k + 1, by omega, by go_num, .inr (by omega)⟩
          case measure => simp [intOf]; omega
        · have h2' : r < 44032 + 588 * ((k : Int) + 1) := by omega
          have h1' : 44032 + 588 * (k : Int) ≤ r := by omega
          clear hrel h1 h2
          go_wp2_with (go_at_call 24; refine (rof_any _ _ _ _ (by omega) (by omega) (by omega) (by omega) (by omega) (by omega)).mono ?_; rintro e w' ⟨rfl, rfl⟩)
          go_loop [7, 2, 3, 4, 5, 8] (fun i _ _ _ _ _ => ∃ v : Nat, v ≤ 21 ∧ i = .int .i64 v ∧ 44032 + 588 * (k : Int) + 28 * (v : Int) ≤ r) (fun i _ _ _ _ _ => 21 - (intOf i).toNat)
          case atStart => exact ⟨0, by omega, rfl, by omega⟩
          case round =>
            obtain ⟨v, hv, rfl, hrel⟩ := hrel
            by_cases hv2 : v < 21
            · go_wp2_with fail
              go_loop [8, 2, 3, 4, 5] (fun i _ _ _ _ => ∃ t : Nat, t ≤ 28 ∧ i = .int .i64 t ∧ 44032 + 588 * (k : Int) + 28 * (v : Int) + (t : Int) ≤ r) (fun i _ _ _ _ => 28 - (intOf i).toNat)
              case atStart => exact ⟨0, by omega, rfl, by omega⟩
              case round =>
                obtain ⟨t, ht, rfl, hrel2⟩ := hrel
                by_cases ht2 : t < 28
                · by_cases he : 44032 + 588 * (k : Int) + 28 * (v : Int) + (t : Int) = r
                  · have heb : ((44032 + 588 * (k : Int) + 28 * (v : Int) + (t : Int)) == r) = true := by simpa using he
                    have HE := Lib.hid he; clear he
                    go_wp2_with (go_at_call 24; refine (rof_any _ _ _ _ (by omega) (by omega) (by omega) (by omega) (by omega) (by omega)).mono ?_; rintro e w' ⟨rfl, rfl⟩)
                    go_returns
                    have e : findH r = ((k : Int), (v : Int), (t : Int), true) := by
                      have := HE.out
                      unfold findH
                      rw [if_pos (by omega)]
                      have e1 : (r - 44032) / 588 = k := by omega
                      have e2 : (r - 44032) / 28 % 21 = v := by omega
                      have e3 : (r - 44032) % 28 = t := by omega
                      rw [e1, e2, e3]
                    rw [e]
                    exact ⟨rfl, rfl⟩
                  · have heb : ((44032 + 588 * (k : Int) + 28 * (v : Int) + (t : Int)) == r) = false := by simpa using he
                    go_wp2_with (go_at_call 24; refine (rof_any _ _ _ _ (by omega) (by omega) (by omega) (by omega) (by omega) (by omega)).mono ?_; rintro e w' ⟨rfl, rfl⟩)
                    go_round
                    case rel => exact ⟨t + 1, by omega, by go_num, by omega⟩
                    case measure => simp [intOf]; omega
                · go_wp2_with fail
                  go_round
                  case rel => exact ⟨v + 1, by omega, by go_num, by omega⟩
                  case measure => simp [intOf]; omega
            · exfalso; omega
    · have hk19 : k = 19 := by omega
      subst hk19
      have hf : findH r = (0, 0, 0, false) := by unfold findH; rw [if_neg (by omega)]
      have HF := Lib.hid hf
      clear hrel hf
      go_wp2_with fail
      go_returns
      rw [HF.out]
      exact ⟨rfl, rfl⟩

theorem rsplit_any (r : Int) (w : World) (hr0 : -2147483648 ≤ r) (hr1 : r ≤ 2147483647) :
    Calls Tryd.prog 10 #[.int .i32 r] w fun e w' => e = .returned (.tuple #[.int .i32 (splitH r).1, .int .i32 (splitH r).2.1, .bool (splitH r).2.2]) ∧ w = w' := by
  by_cases h : 44032 ≤ r ∧ r < 55204
  · have hf : findH r = ((r - 44032) / 588, (r - 44032) / 28 % 21, (r - 44032) % 28, true) := by unfold findH; rw [if_pos h]
    have HF := Lib.hid hf; clear hf
    obtain ⟨h1, h2⟩ := h
    by_cases ht : 0 < (r - 44032) % 28
    · have hs : splitH r = (r - (r - 44032) % 28, 4519 + (r - 44032) % 28, true) := by simp [splitH, h1, h2, ht]
      have HS := Lib.hid hs; clear hs
      have hb : ((r - 44032) % 28 == 0) = false := by simp; omega
      go_enter Tryd.func10, Tryd.ntmps10
      go_wp2_with fail
      refine (find_any r _ hr0 hr1).mono ?_
      rw [HF.out]
      rintro e w' ⟨rfl, rfl⟩
      go_wp2_with fail
      refine (rof_any _ _ 0 _ (by omega) (by omega) (by omega) (by omega) (by omega) (by omega)).mono ?_
      rintro e w' ⟨rfl, rfl⟩
      go_wp2
      go_returns
      exact ⟨ret_rrb (by rw [HS.out]; omega) (by rw [HS.out]) (by rw [HS.out]), rfl⟩
    · have hs : splitH r = (4352 + (r - 44032) / 588, 4449 + (r - 44032) / 28 % 21, true) := by simp [splitH, h1, h2, ht]
      have HS := Lib.hid hs; clear hs
      have hb : ((r - 44032) % 28 == 0) = true := by simp; omega
      go_enter Tryd.func10, Tryd.ntmps10
      go_wp2_with fail
      refine (find_any r _ hr0 hr1).mono ?_
      rw [HF.out]
      rintro e w' ⟨rfl, rfl⟩
      go_wp2
      go_returns
      exact ⟨ret_rrb (by rw [HS.out]) (by rw [HS.out]) (by rw [HS.out]), rfl⟩
  · have hf : findH r = (0, 0, 0, false) := by unfold findH; rw [if_neg h]
    have HF := Lib.hid hf; clear hf
    have hs : splitH r = (0, 0, false) := by unfold splitH; rw [if_neg h]
    have HS := Lib.hid hs; clear hs h
    go_enter Tryd.func10, Tryd.ntmps10
    go_wp2_with fail
    refine (find_any r _ hr0 hr1).mono ?_
    rw [HF.out]
    rintro e w' ⟨rfl, rfl⟩
    go_wp2
    go_returns
    exact ⟨ret_rrb (by rw [HS.out]) (by rw [HS.out]) (by rw [HS.out]), rfl⟩

theorem rfull_any (r : Int) (w : World) (hr0 : -2147483648 ≤ r) (hr1 : r ≤ 2147483647) :
    Calls Tryd.prog 14 #[.int .i32 r] w (FreshR w (fullH r)) := by
  by_cases h : 44032 ≤ r ∧ r < 55204
  · have hf : findH r = ((r - 44032) / 588, (r - 44032) / 28 % 21, (r - 44032) % 28, true) := by unfold findH; rw [if_pos h]
    have HF := Lib.hid hf; clear hf
    obtain ⟨h1, h2⟩ := h
    have hnew : (w.alloc (.cells #[.int .i32 (4352 + (r - 44032) / 588), .int .i32 (4449 + (r - 44032) / 28 % 21)] 21)).ownsRow w.heap.size 21 1 (.slice (some ⟨w.heap.size, 0, none⟩) 2 2) 2 [.int .i32 (4352 + (r - 44032) / 588), .int .i32 (4449 + (r - 44032) / 28 % 21)] :=
      World.ownsRow_lit w _ 2 (Nat.le_refl _) (by unfold maxLen; omega) rfl
    by_cases ht : 0 < (r - 44032) % 28
    · have hs : fullH r = [4352 + (r - 44032) / 588, 4449 + (r - 44032) / 28 % 21, 4519 + (r - 44032) % 28] := by unfold fullH; rw [if_pos ⟨h1, h2⟩, if_pos ht]
      have HS := Lib.hid hs; clear hs
      have hd : decide (0 < (r - 44032) % 28) = true := by simp; omega
      go_enter Tryd.func14, Tryd.ntmps14
      go_wp2_with fail
      refine (find_any r _ hr0 hr1).mono ?_
      rw [HF.out]
      rintro e w' ⟨rfl, rfl⟩
      go_wp2_with (at_builtin; refine wpList_app runeElem _ rfl _ _ rfl w.heap.size rfl (hnew.alloc _) rfl (Rd.newAt _ _ _ (by simp)) (one_of rfl) (by omega) (by omega) (by simp; omega) ?_)
      intro A1 c1 w1 hown1 hg1 hat1
      have hb1 := below_app (((Below.refl w.heap.size w).alloc (Nat.le_refl _) _).alloc (by simp) _) (by simp; omega) (hnew.alloc _) hg1
      go_wp2
      go_returns
      rw [HS.out]
      exact ⟨A1, c1, rfl, by simpa using hown1, hb1⟩
    · have hs : fullH r = [4352 + (r - 44032) / 588, 4449 + (r - 44032) / 28 % 21] := by unfold fullH; rw [if_pos ⟨h1, h2⟩, if_neg ht]
      have HS := Lib.hid hs; clear hs
      have hd : decide (0 < (r - 44032) % 28) = false := by simp; omega
      go_enter Tryd.func14, Tryd.ntmps14
      go_wp2_with fail
      refine (find_any r _ hr0 hr1).mono ?_
      rw [HF.out]
      rintro e w' ⟨rfl, rfl⟩
      go_wp2
      go_returns
      rw [HS.out]
      exact ⟨_, _, rfl, by simpa using hnew, (Below.refl w.heap.size w).alloc (Nat.le_refl _) _⟩
  · have hf : findH r = (0, 0, 0, false) := by unfold findH; rw [if_neg h]
    have HF := Lib.hid hf; clear hf
    have hs : fullH r = [] := by unfold fullH; rw [if_neg h]
    have HS := Lib.hid hs; clear hs h
    go_enter Tryd.func14, Tryd.ntmps14
    go_wp2_with fail
    refine (find_any r _ hr0 hr1).mono ?_
    rw [HF.out]
    rintro e w' ⟨rfl, rfl⟩
    go_wp2
    go_returns
    rw [HS.out]
    exact ⟨none, 0, rfl, World.ownsRow_nil _ _ _ _, Below.refl _ _⟩

theorem rjoin_any (a b : Int) (w : World) (ha0 : -2147483648 ≤ a) (ha1 : a ≤ 2147483647) (hb0 : -2147483648 ≤ b) (hb1 : b ≤ 2147483647) :
    Calls Tryd.prog 17 #[.int .i32 a, .int .i32 b] w fun e w' => e = .returned (.tuple #[.int .i32 (joinH a b).1, .bool (joinH a b).2]) ∧ w = w' := by
  by_cases h : 4352 ≤ a ∧ a < 4371 ∧ 4449 ≤ b ∧ b < 4470
  · have hj : joinH a b = (44032 + 588 * (a - 4352) + 28 * (b - 4449), true) := by unfold joinH; rw [if_pos h]
    have HJ := Lib.hid hj; clear hj
    obtain ⟨h1, h2, h3, h4⟩ := h
    go_enter Tryd.func17, Tryd.ntmps17
    go_wp2_with fail
    refine (rof_any (a - 4352) (b - 4449) 0 _ (by omega) (by omega) (by omega) (by omega) (by omega) (by omega)).mono ?_
    rintro e w' ⟨rfl, rfl⟩
    go_wp2
    go_returns
    exact ⟨ret_i32_bool (by rw [HJ.out]; try omega) (by rw [HJ.out]), rfl⟩
  · have hj : joinH a b = if 44032 ≤ a ∧ a < 55204 ∧ (a - 44032) % 28 = 0 ∧ 4519 < b ∧ b < 4547 then (a + (b - 4519), true) else (0, false) := by unfold joinH; rw [if_neg h]
    have HJ := Lib.hid hj; clear hj
    have step : ∀ (W : World), Calls Tryd.prog 17 #[.int .i32 a, .int .i32 b] W fun e w' => e = .returned (.tuple #[.int .i32 (joinH a b).1, .bool (joinH a b).2]) ∧ W = w' := by
      intro W
      by_cases hs : 44032 ≤ a ∧ a < 55204
      · have hf : findH a = ((a - 44032) / 588, (a - 44032) / 28 % 21, (a - 44032) % 28, true) := by unfold findH; rw [if_pos hs]
        have HF := Lib.hid hf; clear hf
        obtain ⟨h1, h2⟩ := hs
        by_cases hz : (a - 44032) % 28 = 0
        · have hzb : ((a - 44032) % 28 == 0) = true := by simpa using hz
          have HZ := Lib.hid hz; clear hz
          rcases (show (4519 < b ∧ b < 4547) ∨ b ≤ 4519 ∨ (4519 < b ∧ 4547 ≤ b) by omega) with ⟨h5, h6⟩ | h5 | ⟨h5, h6⟩
          · go_enter Tryd.func17, Tryd.ntmps17
            go_wp2_with fail
            refine (find_any a _ ha0 ha1).mono ?_
            rw [HF.out]
            rintro e w' ⟨rfl, rfl⟩
            go_wp2_with fail
            refine (rof_any _ _ (b - 4519) _ (by omega) (by omega) (by omega) (by omega) (by omega) (by omega)).mono ?_
            rintro e w' ⟨rfl, rfl⟩
            go_wp2
            go_returns
            exact ⟨ret_i32_bool (by rw [HJ.out, if_pos ⟨h1, h2, HZ.out, h5, h6⟩]; have := HZ.out; try omega) (by rw [HJ.out, if_pos ⟨h1, h2, HZ.out, h5, h6⟩]), rfl⟩
          all_goals
            have hn : ¬ (44032 ≤ a ∧ a < 55204 ∧ (a - 44032) % 28 = 0 ∧ 4519 < b ∧ b < 4547) := by omega
            have HN := Lib.hid hn; clear hn
            go_enter Tryd.func17, Tryd.ntmps17
            go_wp2_with fail
            refine (find_any a _ ha0 ha1).mono ?_
            rw [HF.out]
            rintro e w' ⟨rfl, rfl⟩
            go_wp2
            go_returns
            exact ⟨ret_i32_bool (by rw [HJ.out, if_neg HN.out]) (by rw [HJ.out, if_neg HN.out]), rfl⟩
        · have hzb : ((a - 44032) % 28 == 0) = false := by simpa using hz
          have hn : ¬ (44032 ≤ a ∧ a < 55204 ∧ (a - 44032) % 28 = 0 ∧ 4519 < b ∧ b < 4547) := fun hh => hz hh.2.2.1
          have HN := Lib.hid hn; clear hn hz
          go_enter Tryd.func17, Tryd.ntmps17
          go_wp2_with fail
          refine (find_any a _ ha0 ha1).mono ?_
          rw [HF.out]
          rintro e w' ⟨rfl, rfl⟩
          go_wp2
          go_returns
          exact ⟨ret_i32_bool (by rw [HJ.out, if_neg HN.out]) (by rw [HJ.out, if_neg HN.out]), rfl⟩
      · have hf : findH a = (0, 0, 0, false) := by unfold findH; rw [if_neg hs]
        have HF := Lib.hid hf; clear hf
        have hn : ¬ (44032 ≤ a ∧ a < 55204 ∧ (a - 44032) % 28 = 0 ∧ 4519 < b ∧ b < 4547) := fun hh => hs ⟨hh.1, hh.2.1⟩
        have HN := Lib.hid hn; clear hn hs
        have hways : a < 4352 ∨ 4371 ≤ a ∨ (4352 ≤ a ∧ a < 4371 ∧ b < 4449) ∨ (4352 ≤ a ∧ a < 4371 ∧ 4449 ≤ b ∧ 4470 ≤ b) := by omega
        rcases hways with h1 | h1 | ⟨h1, h2, h3⟩ | ⟨h1, h2, h3, h4⟩
        all_goals
          clear h
          go_enter Tryd.func17, Tryd.ntmps17
          go_wp2_with fail
          refine (find_any a _ ha0 ha1).mono ?_
          rw [HF.out]
          rintro e w' ⟨rfl, rfl⟩
          go_wp2
          go_returns
          exact ⟨ret_i32_bool (by rw [HJ.out, if_neg HN.out]) (by rw [HJ.out, if_neg HN.out]), rfl⟩
    exact step w
end Go.Proofs.YtcfnncapdkjlnaaDoor
