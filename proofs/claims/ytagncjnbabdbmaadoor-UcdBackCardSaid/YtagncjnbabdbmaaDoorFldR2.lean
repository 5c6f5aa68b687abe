/- The contracts of the document's answer for numbers that digits tell. -/
import Derived.Test.YtagncjnbabdbmaaDoorFldR
set_option linter.unusedSimpArgs false
set_option linter.unusedVariables false
namespace Go.Proofs.YtagncjnbabdbmaaDoor
open Go.RowKit

theorem byte_lt (s : ByteArray) (k : Nat) (h : k < s.size) : (s[k]'h).toNat < 256 := UInt8.toNat_lt _
theorem hexS_bad {s : ByteArray} (h : numFrom 16 0 (bs s) = -1) : hexS (bs s) = (0, 10) := by
  have : numS 16 6 (bs s) = -1 := by unfold numS; split <;> simp [h]
  unfold hexS
  rw [this]
  decide
theorem hexS_len {s : ByteArray} (h : s.size = 0 ∨ 6 < s.size) : hexS (bs s) = (0, 10) := by
  have : numS 16 6 (bs s) = -1 := by unfold numS; rw [bs_length, if_pos h]
  unfold hexS
  rw [this]
  decide
theorem hexS_good {s : ByteArray} {n : Int} (h0 : ¬ (s.size = 0 ∨ 6 < s.size)) (h : numFrom 16 0 (bs s) = n) (hn : 0 ≤ n) : hexS (bs s) = if scalarB n = true then (n, 0) else (0, 11) := by
  have : numS 16 6 (bs s) = n := by unfold numS; rw [bs_length, if_neg h0, h]
  unfold hexS
  rw [this, if_neg (by omega)]

theorem rhex_any (s : ByteArray) (w : World) (hs : s.size ≤ 4611686018427387904) :
    Calls Tryd.prog 24 #[.string s] w fun e w' => e = .returned (.tuple #[.int .i32 (hexS (bs s)).1, .int .i64 (hexS (bs s)).2]) ∧ w = w' := by
  by_cases h0 : s.size = 0 ∨ 6 < s.size
  · have HX := Lib.hid (hexS_len h0)
    rcases h0 with h0 | h0
    · have h1 : (s.size : Int) < 1 := by omega
      go_enter Tryd.func24, Tryd.ntmps24
      go_wp2
      go_returns
      exact ⟨ret_ie (by rw [HX.out]) (by rw [HX.out]), rfl⟩
    · have h1 : (1 : Int) ≤ (s.size : Int) := by omega
      have h2 : (6 : Int) < (s.size : Int) := by omega
      go_enter Tryd.func24, Tryd.ntmps24
      go_wp2
      go_returns
      exact ⟨ret_ie (by rw [HX.out]) (by rw [HX.out]), rfl⟩
  · have h1 : (1 : Int) ≤ (s.size : Int) := by omega
    have h2 : (s.size : Int) ≤ 6 := by omega
    have H0 := Lib.hid h0; clear h0
    go_enter Tryd.func24, Tryd.ntmps24
    go_wp2
    go_loop [4, 5] (fun n i => ∃ (k : Nat) (v : Int), k ≤ s.size ∧ i = .int .i64 k ∧ n = .int .i64 v ∧ 0 ≤ v ∧ v < pow16 k ∧ Hid (numFrom 16 0 (bs s) = numFrom 16 v ((bs s).drop k))) (fun _ i => s.size - (intOf i).toNat)
    case atStart => exact ⟨0, 0, Nat.zero_le _, rfl, rfl, Int.le_refl _, by decide, rfl⟩
    case round =>
      obtain ⟨k, v, hk, rfl, rfl, hv0, hv1, HN⟩ := hrel
      have hv2 : v ≤ 16777215 := by have := pow16_le k (by omega); omega
      by_cases hp : k < s.size
      · have hdr := bs_drop s k hp
        rw [hdr] at HN
        have hd1 := hexDigit_ge ((s[k]'hp).toNat : Int)
        have hd2 := hexDigit_le ((s[k]'hp).toNat : Int)
        have hbl := byte_lt s k hp
        clear hdr
        have hi : (k : Int) < (s.size : Int) := by omega
        by_cases hbad : hexDigit ((s[k]'hp).toNat : Int) < 0
        · have HX := Lib.hid (hexS_bad (s := s) (by rw [HN.out]; exact numFrom_bad (.inl hbad)))
          go_wp2_with (go_at_call 54; refine (rdigit_any _ _ (by omega) (by omega)).mono ?_; rintro e w' ⟨rfl, rfl⟩)
          go_returns
          exact ⟨ret_ie (by rw [HX.out]) (by rw [HX.out]), rfl⟩
        · have HB := Lib.hid (numFrom_good (base := 16) (n := v) (b := s[k]'hp) (t := (bs s).drop (k + 1)) (by omega) (by omega))
          have hbad' : 0 ≤ hexDigit ((s[k]'hp).toNat : Int) := by omega
          go_wp2_with (go_at_call 54; refine (rdigit_any _ _ (by omega) (by omega)).mono ?_; rintro e w' ⟨rfl, rfl⟩)
          go_round
          case rel => exact ⟨k + 1, 16 * v + hexDigit ((s[k]'hp).toNat : Int), by omega, by go_num, by go_num, by omega, by simp only [pow16]; omega, by show _ = _; rw [HN.out, HB.out, Int.mul_comm v 16]⟩
          case measure => simp [intOf]; omega
      · have hks : k = s.size := by omega
        subst hks
        rw [bs_drop_end s _ (Nat.le_refl _)] at HN
        have HN' : numFrom 16 0 (bs s) = v := by rw [HN.out]; rfl
        have hx := hexS_good H0.out HN' hv0
        clear HN'
        rcases Bool.eq_false_or_eq_true (scalarB v) with hsc | hsc
        · rw [if_pos hsc] at hx
          have HX := Lib.hid hx; clear hx
          go_wp2_with (go_at_call 33; refine (scalar_any _ _).mono ?_; rintro e w' ⟨rfl, rfl⟩)
          go_returns
          exact ⟨ret_ie (by rw [HX.out]) (by rw [HX.out]), rfl⟩
        · rw [if_neg (by rw [hsc]; simp)] at hx
          have HX := Lib.hid hx; clear hx
          go_wp2_with (go_at_call 33; refine (scalar_any _ _).mono ?_; rintro e w' ⟨rfl, rfl⟩)
          go_returns
          exact ⟨ret_ie (by rw [HX.out]) (by rw [HX.out]), rfl⟩

theorem dec_digit {b : Int} : (48 ≤ b ∧ b ≤ 57 → hexDigit b = b - 48) ∧ (¬ (48 ≤ b ∧ b ≤ 57) → hexDigit b < 0 ∨ 10 ≤ hexDigit b) := by
  unfold hexDigit
  refine ⟨fun h => by rw [if_pos h], fun h => ?_⟩
  rw [if_neg h]
  split
  · omega
  · split <;> omega
theorem decS_bad {s : ByteArray} (h : numFrom 10 0 (bs s) = -1) : decS (bs s) = (0, 10) := by
  have : numS 10 5 (bs s) = -1 := by unfold numS; split <;> simp [h]
  unfold decS
  rw [this]
  decide
theorem decS_len {s : ByteArray} (h : s.size = 0 ∨ 5 < s.size) : decS (bs s) = (0, 10) := by
  have : numS 10 5 (bs s) = -1 := by unfold numS; rw [bs_length, if_pos h]
  unfold decS
  rw [this]
  decide
theorem decS_good {s : ByteArray} {n : Int} (h0 : ¬ (s.size = 0 ∨ 5 < s.size)) (h : numFrom 10 0 (bs s) = n) (hn : 0 ≤ n) : decS (bs s) = (n, 0) := by
  have : numS 10 5 (bs s) = n := by unfold numS; rw [bs_length, if_neg h0, h]
  unfold decS
  rw [this, if_neg (by omega)]

theorem rdec_any (s : ByteArray) (w : World) (hs : s.size ≤ 4611686018427387904) :
    Calls Tryd.prog 29 #[.string s] w fun e w' => e = .returned (.tuple #[.int .i64 (decS (bs s)).1, .int .i64 (decS (bs s)).2]) ∧ w = w' := by
  go_enter Tryd.func29, Tryd.ntmps29
  go_wp2
  go_loop [4, 5] (fun n i => ∃ (k : Nat) (v : Int), k ≤ s.size ∧ k ≤ 6 ∧ i = .int .i64 k ∧ n = .int .i64 v ∧ 0 ≤ v ∧ v < pow10 k ∧ Hid (numFrom 10 0 (bs s) = numFrom 10 v ((bs s).drop k))) (fun _ i => s.size - (intOf i).toNat)
  case atStart => exact ⟨0, 0, Nat.zero_le _, by omega, rfl, rfl, Int.le_refl _, by decide, rfl⟩
  case round =>
    obtain ⟨k, v, hk, hk6, rfl, rfl, hv0, hv1, HN⟩ := hrel
    have hv2 : v ≤ 16777215 := by have := pow10_le k (by omega); omega
    by_cases hp : k < s.size ∧ k < 6
    · obtain ⟨hp, hk5⟩ := hp
      have hdr := bs_drop s k hp
      rw [hdr] at HN
      have hbl := byte_lt s k hp
      clear hdr
      have hi : (k : Int) < (s.size : Int) := by omega
      have hi6 : (k : Int) < 6 := by omega
      have hdd := dec_digit (b := ((s[k]'hp).toNat : Int))
      by_cases hgood : 48 ≤ ((s[k]'hp).toNat : Int) ∧ ((s[k]'hp).toNat : Int) ≤ 57
      · have hdv := hdd.1 hgood
        obtain ⟨hg1, hg2⟩ := hgood
        have HB := Lib.hid (numFrom_good (base := 10) (n := v) (b := s[k]'hp) (t := (bs s).drop (k + 1)) (by omega) (by omega))
        rw [hdv] at HB
        clear hdv hdd
        go_wp2
        go_round
        case rel => exact ⟨k + 1, 10 * v + ((s[k]'hp).toNat : Int) - 48, by omega, by omega, by go_num, by go_num, by omega, by simp only [pow10]; omega, by show _ = _; rw [HN.out, HB.out, Int.mul_comm v 10, Int.add_sub_assoc]⟩
        case measure => simp [intOf]; omega
      · have HX := Lib.hid (decS_bad (s := s) (by rw [HN.out]; exact numFrom_bad (hdd.2 hgood)))
        rcases (show ((s[k]'hp).toNat : Int) < 48 ∨ (48 ≤ ((s[k]'hp).toNat : Int) ∧ 57 < ((s[k]'hp).toNat : Int)) by omega) with hl | ⟨hl, hl2⟩
        all_goals
          clear hdd hgood
          go_wp2
          go_returns
          exact ⟨ret_ne (by rw [HX.out]) (by rw [HX.out]), rfl⟩
    · have hin : (s.size : Int) ≤ (k : Int) ∨ ((k : Int) < (s.size : Int) ∧ 6 ≤ (k : Int)) := by omega
      by_cases hlen : s.size = 0 ∨ 5 < s.size
      · have HX := Lib.hid (decS_len hlen)
        rcases hlen with hl | hl
        · have hl1 : (s.size : Int) < 1 := by omega
          have hin' : (s.size : Int) ≤ (k : Int) := by omega
          clear hin hp
          go_wp2
          go_returns
          exact ⟨ret_ne (by rw [HX.out]) (by rw [HX.out]), rfl⟩
        · have hl1 : (1 : Int) ≤ (s.size : Int) := by omega
          have hl2 : (5 : Int) < (s.size : Int) := by omega
          clear hp
          rcases hin with hin | ⟨hin, hin2⟩
          all_goals
            go_wp2
            go_returns
            exact ⟨ret_ne (by rw [HX.out]) (by rw [HX.out]), rfl⟩
      · have hks : k = s.size := by omega
        subst hks
        rw [bs_drop_end s _ (Nat.le_refl _)] at HN
        have HN' : numFrom 10 0 (bs s) = v := by rw [HN.out]; rfl
        have HX := Lib.hid (decS_good hlen HN' hv0)
        clear HN'
        have hl1 : (1 : Int) ≤ (s.size : Int) := by omega
        have hl2 : (s.size : Int) ≤ 5 := by omega
        clear hin hp hlen
        go_wp2
        go_returns
        exact ⟨ret_ne (by rw [HX.out]) (by rw [HX.out]), rfl⟩
end Go.Proofs.YtagncjnbabdbmaaDoor
