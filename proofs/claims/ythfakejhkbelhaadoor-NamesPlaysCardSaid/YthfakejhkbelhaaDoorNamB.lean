/- Which names may be: the walks. -/
import Derived.Test.YthfakejhkbelhaaDoorNamA
set_option linter.unusedSimpArgs false
set_option linter.unusedVariables false
namespace Go.Proofs.YthfakejhkbelhaaDoor
open Go.RowKit Go.Lib

theorem mayS_short {s : ByteArray} (h : s.size < 1 ∨ 64 < s.size) : mayS (bs s) = 11 := by
  unfold mayS; rw [bs_length, if_pos h]
theorem mayS_in {s : ByteArray} (h : ¬ (s.size < 1 ∨ 64 < s.size)) : mayS (bs s) = mayF false (bs s) := by
  unfold mayS; rw [bs_length, if_neg h]
/-- The arms of a round: which way its byte goes. -/
theorem may_arms (x : UInt8) : (digI (low0 x).toNat = true ∧ isB x = true) ∨ (digI (low0 x).toNat = false ∧ ltrI (low0 x).toNat = true ∧ isB x = true) ∨ (digI (low0 x).toNat = false ∧ ltrI (low0 x).toNat = false ∧ isB x = false ∧ betB x = true) ∨ (digI (low0 x).toNat = false ∧ ltrI (low0 x).toNat = false ∧ isB x = false ∧ betB x = false) := by
  have h := low0_is x
  cases hd : digI (low0 x).toNat <;> cases hl : ltrI (low0 x).toNat <;> cases hb : betB x <;> simp [hd, hl] at h <;> simp [← h]
set_option maxRecDepth 20000 in
set_option maxHeartbeats 4000000 in
theorem may_any (s : ByteArray) (w : World) (hE : EnvN w) :
    Calls Tryd.prog 10 #[.string s] w fun e w' => e = .returned (.int .i64 (mayS (bs s))) ∧ Below w.heap.size w w' := by
  by_cases hout : s.size < 1 ∨ 64 < s.size
  · rw [mayS_short hout]
    have hcase : (s.size : Int) < 1 ∨ ((1 : Int) ≤ (s.size : Int) ∧ (64 : Int) < (s.size : Int)) := by omega
    clear hout
    rcases hcase with h1 | ⟨h1, h2⟩
    all_goals
      go_enter Tryd.func10, Tryd.ntmps10
      go_wp2
      go_returns
      exact ⟨rfl, Below.refl _ _⟩
  · rw [mayS_in hout]
    have h1 : (1 : Int) ≤ (s.size : Int) := by omega
    have h2 : (s.size : Int) ≤ 64 := by omega
    obtain ⟨res, hres⟩ : ∃ res, res = mayF false (bs s) := ⟨_, rfl⟩
    rw [← hres]
    have HRES := Lib.hid hres
    clear hout hres
    go_enter Tryd.func10, Tryd.ntmps10
    go_wp2
    go_loopw [3, 17] (fun v i wr => ∃ (k : Nat) (sm : Bool), k ≤ s.size ∧ i = .int .i64 k ∧ v = .bool sm ∧ Hid (res = mayF sm ((bs s).drop k)) ∧ Below w.heap.size w wr) (fun _ i _ => s.size - (intOf i).toNat)
    case atStart => exact ⟨0, false, Nat.zero_le _, rfl, rfl, (by show res = _; rw [HRES.out]; rfl), Below.refl _ _⟩
    case round =>
      obtain ⟨k, sm, hk, rfl, rfl, HR, hbw⟩ := hrel
      replace hE := hE.below hbw
      by_cases hlt : k < s.size
      · have hki : (k : Int) < (s.size : Int) := by omega
        have hd := bs_drop s k hlt
        have hsl := fun w => slice_at s (k : Int) ((k : Int) + 1) k (k + 1) (by omega) (by omega) rfl (by omega) w
        have hx := fun w => index_at s (k : Int) k hlt rfl w
        have LW := fun w h => low1_any s k hlt w h
        obtain ⟨x, hxe⟩ : ∃ x, (s[k]'hlt) = x := ⟨_, rfl⟩
        obtain ⟨u, hu⟩ : ∃ u, s.extract k (k + 1) = u := ⟨_, rfl⟩
        rw [hxe] at hd hx LW
        rw [hu] at hsl LW
        have h0 := fun w => low0_index x w
        have DG := fun w => ndigit_any (low0 x).toNat w
        have LT := fun w => nletter_any (low0 x).toNat w
        have IX := fun w => idx_any x w
        have harm := may_arms x
        rw [hd] at HR
        obtain ⟨b0, hb0⟩ : ∃ b0 : Int, b0 = (low0 x).toNat := ⟨_, rfl⟩
        obtain ⟨ls, hls⟩ : ∃ ls, ls = mk8 (lowL x) := ⟨_, rfl⟩
        rw [← hb0] at h0 DG LT harm
        rw [← hls] at h0 LW
        clear hd hxe hu hb0 hls
        rcases harm with ⟨e1, e2⟩ | ⟨e1, e1', e2⟩ | ⟨e1, e1', e2, e3⟩ | ⟨e1, e1', e2, e3⟩
        · have HR2 : Hid (res = mayF true ((bs s).drop (k + 1))) := by show _ = _; rw [HR.out, mayF_is e2]
          rw [e1] at DG
          clear HR e1 e2 LT IX
          cases sm
          all_goals
            go_wp2_with fail
            refine (LW _ hE).mono ?_
            rintro e w1 ⟨rfl, hb1⟩
            go_wp2_with fail
            refine (DG _).mono ?_
            rintro e w2 ⟨rfl, rfl⟩
            go_wp2
            go_roundw
            case rel => exact ⟨k + 1, true, by omega, by go_num, rfl, HR2, below_then hbw hb1⟩
            case measure => simp [intOf]; omega
        · have HR2 : Hid (res = mayF true ((bs s).drop (k + 1))) := by show _ = _; rw [HR.out, mayF_is e2]
          rw [e1] at DG
          rw [e1'] at LT
          clear HR e1 e1' e2 IX
          cases sm
          all_goals
            go_wp2_with fail
            refine (LW _ hE).mono ?_
            rintro e w1 ⟨rfl, hb1⟩
            go_wp2_with fail
            refine (DG _).mono ?_
            rintro e w2 ⟨rfl, rfl⟩
            go_wp2_with fail
            refine (LT _).mono ?_
            rintro e w2 ⟨rfl, rfl⟩
            go_wp2
            go_roundw
            case rel => exact ⟨k + 1, true, by omega, by go_num, rfl, HR2, below_then hbw hb1⟩
            case measure => simp [intOf]; omega
        · have HR2 : Hid (res = mayF sm ((bs s).drop (k + 1))) := by show _ = _; rw [HR.out, mayF_bet e2 e3]
          rw [e1] at DG
          rw [e1'] at LT
          simp only [if_pos e3] at IX
          clear HR e1 e1' e2 e3
          cases sm
          all_goals
            go_wp2_with fail
            refine (LW _ hE).mono ?_
            rintro e w1 ⟨rfl, hb1⟩
            go_wp2_with fail
            refine (DG _).mono ?_
            rintro e w2 ⟨rfl, rfl⟩
            go_wp2_with fail
            refine (LT _).mono ?_
            rintro e w2 ⟨rfl, rfl⟩
            go_wp2_with fail
            refine (IX _).mono ?_
            rintro e w2 ⟨j, rfl, rfl, hj⟩
            go_wp2
            go_roundw
            case rel => exact ⟨k + 1, _, by omega, by go_num, rfl, HR2, below_then hbw hb1⟩
            case measure => simp [intOf]; omega
        · have hr10 : res = 10 := by rw [HR.out, mayF_no e2 e3]
          have HR10 := Lib.hid hr10
          rw [e1] at DG
          rw [e1'] at LT
          simp only [e3, Bool.false_eq_true, if_false] at IX
          clear HR e1 e1' e2 e3 hr10
          cases sm
          all_goals
            go_wp2_with fail
            refine (LW _ hE).mono ?_
            rintro e w1 ⟨rfl, hb1⟩
            go_wp2_with fail
            refine (DG _).mono ?_
            rintro e w2 ⟨rfl, rfl⟩
            go_wp2_with fail
            refine (LT _).mono ?_
            rintro e w2 ⟨rfl, rfl⟩
            go_wp2_with fail
            refine (IX _).mono ?_
            rintro e w2 ⟨j, rfl, rfl, hj⟩
            go_wp2
            go_returns
            exact ⟨ret_i64' HR10.out.symm, below_then hbw hb1⟩
      · have hki : (s.size : Int) ≤ (k : Int) := by omega
        have hdr : (bs s).drop k = [] := List.drop_eq_nil_of_le (by rw [bs_length]; omega)
        rw [hdr] at HR
        clear hdr
        cases sm
        all_goals
          go_wp2
          go_returns
          exact ⟨ret_i64' (by rw [HR.out]; rfl), hbw⟩
theorem small_pos (x : UInt8) : isB x = (digI x.toNat || decide (0 < smallI x)) := by
  have h := smallI_cases x
  unfold isB digI ltrI
  by_cases hu : 65 ≤ x.toNat ∧ x.toNat ≤ 90
  · rw [lowN_up hu, Bool.eq_iff_iff]
    simp only [Bool.or_eq_true, decide_eq_true_eq]
    omega
  · rw [lowN_no hu, Bool.eq_iff_iff]
    simp only [Bool.or_eq_true, decide_eq_true_eq]
    omega
theorem rmay_arms (x : UInt8) : (digI x.toNat = true ∧ isB x = true) ∨ (digI x.toNat = false ∧ 0 < smallI x ∧ isB x = true) ∨ (digI x.toNat = false ∧ smallI x = 0 ∧ isB x = false ∧ betB x = true) ∨ (digI x.toNat = false ∧ smallI x = 0 ∧ isB x = false ∧ betB x = false) := by
  have h := small_pos x
  cases hd : digI x.toNat
  · by_cases h0 : 0 < smallI x
    · exact .inr (.inl ⟨rfl, h0, by rw [h, hd]; simp [h0]⟩)
    · have hi : isB x = false := by rw [h, hd]; simp [h0]
      cases hb : betB x
      · exact .inr (.inr (.inr ⟨rfl, by have := smallI_cases x; omega, hi, rfl⟩))
      · exact .inr (.inr (.inl ⟨rfl, by have := smallI_cases x; omega, hi, rfl⟩))
  · exact .inl ⟨rfl, by rw [h, hd]; rfl⟩
set_option maxRecDepth 20000 in
set_option maxHeartbeats 4000000 in
theorem rmay_any (s : ByteArray) (w : World) (hs : s.size ≤ 1073741824) :
    Calls Tryd.prog 11 #[.string s] w fun e w' => e = .returned (.int .i64 (mayS (bs s))) ∧ w = w' := by
  by_cases hout : s.size < 1 ∨ 64 < s.size
  · rw [mayS_short hout]
    have hcase : (s.size : Int) < 1 ∨ ((1 : Int) ≤ (s.size : Int) ∧ (64 : Int) < (s.size : Int)) := by omega
    clear hout
    rcases hcase with h1 | ⟨h1, h2⟩
    all_goals
      go_enter Tryd.func11, Tryd.ntmps11
      go_wp2
      go_returns
      exact ⟨rfl, rfl⟩
  · rw [mayS_in hout]
    have h1 : (1 : Int) ≤ (s.size : Int) := by omega
    have h2 : (s.size : Int) ≤ 64 := by omega
    obtain ⟨res, hres⟩ : ∃ res, res = mayF false (bs s) := ⟨_, rfl⟩
    rw [← hres]
    have HRES := Lib.hid hres
    clear hout hres
    go_enter Tryd.func11, Tryd.ntmps11
    go_wp2
    go_loop [3, 4] (fun v i => ∃ (k : Nat) (sm : Bool), k ≤ s.size ∧ i = .int .i64 k ∧ v = .bool sm ∧ Hid (res = mayF sm ((bs s).drop k))) (fun _ i => s.size - (intOf i).toNat)
    case atStart => exact ⟨0, false, Nat.zero_le _, rfl, rfl, (by show res = _; rw [HRES.out]; rfl)⟩
    case round =>
      obtain ⟨k, sm, hk, rfl, rfl, HR⟩ := hrel
      by_cases hlt : k < s.size
      · have hki : (k : Int) < (s.size : Int) := by omega
        have hd := bs_drop s k hlt
        have hx := fun w => index_at s (k : Int) k hlt rfl w
        obtain ⟨x, hxe⟩ : ∃ x, (s[k]'hlt) = x := ⟨_, rfl⟩
        rw [hxe] at hd hx
        have DG := fun w => rdig_any x.toNat w
        have SM := fun w => small_any x w
        have BT := fun w => between_any x w
        have harm := rmay_arms x
        rw [hd] at HR
        obtain ⟨b0, hb0⟩ : ∃ b0 : Int, b0 = x.toNat := ⟨_, rfl⟩
        obtain ⟨n0, hn0⟩ : ∃ n0 : Int, n0 = smallI x := ⟨_, rfl⟩
        rw [← hb0] at hx DG SM BT harm
        rw [← hn0] at SM harm
        clear hd hxe hb0 hn0
        rcases harm with ⟨e1, e2⟩ | ⟨e1, e1', e2⟩ | ⟨e1, e1', e2, e3⟩ | ⟨e1, e1', e2, e3⟩
        · have HR2 : Hid (res = mayF true ((bs s).drop (k + 1))) := by show _ = _; rw [HR.out, mayF_is e2]
          rw [e1] at DG
          clear HR e1 e2 SM BT
          cases sm
          all_goals
            go_wp2_with fail
            refine (DG _).mono ?_
            rintro e w2 ⟨rfl, rfl⟩
            go_wp2
            go_round
            case rel => exact ⟨k + 1, true, by omega, by go_num, rfl, HR2⟩
            case measure => simp [intOf]; omega
        · have HR2 : Hid (res = mayF true ((bs s).drop (k + 1))) := by show _ = _; rw [HR.out, mayF_is e2]
          rw [e1] at DG
          clear HR e1 e2 BT
          cases sm
          all_goals
            go_wp2_with fail
            refine (DG _).mono ?_
            rintro e w2 ⟨rfl, rfl⟩
            go_wp2_with fail
            refine (SM _).mono ?_
            rintro e w2 ⟨rfl, rfl⟩
            go_wp2
            go_round
            case rel => exact ⟨k + 1, true, by omega, by go_num, rfl, HR2⟩
            case measure => simp [intOf]; omega
        · have HR2 : Hid (res = mayF sm ((bs s).drop (k + 1))) := by show _ = _; rw [HR.out, mayF_bet e2 e3]
          rw [e1] at DG
          rw [e3] at BT
          subst e1'
          clear HR e1 e2 e3
          cases sm
          all_goals
            go_wp2_with fail
            refine (DG _).mono ?_
            rintro e w2 ⟨rfl, rfl⟩
            go_wp2_with fail
            refine (SM _).mono ?_
            rintro e w2 ⟨rfl, rfl⟩
            go_wp2_with fail
            refine (BT _).mono ?_
            rintro e w2 ⟨rfl, rfl⟩
            go_wp2
            go_round
            case rel => exact ⟨k + 1, _, by omega, by go_num, rfl, HR2⟩
            case measure => simp [intOf]; omega
        · have hr10 : res = 10 := by rw [HR.out, mayF_no e2 e3]
          have HR10 := Lib.hid hr10
          rw [e1] at DG
          rw [e3] at BT
          subst e1'
          clear HR e1 e2 e3 hr10
          cases sm
          all_goals
            go_wp2_with fail
            refine (DG _).mono ?_
            rintro e w2 ⟨rfl, rfl⟩
            go_wp2_with fail
            refine (SM _).mono ?_
            rintro e w2 ⟨rfl, rfl⟩
            go_wp2_with fail
            refine (BT _).mono ?_
            rintro e w2 ⟨rfl, rfl⟩
            go_wp2
            go_returns
            exact ⟨ret_i64' HR10.out.symm, rfl⟩
      · have hki : (s.size : Int) ≤ (k : Int) := by omega
        have hdr : (bs s).drop k = [] := List.drop_eq_nil_of_le (by rw [bs_length]; omega)
        rw [hdr] at HR
        clear hdr
        cases sm
        all_goals
          go_wp2
          go_returns
          exact ⟨ret_i64' (by rw [HR.out]; rfl), rfl⟩
end Go.Proofs.YthfakejhkbelhaaDoor
