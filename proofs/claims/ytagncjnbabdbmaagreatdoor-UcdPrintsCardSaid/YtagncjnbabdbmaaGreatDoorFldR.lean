/- The contracts of the document's answer for fields: blanks, and what stands between bytes. -/
import Derived.Test.YtagncjnbabdbmaaGreatDoorRows
import Derived.Test.YtagncjnbabdbmaaGreatDoorFldSpec
import Derived.Test.YtagncjnbabdbmaaGreatDoorFldA
import Derived.Test.YtagncjnbabdbmaaGreatDoorStrs
set_option linter.unusedSimpArgs false
set_option linter.unusedVariables false
namespace Go.Proofs.YtagncjnbabdbmaaGreatDoor
open Go.RowKit

theorem ret_str {a b : ByteArray} (h : a = b) : Ending.returned (.string a) = .returned (.string b) := by rw [h]
theorem rblank_any (b : Int) (w : World) : Calls Tryz.prog 62 #[.int .u8 b] w fun e w' => e = .returned (.bool (blankI b)) ∧ w = w' := by
  rcases (show b = 9 ∨ b = 13 ∨ b = 32 ∨ (b ≠ 9 ∧ b ≠ 13 ∧ b ≠ 32) by omega) with rfl | rfl | rfl | ⟨h1, h2, h3⟩
  · go_enter Tryz.func62, Tryz.ntmps62
    go_wp2
    go_returns
    exact ⟨ret_bool (by decide), rfl⟩
  · go_enter Tryz.func62, Tryz.ntmps62
    go_wp2
    go_returns
    exact ⟨ret_bool (by decide), rfl⟩
  · go_enter Tryz.func62, Tryz.ntmps62
    go_wp2
    go_returns
    exact ⟨ret_bool (by decide), rfl⟩
  · have e1 : (b == 9) = false := by simpa using h1
    have e2 : (b == 13) = false := by simpa using h2
    have e3 : (b == 32) = false := by simpa using h3
    go_enter Tryz.func62, Tryz.ntmps62
    go_wp2
    go_returns
    exact ⟨ret_bool (by unfold blankI; symm; rw [decide_eq_false_iff_not]; omega), rfl⟩

theorem rbare_any (s : ByteArray) (w : World) (hs : s.size ≤ 4611686018427387904) :
    Calls Tryz.prog 37 #[.string s] w fun e w' => e = .returned (.string (mk8 (bareL (bs s)))) ∧ w = w' := by
  go_enter Tryz.func37, Tryz.ntmps37
  go_wp2_with fail
  go_loop [0] (fun v => ∃ t : ByteArray, v = .string t ∧ t.size ≤ s.size ∧ Hid (lstrip (bs t) = lstrip (bs s))) (fun v => strLen v)
  case atStart => exact ⟨s, rfl, Nat.le_refl _, rfl⟩
  case round =>
    obtain ⟨t, rfl, hts, HT⟩ := hrel
    by_cases hyes : ∃ h : 0 < t.size, blankB (t[0]'h) = true
    · obtain ⟨h0, hb⟩ := hyes
      have hne : t.toList.isEmpty = false := str_ne (by omega)
      have hne2 : (!t.toList.isEmpty) = true := by rw [hne]; rfl
      have hb' : blankI ((t[0]'h0).toNat : Int) = true := hb
      have hd := bs_drop t 0 h0
      rw [List.drop_zero] at hd
      have HL : Hid (lstrip (bs (t.extract 1 t.size)) = lstrip (bs s)) := by
        show _ = _
        rw [← HT.out, hd, lstrip_yes hb, bs_extract, List.take_of_length_le (by rw [bs_length]; exact Nat.le_refl _)]
      have h1s : (t.extract 1 t.size).size = t.size - 1 := by simp
      clear hd hb
      go_wp2_with (go_at_call 62; refine (rblank_any _ _).mono ?_; rintro e w' ⟨rfl, rfl⟩)
      go_round
      case rel => exact ⟨_, rfl, by rw [h1s]; omega, HL⟩
      case measure => simp [strLen]; omega
    · have HU : Hid (bs t = lstrip (bs s)) := by
        show _ = _
        rw [← HT.out]
        by_cases h0 : 0 < t.size
        · have hd := bs_drop t 0 h0
          rw [List.drop_zero] at hd
          rw [hd, lstrip_no]
          rcases Bool.eq_false_or_eq_true (blankB (t[0]'h0)) with h | h
          · exact absurd ⟨h0, h⟩ hyes
          · exact h
        · rw [bs_nil (by omega)]; rfl
      have hway : (t.size = 0 ∧ t.toList = [] ∧ t.toList.isEmpty = true) ∨ ∃ h0 : 0 < t.size, t.toList.isEmpty = false ∧ (!t.toList.isEmpty) = true ∧ blankI ((t[0]'h0).toNat : Int) = false := by
        by_cases h0 : 0 < t.size
        · refine .inr ⟨h0, str_ne (by omega), by rw [str_ne (by omega)]; rfl, ?_⟩
          rcases Bool.eq_false_or_eq_true (blankB (t[0]'h0)) with h | h
          · exact absurd ⟨h0, h⟩ hyes
          · exact h
        · have hz : t.size = 0 := by omega
          exact .inl ⟨hz, by rw [toList_bs, bs_nil hz], by rw [toList_bs, bs_nil hz]; rfl⟩
      clear hyes HT
      rcases hway with ⟨hz, hne, hne2⟩ | ⟨h0, hne, hne2, hbn⟩
      all_goals
        go_wp2_with (go_at_call 62; refine (rblank_any _ _).mono ?_; rintro e w' ⟨rfl, rfl⟩)
        go_loop [0] (fun v => ∃ u : ByteArray, v = .string u ∧ u.size ≤ s.size ∧ Hid (rstrip (bs u) = bareL (bs s))) (fun v => strLen v)
        case atStart => exact ⟨t, rfl, hts, by show rstrip _ = rstrip _; rw [HU.out]⟩
        case round =>
          obtain ⟨u, rfl, hus, HR⟩ := hrel
          by_cases hyes : ∃ h : 0 < u.size, blankB (u[u.size - 1]'(by omega)) = true
          · obtain ⟨h0, hb⟩ := hyes
            have hne' : u.toList.isEmpty = false := str_ne (by omega)
            have hne2' : (!u.toList.isEmpty) = true := by rw [hne']; rfl
            have hb' : blankI ((u[u.size - 1]'(by omega)).toNat : Int) = true := hb
            have hlt : u.size - 1 < u.size := by omega
            have hd := take_snocB (s := u) (k := u.size - 1) hlt
            rw [show u.size - 1 + 1 = u.size by omega, List.take_of_length_le (by rw [bs_length]; exact Nat.le_refl _)] at hd
            have HL : Hid (rstrip (bs (u.extract 0 (u.size - 1))) = bareL (bs s)) := by
              show _ = _
              rw [← HR.out, hd, rstrip_yes hb, bs_extract, List.drop_zero]
            have h1s : (u.extract 0 (u.size - 1)).size = u.size - 1 := by simp
            clear hd hb
            go_wp2_with (go_at_call 62; refine (rblank_any _ _).mono ?_; rintro e w' ⟨rfl, rfl⟩)
            go_round
            case rel => exact ⟨_, rfl, by simp; omega, HL⟩
            case measure => simp [strLen]; omega
          · have HE : Hid (bs u = bareL (bs s)) := by
              show _ = _
              rw [← HR.out]
              by_cases h0 : 0 < u.size
              · have hlt : u.size - 1 < u.size := by omega
                have hd := take_snocB (s := u) (k := u.size - 1) hlt
                rw [show u.size - 1 + 1 = u.size by omega, List.take_of_length_le (by rw [bs_length]; exact Nat.le_refl _)] at hd
                rw [hd, rstrip_no]
                rcases Bool.eq_false_or_eq_true (blankB (u[u.size - 1]'hlt)) with h | h
                · exact absurd ⟨h0, h⟩ hyes
                · exact h
              · rw [bs_nil (by omega)]; rfl
            have hway : (u.size = 0 ∧ u.toList = [] ∧ u.toList.isEmpty = true) ∨ ∃ h0 : u.size - 1 < u.size, 0 < u.size ∧ u.toList.isEmpty = false ∧ (!u.toList.isEmpty) = true ∧ blankI ((u[u.size - 1]'h0).toNat : Int) = false := by
              by_cases h0 : 0 < u.size
              · refine .inr ⟨by omega, h0, str_ne (by omega), by rw [str_ne (by omega)]; rfl, ?_⟩
                rcases Bool.eq_false_or_eq_true (blankB (u[u.size - 1]'(by omega))) with h | h
                · exact absurd ⟨h0, h⟩ hyes
                · exact h
              · have hz : u.size = 0 := by omega
                exact .inl ⟨hz, by rw [toList_bs, bs_nil hz], by rw [toList_bs, bs_nil hz]; rfl⟩
            clear hyes HR
            rcases hway with ⟨hz', hne', hne2'⟩ | ⟨h0', h1', hne', hne2', hbn'⟩
            all_goals
              go_wp2_with (go_at_call 62; refine (rblank_any _ _).mono ?_; rintro e w' ⟨rfl, rfl⟩)
              go_returns
              exact ⟨ret_str (mk8_eq HE.out), rfl⟩

theorem take_snoc' {α : Type} {l : List α} {k : Nat} {z : α} (h : l[k]? = some z) : l.take (k + 1) = l.take k ++ [z] := by
  rw [List.take_add_one, h]; rfl
end Go.Proofs.YtagncjnbabdbmaaGreatDoor
