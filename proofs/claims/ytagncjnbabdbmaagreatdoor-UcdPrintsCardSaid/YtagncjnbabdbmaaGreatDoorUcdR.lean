/- Letters, and what stands within a name: the document's answer. -/
import Derived.Test.YtagncjnbabdbmaaGreatDoorUcdB
set_option linter.unusedSimpArgs false
set_option linter.unusedVariables false
namespace Go.Proofs.YtagncjnbabdbmaaGreatDoor
open Go.RowKit

theorem letB_cases (x : UInt8) : (x.toNat < 65 ∧ letB x = false) ∨ (65 ≤ x.toNat ∧ x.toNat ≤ 90 ∧ letB x = true) ∨ (90 < x.toNat ∧ x.toNat < 97 ∧ letB x = false) ∨ (97 ≤ x.toNat ∧ x.toNat ≤ 122 ∧ letB x = true) ∨ (122 < x.toNat ∧ letB x = false) := by
  unfold letB
  rcases (show x.toNat < 65 ∨ (65 ≤ x.toNat ∧ x.toNat ≤ 90) ∨ (90 < x.toNat ∧ x.toNat < 97) ∨ (97 ≤ x.toNat ∧ x.toNat ≤ 122) ∨ 122 < x.toNat by omega) with h | h | h | h | h
  · exact .inl ⟨h, by rw [decide_eq_false_iff_not]; omega⟩
  · exact .inr (.inl ⟨h.1, h.2, by rw [decide_eq_true_eq]; omega⟩)
  · exact .inr (.inr (.inl ⟨h.1, h.2, by rw [decide_eq_false_iff_not]; omega⟩))
  · exact .inr (.inr (.inr (.inl ⟨h.1, h.2, by rw [decide_eq_true_eq]; omega⟩)))
  · exact .inr (.inr (.inr (.inr ⟨h, by rw [decide_eq_false_iff_not]; omega⟩)))
theorem letters_cons (b : UInt8) (t : List UInt8) : lettersL (b :: t) = (letB b && lettersL t) := by simp [lettersL]
set_option maxRecDepth 20000 in
theorem rletters_any (s : ByteArray) (w : World) (hs : s.size ≤ 1073741824) :
    Calls Tryz.prog 20 #[.string s] w fun e w' => e = .returned (.bool (lettersL (bs s))) ∧ w = w' := by
  have hsi : (s.size : Int) ≤ 1073741824 := by omega
  obtain ⟨res, hres⟩ : ∃ res, res = lettersL (bs s) := ⟨_, rfl⟩
  rw [← hres]
  have HRES := Lib.hid hres
  clear hres hs
  go_enter Tryz.func20, Tryz.ntmps20
  go_wp2
  go_loop [3] (fun i => ∃ k : Nat, k ≤ s.size ∧ i = .int .i64 k ∧ Hid (res = lettersL ((bs s).drop k))) (fun i => s.size - (intOf i).toNat)
  case atStart => exact ⟨0, Nat.zero_le _, rfl, (by show res = _; rw [HRES.out]; rfl)⟩
  case round =>
    obtain ⟨k, hk, rfl, HR⟩ := hrel
    by_cases hlt : k < s.size
    · have hki : (k : Int) < (s.size : Int) := by omega
      have hd := bs_drop s k hlt
      have hx := fun w => index_at s (k : Int) k hlt rfl w
      obtain ⟨x, hxe⟩ : ∃ x, (s[k]'hlt) = x := ⟨_, rfl⟩
      rw [hxe] at hd hx
      rw [hd] at HR
      have hc := letB_cases x
      have HR1 : Hid (res = (letB x && lettersL ((bs s).drop (k + 1)))) := by show _ = _; rw [HR.out, letters_cons]
      obtain ⟨xv, hxv⟩ : ∃ xv : Nat, xv = x.toNat := ⟨_, rfl⟩
      rw [← hxv] at hx hc
      clear hd hxe HR hxv
      rcases hc with ⟨h1, e⟩ | ⟨h1, h2, e⟩ | ⟨h1, h2, e⟩ | ⟨h1, h2, e⟩ | ⟨h1, e⟩
      · have HR2 : Hid (res = false) := by show _ = _; rw [HR1.out, e]; rfl
        have g1 : (xv : Int) < 65 := by omega
        clear h1 e HR1
        go_wp2
        go_returns
        exact ⟨ret_bool HR2.out.symm, rfl⟩
      · have HR2 : Hid (res = lettersL ((bs s).drop (k + 1))) := by show _ = _; rw [HR1.out, e]; rfl
        have g1 : (65 : Int) ≤ (xv : Int) := by omega
        have g2 : (xv : Int) ≤ 90 := by omega
        clear h1 h2 e HR1
        go_wp2
        go_round
        case rel => exact ⟨k + 1, by omega, by go_num, HR2⟩
        case measure => simp [intOf]; omega
      · have HR2 : Hid (res = false) := by show _ = _; rw [HR1.out, e]; rfl
        have g1 : (90 : Int) < (xv : Int) := by omega
        have g2 : (xv : Int) < 97 := by omega
        clear h1 h2 e HR1
        go_wp2
        go_returns
        exact ⟨ret_bool HR2.out.symm, rfl⟩
      · have HR2 : Hid (res = lettersL ((bs s).drop (k + 1))) := by show _ = _; rw [HR1.out, e]; rfl
        have g1 : (97 : Int) ≤ (xv : Int) := by omega
        have g2 : (xv : Int) ≤ 122 := by omega
        clear h1 h2 e HR1
        go_wp2
        go_round
        case rel => exact ⟨k + 1, by omega, by go_num, HR2⟩
        case measure => simp [intOf]; omega
      · have HR2 : Hid (res = false) := by show _ = _; rw [HR1.out, e]; rfl
        have g1 : (122 : Int) < (xv : Int) := by omega
        clear h1 e HR1
        go_wp2
        go_returns
        exact ⟨ret_bool HR2.out.symm, rfl⟩
    · have hki : (s.size : Int) ≤ (k : Int) := by omega
      have HR2 : Hid (res = true) := by show _ = _; rw [HR.out, List.drop_eq_nil_of_le (by rw [bs_length]; omega)]; rfl
      clear HR
      go_wp2
      go_returns
      exact ⟨ret_bool HR2.out.symm, rfl⟩
theorem suf_iff (s p : List UInt8) : Lib.hasSuffix s p = true ↔ p.length ≤ s.length ∧ s.drop (s.length - p.length) = p := by
  unfold Lib.hasSuffix
  rw [List.isSuffixOf_iff_suffix]
  constructor
  · rintro ⟨a, rfl⟩
    refine ⟨by simp, ?_⟩
    simp
  · rintro ⟨h, e⟩
    exact ⟨s.take (s.length - p.length), by rw [← e]; simp [List.length_drop]; rw [show s.length - (s.length - (s.length - p.length)) = s.length - p.length by omega]; exact List.take_append_drop _ _⟩
theorem slice_fromU (s : ByteArray) (i : Int) (a : Nat) (ha : a ≤ s.size) (h : i = (a : Int)) (w : World) :
    (Instr.slice 9 (.string s) (some (.int .i64 i)) none none).run Tryz.prog w = .ok (.string (s.extract a s.size)) w := by
  subst h
  have := run_slice_string_l (P := Tryz.prog) w 9 s Tryz.underlying9 .i64 (a : Int) (by omega) (by omega)
  simpa using this
end Go.Proofs.YtagncjnbabdbmaaGreatDoor
