/- The contracts of numbers that digits tell: fields.digit, number, Hex, Number, api.Scalar, and the document's Digit, Hex, Number. -/
import Derived.Test.YtagncjnbabdbmaaGreatDoorRows
import Derived.Test.YtagncjnbabdbmaaGreatDoorBytes
import Derived.WalkSpells
set_option linter.unusedSimpArgs false
set_option linter.unusedVariables false
namespace Go.Proofs.YtagncjnbabdbmaaGreatDoor
open Go.RowKit

def scalarB (r : Int) : Bool := decide ((0 ≤ r ∧ r < 55296) ∨ (57343 < r ∧ r ≤ 1114111))
theorem scalar_any (r : Int) (w : World) : Calls Tryz.prog 12 #[.int .i32 r] w fun e w' => e = .returned (.bool (scalarB r)) ∧ w = w' := by
  rcases (show r < 0 ∨ (0 ≤ r ∧ r < 55296) ∨ (55296 ≤ r ∧ r ≤ 57343) ∨ (57343 < r ∧ r ≤ 1114111) ∨ 1114111 < r by omega) with h | ⟨h, h'⟩ | ⟨h, h'⟩ | ⟨h, h'⟩ | h
  all_goals
    go_enter Tryz.func12, Tryz.ntmps12
    go_wp2
    go_returns
    exact ⟨ret_bool (by unfold scalarB; symm; first | (rw [decide_eq_true_iff]; omega) | (rw [decide_eq_false_iff_not]; omega) | (rw [Bool.eq_iff_iff]; simp; omega)), rfl⟩

theorem digit_any (r : Int) (w : World) : Calls Tryz.prog 83 #[.int .i32 r] w fun e w' => e = .returned (.int .i64 (hexDigit r)) ∧ w = w' := by
  rcases (show r < 48 ∨ (48 ≤ r ∧ r ≤ 57) ∨ (57 < r ∧ r < 65) ∨ (65 ≤ r ∧ r ≤ 70) ∨ (70 < r ∧ r < 97) ∨ (97 ≤ r ∧ r ≤ 102) ∨ 102 < r by omega) with h | ⟨h, h'⟩ | ⟨h, h'⟩ | ⟨h, h'⟩ | ⟨h, h'⟩ | ⟨h, h'⟩ | h
  all_goals
    go_enter Tryz.func83, Tryz.ntmps83
    go_wp2
    go_returns
    exact ⟨ret_i64 (by unfold hexDigit; split <;> (try split) <;> (try split) <;> omega), rfl⟩

def pow16 : Nat → Int
  | 0 => 1
  | k + 1 => 16 * pow16 k
def pow10 : Nat → Int
  | 0 => 1
  | k + 1 => 10 * pow10 k
theorem pow16_le (k : Nat) (h : k ≤ 6) : pow16 k ≤ 16777216 := by
  match k, h with
  | 0, _ | 1, _ | 2, _ | 3, _ | 4, _ | 5, _ | 6, _ => decide
theorem pow10_le (k : Nat) (h : k ≤ 6) : pow10 k ≤ 16777216 := by
  match k, h with
  | 0, _ | 1, _ | 2, _ | 3, _ | 4, _ | 5, _ | 6, _ => decide
theorem str_ne {s : ByteArray} (h : ¬ s.size = 0) : s.toList.isEmpty = false := by
  rw [toList_bs]
  cases hh : bs s with
  | nil =>
    have := bs_length s
    rw [hh] at this
    exact absurd this.symm h
  | cons a t => rfl

theorem number16 (s : ByteArray) (w : World) (hs : s.size ≤ 9223372036854775807) :
    Calls Tryz.prog 69 #[.string s, .int .i64 16, .int .i64 6] w fun e w' => e = .returned (.int .i64 (numS 16 6 (bs s))) ∧ Below w.heap.size w w' := by
  by_cases h0 : s.size = 0
  · have hn : numS 16 6 (bs s) = -1 := by unfold numS; rw [bs_length, if_pos (.inl h0)]
    rw [hn]
    obtain rfl : s = ⟨#[]⟩ := bs_inj (by rw [bs_nil h0]; rfl)
    clear h0 hn hs
    go_enter Tryz.func69, Tryz.ntmps69
    go_wp2
    go_returns
    exact ⟨rfl, Below.refl _ _⟩
  · have he2 : s.toList.isEmpty = false := str_ne h0
    have he3 : (!s.toList.isEmpty) = true := by rw [he2]; rfl
    by_cases h1 : 6 < s.size
    · have hn : numS 16 6 (bs s) = -1 := by unfold numS; rw [bs_length, if_pos (.inr h1)]
      rw [hn]
      have h1' : (6 : Int) < (s.size : Int) := by omega
      clear hn
      go_enter Tryz.func69, Tryz.ntmps69
      go_wp2
      go_returns
      exact ⟨rfl, Below.refl _ _⟩
    · have hn : numS 16 6 (bs s) = numFrom 16 0 (bs s) := by unfold numS; rw [bs_length, if_neg (by omega)]
      rw [hn]
      have h1' : (s.size : Int) ≤ 6 := by omega
      clear hn
      go_enter Tryz.func69, Tryz.ntmps69
      go_wp2
      go_loopw [7] (fun n wr => ∃ (k : Nat) (v : Int), wr = w.iter s k ∧ k ≤ s.size ∧ n = .int .i64 v ∧ 0 ≤ v ∧ v < pow16 k ∧ Hid (numFrom 16 0 (bs s) = numFrom 16 v ((bs s).drop k))) (fun _ wr => s.size - wr.iterPos w.heap.size)
      case atStart => exact ⟨0, 0, rfl, Nat.zero_le _, rfl, Int.le_refl _, by decide, rfl⟩
      case round =>
        obtain ⟨k, v, rfl, hk, rfl, hv0, hv1, HN⟩ := hrel
        have hv2 : v ≤ 16777215 := by have := pow16_le k (by omega); omega
        by_cases hp : k < s.size
        · have hnx : ∀ ty, (Instr.next (.pointer (some ⟨w.heap.size, 0, none⟩)) true ty).run Tryz.prog (w.iter s k) = _ := fun ty => run_next_any w s k ty hp
          obtain ⟨b, hb⟩ : ∃ b, b = s[k]'hp := ⟨_, rfl⟩
          have hdr := bs_drop s k hp
          rw [← hb] at hdr
          rw [hdr] at HN
          have hd1 := hexDigit_ge (b.toNat : Int)
          have hd2 := hexDigit_le (b.toNat : Int)
          clear hdr
          by_cases ha : b.toNat < 128
          · have hdec : Utf8.decode s k = (b.toNat, 1) := by rw [decode_ascii s k hp (by rw [← hb]; exact ha), hb]
            rw [hdec] at hnx
            clear hdec hb
            by_cases hbad : hexDigit (b.toNat : Int) < 0
            · have hb2 : numFrom 16 v (b :: (bs s).drop (k + 1)) = -1 := numFrom_bad (.inl hbad)
              have HB := Lib.hid hb2; clear hb2
              go_wp2_with (go_at_call 83; refine (digit_any _ _).mono ?_; rintro e w' ⟨rfl, rfl⟩)
              go_returns
              exact ⟨ret_i64 (by rw [HN.out, HB.out]), (Below.refl w.heap.size w).alloc (Nat.le_refl _) _⟩
            · by_cases hbad2 : 16 ≤ hexDigit (b.toNat : Int)
              · have hb2 : numFrom 16 v (b :: (bs s).drop (k + 1)) = -1 := numFrom_bad (.inr hbad2)
                have HB := Lib.hid hb2; clear hb2
                go_wp2_with (go_at_call 83; refine (digit_any _ _).mono ?_; rintro e w' ⟨rfl, rfl⟩)
                go_returns
                exact ⟨ret_i64 (by rw [HN.out, HB.out]), (Below.refl w.heap.size w).alloc (Nat.le_refl _) _⟩
              · have hb2 : numFrom 16 v (b :: (bs s).drop (k + 1)) = numFrom 16 (v * 16 + hexDigit b.toNat) ((bs s).drop (k + 1)) := numFrom_good (by omega) (by omega)
                have HB := Lib.hid hb2; clear hb2
                go_wp2_with (go_at_call 83; refine (digit_any _ _).mono ?_; rintro e w' ⟨rfl, rfl⟩)
                go_roundw
                case rel => exact ⟨k + 1, _, rfl, by omega, rfl, by omega, by simp only [pow16]; omega, by show _ = _; rw [HN.out, HB.out]⟩
                case measure => simp; omega
          · have hdec := decode_high s k hp (by rw [← hb]; omega)
            have hdl := decode_le s k
            obtain ⟨⟨r, wd⟩, hrw⟩ : ∃ x, x = Utf8.decode s k := ⟨_, rfl⟩
            rw [← hrw] at hnx hdec hdl
            simp only [] at hdec hdl
            clear hrw
            have hx : hexDigit (r : Int) = -1 := hexDigit_high (by omega)
            have hb2 : numFrom 16 v (b :: (bs s).drop (k + 1)) = -1 := numFrom_bad (.inl (by rw [hexDigit_high (by omega)]; decide))
            have HB := Lib.hid hb2; clear hb2
            have HX := Lib.hid hx; clear hx
            go_wp2_with fail
            refine (digit_any _ _).mono ?_
            rw [HX.out]
            rintro e w' ⟨rfl, rfl⟩
            go_wp2
            go_returns
            exact ⟨ret_i64 (by rw [HN.out, HB.out]), (Below.refl w.heap.size w).alloc (Nat.le_refl _) _⟩
        · have hnx : ∀ ty, (Instr.next (.pointer (some ⟨w.heap.size, 0, none⟩)) true ty).run Tryz.prog (w.iter s k) = _ := fun ty => run_next_end w s k ty hp
          go_wp2
          go_returns
          exact ⟨ret_i64 (by rw [HN.out, bs_drop_end s k (by omega)]; rfl), (Below.refl w.heap.size w).alloc (Nat.le_refl _) _⟩

theorem number10 (s : ByteArray) (w : World) (hs : s.size ≤ 9223372036854775807) :
    Calls Tryz.prog 69 #[.string s, .int .i64 10, .int .i64 5] w fun e w' => e = .returned (.int .i64 (numS 10 5 (bs s))) ∧ Below w.heap.size w w' := by
  by_cases h0 : s.size = 0
  · have hn : numS 10 5 (bs s) = -1 := by unfold numS; rw [bs_length, if_pos (.inl h0)]
    rw [hn]
    obtain rfl : s = ⟨#[]⟩ := bs_inj (by rw [bs_nil h0]; rfl)
    clear h0 hn hs
    go_enter Tryz.func69, Tryz.ntmps69
    go_wp2
    go_returns
    exact ⟨rfl, Below.refl _ _⟩
  · have he2 : s.toList.isEmpty = false := str_ne h0
    have he3 : (!s.toList.isEmpty) = true := by rw [he2]; rfl
    by_cases h1 : 5 < s.size
    · have hn : numS 10 5 (bs s) = -1 := by unfold numS; rw [bs_length, if_pos (.inr h1)]
      rw [hn]
      have h1' : (5 : Int) < (s.size : Int) := by omega
      clear hn
      go_enter Tryz.func69, Tryz.ntmps69
      go_wp2
      go_returns
      exact ⟨rfl, Below.refl _ _⟩
    · have hn : numS 10 5 (bs s) = numFrom 10 0 (bs s) := by unfold numS; rw [bs_length, if_neg (by omega)]
      rw [hn]
      have h1' : (s.size : Int) ≤ 5 := by omega
      clear hn
      go_enter Tryz.func69, Tryz.ntmps69
      go_wp2
      go_loopw [7] (fun n wr => ∃ (k : Nat) (v : Int), wr = w.iter s k ∧ k ≤ s.size ∧ n = .int .i64 v ∧ 0 ≤ v ∧ v < pow10 k ∧ Hid (numFrom 10 0 (bs s) = numFrom 10 v ((bs s).drop k))) (fun _ wr => s.size - wr.iterPos w.heap.size)
      case atStart => exact ⟨0, 0, rfl, Nat.zero_le _, rfl, Int.le_refl _, by decide, rfl⟩
      case round =>
        obtain ⟨k, v, rfl, hk, rfl, hv0, hv1, HN⟩ := hrel
        have hv2 : v ≤ 16777215 := by have := pow10_le k (by omega); omega
        by_cases hp : k < s.size
        · have hnx : ∀ ty, (Instr.next (.pointer (some ⟨w.heap.size, 0, none⟩)) true ty).run Tryz.prog (w.iter s k) = _ := fun ty => run_next_any w s k ty hp
          obtain ⟨b, hb⟩ : ∃ b, b = s[k]'hp := ⟨_, rfl⟩
          have hdr := bs_drop s k hp
          rw [← hb] at hdr
          rw [hdr] at HN
          have hd1 := hexDigit_ge (b.toNat : Int)
          have hd2 := hexDigit_le (b.toNat : Int)
          clear hdr
          by_cases ha : b.toNat < 128
          · have hdec : Utf8.decode s k = (b.toNat, 1) := by rw [decode_ascii s k hp (by rw [← hb]; exact ha), hb]
            rw [hdec] at hnx
            clear hdec hb
            by_cases hbad : hexDigit (b.toNat : Int) < 0
            · have hb2 : numFrom 10 v (b :: (bs s).drop (k + 1)) = -1 := numFrom_bad (.inl hbad)
              have HB := Lib.hid hb2; clear hb2
              go_wp2_with (go_at_call 83; refine (digit_any _ _).mono ?_; rintro e w' ⟨rfl, rfl⟩)
              go_returns
              exact ⟨ret_i64 (by rw [HN.out, HB.out]), (Below.refl w.heap.size w).alloc (Nat.le_refl _) _⟩
            · by_cases hbad2 : 10 ≤ hexDigit (b.toNat : Int)
              · have hb2 : numFrom 10 v (b :: (bs s).drop (k + 1)) = -1 := numFrom_bad (.inr hbad2)
                have HB := Lib.hid hb2; clear hb2
                go_wp2_with (go_at_call 83; refine (digit_any _ _).mono ?_; rintro e w' ⟨rfl, rfl⟩)
                go_returns
                exact ⟨ret_i64 (by rw [HN.out, HB.out]), (Below.refl w.heap.size w).alloc (Nat.le_refl _) _⟩
              · have hb2 : numFrom 10 v (b :: (bs s).drop (k + 1)) = numFrom 10 (v * 10 + hexDigit b.toNat) ((bs s).drop (k + 1)) := numFrom_good (by omega) (by omega)
                have HB := Lib.hid hb2; clear hb2
                go_wp2_with (go_at_call 83; refine (digit_any _ _).mono ?_; rintro e w' ⟨rfl, rfl⟩)
                go_roundw
                case rel => exact ⟨k + 1, _, rfl, by omega, rfl, by omega, by simp only [pow10]; omega, by show _ = _; rw [HN.out, HB.out]⟩
                case measure => simp; omega
          · have hdec := decode_high s k hp (by rw [← hb]; omega)
            have hdl := decode_le s k
            obtain ⟨⟨r, wd⟩, hrw⟩ : ∃ x, x = Utf8.decode s k := ⟨_, rfl⟩
            rw [← hrw] at hnx hdec hdl
            simp only [] at hdec hdl
            clear hrw
            have hx : hexDigit (r : Int) = -1 := hexDigit_high (by omega)
            have hb2 : numFrom 10 v (b :: (bs s).drop (k + 1)) = -1 := numFrom_bad (.inl (by rw [hexDigit_high (by omega)]; decide))
            have HB := Lib.hid hb2; clear hb2
            have HX := Lib.hid hx; clear hx
            go_wp2_with fail
            refine (digit_any _ _).mono ?_
            rw [HX.out]
            rintro e w' ⟨rfl, rfl⟩
            go_wp2
            go_returns
            exact ⟨ret_i64 (by rw [HN.out, HB.out]), (Below.refl w.heap.size w).alloc (Nat.le_refl _) _⟩
        · have hnx : ∀ ty, (Instr.next (.pointer (some ⟨w.heap.size, 0, none⟩)) true ty).run Tryz.prog (w.iter s k) = _ := fun ty => run_next_end w s k ty hp
          go_wp2
          go_returns
          exact ⟨ret_i64 (by rw [HN.out, bs_drop_end s k (by omega)]; rfl), (Below.refl w.heap.size w).alloc (Nat.le_refl _) _⟩

theorem number16b (s : ByteArray) (w : World) (hs : s.size ≤ 9223372036854775807) :
    Calls Tryz.prog 69 #[.string s, .int .i64 16, .int .i64 2] w fun e w' => e = .returned (.int .i64 (numS 16 2 (bs s))) ∧ Below w.heap.size w w' := by
  by_cases h0 : s.size = 0
  · have hn : numS 16 2 (bs s) = -1 := by unfold numS; rw [bs_length, if_pos (.inl h0)]
    rw [hn]
    obtain rfl : s = ⟨#[]⟩ := bs_inj (by rw [bs_nil h0]; rfl)
    clear h0 hn hs
    go_enter Tryz.func69, Tryz.ntmps69
    go_wp2
    go_returns
    exact ⟨rfl, Below.refl _ _⟩
  · have he2 : s.toList.isEmpty = false := str_ne h0
    have he3 : (!s.toList.isEmpty) = true := by rw [he2]; rfl
    by_cases h1 : 2 < s.size
    · have hn : numS 16 2 (bs s) = -1 := by unfold numS; rw [bs_length, if_pos (.inr h1)]
      rw [hn]
      have h1' : (2 : Int) < (s.size : Int) := by omega
      clear hn
      go_enter Tryz.func69, Tryz.ntmps69
      go_wp2
      go_returns
      exact ⟨rfl, Below.refl _ _⟩
    · have hn : numS 16 2 (bs s) = numFrom 16 0 (bs s) := by unfold numS; rw [bs_length, if_neg (by omega)]
      rw [hn]
      have h1' : (s.size : Int) ≤ 2 := by omega
      clear hn
      go_enter Tryz.func69, Tryz.ntmps69
      go_wp2
      go_loopw [7] (fun n wr => ∃ (k : Nat) (v : Int), wr = w.iter s k ∧ k ≤ s.size ∧ n = .int .i64 v ∧ 0 ≤ v ∧ v < pow16 k ∧ Hid (numFrom 16 0 (bs s) = numFrom 16 v ((bs s).drop k))) (fun _ wr => s.size - wr.iterPos w.heap.size)
      case atStart => exact ⟨0, 0, rfl, Nat.zero_le _, rfl, Int.le_refl _, by decide, rfl⟩
      case round =>
        obtain ⟨k, v, rfl, hk, rfl, hv0, hv1, HN⟩ := hrel
        have hv2 : v ≤ 16777215 := by have := pow16_le k (by omega); omega
        by_cases hp : k < s.size
        · have hnx : ∀ ty, (Instr.next (.pointer (some ⟨w.heap.size, 0, none⟩)) true ty).run Tryz.prog (w.iter s k) = _ := fun ty => run_next_any w s k ty hp
          obtain ⟨b, hb⟩ : ∃ b, b = s[k]'hp := ⟨_, rfl⟩
          have hdr := bs_drop s k hp
          rw [← hb] at hdr
          rw [hdr] at HN
          have hd1 := hexDigit_ge (b.toNat : Int)
          have hd2 := hexDigit_le (b.toNat : Int)
          clear hdr
          by_cases ha : b.toNat < 128
          · have hdec : Utf8.decode s k = (b.toNat, 1) := by rw [decode_ascii s k hp (by rw [← hb]; exact ha), hb]
            rw [hdec] at hnx
            clear hdec hb
            by_cases hbad : hexDigit (b.toNat : Int) < 0
            · have hb2 : numFrom 16 v (b :: (bs s).drop (k + 1)) = -1 := numFrom_bad (.inl hbad)
              have HB := Lib.hid hb2; clear hb2
              go_wp2_with (go_at_call 83; refine (digit_any _ _).mono ?_; rintro e w' ⟨rfl, rfl⟩)
              go_returns
              exact ⟨ret_i64 (by rw [HN.out, HB.out]), (Below.refl w.heap.size w).alloc (Nat.le_refl _) _⟩
            · by_cases hbad2 : 16 ≤ hexDigit (b.toNat : Int)
              · have hb2 : numFrom 16 v (b :: (bs s).drop (k + 1)) = -1 := numFrom_bad (.inr hbad2)
                have HB := Lib.hid hb2; clear hb2
                go_wp2_with (go_at_call 83; refine (digit_any _ _).mono ?_; rintro e w' ⟨rfl, rfl⟩)
                go_returns
                exact ⟨ret_i64 (by rw [HN.out, HB.out]), (Below.refl w.heap.size w).alloc (Nat.le_refl _) _⟩
              · have hb2 : numFrom 16 v (b :: (bs s).drop (k + 1)) = numFrom 16 (v * 16 + hexDigit b.toNat) ((bs s).drop (k + 1)) := numFrom_good (by omega) (by omega)
                have HB := Lib.hid hb2; clear hb2
                go_wp2_with (go_at_call 83; refine (digit_any _ _).mono ?_; rintro e w' ⟨rfl, rfl⟩)
                go_roundw
                case rel => exact ⟨k + 1, _, rfl, by omega, rfl, by omega, by simp only [pow16]; omega, by show _ = _; rw [HN.out, HB.out]⟩
                case measure => simp; omega
          · have hdec := decode_high s k hp (by rw [← hb]; omega)
            have hdl := decode_le s k
            obtain ⟨⟨r, wd⟩, hrw⟩ : ∃ x, x = Utf8.decode s k := ⟨_, rfl⟩
            rw [← hrw] at hnx hdec hdl
            simp only [] at hdec hdl
            clear hrw
            have hx : hexDigit (r : Int) = -1 := hexDigit_high (by omega)
            have hb2 : numFrom 16 v (b :: (bs s).drop (k + 1)) = -1 := numFrom_bad (.inl (by rw [hexDigit_high (by omega)]; decide))
            have HB := Lib.hid hb2; clear hb2
            have HX := Lib.hid hx; clear hx
            go_wp2_with fail
            refine (digit_any _ _).mono ?_
            rw [HX.out]
            rintro e w' ⟨rfl, rfl⟩
            go_wp2
            go_returns
            exact ⟨ret_i64 (by rw [HN.out, HB.out]), (Below.refl w.heap.size w).alloc (Nat.le_refl _) _⟩
        · have hnx : ∀ ty, (Instr.next (.pointer (some ⟨w.heap.size, 0, none⟩)) true ty).run Tryz.prog (w.iter s k) = _ := fun ty => run_next_end w s k ty hp
          go_wp2
          go_returns
          exact ⟨ret_i64 (by rw [HN.out, bs_drop_end s k (by omega)]; rfl), (Below.refl w.heap.size w).alloc (Nat.le_refl _) _⟩

theorem numFrom_ge (base : Int) (hb : 0 ≤ base) : ∀ (l : List UInt8) (n : Int), 0 ≤ n → -1 ≤ numFrom base n l := by
  intro l
  induction l with
  | nil => intro n h; simp only [numFrom]; omega
  | cons b t ih =>
    intro n h
    simp only [numFrom]
    split
    · omega
    · refine ih _ ?_
      have : 0 ≤ n * base := Int.mul_nonneg h hb
      omega
theorem numFrom16_le : ∀ (l : List UInt8) (n : Int) (k : Nat), 0 ≤ n → n < pow16 k → numFrom 16 n l < pow16 (k + l.length) := by
  intro l
  induction l with
  | nil => intro n k h h'; simpa [numFrom] using h'
  | cons b t ih =>
    intro n k h h'
    have hd := hexDigit_le (b.toNat : Int)
    have hp : ∀ j, 0 < pow16 j := by intro j; induction j with | zero => decide | succ j ih => simp only [pow16]; omega
    simp only [numFrom]
    split
    · have := hp (k + (b :: t).length); omega
    · have := ih (n * 16 + hexDigit (b.toNat : Int)) (k + 1) (by omega) (by simp only [pow16]; omega)
      rw [show k + (b :: t).length = k + 1 + t.length by simp; omega]
      exact this
theorem numFrom10_le : ∀ (l : List UInt8) (n : Int) (k : Nat), 0 ≤ n → n < pow10 k → numFrom 10 n l < pow10 (k + l.length) := by
  intro l
  induction l with
  | nil => intro n k h h'; simpa [numFrom] using h'
  | cons b t ih =>
    intro n k h h'
    have hp : ∀ j, 0 < pow10 j := by intro j; induction j with | zero => decide | succ j ih => simp only [pow10]; omega
    simp only [numFrom]
    split
    · have := hp (k + (b :: t).length); omega
    · rename_i hh
      have := ih (n * 10 + hexDigit (b.toNat : Int)) (k + 1) (by omega) (by simp only [pow10]; omega)
      rw [show k + (b :: t).length = k + 1 + t.length by simp; omega]
      exact this
theorem numS16_bd (l : List UInt8) : -1 ≤ numS 16 6 l ∧ numS 16 6 l ≤ 16777215 := by
  unfold numS
  split
  · omega
  · rename_i h
    have h1 := numFrom_ge 16 (by omega) l 0 (by omega)
    have h2 := numFrom16_le l 0 0 (by omega) (by decide)
    have h3 := pow16_le (0 + l.length) (by omega)
    omega
theorem numS10_bd (l : List UInt8) : -1 ≤ numS 10 5 l ∧ numS 10 5 l ≤ 16777215 := by
  unfold numS
  split
  · omega
  · rename_i h
    have h1 := numFrom_ge 10 (by omega) l 0 (by omega)
    have h2 := numFrom10_le l 0 0 (by omega) (by decide)
    have h3 := pow10_le (0 + l.length) (by omega)
    omega
theorem numS16b_bd (l : List UInt8) : -1 ≤ numS 16 2 l ∧ numS 16 2 l ≤ 255 := by
  unfold numS
  split
  · omega
  · rename_i h
    have h1 := numFrom_ge 16 (by omega) l 0 (by omega)
    have h2 := numFrom16_le l 0 0 (by omega) (by decide)
    have h3 : pow16 (0 + l.length) ≤ 256 := by
      match l.length, h with
      | 0, _ | 1, _ | 2, _ => decide
      | n + 3, h => omega
    omega

/-- The character that hex digits tell, and what is wrong. -/
def hexS (l : List UInt8) : Int × Int :=
  if numS 16 6 l < 0 then (0, 10) else if scalarB (numS 16 6 l) = true then (numS 16 6 l, 0) else (0, 11)
/-- The number that decimal digits tell, and what is wrong. -/
def decS (l : List UInt8) : Int × Int := if numS 10 5 l < 0 then (0, 10) else (numS 10 5 l, 0)
theorem ret_ie {a b a' b' : Int} (h1 : a = a') (h2 : b = b') : Ending.returned (.tuple #[.int .i32 a, .int .i64 b]) = .returned (.tuple #[.int .i32 a', .int .i64 b']) := by rw [h1, h2]
theorem ret_ne {a b a' b' : Int} (h1 : a = a') (h2 : b = b') : Ending.returned (.tuple #[.int .i64 a, .int .i64 b]) = .returned (.tuple #[.int .i64 a', .int .i64 b']) := by rw [h1, h2]

theorem hex_any (s : ByteArray) (w : World) (hs : s.size ≤ 9223372036854775807) :
    Calls Tryz.prog 49 #[.string s] w fun e w' => e = .returned (.tuple #[.int .i32 (hexS (bs s)).1, .int .i64 (hexS (bs s)).2]) ∧ Below w.heap.size w w' := by
  have hbd := numS16_bd (bs s)
  obtain ⟨n, hn⟩ : ∃ n, n = numS 16 6 (bs s) := ⟨_, rfl⟩
  have hx : hexS (bs s) = if n < 0 then (0, 10) else if scalarB n = true then (n, 0) else (0, 11) := by rw [hn]; rfl
  rw [← hn] at hbd
  obtain ⟨hb0, hb1⟩ := hbd
  have HN := Lib.hid hn; clear hn
  by_cases h0 : n < 0
  · rw [if_pos h0] at hx
    have HX := Lib.hid hx; clear hx
    go_enter Tryz.func49, Tryz.ntmps49
    go_wp2_with fail
    refine (number16 s _ hs).mono ?_
    rw [← HN.out]
    rintro e w' ⟨rfl, hb⟩
    go_wp2
    go_returns
    exact ⟨ret_ie (by rw [HX.out]) (by rw [HX.out]), hb⟩
  · rw [if_neg h0] at hx
    have h0' : 0 ≤ n := by omega
    rcases Bool.eq_false_or_eq_true (scalarB n) with hsc | hsc
    · rw [if_pos hsc] at hx
      have HX := Lib.hid hx; clear hx
      go_enter Tryz.func49, Tryz.ntmps49
      go_wp2_with fail
      refine (number16 s _ hs).mono ?_
      rw [← HN.out]
      rintro e w' ⟨rfl, hb⟩
      go_wp2_with (go_at_call 12; refine (scalar_any _ _).mono ?_; rintro e w' ⟨rfl, rfl⟩)
      go_returns
      exact ⟨ret_ie (by rw [HX.out]) (by rw [HX.out]), hb⟩
    · rw [if_neg (by rw [hsc]; simp)] at hx
      have HX := Lib.hid hx; clear hx
      go_enter Tryz.func49, Tryz.ntmps49
      go_wp2_with fail
      refine (number16 s _ hs).mono ?_
      rw [← HN.out]
      rintro e w' ⟨rfl, hb⟩
      go_wp2_with (go_at_call 12; refine (scalar_any _ _).mono ?_; rintro e w' ⟨rfl, rfl⟩)
      go_returns
      exact ⟨ret_ie (by rw [HX.out]) (by rw [HX.out]), hb⟩

theorem dec_any (s : ByteArray) (w : World) (hs : s.size ≤ 9223372036854775807) :
    Calls Tryz.prog 50 #[.string s] w fun e w' => e = .returned (.tuple #[.int .i64 (decS (bs s)).1, .int .i64 (decS (bs s)).2]) ∧ Below w.heap.size w w' := by
  have hbd := numS10_bd (bs s)
  obtain ⟨n, hn⟩ : ∃ n, n = numS 10 5 (bs s) := ⟨_, rfl⟩
  have hx : decS (bs s) = if n < 0 then (0, 10) else (n, 0) := by rw [hn]; rfl
  rw [← hn] at hbd
  obtain ⟨hb0, hb1⟩ := hbd
  have HN := Lib.hid hn; clear hn
  by_cases h0 : n < 0
  · rw [if_pos h0] at hx
    have HX := Lib.hid hx; clear hx
    go_enter Tryz.func50, Tryz.ntmps50
    go_wp2_with fail
    refine (number10 s _ hs).mono ?_
    rw [← HN.out]
    rintro e w' ⟨rfl, hb⟩
    go_wp2
    go_returns
    exact ⟨ret_ne (by rw [HX.out]) (by rw [HX.out]), hb⟩
  · rw [if_neg h0] at hx
    have h0' : 0 ≤ n := by omega
    have HX := Lib.hid hx; clear hx
    go_enter Tryz.func50, Tryz.ntmps50
    go_wp2_with fail
    refine (number10 s _ hs).mono ?_
    rw [← HN.out]
    rintro e w' ⟨rfl, hb⟩
    go_wp2
    go_returns
    exact ⟨ret_ne (by rw [HX.out]) (by rw [HX.out]), hb⟩
end Go.Proofs.YtagncjnbabdbmaaGreatDoor
