/- The contracts of the code's inner words for texts: which blanks are cut off, and which characters are blanks. -/
import Derived.Test.YtagncjnbabdbmaaGreatDoorFldPlain
import Derived.Test.YtagncjnbabdbmaaGreatDoorFldA
import Derived.Test.YtagncjnbabdbmaaGreatDoorFldR
import Derived.Test.YtagncjnbabdbmaaGreatDoorStrs
import Derived.Test.YtagncjnbabdbmaaGreatDoorRunes
import Derived.Test.YtagncjnbabdbmaaGreatDoorShelf
import Derived.Shelf.Strings.SlTrimAscii
import Derived.Laws.Runes
import Derived.WalkMore
import Derived.Outline
set_option linter.unusedSimpArgs false
set_option linter.unusedVariables false
namespace Go.Proofs.YtagncjnbabdbmaaGreatDoor
open Go.RowKit

theorem bare_any (s : ByteArray) (w : World) (hs : s.size ≤ 9223372036854775807) :
    Calls Tryz.prog 47 #[.string s] w fun e w' => e = .returned (.string (mk8 (bareL (bs s)))) ∧ Below w.heap.size w w' := by
  have HT := Any.strings_Trim_laid Tryz.lays160 (by kernel_rfl) s ⟨#[9, 13, 32]⟩ w hs (by decide) (ascii_of_all (by decide))
  go_enter Tryz.func47, Tryz.ntmps47
  go_wp2_with fail
  refine HT.mono ?_
  rintro e w' ⟨rfl, hb⟩
  go_wp2
  go_returns
  refine ⟨?_, hb⟩
  show Ending.returned (.string (mk8 (Lib.trimS (bs s) [9, 13, 32]))) = _
  rw [bare_S]

theorem quiet_right2 {P : Program} {f : FuncId} {args : Array Value} {w : World} {n k : Nat} {v : Value}
    (h : Calls P f args (w.drewN (k + n)) fun e w' => e = .returned v ∧ w' = w.drewN (k + n)) : Calls P f args (w.drewN (k + n)) fun e w'' => e = .returned v ∧ ∃ m, w'' = w.drewN (k + m) :=
  h.mono fun _ _ ⟨he, hm⟩ => ⟨he, n, hm⟩
abbrev bl3 : ByteArray := ⟨#[9, 13, 32]⟩
theorem idx_small : ∀ n < 128, (decide (0 ≤ Lib.indexByte [9, 13, 32] (Int.toNat (n : Nat)).toUInt8)) = blankN n := by decide
theorem idx_big (l : List UInt8) (c : UInt8) (hl : ∀ b ∈ l, b.toNat < 128) (hc : 128 ≤ c.toNat) : Lib.indexByte l c = -1 := by
  induction l with
  | nil => rfl
  | cons b t ih =>
    have hne : ¬ (b == c) = true := by
      intro h
      have h1 : b = c := beq_iff_eq.1 h
      have h2 := hl b (by simp)
      rw [h1] at h2
      omega
    unfold Lib.indexByte
    rw [if_neg hne, ih (fun x hx => hl x (List.mem_cons_of_mem _ hx))]
    rfl
theorem small_any (x : Nat) (w : World) (hx : x < 128) :
    Calls Tryz.prog 75 #[.string bl3, .int .i32 x] w fun e w' => e = .returned (.bool (blankN x)) ∧ Below w.heap.size w w' := by
  refine (Tryz.strings_ContainsRune_ascii bl3 x w (by omega) (by omega)).mono ?_
  rintro e w' ⟨rfl, rfl⟩
  refine ⟨ret_bool ?_, Below.refl _ _⟩
  exact idx_small x hx
set_option maxHeartbeats 2000000 in
set_option maxRecDepth 1000000 in
theorem bad_any (x : Int) (w : World) (hx : 128 ≤ x) (hn : x ≠ 65533) (hv : Lib.validRune x = false) :
    Calls Tryz.prog 87 #[.string bl3, .int .i32 x] w fun e w' => e = .returned (.int .i64 (-1)) ∧ Below w.heap.size w w' := by
  have h0 : (0 : Int) ≤ x := by omega
  have hv2 : (!Lib.validRune x) = true := by rw [hv]; rfl
  have he : (x == 65533) = false := beq_eq_false_iff_ne.2 hn
  go_enter Tryz.func87, Tryz.ntmps87
  go_wp2_with (go_at_call 101; refine (Tryz.utf8_ValidRune _ _).mono ?_; rintro e w' ⟨rfl, rfl⟩)
  go_returns
  exact ⟨rfl, Below.refl _ _⟩
set_option maxHeartbeats 2000000 in
set_option maxRecDepth 1000000 in
theorem odd_any (w : World) :
    Calls Tryz.prog 87 #[.string bl3, .int .i32 65533] w fun e w' => e = .returned (.int .i64 (-1)) ∧ Below w.heap.size w w' := by
  have hasc : ∀ (k : Nat) (hp : k < bl3.size), (bl3[k]'hp).toNat < 128 := by decide
  obtain ⟨s, hs⟩ : ∃ s, s = bl3 := ⟨_, rfl⟩
  rw [← hs] at hasc ⊢
  clear hs
  go_enter Tryz.func87, Tryz.ntmps87
  go_wp2
  go_loopw [4] (fun n wr => ∃ (k : Nat), wr = w.iter s k ∧ k ≤ s.size) (fun _ wr => s.size - wr.iterPos w.heap.size)
  case atStart => exact ⟨0, rfl, Nat.zero_le _⟩
  case round =>
    obtain ⟨k, rfl, hk⟩ := hrel
    by_cases hp : k < s.size
    · have hnx : ∀ ty, (Instr.next (.pointer (some ⟨w.heap.size, 0, none⟩)) true ty).run Tryz.prog (w.iter s k) = _ := fun ty => run_next_any w s k ty hp
      have ha := hasc k hp
      have hdec : Utf8.decode s k = ((s[k]'hp).toNat, 1) := decode_ascii s k hp ha
      rw [hdec] at hnx
      obtain ⟨b, hb⟩ : ∃ b : Nat, b = (s[k]'hp).toNat := ⟨_, rfl⟩
      rw [← hb] at hnx ha
      have hne : ((b : Int) == 65533) = false := beq_eq_false_iff_ne.2 (by omega)
      clear hdec hb
      go_wp2
      go_roundw
      case rel => exact ⟨k + 1, rfl, by omega⟩
      case measure => simp; omega
    · have hnx : ∀ ty, (Instr.next (.pointer (some ⟨w.heap.size, 0, none⟩)) true ty).run Tryz.prog (w.iter s k) = _ := fun ty => run_next_end w s k ty hp
      go_wp2
      go_returns
      exact ⟨rfl, (Below.refl w.heap.size w).alloc (Nat.le_refl _) _⟩
theorem no_far {n : Nat} (hn : n < 256) {l : List UInt8} (hl : ∀ b ∈ l, b.toNat < 128) (hc : 128 ≤ n) : Lib.indexByte l ((n : Int).toNat.toUInt8) = -1 := by
  refine idx_big l _ hl ?_
  show 128 ≤ (UInt8.ofNat n).toNat
  simp
  omega
set_option maxHeartbeats 4000000 in
set_option maxRecDepth 1000000 in
theorem good_any (x : Int) (w : World) (hx : 128 ≤ x) (hn : x ≠ 65533) (hv : Lib.validRune x = true) :
    Calls Tryz.prog 87 #[.string bl3, .int .i32 x] w fun e w' => e = .returned (.int .i64 (-1)) ∧ Below w.heap.size w w' := by
  have h0 : (0 : Int) ≤ x := by omega
  have hv2 : (!Lib.validRune x) = false := by rw [hv]; rfl
  have he : (x == 65533) = false := beq_eq_false_iff_ne.2 hn
  have hu : Utf8.valid x = true := by rw [validRune_eq]; exact hv
  obtain ⟨hz2, hz4, hlast⟩ := encode_facts x hu hx
  obtain ⟨rs, hrs⟩ : ∃ rs, rs = Utf8.encode x := ⟨_, rfl⟩
  have hconv : ∀ w, (convert 21 9 (.int .i32 x)).run Tryz.prog w = .ok (.string rs) w := fun w => by
    rw [hrs]; exact run_convert_int_string w _ _ _ _ (by rw [Tryz.underlying21]; rfl) Tryz.underlying9
  rw [← hrs] at hz2 hz4 hlast
  clear hu hrs
  have hcase : (∃ a c, rs = ⟨#[a, c]⟩ ∧ 128 ≤ c.toNat) ∨ (∃ a b c, rs = ⟨#[a, b, c]⟩ ∧ 128 ≤ c.toNat) ∨ (∃ a b d c, rs = ⟨#[a, b, d, c]⟩ ∧ 128 ≤ c.toNat) := by
    clear hconv
    obtain ⟨⟨l⟩⟩ := rs
    match l, hz2, hz4, hlast with
    | [], h, _, _ => exact absurd h (by decide)
    | [a], h, _, _ => exact absurd h (show ¬ 2 ≤ 1 by decide)
    | [a, c], _, _, h => exact .inl ⟨a, c, rfl, h (show 1 < 2 by decide)⟩
    | [a, b, c], _, _, h => exact .inr (.inl ⟨a, b, c, rfl, h (show 2 < 3 by decide)⟩)
    | [a, b, d, c], _, _, h => exact .inr (.inr ⟨a, b, d, c, rfl, h (show 3 < 4 by decide)⟩)
    | a :: b :: d :: c :: e :: t, _, h, _ => exact absurd (show t.length + 5 ≤ 4 from h) (by omega)
  clear hz2 hz4 hlast hv
  rcases hcase with ⟨a, c, rfl, hc⟩ | ⟨a, b, c, rfl, hc⟩ | ⟨a, b, d, c, rfl, hc⟩
  · have i1 : ∀ w, (Instr.index 9 (.string ⟨#[a, c]⟩) (.int .i64 1)).run Tryz.prog w = .ok (.int .u8 c.toNat) w := fun w => by kernel_rfl
    have i2 : ∀ w, (Instr.index 9 (.string bl3) (.int .i64 1)).run Tryz.prog w = .ok (.int .u8 13) w := fun w => by kernel_rfl
    have s2 : ∀ w, (Instr.slice 9 (.string bl3) (some (.int .i64 (IntKind.i64.wrap 2))) none none).run Tryz.prog w = .ok (.string ⟨#[32]⟩) w := fun w => by kernel_rfl
    have hne : ((13 : Int) != (c.toNat : Int)) = true := by simp; omega
    have HF : ∀ W, Calls Tryz.prog 100 #[.string (bl3.extract 2 3), .int .u8 c.toNat] W fun e w' => e = .returned (.int .i64 (-1)) ∧ w' = W := fun W => by
      have := Tryz.strings_IndexByte (bl3.extract 2 3) c.toNat W
      rw [show (bl3.extract 2 3).data.toList = [32] from by decide, no_far (UInt8.toNat_lt c) (by decide) hc] at this
      exact this
    clear hc
    go_enter Tryz.func87, Tryz.ntmps87
    go_wp2_with (go_at_call 101; refine (Tryz.utf8_ValidRune _ _).mono ?_; rintro e w1 ⟨rfl, rfl⟩)
    go_step3
    go_wp2
    go_loopw [9] (fun i wr => i = .int .i64 1 ∧ wr = w1) (fun _ _ => 0)
    case atStart => exact ⟨rfl, rfl⟩
    case round =>
      obtain ⟨rfl, rfl⟩ := hrel
      go_wp2
      go_step3
      go_wp2
      go_quiet (fail)
      go_wp2
      go_quiet ((go_at_call 100; exact quiet_right2 (HF _)))
      go_wp2
      rw [Exit.noGoto_ret]
      go_wp2
      try rw [Exit.noGoto_ret]
      go_ret
      exact ⟨rfl, below_drewN _ _ _⟩
  · have i1 : ∀ w, (Instr.index 9 (.string ⟨#[a, b, c]⟩) (.int .i64 2)).run Tryz.prog w = .ok (.int .u8 c.toNat) w := fun w => by kernel_rfl
    have i2 : ∀ w, (Instr.index 9 (.string bl3) (.int .i64 2)).run Tryz.prog w = .ok (.int .u8 32) w := fun w => by kernel_rfl
    have s2 : ∀ w, (Instr.slice 9 (.string bl3) (some (.int .i64 (IntKind.i64.wrap 3))) none none).run Tryz.prog w = .ok (.string ⟨#[]⟩) w := fun w => by kernel_rfl
    have hne : ((32 : Int) != (c.toNat : Int)) = true := by simp; omega
    have HF : ∀ W, Calls Tryz.prog 100 #[.string (ByteArray.empty), .int .u8 c.toNat] W fun e w' => e = .returned (.int .i64 (-1)) ∧ w' = W := fun W => by
      have := Tryz.strings_IndexByte (ByteArray.empty) c.toNat W
      rw [show (ByteArray.empty).data.toList = [] from by decide, no_far (UInt8.toNat_lt c) (by decide) hc] at this
      exact this
    clear hc
    go_enter Tryz.func87, Tryz.ntmps87
    go_wp2_with (go_at_call 101; refine (Tryz.utf8_ValidRune _ _).mono ?_; rintro e w1 ⟨rfl, rfl⟩)
    go_step3
    go_wp2
    go_loopw [9] (fun i wr => i = .int .i64 2 ∧ wr = w1) (fun _ _ => 0)
    case atStart => exact ⟨rfl, rfl⟩
    case round =>
      obtain ⟨rfl, rfl⟩ := hrel
      go_wp2
      go_step3
      go_wp2
      go_quiet (fail)
      go_wp2
      go_quiet ((go_at_call 100; exact quiet_right2 (HF _)))
      go_wp2
      rw [Exit.noGoto_ret]
      go_wp2
      try rw [Exit.noGoto_ret]
      go_ret
      exact ⟨rfl, below_drewN _ _ _⟩
  · clear hc
    go_enter Tryz.func87, Tryz.ntmps87
    go_wp2_with (go_at_call 101; refine (Tryz.utf8_ValidRune _ _).mono ?_; rintro e w1 ⟨rfl, rfl⟩)
    go_step3
    go_wp2
    go_loopw [9] (fun i wr => i = .int .i64 3 ∧ wr = w1) (fun _ _ => 0)
    case atStart => exact ⟨rfl, rfl⟩
    case round =>
      obtain ⟨rfl, rfl⟩ := hrel
      go_wp2
      rw [Exit.noGoto_ret]
      go_ret
      exact ⟨rfl, Below.refl _ _⟩
theorem far_any (x : Int) (w : World) (hx : 128 ≤ x) : Calls Tryz.prog 87 #[.string bl3, .int .i32 x] w fun e w' => e = .returned (.int .i64 (-1)) ∧ Below w.heap.size w w' := by
  by_cases hn : x = 65533
  · rw [hn]; exact odd_any w
  · by_cases hv : Lib.validRune x = true
    · exact good_any x w hx hn hv
    · exact bad_any x w hx hn (by simpa using hv)
theorem contains_any (x : Nat) (w : World) :
    Calls Tryz.prog 75 #[.string bl3, .int .i32 x] w fun e w' => e = .returned (.bool (blankN x)) ∧ Below w.heap.size w w' := by
  by_cases hx : x < 128
  · exact small_any x w hx
  · have HB := Lib.hid (high_blank (x := x) (by omega))
    have hx' : (128 : Int) ≤ (x : Int) := by omega
    clear hx
    go_enter Tryz.func75, Tryz.ntmps75
    go_wp2_with fail
    refine (far_any _ _ hx').mono ?_
    rintro e w' ⟨rfl, hb⟩
    go_wp2
    go_returns
    exact ⟨ret_bool HB.out.symm, hb⟩
theorem isblank_any (w : World) : Go.Proofs.PredGrows Tryz.prog 85 #[] blankN w := by
  intro W x _ _
  show Calls Tryz.prog 85 #[.int .i32 x] W _
  go_enter Tryz.func85, Tryz.ntmps85
  go_wp2_with fail
  refine (contains_any _ _).mono ?_
  rintro e w' ⟨rfl, hb⟩
  go_wp2
  go_returns
  exact ⟨rfl, hb⟩
/-- strings.FieldsFunc at the blanks: the words. -/
theorem ffields_any (s : ByteArray) (w : World) (hs : s.size ≤ 4294967296) :
    Calls Tryz.prog 84 #[.string s, .func (.func 85) #[] #[]] w (FreshS w (wordsL (bs s))) := by
  refine (Tryz.strings_FieldsFunc_grows 85 #[] (enters_of Tryz.func85 (by kernel_rfl) rfl) blankN s w hs (isblank_any w)).mono ?_
  rintro e w' ⟨A, rfl, _, hown, hb⟩
  rw [fields_words] at hown ⊢
  simp only [List.length_map] at hown ⊢
  refine ⟨_, _, rfl, ?_, hb⟩
  rw [List.map_map] at hown
  exact hown
end Go.Proofs.YtagncjnbabdbmaaGreatDoor
