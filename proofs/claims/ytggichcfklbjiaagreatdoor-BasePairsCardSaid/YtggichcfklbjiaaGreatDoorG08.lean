/- Lists of characters in memory: what a call hands back, and whether two of them are one (the law's own comparison). The contracts of the code's inner words for texts: which blanks are cut off, and which characters are blanks. -/
import Derived.Test.YtggichcfklbjiaaGreatDoorRows
import Derived.Test.YtggichcfklbjiaaGreatDoorG02
import Derived.Test.YtggichcfklbjiaaGreatDoorG06
import Derived.Test.YtggichcfklbjiaaGreatDoorG07
import Derived.Test.YtggichcfklbjiaaGreatDoorShelf
import Derived.Shelf.Strings.SlTrimAscii
import Derived.Laws.Runes
import Derived.WalkMore
import Derived.Outline
section
namespace Go.Proofs.YtggichcfklbjiaaGreatDoor
open Go.RowKit

abbrev Rs (zs : List Int) : List Value := zs.map (Value.int .i32)
theorem runeElem : Elem Tryz.prog 33 21 (.int .i32 0) 4 := ⟨Tryz.underlying33, by kernel_rfl, rfl⟩
/-- A new list of characters is handed back; what was there ahead of the call is as it was. -/
def FreshR (w : World) (zs : List Int) (e : Ending) (w' : World) : Prop :=
  ∃ A c, e = .returned (.slice A zs.length c) ∧ w'.ownsRow w.heap.size 21 1 (.slice A zs.length c) zs.length (Rs zs) ∧ Below w.heap.size w w'
theorem FreshR.rd {w w' : World} {zs : List Int} {e : Ending} (h : FreshR w zs e w') : ∃ A c, e = .returned (.slice A zs.length c) ∧ Rd w' A zs.length (Rs zs) ∧ Below w.heap.size w w' := by
  obtain ⟨A, c, he, hown, hb⟩ := h
  obtain ⟨A', c', e2, _, _, hr⟩ := Rd.of_own hown
  injection e2 with e2a _ _
  subst e2a
  exact ⟨A, c, he, hr, hb⟩
/-- A new list of characters, and what is wrong. -/
def FreshRE (w : World) (r : List Int × Int) (e : Ending) (w' : World) : Prop :=
  ∃ A c, e = .returned (.tuple #[.slice A r.1.length c, .int .i64 r.2]) ∧ w'.ownsRow w.heap.size 21 1 (.slice A r.1.length c) r.1.length (Rs r.1) ∧ Below w.heap.size w w'
theorem FreshRE.rd {w w' : World} {r : List Int × Int} {e : Ending} (h : FreshRE w r e w') : ∃ A c, e = .returned (.tuple #[.slice A r.1.length c, .int .i64 r.2]) ∧ Rd w' A r.1.length (Rs r.1) ∧ Below w.heap.size w w' := by
  obtain ⟨A, c, he, hown, hb⟩ := h
  obtain ⟨A', c', e2, _, _, hr⟩ := Rd.of_own hown
  injection e2 with e2a _ _
  subst e2a
  exact ⟨A, c, he, hr, hb⟩
theorem Rs_length (zs : List Int) : (Rs zs).length = zs.length := by simp
theorem Rs_get (zs : List Int) (k : Nat) (h : k < zs.length) : (Rs zs)[k]? = some (.int .i32 (zs[k]?.getD 0)) := by simp [h]

theorem take_both {xs ys : List Int} {k : Nat} (h : xs.take k = ys.take k) (he : xs[k]?.getD 0 = ys[k]?.getD 0) (hx : k < xs.length) (hy : k < ys.length) : xs.take (k + 1) = ys.take (k + 1) := by
  rw [List.take_add_one, List.take_add_one, h]
  have h1 : xs[k]? = some xs[k] := List.getElem?_eq_getElem hx
  have h2 : ys[k]? = some ys[k] := List.getElem?_eq_getElem hy
  rw [h1, h2] at he ⊢
  simp at he
  rw [he]

/-- Are two lists of characters one? -/
theorem runes_any (A B : Option Addr) (n m ca cb : Nat) (xs ys : List Int) (w : World) (hx : Rd w A n (Rs xs)) (hy : Rd w B m (Rs ys)) (hn : n ≤ 1099511627776) (hm : m ≤ 1099511627776) :
    Calls Tryz.prog 15 #[.slice A n ca, .slice B m cb] w fun e w' => e = .returned (.bool (decide (xs = ys))) ∧ Drew w w' := by
  have hxl : xs.length = n := by have := hx.1; simpa using this
  have hyl : ys.length = m := by have := hy.1; simpa using this
  by_cases hnm : n = m
  · have hb : ((n : Int) != (m : Int)) = false := by simp [hnm]
    have HNM := Lib.hid hnm; clear hnm
    have HXL := Lib.hid hxl; clear hxl
    have HYL := Lib.hid hyl; clear hyl
    go_enter Tryz.func15, Tryz.ntmps15
    go_wp2
    go_loopw [5] (fun i wr => ∃ k : Nat, k ≤ n ∧ i = .int .i64 k ∧ xs.take k = ys.take k ∧ Drew w wr) (fun i _ => n - (intOf i).toNat)
    case atStart => exact ⟨0, Nat.zero_le _, rfl, rfl, Drew.refl _⟩
    case round =>
      obtain ⟨k, hk, rfl, htk, hd⟩ := hrel
      have HTK := Lib.hid htk; clear htk
      by_cases hlt : k < n
      · have hltm : k < m := by rw [← HNM.out]; exact hlt
        obtain ⟨b, off, rfl, hbl, hcx⟩ := (hx.drewTo hd).at_ (by omega)
        obtain ⟨b', off', rfl, hbl', hcy⟩ := (hy.drewTo hd).at_ (by omega)
        have cx := hcx k _ (Rs_get xs k (by rw [HXL.out]; exact hlt))
        have cy := hcy k _ (Rs_get ys k (by rw [HYL.out]; exact hltm))
        clear hcx hcy hx hy
        have hi : (k : Int) < (n : Int) := by omega
        have hi' : (k : Int) < (m : Int) := by omega
        by_cases he : xs[k]?.getD 0 = ys[k]?.getD 0
        · have heb : ((xs[k]?.getD 0) != (ys[k]?.getD 0)) = false := by simp [he]
          have HE := Lib.hid he; clear he
          go_wp2
          go_quiet (fail)
          go_wp2
          go_roundw
          case rel => exact ⟨k + 1, by omega, by go_num, take_both HTK.out HE.out (by rw [HXL.out]; exact hlt) (by rw [HYL.out]; exact hltm), hd.trans ⟨_, rfl⟩⟩
          case measure => simp [intOf]; omega
        · have heb : ((xs[k]?.getD 0) != (ys[k]?.getD 0)) = true := by simp [he]
          have HE := Lib.hid he; clear he
          go_wp2
          go_quiet (fail)
          go_wp2
          go_returns
          exact ⟨ret_bool (by symm; rw [decide_eq_false_iff_not]; intro hh; exact HE.out (by rw [hh])), hd.trans ⟨_, rfl⟩⟩
      · have hkn : k = n := by omega
        subst hkn
        go_wp2
        go_returns
        refine ⟨ret_bool (by symm; rw [decide_eq_true_iff]; have h := HTK.out; rw [List.take_of_length_le (by rw [HXL.out]; exact Nat.le_refl _), List.take_of_length_le (by rw [HYL.out, ← HNM.out]; exact Nat.le_refl _)] at h; exact h), hd⟩
  · have hb : ((n : Int) != (m : Int)) = true := by rw [bne_iff_ne]; omega
    have HNM := Lib.hid hnm; clear hnm
    have HXL := Lib.hid hxl; clear hxl
    have HYL := Lib.hid hyl; clear hyl
    go_enter Tryz.func15, Tryz.ntmps15
    go_wp2
    go_returns
    exact ⟨ret_bool (by symm; rw [decide_eq_false_iff_not]; intro hh; exact HNM.out (by rw [← HXL.out, ← HYL.out, hh])), Drew.refl _⟩
end Go.Proofs.YtggichcfklbjiaaGreatDoor
end

section
set_option linter.unusedSimpArgs false
set_option linter.unusedVariables false
namespace Go.Proofs.YtggichcfklbjiaaGreatDoor
open Go.RowKit

theorem bare_any (s : ByteArray) (w : World) (hs : s.size ≤ 9223372036854775807) :
    Calls Tryz.prog 72 #[.string s] w fun e w' => e = .returned (.string (mk8 (bareL (bs s)))) ∧ Below w.heap.size w w' := by
  have HT := Any.strings_Trim_laid Tryz.lays160 (by kernel_rfl) s ⟨#[9, 13, 32]⟩ w hs (by decide) (ascii_of_all (by decide))
  go_enter Tryz.func72, Tryz.ntmps72
  go_wp2_with fail
  refine HT.mono ?_
  rintro e w' ⟨rfl, hb⟩
  go_wp2
  go_returns
  refine ⟨?_, hb⟩
  show Ending.returned (.string (mk8 (Lib.trimS (bs s) [9, 13, 32]))) = _
  rw [bare_S]

theorem quiet_right2 {P : Program} {f : FuncId} {args : Array Value} {w : World} {n k : Nat} {v : Value}
    (h : Calls P f args (w.drewN (k + n)) fun e w' => e = .returned v ∧ w' = w.drewN (k + n)) : Calls P f args (w.drewN (k + n)) fun e w'' => e = .returned v ∧ ∃ m, w'' = w.drewN (k + m) :=
  h.mono fun _ _ ⟨he, hm⟩ => ⟨he, n, hm⟩
abbrev bl3 : ByteArray := ⟨#[9, 13, 32]⟩
theorem idx_small : ∀ n < 128, (decide (0 ≤ Lib.indexByte [9, 13, 32] (Int.toNat (n : Nat)).toUInt8)) = blankN n := by decide
theorem idx_big (l : List UInt8) (c : UInt8) (hl : ∀ b ∈ l, b.toNat < 128) (hc : 128 ≤ c.toNat) : Lib.indexByte l c = -1 := by
  induction l with
  | nil => rfl
  | cons b t ih =>
    have hne : ¬ (b == c) = true := by
      intro h
      have h1 : b = c := beq_iff_eq.1 h
      have h2 := hl b (by simp)
      rw [h1] at h2
      omega
    unfold Lib.indexByte
    rw [if_neg hne, ih (fun x hx => hl x (List.mem_cons_of_mem _ hx))]
    rfl
theorem small_any (x : Nat) (w : World) (hx : x < 128) :
    Calls Tryz.prog 123 #[.string bl3, .int .i32 x] w fun e w' => e = .returned (.bool (blankN x)) ∧ Below w.heap.size w w' := by
  refine (Tryz.strings_ContainsRune_ascii bl3 x w (by omega) (by omega)).mono ?_
  rintro e w' ⟨rfl, rfl⟩
  refine ⟨ret_bool ?_, Below.refl _ _⟩
  exact idx_small x hx
set_option maxHeartbeats 2000000 in
set_option maxRecDepth 1000000 in
theorem bad_any (x : Int) (w : World) (hx : 128 ≤ x) (hn : x ≠ 65533) (hv : Lib.validRune x = false) :
    Calls Tryz.prog 139 #[.string bl3, .int .i32 x] w fun e w' => e = .returned (.int .i64 (-1)) ∧ Below w.heap.size w w' := by
  have h0 : (0 : Int) ≤ x := by omega
  have hv2 : (!Lib.validRune x) = true := by rw [hv]; rfl
  have he : (x == 65533) = false := beq_eq_false_iff_ne.2 hn
  go_enter Tryz.func139, Tryz.ntmps139
  go_wp2_with (go_at_call 146; refine (Tryz.utf8_ValidRune _ _).mono ?_; rintro e w' ⟨rfl, rfl⟩)
  go_returns
  exact ⟨rfl, Below.refl _ _⟩
set_option maxHeartbeats 2000000 in
set_option maxRecDepth 1000000 in
theorem odd_any (w : World) :
    Calls Tryz.prog 139 #[.string bl3, .int .i32 65533] w fun e w' => e = .returned (.int .i64 (-1)) ∧ Below w.heap.size w w' := by
  have hasc : ∀ (k : Nat) (hp : k < bl3.size), (bl3[k]'hp).toNat < 128 := by decide
  obtain ⟨s, hs⟩ : ∃ s, s = bl3 := ⟨_, rfl⟩
  rw [← hs] at hasc ⊢
  clear hs
  go_enter Tryz.func139, Tryz.ntmps139
  go_wp2
  go_loopw [4] (fun n wr => ∃ (k : Nat), wr = w.iter s k ∧ k ≤ s.size) (fun _ wr => s.size - wr.iterPos w.heap.size)
  case atStart => exact ⟨0, rfl, Nat.zero_le _⟩
  case round =>
    obtain ⟨k, rfl, hk⟩ := hrel
    by_cases hp : k < s.size
    · have hnx : ∀ ty, (Instr.next (.pointer (some ⟨w.heap.size, 0, none⟩)) true ty).run Tryz.prog (w.iter s k) = _ := fun ty => run_next_any w s k ty hp
      have ha := hasc k hp
      have hdec : Utf8.decode s k = ((s[k]'hp).toNat, 1) := decode_ascii s k hp ha
      rw [hdec] at hnx
      obtain ⟨b, hb⟩ : ∃ b : Nat, b = (s[k]'hp).toNat := ⟨_, rfl⟩
      rw [← hb] at hnx ha
      have hne : ((b : Int) == 65533) = false := beq_eq_false_iff_ne.2 (by omega)
      clear hdec hb
      go_wp2
      go_roundw
      case rel => exact ⟨k + 1, rfl, by omega⟩
      case measure => simp; omega
    · have hnx : ∀ ty, (Instr.next (.pointer (some ⟨w.heap.size, 0, none⟩)) true ty).run Tryz.prog (w.iter s k) = _ := fun ty => run_next_end w s k ty hp
      go_wp2
      go_returns
      exact ⟨rfl, (Below.refl w.heap.size w).alloc (Nat.le_refl _) _⟩
theorem no_far {n : Nat} (hn : n < 256) {l : List UInt8} (hl : ∀ b ∈ l, b.toNat < 128) (hc : 128 ≤ n) : Lib.indexByte l ((n : Int).toNat.toUInt8) = -1 := by
  refine idx_big l _ hl ?_
  show 128 ≤ (UInt8.ofNat n).toNat
  simp
  omega
set_option maxHeartbeats 4000000 in
set_option maxRecDepth 1000000 in
theorem good_any (x : Int) (w : World) (hx : 128 ≤ x) (hn : x ≠ 65533) (hv : Lib.validRune x = true) :
    Calls Tryz.prog 139 #[.string bl3, .int .i32 x] w fun e w' => e = .returned (.int .i64 (-1)) ∧ Below w.heap.size w w' := by
  have h0 : (0 : Int) ≤ x := by omega
  have hv2 : (!Lib.validRune x) = false := by rw [hv]; rfl
  have he : (x == 65533) = false := beq_eq_false_iff_ne.2 hn
  have hu : Utf8.valid x = true := by rw [validRune_eq]; exact hv
  obtain ⟨hz2, hz4, hlast⟩ := encode_facts x hu hx
  obtain ⟨rs, hrs⟩ : ∃ rs, rs = Utf8.encode x := ⟨_, rfl⟩
  have hconv : ∀ w, (convert 21 9 (.int .i32 x)).run Tryz.prog w = .ok (.string rs) w := fun w => by
    rw [hrs]; exact run_convert_int_string w _ _ _ _ (by rw [Tryz.underlying21]; rfl) Tryz.underlying9
  rw [← hrs] at hz2 hz4 hlast
  clear hu hrs
  have hcase : (∃ a c, rs = ⟨#[a, c]⟩ ∧ 128 ≤ c.toNat) ∨ (∃ a b c, rs = ⟨#[a, b, c]⟩ ∧ 128 ≤ c.toNat) ∨ (∃ a b d c, rs = ⟨#[a, b, d, c]⟩ ∧ 128 ≤ c.toNat) := by
    clear hconv
    obtain ⟨⟨l⟩⟩ := rs
    match l, hz2, hz4, hlast with
    | [], h, _, _ => exact absurd h (by decide)
    | [a], h, _, _ => exact absurd h (show ¬ 2 ≤ 1 by decide)
    | [a, c], _, _, h => exact .inl ⟨a, c, rfl, h (show 1 < 2 by decide)⟩
    | [a, b, c], _, _, h => exact .inr (.inl ⟨a, b, c, rfl, h (show 2 < 3 by decide)⟩)
    | [a, b, d, c], _, _, h => exact .inr (.inr ⟨a, b, d, c, rfl, h (show 3 < 4 by decide)⟩)
    | a :: b :: d :: c :: e :: t, _, h, _ => exact absurd (show t.length + 5 ≤ 4 from h) (by omega)
  clear hz2 hz4 hlast hv
  rcases hcase with ⟨a, c, rfl, hc⟩ | ⟨a, b, c, rfl, hc⟩ | ⟨a, b, d, c, rfl, hc⟩
  · have i1 : ∀ w, (Instr.index 9 (.string ⟨#[a, c]⟩) (.int .i64 1)).run Tryz.prog w = .ok (.int .u8 c.toNat) w := fun w => by kernel_rfl
    have i2 : ∀ w, (Instr.index 9 (.string bl3) (.int .i64 1)).run Tryz.prog w = .ok (.int .u8 13) w := fun w => by kernel_rfl
    have s2 : ∀ w, (Instr.slice 9 (.string bl3) (some (.int .i64 (IntKind.i64.wrap 2))) none none).run Tryz.prog w = .ok (.string ⟨#[32]⟩) w := fun w => by kernel_rfl
    have hne : ((13 : Int) != (c.toNat : Int)) = true := by simp; omega
    have HF : ∀ W, Calls Tryz.prog 145 #[.string (bl3.extract 2 3), .int .u8 c.toNat] W fun e w' => e = .returned (.int .i64 (-1)) ∧ w' = W := fun W => by
      have := Tryz.strings_IndexByte (bl3.extract 2 3) c.toNat W
      rw [show (bl3.extract 2 3).data.toList = [32] from by decide, no_far (UInt8.toNat_lt c) (by decide) hc] at this
      exact this
    clear hc
    go_enter Tryz.func139, Tryz.ntmps139
    go_wp2_with (go_at_call 146; refine (Tryz.utf8_ValidRune _ _).mono ?_; rintro e w1 ⟨rfl, rfl⟩)
    go_step3
    go_wp2
    go_loopw [9] (fun i wr => i = .int .i64 1 ∧ wr = w1) (fun _ _ => 0)
    case atStart => exact ⟨rfl, rfl⟩
    case round =>
      obtain ⟨rfl, rfl⟩ := hrel
      go_wp2
      go_step3
      go_wp2
      go_quiet (fail)
      go_wp2
      go_quiet ((go_at_call 145; exact quiet_right2 (HF _)))
      go_wp2
      rw [Exit.noGoto_ret]
      go_wp2
      try rw [Exit.noGoto_ret]
      go_ret
      exact ⟨rfl, below_drewN _ _ _⟩
  · have i1 : ∀ w, (Instr.index 9 (.string ⟨#[a, b, c]⟩) (.int .i64 2)).run Tryz.prog w = .ok (.int .u8 c.toNat) w := fun w => by kernel_rfl
    have i2 : ∀ w, (Instr.index 9 (.string bl3) (.int .i64 2)).run Tryz.prog w = .ok (.int .u8 32) w := fun w => by kernel_rfl
    have s2 : ∀ w, (Instr.slice 9 (.string bl3) (some (.int .i64 (IntKind.i64.wrap 3))) none none).run Tryz.prog w = .ok (.string ⟨#[]⟩) w := fun w => by kernel_rfl
    have hne : ((32 : Int) != (c.toNat : Int)) = true := by simp; omega
    have HF : ∀ W, Calls Tryz.prog 145 #[.string (ByteArray.empty), .int .u8 c.toNat] W fun e w' => e = .returned (.int .i64 (-1)) ∧ w' = W := fun W => by
      have := Tryz.strings_IndexByte (ByteArray.empty) c.toNat W
      rw [show (ByteArray.empty).data.toList = [] from by decide, no_far (UInt8.toNat_lt c) (by decide) hc] at this
      exact this
    clear hc
    go_enter Tryz.func139, Tryz.ntmps139
    go_wp2_with (go_at_call 146; refine (Tryz.utf8_ValidRune _ _).mono ?_; rintro e w1 ⟨rfl, rfl⟩)
    go_step3
    go_wp2
    go_loopw [9] (fun i wr => i = .int .i64 2 ∧ wr = w1) (fun _ _ => 0)
    case atStart => exact ⟨rfl, rfl⟩
    case round =>
      obtain ⟨rfl, rfl⟩ := hrel
      go_wp2
      go_step3
      go_wp2
      go_quiet (fail)
      go_wp2
      go_quiet ((go_at_call 145; exact quiet_right2 (HF _)))
      go_wp2
      rw [Exit.noGoto_ret]
      go_wp2
      try rw [Exit.noGoto_ret]
      go_ret
      exact ⟨rfl, below_drewN _ _ _⟩
  · clear hc
    go_enter Tryz.func139, Tryz.ntmps139
    go_wp2_with (go_at_call 146; refine (Tryz.utf8_ValidRune _ _).mono ?_; rintro e w1 ⟨rfl, rfl⟩)
    go_step3
    go_wp2
    go_loopw [9] (fun i wr => i = .int .i64 3 ∧ wr = w1) (fun _ _ => 0)
    case atStart => exact ⟨rfl, rfl⟩
    case round =>
      obtain ⟨rfl, rfl⟩ := hrel
      go_wp2
      rw [Exit.noGoto_ret]
      go_ret
      exact ⟨rfl, Below.refl _ _⟩
theorem far_any (x : Int) (w : World) (hx : 128 ≤ x) : Calls Tryz.prog 139 #[.string bl3, .int .i32 x] w fun e w' => e = .returned (.int .i64 (-1)) ∧ Below w.heap.size w w' := by
  by_cases hn : x = 65533
  · rw [hn]; exact odd_any w
  · by_cases hv : Lib.validRune x = true
    · exact good_any x w hx hn hv
    · exact bad_any x w hx hn (by simpa using hv)
theorem contains_any (x : Nat) (w : World) :
    Calls Tryz.prog 123 #[.string bl3, .int .i32 x] w fun e w' => e = .returned (.bool (blankN x)) ∧ Below w.heap.size w w' := by
  by_cases hx : x < 128
  · exact small_any x w hx
  · have HB := Lib.hid (high_blank (x := x) (by omega))
    have hx' : (128 : Int) ≤ (x : Int) := by omega
    clear hx
    go_enter Tryz.func123, Tryz.ntmps123
    go_wp2_with fail
    refine (far_any _ _ hx').mono ?_
    rintro e w' ⟨rfl, hb⟩
    go_wp2
    go_returns
    exact ⟨ret_bool HB.out.symm, hb⟩
theorem isblank_any (w : World) : Go.Proofs.PredGrows Tryz.prog 122 #[] blankN w := by
  intro W x _ _
  show Calls Tryz.prog 122 #[.int .i32 x] W _
  go_enter Tryz.func122, Tryz.ntmps122
  go_wp2_with fail
  refine (contains_any _ _).mono ?_
  rintro e w' ⟨rfl, hb⟩
  go_wp2
  go_returns
  exact ⟨rfl, hb⟩
/-- strings.FieldsFunc at the blanks: the words. -/
theorem ffields_any (s : ByteArray) (w : World) (hs : s.size ≤ 4294967296) :
    Calls Tryz.prog 121 #[.string s, .func (.func 122) #[] #[]] w (FreshS w (wordsL (bs s))) := by
  refine (Tryz.strings_FieldsFunc_grows 122 #[] (enters_of Tryz.func122 (by kernel_rfl) rfl) blankN s w hs (isblank_any w)).mono ?_
  rintro e w' ⟨A, rfl, _, hown, hb⟩
  rw [fields_words] at hown ⊢
  simp only [List.length_map] at hown ⊢
  refine ⟨_, _, rfl, ?_, hb⟩
  rw [List.map_map] at hown
  exact hown
end Go.Proofs.YtggichcfklbjiaaGreatDoor
end
