/- The law on lines and on what stands between bytes: true. -/
import Derived.Test.YtagncjnbabdbmaaDoorFldW
set_option linter.unusedSimpArgs false
set_option linter.unusedVariables false
namespace Go.Proofs.YtagncjnbabdbmaaDoor
open Go.RowKit

theorem str_ne_self (s : ByteArray) : (s != s) = false := by
  show (!(s == s)) = false
  have : (s == s) = true := by
    cases s with | mk a => show (a == a) = true; simp
  rw [this]; rfl
theorem linesW_len : ∀ (ls : List (List UInt8)) (out : List (Int × List UInt8)) (k : Nat), (linesW out k ls).1.length ≤ out.length + ls.length
  | [], out, k => by simp [linesW]
  | l :: ls, out, k => by
    simp only [linesW]
    split
    · simp
    · have := linesW_len ls (if tellL l = [] then out else out ++ [((k : Int) + 1, tellL l)]) (k + 1)
      have h2 : (if tellL l = [] then out else out ++ [((k : Int) + 1, tellL l)]).length ≤ out.length + 1 := by
        split
        · omega
        · rw [List.length_append, List.length_singleton]; omega
      rw [List.length_cons]
      omega
theorem linesS_len (s : List UInt8) : (linesS s).1.length ≤ s.length + 1 := by
  unfold linesS
  split
  · simp
  · have := linesW_len (cutL 10 s) [] 0
    have h2 := cutL_len 10 s
    rw [List.length_nil] at this
    omega
theorem texts_same (A B : Option Addr) (n ca cb : Nat) (xs : List (List UInt8)) (w : World) (hx : Rd w A n (Ss xs)) (hy : Rd w B n (Ss xs)) (hn : n ≤ 1099511627776) :
    Calls Tryd.prog 17 #[.slice A n ca, .slice B n cb] w fun e w' => e = .returned (.bool true) ∧ Drew w w' := by
  have hxl : xs.length = n := by have := hx.1; simpa using this
  have HXL := Lib.hid hxl; clear hxl
  go_enter Tryd.func17, Tryd.ntmps17
  go_wp2
  go_loopw [5] (fun i wr => ∃ k : Nat, k ≤ n ∧ i = .int .i64 k ∧ Drew w wr) (fun i _ => n - (intOf i).toNat)
  case atStart => exact ⟨0, Nat.zero_le _, rfl, Drew.refl _⟩
  case round =>
    obtain ⟨k, hk, rfl, hd⟩ := hrel
    by_cases hlt : k < n
    · obtain ⟨l, hl⟩ : ∃ l, xs[k]? = some l := ⟨_, List.getElem?_eq_getElem (by rw [HXL.out]; exact hlt)⟩
      obtain ⟨b, off, rfl, hbl, hcx⟩ := (hx.drewTo hd).at_ (by omega)
      obtain ⟨b', off', rfl, hbl', hcy⟩ := (hy.drewTo hd).at_ (by omega)
      have cx := hcx k _ (Ss_get hl)
      have cy := hcy k _ (Ss_get hl)
      clear hcx hcy hx hy hl
      have hi : (k : Int) < (n : Int) := by omega
      have hne : (mk8 l != mk8 l) = false := str_ne_self _
      go_wp2
      go_quiet (fail)
      go_wp2
      go_roundw
      case rel => exact ⟨k + 1, by omega, by go_num, hd.trans ⟨_, rfl⟩⟩
      case measure => simp [intOf]; omega
    · have hi : (n : Int) ≤ (k : Int) := by omega
      go_wp2
      go_returns
      exact ⟨rfl, hd⟩
theorem lines_yes (s : ByteArray) (sep : UInt8) (w : World) (hE : Env w) :
    Calls Tryd.prog 3 #[.string s, .int .u8 sep.toNat] w fun e w' => e = .returned (.bool true) ∧ Below w.heap.size w w' := by
  by_cases hbig : 8000 < s.size
  · have hb : (8000 : Int) < (s.size : Int) := by omega
    go_enter Tryd.func3, Tryd.ntmps3
    go_wp2_with fail
    refine (awake_any _ hE).mono ?_
    rintro e w1 ⟨rfl, hb1⟩
    go_wp2
    go_returns
    exact ⟨rfl, hb1⟩
  · have hbi : (s.size : Int) ≤ 8000 := by omega
    have hs : s.size ≤ 1073741824 := by omega
    have hsl := cutL_len sep (bs s)
    rw [bs_length] at hsl
    have H1 := lines_any s w hE hs
    have H2 := fun w => rlines_any s w hs
    have H3 := fun w h => split04_any s sep w h hs
    have H4 := fun w => rsplit_str s sep w hs
    obtain ⟨⟨os, er⟩, hos⟩ : ∃ x, x = linesS (bs s) := ⟨_, rfl⟩
    obtain ⟨ps, hps⟩ : ∃ x, x = (cutL sep (bs s)).map bareL := ⟨_, rfl⟩
    have hpl : ps.length ≤ 8001 := by rw [hps, List.length_map]; omega
    rw [← hos] at H1 H2
    rw [← hps] at H3 H4
    have hol : os.length ≤ 8001 := by
      have := linesS_len (bs s)
      rw [← hos, bs_length] at this
      simp only [] at this
      omega
    clear hos hps hsl
    go_enter Tryd.func3, Tryd.ntmps3
    go_wp2_with fail
    refine H1.mono ?_
    intro e w1 hF
    obtain ⟨A, c, rfl, hr1, hb1⟩ := hF.rd
    have hE1 := hE.below hb1
    clear hF H1 hE
    go_wp2_with fail
    refine (H2 _).mono ?_
    intro e w2 hF
    obtain ⟨B, c', rfl, hr2, hb2⟩ := hF.rd
    replace hE1 := hE1.below hb2
    replace hr1 := hr1.below (by omega) hb2
    have hb := below_then hb1 hb2
    clear hF H2 hb1 hb2
    have her : (er != er) = false := by simp
    simp only [] at hr1 hr2
    go_wp2
    go_loopw [9] (fun i wr => ∃ k : Nat, k ≤ os.length ∧ i = .int .i64 k ∧ Drew w2 wr) (fun i _ => os.length - (intOf i).toNat)
    case atStart => exact ⟨0, Nat.zero_le _, rfl, Drew.refl _⟩
    case round =>
      obtain ⟨k, hk, rfl, hd⟩ := hrel
      have hbd := hd.to
      by_cases hlt : k < os.length
      · obtain ⟨l, hl⟩ : ∃ l, os[k]? = some l := ⟨_, List.getElem?_eq_getElem hlt⟩
        obtain ⟨b, off, rfl, hbl, hcx⟩ := (hr1.below (by omega) hbd).at_ (by omega) (by omega)
        obtain ⟨b', off', rfl, hbl', hcy⟩ := (hr2.below (by omega) hbd).at_ (by omega) (by omega)
        have cx := hcx _ _ (Ls_at os k l hl).1
        have cx2 := hcx _ _ (Ls_at os k l hl).2
        have cy := hcy _ _ (Ls_at os k l hl).1
        have cy2 := hcy _ _ (Ls_at os k l hl).2
        rw [← Nat.add_assoc] at cx2 cy2
        obtain ⟨l1, l2⟩ := l
        clear hcx hcy hr1 hr2 hl
        have hi : (k : Int) < (os.length : Int) := by omega
        have hne : (mk8 l2 != mk8 l2) = false := str_ne_self _
        have hne2 : (l1 != l1) = false := by simp
        go_wp2
        go_quiet (fail)
        go_wp2
        go_roundw
        case rel => exact ⟨k + 1, by omega, by go_num, hd.trans ⟨_, rfl⟩⟩
        case measure => simp [intOf]; omega
      · have hi : (os.length : Int) ≤ (k : Int) := by omega
        replace hE1 := hE1.below hbd
        replace hb := below_then hb hbd
        clear hr1 hr2 hd hbd
        go_wp2_with fail
        refine (H3 _ hE1).mono ?_
        intro e w3 hF
        obtain ⟨A3, c3, rfl, hr3, hb3⟩ := hF.rd
        replace hE1 := hE1.below hb3
        replace hb := below_then hb hb3
        clear hF H3 hb3
        go_wp2_with fail
        refine (H4 _).mono ?_
        intro e w4 hF
        obtain ⟨A4, c4, rfl, hr4, hb4⟩ := hF.rd
        replace hE1 := hE1.below hb4
        replace hb := below_then hb hb4
        replace hr3 := hr3.below hb4
        clear hF H4 hb4
        go_wp2_with fail
        refine (texts_same _ _ _ _ _ _ _ hr3 hr4 (by omega)).mono ?_
        rintro e w5 ⟨rfl, hd5⟩
        have hb5 := hd5.to
        replace hE1 := hE1.below hb5
        replace hb := below_then hb hb5
        clear hr3 hr4 hd5 hb5
        go_wp2_with fail
        refine (awake_any _ hE1).mono ?_
        rintro e w6 ⟨rfl, hb6⟩
        go_wp2
        go_returns
        exact ⟨rfl, below_then hb hb6⟩
theorem lines_yesI (s : ByteArray) (sep : Int) (w : World) (hE : Env w) (h0 : 0 ≤ sep) (h1 : sep ≤ 255) :
    Calls Tryd.prog 3 #[.string s, .int .u8 sep] w fun e w' => e = .returned (.bool true) ∧ Below w.heap.size w w' := by
  rw [byte_val h0 h1]
  exact lines_yes s _ w hE
end Go.Proofs.YtagncjnbabdbmaaDoor
