/- The chapter's examples, and the law on plain names: true. -/
import Derived.Test.YthfakejhkbelhaaDoorNamD
set_option linter.unusedSimpArgs false
set_option linter.unusedVariables false
namespace Go.Proofs.YthfakejhkbelhaaDoor
open Go.RowKit Go.Lib

theorem ex0 : plainS (bs ⟨#[73, 83, 79, 45, 56, 56, 53, 57, 45, 49]⟩) = [105, 115, 111, 56, 56, 53, 57, 49] := by kernel_rfl
theorem ex1 : plainS (bs ⟨#[85, 84, 70, 95, 56]⟩) = [117, 116, 102, 56] := by kernel_rfl
theorem ex2 : plainS (bs ⟨#[99, 112, 32, 48]⟩) = [99, 112, 48] := by kernel_rfl
theorem ex3 : plainS (bs ⟨#[56, 45, 48, 49]⟩) = [56, 48, 49] := by kernel_rfl
theorem ex4 : plainS (bs ⟨#[48, 45, 49]⟩) = [49] := by kernel_rfl
theorem ex5 : sameS (bs ⟨#[85, 116, 102, 56]⟩) (bs ⟨#[117, 116, 102, 45, 48, 56]⟩) = true := by kernel_rfl
theorem ex6 : sameS (bs ⟨#[]⟩) (bs ⟨#[]⟩) = false := by kernel_rfl
set_option maxRecDepth 20000 in
set_option maxHeartbeats 2000000 in
theorem awake21_any (w : World) (hE : EnvN w) :
    Calls Tryd.prog 8 #[] w fun e w' => e = .returned (.bool true) ∧ Below w.heap.size w w' := by
  have H0 := fun w h => plain_any ⟨#[73, 83, 79, 45, 56, 56, 53, 57, 45, 49]⟩ w h
  rw [ex0, show mk8 [105, 115, 111, 56, 56, 53, 57, 49] = ⟨#[105, 115, 111, 56, 56, 53, 57, 49]⟩ from rfl] at H0
  have H1 := fun w h => plain_any ⟨#[85, 84, 70, 95, 56]⟩ w h
  rw [ex1, show mk8 [117, 116, 102, 56] = ⟨#[117, 116, 102, 56]⟩ from rfl] at H1
  have H2 := fun w h => plain_any ⟨#[99, 112, 32, 48]⟩ w h
  rw [ex2, show mk8 [99, 112, 48] = ⟨#[99, 112, 48]⟩ from rfl] at H2
  have H3 := fun w h => plain_any ⟨#[56, 45, 48, 49]⟩ w h
  rw [ex3, show mk8 [56, 48, 49] = ⟨#[56, 48, 49]⟩ from rfl] at H3
  have H4 := fun w h => plain_any ⟨#[48, 45, 49]⟩ w h
  rw [ex4, show mk8 [49] = ⟨#[49]⟩ from rfl] at H4
  have H5 := fun w h => same21_any ⟨#[85, 116, 102, 56]⟩ ⟨#[117, 116, 102, 45, 48, 56]⟩ w h
  rw [ex5] at H5
  have H6 := fun w h => same21_any ⟨#[]⟩ ⟨#[]⟩ w h
  rw [ex6] at H6
  have hbw := Below.refl w.heap.size w
  go_enter Tryd.func8, Tryd.ntmps8
  go_wp2_with fail
  refine (H0 _ hE).mono ?_
  rintro e w0 ⟨rfl, hb0⟩
  replace hE := hE.below hb0
  replace hbw := below_then hbw hb0
  clear hb0 H0
  go_wp2_with fail
  refine (H1 _ hE).mono ?_
  rintro e w1 ⟨rfl, hb1⟩
  replace hE := hE.below hb1
  replace hbw := below_then hbw hb1
  clear hb1 H1
  go_wp2_with fail
  refine (H2 _ hE).mono ?_
  rintro e w2 ⟨rfl, hb2⟩
  replace hE := hE.below hb2
  replace hbw := below_then hbw hb2
  clear hb2 H2
  go_wp2_with fail
  refine (H3 _ hE).mono ?_
  rintro e w3 ⟨rfl, hb3⟩
  replace hE := hE.below hb3
  replace hbw := below_then hbw hb3
  clear hb3 H3
  go_wp2_with fail
  refine (H4 _ hE).mono ?_
  rintro e w4 ⟨rfl, hb4⟩
  replace hE := hE.below hb4
  replace hbw := below_then hbw hb4
  clear hb4 H4
  go_wp2_with fail
  refine (H5 _ hE).mono ?_
  rintro e w5 ⟨rfl, hb5⟩
  replace hE := hE.below hb5
  replace hbw := below_then hbw hb5
  clear hb5 H5
  go_wp2_with fail
  refine (H6 _ hE).mono ?_
  rintro e w6 ⟨rfl, hb6⟩
  replace hE := hE.below hb6
  replace hbw := below_then hbw hb6
  clear hb6 H6
  go_wp2
  go_returns
  exact ⟨rfl, hbw⟩
theorem str_beq (a b : List UInt8) : ((mk8 a).toList == (mk8 b).toList) = decide (a = b) := by
  rw [toList_bs, toList_bs, bs_mk8, bs_mk8]
  by_cases h : a = b
  · rw [h]; simp
  · rw [decide_eq_false h, beq_eq_false_iff_ne]; exact h
set_option maxRecDepth 20000 in
set_option maxHeartbeats 3000000 in
theorem namesPlain_yes (s t : ByteArray) (w : World) (hE : EnvN w) :
    Calls Tryd.prog 3 #[.string s, .string t] w fun e w' => e = .returned (.bool true) ∧ Below w.heap.size w w' := by
  by_cases hbig : 200 < s.size ∨ 200 < t.size
  · have hcase : (200 : Int) < (s.size : Int) ∨ ((s.size : Int) ≤ 200 ∧ (200 : Int) < (t.size : Int)) := by omega
    clear hbig
    rcases hcase with h1 | ⟨h1, h2⟩
    all_goals
      go_enter Tryd.func3, Tryd.ntmps3
      go_wp2_with fail
      refine (awake21_any _ hE).mono ?_
      rintro e w1 ⟨rfl, hb1⟩
      go_wp2
      go_returns
      exact ⟨rfl, hb1⟩
  · have h1 : (s.size : Int) ≤ 200 := by omega
    have h2 : (t.size : Int) ≤ 200 := by omega
    clear hbig
    have R1 := fun w => rplain_any s w (by omega)
    have R2 := fun w => rplain_any t w (by omega)
    have M1 := fun w h => may_any s w h
    have M2 := fun w => rmay_any s w (by omega)
    have P1 := fun w h => plain_any s w h
    have SM := fun w h => same21_any s t w h
    unfold sameS at SM
    obtain ⟨a, ha⟩ : ∃ a, a = plainS (bs s) := ⟨_, rfl⟩
    obtain ⟨b, hb⟩ : ∃ b, b = plainS (bs t) := ⟨_, rfl⟩
    obtain ⟨r, hr⟩ : ∃ r, r = mayS (bs s) := ⟨_, rfl⟩
    rw [← ha] at R1 P1 SM
    rw [← hb] at R2 SM
    rw [← hr] at M1 M2
    clear ha hb hr
    have q1 : (r == r) = true := by simp
    have q2 := str_eq_self (mk8 a)
    have hbw := Below.refl w.heap.size w
    by_cases h0 : a = []
    · rw [show decide (a ≠ [] ∧ a = b) = false from by rw [decide_eq_false_iff_not]; exact fun h => h.1 h0] at SM
      have hte : (mk8 a).toList.isEmpty = true := by rw [h0, toList_bs, bs_mk8]; rfl
      have hte2 : (!(mk8 a).toList.isEmpty) = false := by rw [hte]; rfl
      clear h0 R2
      go_enter Tryd.func3, Tryd.ntmps3
      go_wp2_with fail
      refine (R1 _).mono ?_
      rintro q w1 ⟨rfl, hbn⟩
      replace hE := hE.below hbn
      replace hbw := below_then hbw hbn
      clear hbn
      go_wp2_with fail
      refine (M1 _ hE).mono ?_
      rintro q w2 ⟨rfl, hbn⟩
      replace hE := hE.below hbn
      replace hbw := below_then hbw hbn
      clear hbn
      go_wp2_with fail
      refine (M2 _).mono ?_
      rintro q w3 ⟨rfl, rfl⟩
      go_wp2_with fail
      refine (P1 _ hE).mono ?_
      rintro q w4 ⟨rfl, hbn⟩
      replace hE := hE.below hbn
      replace hbw := below_then hbw hbn
      clear hbn
      go_wp2_with fail
      refine (SM _ hE).mono ?_
      rintro q w5 ⟨rfl, hbn⟩
      replace hE := hE.below hbn
      replace hbw := below_then hbw hbn
      clear hbn
      go_wp2_with fail
      refine (awake21_any _ hE).mono ?_
      rintro q w9 ⟨rfl, hbn⟩
      go_wp2
      go_returns
      exact ⟨rfl, below_then hbw hbn⟩
    · have hte : (mk8 a).toList.isEmpty = false := by
        rw [toList_bs, bs_mk8]
        cases a with
        | nil => exact absurd rfl h0
        | cons c t => rfl
      have hte2 : (!(mk8 a).toList.isEmpty) = true := by rw [hte]; rfl
      by_cases hab : a = b
      · rw [show decide (a ≠ [] ∧ a = b) = true from by rw [decide_eq_true_eq]; exact ⟨h0, hab⟩] at SM
        subst hab
        clear h0
        go_enter Tryd.func3, Tryd.ntmps3
        go_wp2_with fail
        refine (R1 _).mono ?_
        rintro q w1 ⟨rfl, hbn⟩
        replace hE := hE.below hbn
        replace hbw := below_then hbw hbn
        clear hbn
        go_wp2_with fail
        refine (M1 _ hE).mono ?_
        rintro q w2 ⟨rfl, hbn⟩
        replace hE := hE.below hbn
        replace hbw := below_then hbw hbn
        clear hbn
        go_wp2_with fail
        refine (M2 _).mono ?_
        rintro q w3 ⟨rfl, rfl⟩
        go_wp2_with fail
        refine (P1 _ hE).mono ?_
        rintro q w4 ⟨rfl, hbn⟩
        replace hE := hE.below hbn
        replace hbw := below_then hbw hbn
        clear hbn
        go_wp2_with fail
        refine (SM _ hE).mono ?_
        rintro q w5 ⟨rfl, hbn⟩
        replace hE := hE.below hbn
        replace hbw := below_then hbw hbn
        clear hbn
        go_wp2_with fail
        refine (R2 _).mono ?_
        rintro q w8 ⟨rfl, hbn⟩
        replace hE := hE.below hbn
        replace hbw := below_then hbw hbn
        clear hbn
        go_wp2_with fail
        refine (awake21_any _ hE).mono ?_
        rintro q w9 ⟨rfl, hbn⟩
        go_wp2
        go_returns
        exact ⟨rfl, below_then hbw hbn⟩
      · rw [show decide (a ≠ [] ∧ a = b) = false from by rw [decide_eq_false_iff_not]; exact fun h => hab h.2] at SM
        have hne : ¬ ((mk8 a).toList = (mk8 b).toList) := fun h => hab (by rw [toList_bs, toList_bs, bs_mk8, bs_mk8] at h; exact h)
        have hbq : ((mk8 a).toList == (mk8 b).toList) = false := beq_eq_false_iff_ne.2 hne
        clear h0 hab hne
        go_enter Tryd.func3, Tryd.ntmps3
        go_wp2_with fail
        refine (R1 _).mono ?_
        rintro q w1 ⟨rfl, hbn⟩
        replace hE := hE.below hbn
        replace hbw := below_then hbw hbn
        clear hbn
        go_wp2_with fail
        refine (M1 _ hE).mono ?_
        rintro q w2 ⟨rfl, hbn⟩
        replace hE := hE.below hbn
        replace hbw := below_then hbw hbn
        clear hbn
        go_wp2_with fail
        refine (M2 _).mono ?_
        rintro q w3 ⟨rfl, rfl⟩
        go_wp2_with fail
        refine (P1 _ hE).mono ?_
        rintro q w4 ⟨rfl, hbn⟩
        replace hE := hE.below hbn
        replace hbw := below_then hbw hbn
        clear hbn
        go_wp2_with fail
        refine (SM _ hE).mono ?_
        rintro q w5 ⟨rfl, hbn⟩
        replace hE := hE.below hbn
        replace hbw := below_then hbw hbn
        clear hbn
        go_wp2_with fail
        refine (R2 _).mono ?_
        rintro q w8 ⟨rfl, hbn⟩
        replace hE := hE.below hbn
        replace hbw := below_then hbw hbn
        clear hbn
        go_wp2_with fail
        refine (awake21_any _ hE).mono ?_
        rintro q w9 ⟨rfl, hbn⟩
        go_wp2
        go_returns
        exact ⟨rfl, below_then hbw hbn⟩
end Go.Proofs.YthfakejhkbelhaaDoor
