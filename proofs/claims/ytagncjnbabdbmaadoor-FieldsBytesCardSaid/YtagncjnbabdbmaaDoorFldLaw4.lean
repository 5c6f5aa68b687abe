/- The law on bytes that a text tells, and on how characters are told: true. -/
import Derived.Test.YtagncjnbabdbmaaDoorFldT3
import Derived.Test.YtagncjnbabdbmaaDoorFldT5
import Derived.Test.YtagncjnbabdbmaaDoorFldW
import Derived.Test.YtagncjnbabdbmaaDoorFldLaw1
set_option linter.unusedSimpArgs false
set_option linter.unusedVariables false
namespace Go.Proofs.YtagncjnbabdbmaaDoor
open Go.RowKit

theorem str_eq_self (s : ByteArray) : (s == s) = true := by
  cases s with | mk a => show (a == a) = true; simp
set_option maxHeartbeats 3000000 in
theorem tellbytes_yes (s ahead : ByteArray) (A : Option Addr) (n c : Nat) (zs : List Int) (w : World) (hE : Env w) (hr : Rd w A n (Rs zs)) (hi : ∀ z ∈ zs, -2147483648 ≤ z ∧ z ≤ 2147483647) :
    Calls Tryd.prog 7 #[.string s, .string ahead, .slice A n c] w fun e w' => e = .returned (.bool true) ∧ Below w.heap.size w w' := by
  by_cases hbig : 1000 < s.size ∨ 20 < ahead.size ∨ 100 < n
  · have hcase : (1000 : Int) < (s.size : Int) ∨ ((s.size : Int) ≤ 1000 ∧ (20 : Int) < (ahead.size : Int)) ∨ ((s.size : Int) ≤ 1000 ∧ (ahead.size : Int) ≤ 20 ∧ (100 : Int) < (n : Int)) := by omega
    clear hbig hr hi
    rcases hcase with h1 | ⟨h1, h2⟩ | ⟨h1, h2, h3⟩
    all_goals
      go_enter Tryd.func7, Tryd.ntmps7
      go_wp2_with fail
      refine (awake_any _ hE).mono ?_
      rintro e w1 ⟨rfl, hb1⟩
      go_wp2
      go_returns
      exact ⟨rfl, hb1⟩
  · have hsi : (s.size : Int) ≤ 1000 := by omega
    have hai : (ahead.size : Int) ≤ 20 := by omega
    have hni : (n : Int) ≤ 100 := by omega
    clear hbig
    have C1 := fun w => bytes04_any s ahead w (by omega)
    have C2 := fun w => rbytes_any s ahead w (by omega) (by omega)
    have C3 := fun w (h : Rd w A n (Rs zs)) => text04_any A n c zs w h hi (by omega)
    have C4 := fun w (h : Rd w A n (Rs zs)) => rtext_any A n c zs w h hi (by omega)
    obtain ⟨⟨x, e0⟩, hx⟩ : ∃ z, z = bytesS (bs ahead) (bs s) := ⟨_, rfl⟩
    obtain ⟨t, ht⟩ : ∃ t, t = mk8 (textS zs) := ⟨_, rfl⟩
    rw [← hx] at C1 C2
    rw [← ht] at C3 C4
    simp only [] at C1 C2
    obtain ⟨y, hy⟩ : ∃ y, y = mk8 x := ⟨_, rfl⟩
    rw [← hy] at C1 C2
    clear hx ht hy hi
    have s1 := str_eq_self y
    have s2 : (e0 == e0) = true := by simp
    have s3 := str_eq_self t
    have hbw := Below.refl w.heap.size w
    go_enter Tryd.func7, Tryd.ntmps7
    go_wp2_with fail
    refine (C1 _).mono ?_
    rintro q w1 ⟨rfl, hbn⟩
    replace hE := hE.below hbn
    replace hr := hr.below hbn
    replace hbw := below_then hbw hbn
    clear hbn
    go_wp2_with fail
    refine (C2 _).mono ?_
    rintro q w2 ⟨rfl, hbn⟩
    replace hE := hE.below hbn
    replace hr := hr.below hbn
    replace hbw := below_then hbw hbn
    clear hbn
    go_wp2_with fail
    refine (C3 _ hr).mono ?_
    rintro q w3 ⟨rfl, hbn⟩
    replace hE := hE.below hbn
    replace hr := hr.below hbn
    replace hbw := below_then hbw hbn
    clear hbn
    go_wp2_with fail
    refine (C4 _ hr).mono ?_
    rintro q w4 ⟨rfl, hbn⟩
    replace hE := hE.below hbn
    replace hbw := below_then hbw hbn
    clear hbn hr
    go_wp2_with fail
    refine (awake_any _ hE).mono ?_
    rintro q w5 ⟨rfl, hbn⟩
    go_wp2
    go_returns
    exact ⟨rfl, below_then hbw hbn⟩
end Go.Proofs.YtagncjnbabdbmaaDoor
