/- The law on characters, ranges and numbers that a text tells: true. -/
import Derived.Test.YtagncjnbabdbmaaDoorFldW
import Derived.Test.YtagncjnbabdbmaaDoorFldR4
import Derived.Test.YtagncjnbabdbmaaDoorFldLaw2
set_option linter.unusedSimpArgs false
set_option linter.unusedVariables false
namespace Go.Proofs.YtagncjnbabdbmaaDoor
open Go.RowKit

set_option maxHeartbeats 3000000 in
theorem hex_yes (s : ByteArray) (w : World) (hE : Env w) :
    Calls Tryd.prog 5 #[.string s] w fun e w' => e = .returned (.bool true) ∧ Below w.heap.size w w' := by
  by_cases hbig : 1000 < s.size
  · have hb : (1000 : Int) < (s.size : Int) := by omega
    go_enter Tryd.func5, Tryd.ntmps5
    go_wp2_with fail
    refine (awake_any _ hE).mono ?_
    rintro e w1 ⟨rfl, hb1⟩
    go_wp2
    go_returns
    exact ⟨rfl, hb1⟩
  · have hsi : (s.size : Int) ≤ 1000 := by omega
    have C1 := fun w => hex_any s w (by omega)
    have C2 := fun w => rhex_any s w (by omega)
    have C3 := fun w => runes04_any s w (by omega)
    have C4 := fun w => rrunes_any s w (by omega)
    have C5 := fun w h => range_any s w h (by omega)
    have C6 := fun w => rrange_any s w (by omega)
    have C7 := fun w => dec_any s w (by omega)
    have C8 := fun w => rdec_any s w (by omega)
    have hlen : (runesS (bs s)).1.length ≤ 1001 := by have := runesS_len (bs s); rw [bs_length] at this; omega
    obtain ⟨⟨a, b⟩, h1⟩ : ∃ z, z = hexS (bs s) := ⟨_, rfl⟩
    obtain ⟨⟨l, g⟩, h2⟩ : ∃ z, z = runesS (bs s) := ⟨_, rfl⟩
    obtain ⟨⟨x, y, j⟩, h3⟩ : ∃ z, z = rangeS (bs s) := ⟨_, rfl⟩
    obtain ⟨⟨n, k⟩, h4⟩ : ∃ z, z = decS (bs s) := ⟨_, rfl⟩
    rw [← h1] at C1 C2
    rw [← h2] at C3 C4 hlen
    rw [← h3] at C5 C6
    rw [← h4] at C7 C8
    simp only [] at hlen
    clear h1 h2 h3 h4 hbig
    have s1 : (a == a) = true := by simp
    have s2 : (b == b) = true := by simp
    have s3 : (g == g) = true := by simp
    have s4 : (x == x) = true := by simp
    have s5 : (y == y) = true := by simp
    have s6 : (j == j) = true := by simp
    have s7 : (n == n) = true := by simp
    have s8 : (k == k) = true := by simp
    go_enter Tryd.func5, Tryd.ntmps5
    have hbw := Below.refl w.heap.size w
    go_wp2_with fail
    refine (C1 _).mono ?_
    rintro q w1 ⟨rfl, hbn⟩
    replace hE := hE.below hbn
    replace hbw := below_then hbw hbn
    clear hbn
    go_wp2_with fail
    refine (C2 _).mono ?_
    rintro q w2 ⟨rfl, rfl⟩
    go_wp2_with fail
    refine (C3 _).mono ?_
    intro q w3 hF
    obtain ⟨A, c, rfl, hr1, hbn⟩ := hF.rd
    clear hF
    replace hE := hE.below hbn
    replace hbw := below_then hbw hbn
    clear hbn
    go_wp2_with fail
    refine (C4 _).mono ?_
    intro q w4 hF
    obtain ⟨A2, c2, rfl, hr2, hbn⟩ := hF.rd
    clear hF
    replace hE := hE.below hbn
    replace hr1 := hr1.below hbn
    replace hbw := below_then hbw hbn
    clear hbn
    go_wp2_with fail
    refine (C5 _ hE).mono ?_
    rintro q w5 ⟨rfl, hbn⟩
    replace hE := hE.below hbn
    replace hr1 := hr1.below hbn
    replace hr2 := hr2.below hbn
    replace hbw := below_then hbw hbn
    clear hbn
    go_wp2_with fail
    refine (C6 _).mono ?_
    rintro q w6 ⟨rfl, hdn⟩
    have hbn := hdn.to
    clear hdn
    replace hE := hE.below hbn
    replace hr1 := hr1.below hbn
    replace hr2 := hr2.below hbn
    replace hbw := below_then hbw hbn
    clear hbn
    go_wp2_with fail
    refine (C7 _).mono ?_
    rintro q w7 ⟨rfl, hbn⟩
    replace hE := hE.below hbn
    replace hr1 := hr1.below hbn
    replace hr2 := hr2.below hbn
    replace hbw := below_then hbw hbn
    clear hbn
    go_wp2_with fail
    refine (C8 _).mono ?_
    rintro q w8 ⟨rfl, rfl⟩
    have HR := fun w => runes_any A A2 l.length l.length c c2 l l w
    rw [show decide (l = l) = true from by simp] at HR
    go_wp2_with fail
    refine (HR _ hr1 hr2 (by omega) (by omega)).mono ?_
    rintro q w20 ⟨rfl, hdn⟩
    have hbn := hdn.to
    replace hE := hE.below hbn
    replace hbw := below_then hbw hbn
    clear hdn hbn hr1 hr2
    go_wp2_with fail
    refine (awake_any _ hE).mono ?_
    rintro q w21 ⟨rfl, hbn⟩
    go_wp2
    go_returns
    exact ⟨rfl, below_then hbw hbn⟩
end Go.Proofs.YtagncjnbabdbmaaDoor
