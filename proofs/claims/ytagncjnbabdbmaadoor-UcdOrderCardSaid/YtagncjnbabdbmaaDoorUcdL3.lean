/- The law on characters that lines of ranges tell: true. -/
import Derived.Test.YtagncjnbabdbmaaDoorUcdS2
set_option linter.unusedSimpArgs false
set_option linter.unusedVariables false
namespace Go.Proofs.YtagncjnbabdbmaaDoor
open Go.RowKit

theorem setsW_len : ∀ (ls : List (Int × List UInt8)) (out : List Int), out.length ≤ 4096 → (setsW out ls).1.length ≤ 4096
  | [], out, h => h
  | p :: ls, out, h => by
    by_cases he : (setStep out p.2).2 = 0
    · rw [setsW_good he]
      exact setsW_len ls _ (setStep_len h)
    · rw [setsW_bad he]
      simp
theorem setsS_len (s : List UInt8) : (setsS s).1.length ≤ 4096 := by
  unfold setsS setsE
  split
  · simp
  · show (srt _).length ≤ 4096
    rw [srt_len]
    exact setsW_len _ _ (by simp)
set_option maxRecDepth 20000 in
set_option maxHeartbeats 4000000 in
theorem ucdsets_yes (s : ByteArray) (w : World) (hE : Env w) :
    Calls Tryd.prog 12 #[.string s] w fun e w' => e = .returned (.bool true) ∧ Below w.heap.size w w' := by
  by_cases hbig : 2000 < s.size
  · have hb : (2000 : Int) < (s.size : Int) := by omega
    go_enter Tryd.func12, Tryd.ntmps12
    go_wp2_with fail
    refine (awake5_any _ hE).mono ?_
    rintro e w1 ⟨rfl, hb1⟩
    go_wp2
    go_returns
    exact ⟨rfl, hb1⟩
  · have hsi : (s.size : Int) ≤ 2000 := by omega
    have C1 := sets_any s w hE (by omega)
    have C2 := fun w => rsets_any s w (by omega)
    have hlen := setsS_len (bs s)
    obtain ⟨⟨r, no, er⟩, hr⟩ : ∃ z, z = setsS (bs s) := ⟨_, rfl⟩
    rw [← hr] at C1 C2 hlen
    simp only [] at hlen
    clear hr hbig
    have s1 : (no == no) = true := by simp
    have s2 : (er == er) = true := by simp
    go_enter Tryd.func12, Tryd.ntmps12
    go_wp2_with fail
    refine C1.mono ?_
    rintro e w1 ⟨A, c, rfl, hown1, hb1⟩
    have hr1 := own_rd hown1
    clear C1 hown1
    go_wp2_with fail
    refine (C2 _).mono ?_
    rintro e w2 ⟨A2, c2, rfl, hown2, hb2⟩
    have hr2 := own_rd hown2
    replace hr1 := hr1.below hb2
    have hbw := below_then hb1 hb2
    have hE2 := hE.below hbw
    clear C2 hown2 hb1 hb2
    have HR := fun w => runes_any A A2 r.length r.length c c2 r r w
    rw [show decide (r = r) = true from by simp] at HR
    go_wp2_with fail
    refine (HR _ hr1 hr2 (by omega) (by omega)).mono ?_
    rintro q w20 ⟨rfl, hdn⟩
    have hbn := hdn.to
    replace hE2 := hE2.below hbn
    replace hbw := below_then hbw hbn
    clear hdn hbn hr1 hr2 HR
    go_wp2_with fail
    refine (awake5_any _ hE2).mono ?_
    rintro q w21 ⟨rfl, hbn⟩
    go_wp2
    go_returns
    exact ⟨rfl, below_then hbw hbn⟩
end Go.Proofs.YtagncjnbabdbmaaDoor
