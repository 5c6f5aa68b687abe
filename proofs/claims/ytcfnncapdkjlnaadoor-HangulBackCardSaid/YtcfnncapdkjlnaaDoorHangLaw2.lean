/- The laws HangulBack, HangulFull and HangulRounds, walked. -/
import Derived.Test.YtcfnncapdkjlnaaDoorHangLaw
import Derived.Test.YtcfnncapdkjlnaaDoorHangPlain
namespace Go.Proofs.YtcfnncapdkjlnaaDoor
open Go.RowKit

theorem hangul_back (r a b : Int) (w : World) (hk : Kinds w) (hr0 : -2147483648 ≤ r) (hr1 : r ≤ 2147483647) (ha0 : -2147483648 ≤ a) (ha1 : a ≤ 2147483647) (hb0 : -2147483648 ≤ b) (hb1 : b ≤ 2147483647) :
    Calls Tryd.prog 5 #[.int .i32 r, .int .i32 a, .int .i32 b] w (Yes w) := by
  rcases Bool.eq_false_or_eq_true (isH r) with hi | hi <;> rcases Bool.eq_false_or_eq_true (joinH a b).2 with hj | hj
  · obtain ⟨hs1, hs2, hs3⟩ := split_back hi
    have hi' := isH_true hi
    obtain ⟨x, hx⟩ : ∃ x, x = (splitH r).1 := ⟨_, rfl⟩
    obtain ⟨y, hy⟩ : ∃ y, y = (splitH r).2.1 := ⟨_, rfl⟩
    have hxy : -2147483648 ≤ x ∧ x ≤ 2147483647 ∧ -2147483648 ≤ y ∧ y ≤ 2147483647 := by rw [hx, hy, split_yes_eq hi']; split <;> (simp only []; omega)
    obtain ⟨hx0, hx1, hy0, hy1⟩ := hxy
    rw [← hx, ← hy] at hs1
    rw [← hy] at hs3
    have HX := Lib.hid hx.symm; have HY := Lib.hid hy.symm; have H1 := Lib.hid hs1; have H2 := Lib.hid hs2; clear hs1 hs2 hx hy hi'
    obtain ⟨hs4, hs5⟩ := join_back hj
    obtain ⟨s, hs⟩ : ∃ s, s = (joinH a b).1 := ⟨_, rfl⟩
    rw [← hs] at hs4 hs5
    have HS := Lib.hid hs.symm; have HJ := Lib.hid hj; have H4 := Lib.hid hs4; clear hs4 hj hs
    have hb := Below.refl w.heap.size w
    go_enter Tryd.func5, Tryd.ntmps5
    go_wp2_with fail
    refine (split_any r _ hk).mono ?_
    rw [HX.out, HY.out, H2.out]
    rintro e w1 ⟨rfl, hbn⟩
    replace hk := hk.below' hbn
    replace hb := below_then hb hbn
    clear hbn
    go_wp2_with fail
    refine (join_any x y _ hk hx0 hx1 hy0 hy1).mono ?_
    rw [H1.out]
    rintro e w2 ⟨rfl, hbn⟩
    replace hk := hk.below' hbn
    replace hb := below_then hb hbn
    clear hbn
    go_wp2_with fail
    refine (is_any r _ hk).mono ?_
    rw [hi]
    rintro e w' ⟨rfl, rfl⟩
    go_wp2_with fail
    refine (is_any y _ hk).mono ?_
    rw [hs3]
    rintro e w' ⟨rfl, rfl⟩
    go_wp2_with fail
    refine (join_any a b _ hk ha0 ha1 hb0 hb1).mono ?_
    rw [HS.out, HJ.out]
    rintro e w3 ⟨rfl, hbn⟩
    replace hk := hk.below' hbn
    replace hb := below_then hb hbn
    clear hbn
    go_wp2_with fail
    refine (split_any s _ hk).mono ?_
    rw [H4.out]
    rintro e w4 ⟨rfl, hbn⟩
    replace hk := hk.below' hbn
    replace hb := below_then hb hbn
    clear hbn
    go_wp2_with fail
    refine (is_any s _ hk).mono ?_
    rw [hs5]
    rintro e w' ⟨rfl, rfl⟩
    go_wp2_with fail
    refine (awake07 _ hk).mono ?_
    rintro e w5 ⟨rfl, hbn⟩
    replace hk := hk.below' hbn
    replace hb := below_then hb hbn
    clear hbn
    go_wp2
    go_returns
    exact ⟨rfl, hb⟩
  · obtain ⟨hs1, hs2, hs3⟩ := split_back hi
    have hi' := isH_true hi
    obtain ⟨x, hx⟩ : ∃ x, x = (splitH r).1 := ⟨_, rfl⟩
    obtain ⟨y, hy⟩ : ∃ y, y = (splitH r).2.1 := ⟨_, rfl⟩
    have hxy : -2147483648 ≤ x ∧ x ≤ 2147483647 ∧ -2147483648 ≤ y ∧ y ≤ 2147483647 := by rw [hx, hy, split_yes_eq hi']; split <;> (simp only []; omega)
    obtain ⟨hx0, hx1, hy0, hy1⟩ := hxy
    rw [← hx, ← hy] at hs1
    rw [← hy] at hs3
    have HX := Lib.hid hx.symm; have HY := Lib.hid hy.symm; have H1 := Lib.hid hs1; have H2 := Lib.hid hs2; clear hs1 hs2 hx hy hi'
    have HS := Lib.hid (join_no_eq hj)
    have HJ := Lib.hid hj; clear hj
    have hb := Below.refl w.heap.size w
    go_enter Tryd.func5, Tryd.ntmps5
    go_wp2_with fail
    refine (split_any r _ hk).mono ?_
    rw [HX.out, HY.out, H2.out]
    rintro e w1 ⟨rfl, hbn⟩
    replace hk := hk.below' hbn
    replace hb := below_then hb hbn
    clear hbn
    go_wp2_with fail
    refine (join_any x y _ hk hx0 hx1 hy0 hy1).mono ?_
    rw [H1.out]
    rintro e w2 ⟨rfl, hbn⟩
    replace hk := hk.below' hbn
    replace hb := below_then hb hbn
    clear hbn
    go_wp2_with fail
    refine (is_any r _ hk).mono ?_
    rw [hi]
    rintro e w' ⟨rfl, rfl⟩
    go_wp2_with fail
    refine (is_any y _ hk).mono ?_
    rw [hs3]
    rintro e w' ⟨rfl, rfl⟩
    go_wp2_with fail
    refine (join_any a b _ hk ha0 ha1 hb0 hb1).mono ?_
    rw [HS.out, HJ.out]
    rintro e w3 ⟨rfl, hbn⟩
    replace hk := hk.below' hbn
    replace hb := below_then hb hbn
    clear hbn
    go_wp2_with fail
    refine (awake07 _ hk).mono ?_
    rintro e w4 ⟨rfl, hbn⟩
    replace hk := hk.below' hbn
    replace hb := below_then hb hbn
    clear hbn
    go_wp2
    go_returns
    exact ⟨rfl, hb⟩
  · have H1 := Lib.hid (split_no_eq hi)
    obtain ⟨hs4, hs5⟩ := join_back hj
    obtain ⟨s, hs⟩ : ∃ s, s = (joinH a b).1 := ⟨_, rfl⟩
    rw [← hs] at hs4 hs5
    have HS := Lib.hid hs.symm; have HJ := Lib.hid hj; have H4 := Lib.hid hs4; clear hs4 hj hs
    have hb := Below.refl w.heap.size w
    go_enter Tryd.func5, Tryd.ntmps5
    go_wp2_with fail
    refine (split_any r _ hk).mono ?_
    rw [H1.out]
    rintro e w1 ⟨rfl, hbn⟩
    replace hk := hk.below' hbn
    replace hb := below_then hb hbn
    clear hbn
    go_wp2_with fail
    refine (is_any r _ hk).mono ?_
    rw [hi]
    rintro e w' ⟨rfl, rfl⟩
    go_wp2_with fail
    refine (join_any a b _ hk ha0 ha1 hb0 hb1).mono ?_
    rw [HS.out, HJ.out]
    rintro e w2 ⟨rfl, hbn⟩
    replace hk := hk.below' hbn
    replace hb := below_then hb hbn
    clear hbn
    go_wp2_with fail
    refine (split_any s _ hk).mono ?_
    rw [H4.out]
    rintro e w3 ⟨rfl, hbn⟩
    replace hk := hk.below' hbn
    replace hb := below_then hb hbn
    clear hbn
    go_wp2_with fail
    refine (is_any s _ hk).mono ?_
    rw [hs5]
    rintro e w' ⟨rfl, rfl⟩
    go_wp2_with fail
    refine (awake07 _ hk).mono ?_
    rintro e w4 ⟨rfl, hbn⟩
    replace hk := hk.below' hbn
    replace hb := below_then hb hbn
    clear hbn
    go_wp2
    go_returns
    exact ⟨rfl, hb⟩
  · have H1 := Lib.hid (split_no_eq hi)
    have HS := Lib.hid (join_no_eq hj)
    have HJ := Lib.hid hj; clear hj
    have hb := Below.refl w.heap.size w
    go_enter Tryd.func5, Tryd.ntmps5
    go_wp2_with fail
    refine (split_any r _ hk).mono ?_
    rw [H1.out]
    rintro e w1 ⟨rfl, hbn⟩
    replace hk := hk.below' hbn
    replace hb := below_then hb hbn
    clear hbn
    go_wp2_with fail
    refine (is_any r _ hk).mono ?_
    rw [hi]
    rintro e w' ⟨rfl, rfl⟩
    go_wp2_with fail
    refine (join_any a b _ hk ha0 ha1 hb0 hb1).mono ?_
    rw [HS.out, HJ.out]
    rintro e w2 ⟨rfl, hbn⟩
    replace hk := hk.below' hbn
    replace hb := below_then hb hbn
    clear hbn
    go_wp2_with fail
    refine (awake07 _ hk).mono ?_
    rintro e w3 ⟨rfl, hbn⟩
    replace hk := hk.below' hbn
    replace hb := below_then hb hbn
    clear hbn
    go_wp2
    go_returns
    exact ⟨rfl, hb⟩

theorem hangul_full (r s : Int) (w : World) (hk : Kinds w) :
    Calls Tryd.prog 6 #[.int .i32 r, .int .i32 s] w (Yes w) := by
  have hlen : ∀ x : Int, (fullH x).length ≤ 3 := fun x => by unfold fullH; split <;> (try split) <;> simp
  rcases Bool.eq_false_or_eq_true (isH r) with hi | hi
  · rcases Bool.eq_false_or_eq_true (splitH (splitH r).1).2.2 with hm | hm <;> by_cases hs : r = s
    · obtain ⟨x, hx⟩ : ∃ x, x = (splitH r).1 := ⟨_, rfl⟩
      obtain ⟨y, hy⟩ : ∃ y, y = (splitH r).2.1 := ⟨_, rfl⟩
      have hfs := full_split hi
      have h2 := (split_back hi).2.1
      have hfi : ∀ hz : -2147483648 ≤ r ∧ r ≤ 2147483647, True := fun _ => trivial
      clear hfi
      have hrr := isH_true hi
      have hi32 : I32 (fullH r) := by intro z hz; rw [fullH_yes_eq hrr] at hz; split at hz <;> simp at hz <;> omega
      rw [← hx, ← hy] at hfs
      have HSY := Lib.hid (syll_full hi)
      have HI := Lib.hid hi32; clear hi32 hrr
      have hlr := hlen r
      have hls := hlen s
      clear hlen
      rw [← hx] at hm
      rw [if_pos hm] at hfs
      obtain ⟨c, hc⟩ : ∃ c, c = (splitH x).1 := ⟨_, rfl⟩
      obtain ⟨d, hd⟩ : ∃ d, d = (splitH x).2.1 := ⟨_, rfl⟩
      rw [← hc, ← hd] at hfs
      have HC := Lib.hid hc.symm; have HD := Lib.hid hd.symm; have HM := Lib.hid hm; clear hc hd hm
      have HX := Lib.hid hx.symm; have HY := Lib.hid hy.symm; have H2 := Lib.hid h2; have HFS := Lib.hid hfs; clear hx hy h2 hfs
      have hse : (r == s) = true := by simpa using hs
      have HS := Lib.hid hs; clear hs
      have HII := Lib.hid hi; clear hi
      have hb := Below.refl w.heap.size w
      go_enter Tryd.func6, Tryd.ntmps6
      go_wp2_with fail
      refine (full_any r _ hk).mono ?_
      rintro e w1 hf
      obtain ⟨A1, c1, rfl, hr1, hbn⟩ := hf.rd
      clear hf
      replace hk := hk.below' hbn
      replace hb := below_then hb hbn
      clear hbn
      go_wp2_with fail
      refine (split_any r _ hk).mono ?_
      rw [HX.out, HY.out, H2.out]
      rintro e w2 ⟨rfl, hbn⟩
      replace hk := hk.below' hbn
      replace hr1 := hr1.below hbn
      replace hb := below_then hb hbn
      clear hbn
      go_wp2_with fail
      refine (split_any x _ hk).mono ?_
      rw [HC.out, HD.out, HM.out]
      rintro e w3 ⟨rfl, hbn⟩
      replace hk := hk.below' hbn
      replace hr1 := hr1.below hbn
      replace hb := below_then hb hbn
      clear hbn
      go_wp2_with fail
      have hrw := (Rd.new (w3.alloc (.cells #[.int .i32 x, .int .i32 y] 21)) 21 (Rs [c, d, y]))
      have hbl := ((Below.refl w3.heap.size w3).alloc (Nat.le_refl _) (.cells #[.int .i32 x, .int .i32 y] 21)).alloc (by simp) (.cells (Rs [c, d, y]).toArray 21)
      replace hk := hk.below' hbl
      replace hr1 := hr1.below hbl
      replace hb := below_then hb hbl
      clear hbl
      refine (runes_any A1 _ _ 3 c1 3 (fullH r) [c, d, y] _ hr1 (by simpa using hrw) (by omega) (by omega)).mono ?_
      rw [show decide (fullH r = [c, d, y]) = true by rw [HFS.out]; simp]
      rintro e w4 ⟨rfl, hdn⟩
      have hbn := hdn.to
      clear hdn hrw
      replace hk := hk.below' hbn
      replace hr1 := hr1.below hbn
      replace hb := below_then hb hbn
      clear hbn
      go_wp2_with fail
      refine (syllL_any A1 _ c1 (fullH r) _ hk hr1 (by omega) HI.out).mono ?_
      rw [HSY.out]
      rintro e w5 hf
      obtain ⟨A3, c3, rfl, hr3, hbn⟩ := hf.rd
      clear hf
      replace hk := hk.below' hbn
      replace hr1 := hr1.below hbn
      replace hb := below_then hb hbn
      clear hbn
      go_wp2_with fail
      have hrw := (Rd.new w5 21 (Rs [r]))
      have hbl := (Below.refl w5.heap.size w5).alloc (Nat.le_refl _) (.cells (Rs [r]).toArray 21)
      replace hk := hk.below' hbl
      replace hr1 := hr1.below hbl
      replace hr3 := hr3.below hbl
      replace hb := below_then hb hbl
      clear hbl
      refine (runes_any A3 _ 1 1 c3 1 [r] [r] _ hr3 (by simpa using hrw) (by omega) (by omega)).mono ?_
      rintro e w6 ⟨rfl, hdn⟩
      have hbn := hdn.to
      clear hdn hrw
      replace hk := hk.below' hbn
      replace hr1 := hr1.below hbn
      replace hr3 := hr3.below hbn
      replace hb := below_then hb hbn
      clear hbn
      go_wp2_with fail
      refine (awake07 _ hk).mono ?_
      rintro e w7 ⟨rfl, hbn⟩
      replace hk := hk.below' hbn
      replace hr1 := hr1.below hbn
      replace hr3 := hr3.below hbn
      replace hb := below_then hb hbn
      clear hbn
      go_wp2
      go_returns
      exact ⟨rfl, hb⟩
    · obtain ⟨x, hx⟩ : ∃ x, x = (splitH r).1 := ⟨_, rfl⟩
      obtain ⟨y, hy⟩ : ∃ y, y = (splitH r).2.1 := ⟨_, rfl⟩
      have hfs := full_split hi
      have h2 := (split_back hi).2.1
      have hfi : ∀ hz : -2147483648 ≤ r ∧ r ≤ 2147483647, True := fun _ => trivial
      clear hfi
      have hrr := isH_true hi
      have hi32 : I32 (fullH r) := by intro z hz; rw [fullH_yes_eq hrr] at hz; split at hz <;> simp at hz <;> omega
      rw [← hx, ← hy] at hfs
      have HSY := Lib.hid (syll_full hi)
      have HI := Lib.hid hi32; clear hi32 hrr
      have hlr := hlen r
      have hls := hlen s
      clear hlen
      rw [← hx] at hm
      rw [if_pos hm] at hfs
      obtain ⟨c, hc⟩ : ∃ c, c = (splitH x).1 := ⟨_, rfl⟩
      obtain ⟨d, hd⟩ : ∃ d, d = (splitH x).2.1 := ⟨_, rfl⟩
      rw [← hc, ← hd] at hfs
      have HC := Lib.hid hc.symm; have HD := Lib.hid hd.symm; have HM := Lib.hid hm; clear hc hd hm
      have HX := Lib.hid hx.symm; have HY := Lib.hid hy.symm; have H2 := Lib.hid h2; have HFS := Lib.hid hfs; clear hx hy h2 hfs
      have hse : (r == s) = false := by simpa using hs
      have HNE := Lib.hid (show decide (fullH r = fullH s) = false from decide_eq_false (fun h => hs (full_inj hi h)))
      have HS := Lib.hid hs; clear hs
      have HII := Lib.hid hi; clear hi
      have hb := Below.refl w.heap.size w
      go_enter Tryd.func6, Tryd.ntmps6
      go_wp2_with fail
      refine (full_any r _ hk).mono ?_
      rintro e w1 hf
      obtain ⟨A1, c1, rfl, hr1, hbn⟩ := hf.rd
      clear hf
      replace hk := hk.below' hbn
      replace hb := below_then hb hbn
      clear hbn
      go_wp2_with fail
      refine (split_any r _ hk).mono ?_
      rw [HX.out, HY.out, H2.out]
      rintro e w2 ⟨rfl, hbn⟩
      replace hk := hk.below' hbn
      replace hr1 := hr1.below hbn
      replace hb := below_then hb hbn
      clear hbn
      go_wp2_with fail
      refine (split_any x _ hk).mono ?_
      rw [HC.out, HD.out, HM.out]
      rintro e w3 ⟨rfl, hbn⟩
      replace hk := hk.below' hbn
      replace hr1 := hr1.below hbn
      replace hb := below_then hb hbn
      clear hbn
      go_wp2_with fail
      have hrw := (Rd.new (w3.alloc (.cells #[.int .i32 x, .int .i32 y] 21)) 21 (Rs [c, d, y]))
      have hbl := ((Below.refl w3.heap.size w3).alloc (Nat.le_refl _) (.cells #[.int .i32 x, .int .i32 y] 21)).alloc (by simp) (.cells (Rs [c, d, y]).toArray 21)
      replace hk := hk.below' hbl
      replace hr1 := hr1.below hbl
      replace hb := below_then hb hbl
      clear hbl
      refine (runes_any A1 _ _ 3 c1 3 (fullH r) [c, d, y] _ hr1 (by simpa using hrw) (by omega) (by omega)).mono ?_
      rw [show decide (fullH r = [c, d, y]) = true by rw [HFS.out]; simp]
      rintro e w4 ⟨rfl, hdn⟩
      have hbn := hdn.to
      clear hdn hrw
      replace hk := hk.below' hbn
      replace hr1 := hr1.below hbn
      replace hb := below_then hb hbn
      clear hbn
      go_wp2_with fail
      refine (full_any s _ hk).mono ?_
      rintro e w5 hf
      obtain ⟨A2, c2, rfl, hr2, hbn⟩ := hf.rd
      clear hf
      replace hk := hk.below' hbn
      replace hr1 := hr1.below hbn
      replace hb := below_then hb hbn
      clear hbn
      go_wp2_with fail
      refine (runes_any A1 A2 _ _ c1 c2 (fullH r) (fullH s) _ hr1 hr2 (by omega) (by omega)).mono ?_
      rw [HNE.out]
      rintro e w6 ⟨rfl, hdn⟩
      have hbn := hdn.to
      clear hdn
      replace hk := hk.below' hbn
      replace hr1 := hr1.below hbn
      replace hr2 := hr2.below hbn
      replace hb := below_then hb hbn
      clear hbn
      go_wp2_with fail
      refine (syllL_any A1 _ c1 (fullH r) _ hk hr1 (by omega) HI.out).mono ?_
      rw [HSY.out]
      rintro e w7 hf
      obtain ⟨A3, c3, rfl, hr3, hbn⟩ := hf.rd
      clear hf
      replace hk := hk.below' hbn
      replace hr1 := hr1.below hbn
      replace hr2 := hr2.below hbn
      replace hb := below_then hb hbn
      clear hbn
      go_wp2_with fail
      have hrw := (Rd.new w7 21 (Rs [r]))
      have hbl := (Below.refl w7.heap.size w7).alloc (Nat.le_refl _) (.cells (Rs [r]).toArray 21)
      replace hk := hk.below' hbl
      replace hr1 := hr1.below hbl
      replace hr2 := hr2.below hbl
      replace hr3 := hr3.below hbl
      replace hb := below_then hb hbl
      clear hbl
      refine (runes_any A3 _ 1 1 c3 1 [r] [r] _ hr3 (by simpa using hrw) (by omega) (by omega)).mono ?_
      rintro e w8 ⟨rfl, hdn⟩
      have hbn := hdn.to
      clear hdn hrw
      replace hk := hk.below' hbn
      replace hr1 := hr1.below hbn
      replace hr2 := hr2.below hbn
      replace hr3 := hr3.below hbn
      replace hb := below_then hb hbn
      clear hbn
      go_wp2_with fail
      refine (awake07 _ hk).mono ?_
      rintro e w9 ⟨rfl, hbn⟩
      replace hk := hk.below' hbn
      replace hr1 := hr1.below hbn
      replace hr2 := hr2.below hbn
      replace hr3 := hr3.below hbn
      replace hb := below_then hb hbn
      clear hbn
      go_wp2
      go_returns
      exact ⟨rfl, hb⟩
    · obtain ⟨x, hx⟩ : ∃ x, x = (splitH r).1 := ⟨_, rfl⟩
      obtain ⟨y, hy⟩ : ∃ y, y = (splitH r).2.1 := ⟨_, rfl⟩
      have hfs := full_split hi
      have h2 := (split_back hi).2.1
      have hfi : ∀ hz : -2147483648 ≤ r ∧ r ≤ 2147483647, True := fun _ => trivial
      clear hfi
      have hrr := isH_true hi
      have hi32 : I32 (fullH r) := by intro z hz; rw [fullH_yes_eq hrr] at hz; split at hz <;> simp at hz <;> omega
      rw [← hx, ← hy] at hfs
      have HSY := Lib.hid (syll_full hi)
      have HI := Lib.hid hi32; clear hi32 hrr
      have hlr := hlen r
      have hls := hlen s
      clear hlen
      rw [← hx] at hm
      rw [if_neg (by rw [hm]; simp)] at hfs
      have HM := Lib.hid hm; clear hm
      have HX := Lib.hid hx.symm; have HY := Lib.hid hy.symm; have H2 := Lib.hid h2; have HFS := Lib.hid hfs; clear hx hy h2 hfs
      have hse : (r == s) = true := by simpa using hs
      have HS := Lib.hid hs; clear hs
      have HII := Lib.hid hi; clear hi
      have hb := Below.refl w.heap.size w
      go_enter Tryd.func6, Tryd.ntmps6
      go_wp2_with fail
      refine (full_any r _ hk).mono ?_
      rintro e w1 hf
      obtain ⟨A1, c1, rfl, hr1, hbn⟩ := hf.rd
      clear hf
      replace hk := hk.below' hbn
      replace hb := below_then hb hbn
      clear hbn
      go_wp2_with fail
      refine (split_any r _ hk).mono ?_
      rw [HX.out, HY.out, H2.out]
      rintro e w2 ⟨rfl, hbn⟩
      replace hk := hk.below' hbn
      replace hr1 := hr1.below hbn
      replace hb := below_then hb hbn
      clear hbn
      go_wp2_with fail
      refine (split_any x _ hk).mono ?_
      rw [HM.out]
      rintro e w3 ⟨rfl, hbn⟩
      replace hk := hk.below' hbn
      replace hr1 := hr1.below hbn
      replace hb := below_then hb hbn
      clear hbn
      go_wp2_with fail
      have hrw := (Rd.new w3 21 (Rs [x, y]))
      have hbl := (Below.refl w3.heap.size w3).alloc (Nat.le_refl _) (.cells (Rs [x, y]).toArray 21)
      replace hk := hk.below' hbl
      replace hr1 := hr1.below hbl
      replace hb := below_then hb hbl
      clear hbl
      refine (runes_any A1 _ _ 2 c1 2 (fullH r) [x, y] _ hr1 (by simpa using hrw) (by omega) (by omega)).mono ?_
      rw [show decide (fullH r = [x, y]) = true by rw [HFS.out]; simp]
      rintro e w4 ⟨rfl, hdn⟩
      have hbn := hdn.to
      clear hdn hrw
      replace hk := hk.below' hbn
      replace hr1 := hr1.below hbn
      replace hb := below_then hb hbn
      clear hbn
      go_wp2_with fail
      refine (syllL_any A1 _ c1 (fullH r) _ hk hr1 (by omega) HI.out).mono ?_
      rw [HSY.out]
      rintro e w5 hf
      obtain ⟨A3, c3, rfl, hr3, hbn⟩ := hf.rd
      clear hf
      replace hk := hk.below' hbn
      replace hr1 := hr1.below hbn
      replace hb := below_then hb hbn
      clear hbn
      go_wp2_with fail
      have hrw := (Rd.new w5 21 (Rs [r]))
      have hbl := (Below.refl w5.heap.size w5).alloc (Nat.le_refl _) (.cells (Rs [r]).toArray 21)
      replace hk := hk.below' hbl
      replace hr1 := hr1.below hbl
      replace hr3 := hr3.below hbl
      replace hb := below_then hb hbl
      clear hbl
      refine (runes_any A3 _ 1 1 c3 1 [r] [r] _ hr3 (by simpa using hrw) (by omega) (by omega)).mono ?_
      rintro e w6 ⟨rfl, hdn⟩
      have hbn := hdn.to
      clear hdn hrw
      replace hk := hk.below' hbn
      replace hr1 := hr1.below hbn
      replace hr3 := hr3.below hbn
      replace hb := below_then hb hbn
      clear hbn
      go_wp2_with fail
      refine (awake07 _ hk).mono ?_
      rintro e w7 ⟨rfl, hbn⟩
      replace hk := hk.below' hbn
      replace hr1 := hr1.below hbn
      replace hr3 := hr3.below hbn
      replace hb := below_then hb hbn
      clear hbn
      go_wp2
      go_returns
      exact ⟨rfl, hb⟩
    · obtain ⟨x, hx⟩ : ∃ x, x = (splitH r).1 := ⟨_, rfl⟩
      obtain ⟨y, hy⟩ : ∃ y, y = (splitH r).2.1 := ⟨_, rfl⟩
      have hfs := full_split hi
      have h2 := (split_back hi).2.1
      have hfi : ∀ hz : -2147483648 ≤ r ∧ r ≤ 2147483647, True := fun _ => trivial
      clear hfi
      have hrr := isH_true hi
      have hi32 : I32 (fullH r) := by intro z hz; rw [fullH_yes_eq hrr] at hz; split at hz <;> simp at hz <;> omega
      rw [← hx, ← hy] at hfs
      have HSY := Lib.hid (syll_full hi)
      have HI := Lib.hid hi32; clear hi32 hrr
      have hlr := hlen r
      have hls := hlen s
      clear hlen
      rw [← hx] at hm
      rw [if_neg (by rw [hm]; simp)] at hfs
      have HM := Lib.hid hm; clear hm
      have HX := Lib.hid hx.symm; have HY := Lib.hid hy.symm; have H2 := Lib.hid h2; have HFS := Lib.hid hfs; clear hx hy h2 hfs
      have hse : (r == s) = false := by simpa using hs
      have HNE := Lib.hid (show decide (fullH r = fullH s) = false from decide_eq_false (fun h => hs (full_inj hi h)))
      have HS := Lib.hid hs; clear hs
      have HII := Lib.hid hi; clear hi
      have hb := Below.refl w.heap.size w
      go_enter Tryd.func6, Tryd.ntmps6
      go_wp2_with fail
      refine (full_any r _ hk).mono ?_
      rintro e w1 hf
      obtain ⟨A1, c1, rfl, hr1, hbn⟩ := hf.rd
      clear hf
      replace hk := hk.below' hbn
      replace hb := below_then hb hbn
      clear hbn
      go_wp2_with fail
      refine (split_any r _ hk).mono ?_
      rw [HX.out, HY.out, H2.out]
      rintro e w2 ⟨rfl, hbn⟩
      replace hk := hk.below' hbn
      replace hr1 := hr1.below hbn
      replace hb := below_then hb hbn
      clear hbn
      go_wp2_with fail
      refine (split_any x _ hk).mono ?_
      rw [HM.out]
      rintro e w3 ⟨rfl, hbn⟩
      replace hk := hk.below' hbn
      replace hr1 := hr1.below hbn
      replace hb := below_then hb hbn
      clear hbn
      go_wp2_with fail
      have hrw := (Rd.new w3 21 (Rs [x, y]))
      have hbl := (Below.refl w3.heap.size w3).alloc (Nat.le_refl _) (.cells (Rs [x, y]).toArray 21)
      replace hk := hk.below' hbl
      replace hr1 := hr1.below hbl
      replace hb := below_then hb hbl
      clear hbl
      refine (runes_any A1 _ _ 2 c1 2 (fullH r) [x, y] _ hr1 (by simpa using hrw) (by omega) (by omega)).mono ?_
      rw [show decide (fullH r = [x, y]) = true by rw [HFS.out]; simp]
      rintro e w4 ⟨rfl, hdn⟩
      have hbn := hdn.to
      clear hdn hrw
      replace hk := hk.below' hbn
      replace hr1 := hr1.below hbn
      replace hb := below_then hb hbn
      clear hbn
      go_wp2_with fail
      refine (full_any s _ hk).mono ?_
      rintro e w5 hf
      obtain ⟨A2, c2, rfl, hr2, hbn⟩ := hf.rd
      clear hf
      replace hk := hk.below' hbn
      replace hr1 := hr1.below hbn
      replace hb := below_then hb hbn
      clear hbn
      go_wp2_with fail
      refine (runes_any A1 A2 _ _ c1 c2 (fullH r) (fullH s) _ hr1 hr2 (by omega) (by omega)).mono ?_
      rw [HNE.out]
      rintro e w6 ⟨rfl, hdn⟩
      have hbn := hdn.to
      clear hdn
      replace hk := hk.below' hbn
      replace hr1 := hr1.below hbn
      replace hr2 := hr2.below hbn
      replace hb := below_then hb hbn
      clear hbn
      go_wp2_with fail
      refine (syllL_any A1 _ c1 (fullH r) _ hk hr1 (by omega) HI.out).mono ?_
      rw [HSY.out]
      rintro e w7 hf
      obtain ⟨A3, c3, rfl, hr3, hbn⟩ := hf.rd
      clear hf
      replace hk := hk.below' hbn
      replace hr1 := hr1.below hbn
      replace hr2 := hr2.below hbn
      replace hb := below_then hb hbn
      clear hbn
      go_wp2_with fail
      have hrw := (Rd.new w7 21 (Rs [r]))
      have hbl := (Below.refl w7.heap.size w7).alloc (Nat.le_refl _) (.cells (Rs [r]).toArray 21)
      replace hk := hk.below' hbl
      replace hr1 := hr1.below hbl
      replace hr2 := hr2.below hbl
      replace hr3 := hr3.below hbl
      replace hb := below_then hb hbl
      clear hbl
      refine (runes_any A3 _ 1 1 c3 1 [r] [r] _ hr3 (by simpa using hrw) (by omega) (by omega)).mono ?_
      rintro e w8 ⟨rfl, hdn⟩
      have hbn := hdn.to
      clear hdn hrw
      replace hk := hk.below' hbn
      replace hr1 := hr1.below hbn
      replace hr2 := hr2.below hbn
      replace hr3 := hr3.below hbn
      replace hb := below_then hb hbn
      clear hbn
      go_wp2_with fail
      refine (awake07 _ hk).mono ?_
      rintro e w9 ⟨rfl, hbn⟩
      replace hk := hk.below' hbn
      replace hr1 := hr1.below hbn
      replace hr2 := hr2.below hbn
      replace hr3 := hr3.below hbn
      replace hb := below_then hb hbn
      clear hbn
      go_wp2
      go_returns
      exact ⟨rfl, hb⟩
  · have H1 := Lib.hid (split_no_eq hi)
    have H2 := Lib.hid (show fullH r = [] by unfold fullH; rw [if_neg (isH_false hi)])
    clear hlen
    have hb := Below.refl w.heap.size w
    go_enter Tryd.func6, Tryd.ntmps6
    go_wp2_with fail
    refine (full_any r _ hk).mono ?_
    rw [H2.out]
    rintro e w1 hf
    obtain ⟨A1, c1, rfl, hr1, hbn⟩ := hf.rd
    clear hf
    replace hk := hk.below' hbn
    replace hb := below_then hb hbn
    clear hbn
    go_wp2_with fail
    refine (split_any r _ hk).mono ?_
    rw [H1.out]
    rintro e w2 ⟨rfl, hbn⟩
    replace hk := hk.below' hbn
    replace hr1 := hr1.below hbn
    replace hb := below_then hb hbn
    clear hbn
    go_wp2_with fail
    refine (awake07 _ hk).mono ?_
    rintro e w3 ⟨rfl, hbn⟩
    replace hk := hk.below' hbn
    replace hr1 := hr1.below hbn
    replace hb := below_then hb hbn
    clear hbn
    go_wp2
    go_returns
    exact ⟨rfl, hb⟩
end Go.Proofs.YtcfnncapdkjlnaaDoor
