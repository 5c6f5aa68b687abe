/- The laws of the layer of syllables, walked: each returns true and leaves what was there as it was, the table of kinds being laid. -/
import Derived.Test.YtcfnncapdkjlnaaDoorHangL
import Derived.Test.YtcfnncapdkjlnaaDoorHangRL
namespace Go.Proofs.YtcfnncapdkjlnaaDoor
open Go.RowKit

/-- What a law's call comes to. -/
def Yes (w : World) (e : Ending) (w' : World) : Prop := e = .returned (.bool true) ∧ Below w.heap.size w w'

theorem awake07 (w : World) (hk : Kinds w) : Calls Tryd.prog 15 #[] w (Yes w) := by
  go_enter Tryd.func15, Tryd.ntmps15
  go_wp2_with fail
  refine (split_any 44033 _ hk).mono ?_
  rintro e w1 ⟨rfl, hb1⟩
  have hk1 := hk.below' hb1
  have e1 : splitH 44033 = (44032, 4520, true) := by decide
  rw [e1]
  clear e1
  go_wp2_with fail
  refine (join_any 4370 4469 _ hk1 (by omega) (by omega) (by omega) (by omega)).mono ?_
  rintro e w2 ⟨rfl, hb2⟩
  have hk2 := hk1.below' hb2
  have hb12 := below_then hb1 hb2
  have e2 : joinH 4370 4469 = (55176, true) := by decide
  rw [e2]
  clear e2
  go_wp2_with fail
  refine (full_any 55203 _ hk2).mono ?_
  have e3 : fullH 55203 = [4370, 4469, 4546] := by decide
  rw [e3]
  clear e3
  rintro e w3 hf
  obtain ⟨A, c, rfl, hr, hb3⟩ := hf.rd
  have hb13 := below_then hb12 hb3
  go_wp2_with fail
  refine (runes_any A _ 3 3 c 3 [4370, 4469, 4546] [4370, 4469, 4546] _ (hr.alloc _) (Rd.new _ _ (Rs [4370, 4469, 4546])) (by omega) (by omega)).mono ?_
  rintro e w4 ⟨rfl, hd⟩
  go_wp2
  go_returns
  exact ⟨rfl, (hb13.alloc hb13.size _).trans (hd.below _)⟩

theorem splits_yes (r : Int) (w : World) (hk : Kinds w) (hr0 : -2147483648 ≤ r) (hr1 : r ≤ 2147483647) : Calls Tryd.prog 3 #[.int .i32 r] w (Yes w) := by
  have hs : (splitH r).2.2 = isH r := by
    by_cases h : 44032 ≤ r ∧ r < 55204
    · simp only [splitH, isH, h, and_self, if_true, decide_true]
      split <;> rfl
    · simp only [splitH, isH, h, if_false, decide_false]
  have HS := Lib.hid hs; clear hs
  go_enter Tryd.func3, Tryd.ntmps3
  go_wp2_with fail
  refine (split_any r _ hk).mono ?_
  rw [HS.out]
  rintro e w1 ⟨rfl, hb1⟩
  have hk1 := hk.below' hb1
  go_wp2_with fail
  refine (rsplit_any r _ hr0 hr1).mono ?_
  rw [HS.out]
  rintro e w1' ⟨rfl, rfl⟩
  go_wp2_with fail
  refine (is_any r _ hk1).mono ?_
  rintro e w1' ⟨rfl, rfl⟩
  go_wp2_with fail
  refine (full_any r _ hk1).mono ?_
  rintro e w2 hf
  obtain ⟨A, c, rfl, hr2, hb2⟩ := hf.rd
  clear hf
  have hk2 := hk1.below' hb2
  have hb12 := below_then hb1 hb2
  go_wp2_with fail
  refine (rfull_any r _ hr0 hr1).mono ?_
  rintro e w3 hf
  obtain ⟨A', c', rfl, hr3, hb3⟩ := hf.rd
  clear hf
  have hk3 := hk2.below' hb3
  have hb13 := below_then hb12 hb3
  have hl : (fullH r).length ≤ 3 := by unfold fullH; split <;> (try split) <;> simp
  go_wp2_with fail
  refine (runes_any A A' _ _ c c' (fullH r) (fullH r) _ (hr2.below hb3) hr3 (by omega) (by omega)).mono ?_
  rintro e w4 ⟨rfl, hd⟩
  have hk4 := hk3.below' hd.to
  go_wp2_with fail
  refine (awake07 _ hk4).mono ?_
  rintro e w5 ⟨rfl, hb5⟩
  go_wp2
  go_returns
  exact ⟨rfl, below_then (below_then hb13 hd.to) hb5⟩

theorem joins_yes (a b : Int) (w : World) (hk : Kinds w) (ha0 : -2147483648 ≤ a) (ha1 : a ≤ 2147483647) (hb0 : -2147483648 ≤ b) (hb1 : b ≤ 2147483647) :
    Calls Tryd.prog 4 #[.int .i32 a, .int .i32 b] w (Yes w) := by
  go_enter Tryd.func4, Tryd.ntmps4
  go_wp2_with fail
  refine (join_any a b _ hk ha0 ha1 hb0 hb1).mono ?_
  rintro e w1 ⟨rfl, hbl1⟩
  have hk1 := hk.below' hbl1
  go_wp2_with fail
  refine (rjoin_any a b _ ha0 ha1 hb0 hb1).mono ?_
  rintro e w1' ⟨rfl, rfl⟩
  go_wp2_with fail
  refine (awake07 _ hk1).mono ?_
  rintro e w5 ⟨rfl, hb5⟩
  go_wp2
  go_returns
  exact ⟨rfl, below_then hbl1 hb5⟩

theorem texts_yes (A : Option Addr) (n c : Nat) (xs : List Int) (w : World) (hk : Kinds w) (hx : Rd w A n (Rs xs)) (h32 : I32 xs) (hm : n ≤ maxLen) :
    Calls Tryd.prog 7 #[.slice A n c] w (Yes w) := by
  unfold maxLen at hm
  by_cases hn : 200 < n
  · have hd : (200 : Int) < (n : Int) := by omega
    go_enter Tryd.func7, Tryd.ntmps7
    go_wp2_with fail
    refine (awake07 _ hk).mono ?_
    rintro e w5 ⟨rfl, hb5⟩
    go_wp2
    go_returns
    exact ⟨rfl, hb5⟩
  · have hd : (n : Int) ≤ 200 := by omega
    have hxl : xs.length = n := by have := hx.1; simpa using this
    have hpl := partsH_len xs
    have hsl : (syllH xs).length ≤ n := by have := syllH_len xs; omega
    rw [hxl] at hpl
    have H32 := Lib.hid h32; clear h32 hxl
    go_enter Tryd.func7, Tryd.ntmps7
    go_wp2_with fail
    refine (partsL_any A n c xs _ hk hx (by omega)).mono ?_
    rintro e w1 hf
    obtain ⟨A1, c1, rfl, hr1, hb1⟩ := hf.rd
    clear hf
    have hk1 := hk.below' hb1
    go_wp2_with fail
    refine (rpartsL_any A n c xs _ (hx.below hb1) (by omega) H32.out).mono ?_
    rintro e w2 hf
    obtain ⟨A2, c2, rfl, hr2, hb2⟩ := hf.rd
    clear hf
    have hb12 := below_then hb1 hb2
    have hk2 := hk1.below' hb2
    go_wp2_with fail
    refine (runes_any A1 A2 _ _ c1 c2 _ _ _ (hr1.below hb2) hr2 (by omega) (by omega)).mono ?_
    rintro e w3 ⟨rfl, hd3⟩
    have hk3 := hk2.below' hd3.to
    have hb13 := below_then hb12 hd3.to
    go_wp2_with fail
    refine (syllL_any A n c xs _ hk3 (hx.below hb13) (by omega) H32.out).mono ?_
    rintro e w4 hf
    obtain ⟨A4, c4, rfl, hr4, hb4⟩ := hf.rd
    clear hf
    have hb14 := below_then hb13 hb4
    have hk4 := hk3.below' hb4
    go_wp2_with fail
    refine (rsyllL_any A n c xs _ (hx.below hb14) (by omega) H32.out).mono ?_
    rintro e w5 hf
    obtain ⟨A5, c5, rfl, hr5, hb5⟩ := hf.rd
    clear hf
    have hb15 := below_then hb14 hb5
    have hk5 := hk4.below' hb5
    go_wp2_with fail
    refine (runes_any A4 A5 _ _ c4 c5 _ _ _ (hr4.below hb5) hr5 (by omega) (by omega)).mono ?_
    rintro e w6 ⟨rfl, hd6⟩
    have hk6 := hk5.below' hd6.to
    have hb16 := below_then hb15 hd6.to
    go_wp2_with fail
    refine (awake07 _ hk6).mono ?_
    rintro e w7 ⟨rfl, hb7⟩
    go_wp2
    go_returns
    exact ⟨rfl, below_then hb16 hb7⟩
end Go.Proofs.YtcfnncapdkjlnaaDoor
