/- The law HangulRounds, walked. -/
import Derived.Test.YtcfnncapdkjlnaaDoorHangLaw
import Derived.Test.YtcfnncapdkjlnaaDoorHangPlain
namespace Go.Proofs.YtcfnncapdkjlnaaDoor
open Go.RowKit

def someH (l : List Int) : List Int := l.filter isH
theorem someH_take {xs : List Int} {k : Nat} {z : Int} (h : xs[k]? = some z) : someH (xs.take (k + 1)) = if isH z then someH (xs.take k) ++ [z] else someH (xs.take k) := by
  rw [take_snoc h]
  simp only [someH, List.filter_append, List.filter_cons, List.filter_nil]
  split <;> simp
theorem someH_len (l : List Int) : (someH l).length ≤ l.length := List.length_filter_le _ _
theorem partsH_i32 {l : List Int} (h : I32 l) : I32 (partsH l) := by
  intro z hz
  simp only [partsH, List.mem_flatMap] at hz
  obtain ⟨r, hr, hz⟩ := hz
  have := h r hr
  unfold partOne at hz
  split at hz
  · rename_i h1
    rw [fullH_yes_eq h1] at hz
    split at hz <;> simp at hz <;> omega
  · simp at hz
    rw [hz]
    exact this

set_option maxHeartbeats 1000000 in
theorem hangul_rounds (A : Option Addr) (n c : Nat) (xs : List Int) (w : World) (hk : Kinds w) (hx : Rd w A n (Rs xs)) (h32 : I32 xs) (hm : n ≤ maxLen) :
    Calls Tryd.prog 8 #[.slice A n c] w (Yes w) := by
  unfold maxLen at hm
  by_cases hn : 200 < n
  · have hd : (200 : Int) < (n : Int) := by omega
    go_enter Tryd.func8, Tryd.ntmps8
    go_wp2_with fail
    refine (awake07 _ hk).mono ?_
    rintro e w5 ⟨rfl, hb5⟩
    go_wp2
    go_returns
    exact ⟨rfl, hb5⟩
  · have hd : (n : Int) ≤ 200 := by omega
    have hxl : xs.length = n := by have := hx.1; simpa using this
    have HXL := Lib.hid hxl; clear hxl
    have H32 := Lib.hid h32; clear h32
    have hk0 := hk
    have hx0 := hx
    go_enter Tryd.func8, Tryd.ntmps8
    go_wp2
    go_loopw [3, 4] (fun v i wr => ∃ (k : Nat) (ps : List Int) (A' : Option Addr) (c' : Nat), k ≤ n ∧ i = .int .i64 k ∧ Hid (ps = someH (xs.take k)) ∧ ps.length ≤ k ∧ v = .slice A' ps.length c' ∧ wr.ownsRow w.heap.size 21 1 (.slice A' ps.length c') ps.length (Rs ps) ∧ Below w.heap.size w wr) (fun _ i _ => n - (intOf i).toNat)
    case atStart => exact ⟨0, [], none, 0, Nat.zero_le _, rfl, rfl, Nat.zero_le _, rfl, World.ownsRow_nil _ _ _ _, Below.refl _ _⟩
    case round =>
      obtain ⟨k, ps, A', c', hkn, rfl, HP, hpl, rfl, hown, hb⟩ := hrel
      have hz := hb.size
      by_cases hlt : k < n
      · have hkw := hk.below' hb
        obtain ⟨b, off, rfl, hbl, hcx⟩ := (hx.below hb).at_ (by omega)
        have hlx : k < xs.length := by rw [HXL.out]; exact hlt
        obtain ⟨z, hxz⟩ : ∃ z, xs[k]? = some z := ⟨_, List.getElem?_eq_getElem hlx⟩
        have cx : wr.cell? ⟨b, off + k, none⟩ = some (.int .i32 z) := hcx k _ (by simp [hxz])
        have HXZ := Lib.hid hxz; clear hxz hcx hx hx0
        have hi : (k : Int) < (n : Int) := by omega
        rcases Bool.eq_false_or_eq_true (isH z) with hzh | hzh
        · go_wp2_with (first | (go_at_call 11; refine (is_any _ _ hkw).mono ?_; rintro e w' ⟨rfl, rfl⟩) | (at_builtin; refine wpList_app runeElem _ rfl _ _ rfl w.heap.size rfl (hown.alloc _) rfl (Rd.new1 _ _ _) (one_of rfl) (by omega) (by omega) (by simp; omega) ?_))
          intro A1 c1 w1 hown1 hg1 hat1
          have hb1 := below_app (hb.alloc hz _) (by simp; omega) (hown.alloc _) hg1
          go_wp2
          go_roundw
          case rel => exact ⟨k + 1, ps ++ [z], A1, c1, by omega, by go_num, by show ps ++ [z] = _; rw [someH_take HXZ.out, if_pos hzh, ← HP.out], by simp; omega, by simp, by simpa using hown1, hb1⟩
          case measure => simp [intOf]; omega
        · go_wp2_with (go_at_call 11; refine (is_any _ _ hkw).mono ?_; rintro e w' ⟨rfl, rfl⟩)
          go_roundw
          case rel => exact ⟨k + 1, ps, A', c', by omega, by go_num, by show ps = _; rw [someH_take HXZ.out, if_neg (by rw [hzh]; simp), ← HP.out], by omega, rfl, hown, hb⟩
          case measure => simp [intOf]; omega
      · have hkn' : k = n := by omega
        subst hkn'
        have e : ps = someH xs := by rw [HP.out, List.take_of_length_le (by rw [HXL.out]; exact Nat.le_refl _)]
        have hso : ∀ r ∈ ps, isH r = true := by rw [e]; intro r hr; exact (List.mem_filter.1 hr).2
        have hs32 : I32 ps := by rw [e]; intro r hr; exact H32.out r (List.mem_filter.1 hr).1
        clear e HP
        obtain ⟨A'', c'', e2, _, _, hs⟩ := Rd.of_own hown
        injection e2 with e2a _ _
        subst e2a
        have hk' := hk.below' hb
        have hx' := hx.below hb
        have hpl1 := partsH_len xs
        have hpl2 := syllH_len xs
        have hpl3 := partsH_len ps
        rw [HXL.out] at hpl1 hpl2
        obtain ⟨p, hp⟩ : ∃ p, p = partsH xs := ⟨_, rfl⟩
        obtain ⟨s, hs'⟩ : ∃ s, s = syllH xs := ⟨_, rfl⟩
        obtain ⟨q, hq⟩ : ∃ q, q = partsH ps := ⟨_, rfl⟩
        have H1 : Hid (partsH s = p) := by show _ = _; rw [hs', hp]; exact parts_syll xs
        have H2 : Hid (partsH p = p) := by show _ = _; rw [hp]; exact parts_parts xs
        have H3 : Hid (syllH s = s) := by show _ = _; rw [hs']; exact syll_syll xs
        have H4 : Hid (syllH q = ps) := by show _ = _; rw [hq]; exact syll_parts ps hso
        have I1 : Hid (I32 s) := by show I32 s; rw [hs']; exact syllH_i32 H32.out
        have I2 : Hid (I32 q) := by show I32 q; rw [hq]; exact partsH_i32 hs32
        rw [← hp] at hpl1
        rw [← hs'] at hpl2
        rw [← hq] at hpl3
        have HP := Lib.hid hp.symm; have HS := Lib.hid hs'.symm; have HQ := Lib.hid hq.symm
        clear hp hs' hq hso hs32 hk0 hx0 hk hx hown hlt
        have hk := hk'
        have hx := hx'
        clear hk' hx'
        go_wp2_with fail
        refine (partsL_any A _ c xs _ hk hx (by omega)).mono ?_
        rw [HP.out]
        rintro e w1 hf
        obtain ⟨A1, c1, rfl, hr1, hbn⟩ := hf.rd
        clear hf
        replace hk := hk.below' hbn
        replace hx := hx.below hbn
        replace hs := hs.below hbn
        replace hb := below_then hb hbn
        clear hbn
        go_wp2_with fail
        refine (syllL_any A _ c xs _ hk hx (by omega) H32.out).mono ?_
        rw [HS.out]
        rintro e w2 hf
        obtain ⟨A2, c2, rfl, hr2, hbn⟩ := hf.rd
        clear hf
        replace hk := hk.below' hbn
        replace hx := hx.below hbn
        replace hs := hs.below hbn
        replace hr1 := hr1.below hbn
        replace hb := below_then hb hbn
        clear hbn
        go_wp2_with fail
        refine (partsL_any A2 _ c2 s _ hk hr2 (by omega)).mono ?_
        rw [H1.out]
        rintro e w3 hf
        obtain ⟨A3, c3, rfl, hr3, hbn⟩ := hf.rd
        clear hf
        replace hk := hk.below' hbn
        replace hx := hx.below hbn
        replace hs := hs.below hbn
        replace hr1 := hr1.below hbn
        replace hr2 := hr2.below hbn
        replace hb := below_then hb hbn
        clear hbn
        go_wp2_with fail
        refine (runes_any A3 A1 _ _ c3 c1 p p _ hr3 hr1 (by omega) (by omega)).mono ?_
        rintro e w4 ⟨rfl, hdn⟩
        have hbn := hdn.to
        clear hdn
        replace hk := hk.below' hbn
        replace hx := hx.below hbn
        replace hs := hs.below hbn
        replace hr1 := hr1.below hbn
        replace hr2 := hr2.below hbn
        replace hr3 := hr3.below hbn
        replace hb := below_then hb hbn
        clear hbn
        go_wp2_with fail
        refine (partsL_any A1 _ c1 p _ hk hr1 (by omega)).mono ?_
        rw [H2.out]
        rintro e w5 hf
        obtain ⟨A4, c4, rfl, hr4, hbn⟩ := hf.rd
        clear hf
        replace hk := hk.below' hbn
        replace hx := hx.below hbn
        replace hs := hs.below hbn
        replace hr1 := hr1.below hbn
        replace hr2 := hr2.below hbn
        replace hr3 := hr3.below hbn
        replace hb := below_then hb hbn
        clear hbn
        go_wp2_with fail
        refine (runes_any A4 A1 _ _ c4 c1 p p _ hr4 hr1 (by omega) (by omega)).mono ?_
        rintro e w6 ⟨rfl, hdn⟩
        have hbn := hdn.to
        clear hdn
        replace hk := hk.below' hbn
        replace hx := hx.below hbn
        replace hs := hs.below hbn
        replace hr1 := hr1.below hbn
        replace hr2 := hr2.below hbn
        replace hr3 := hr3.below hbn
        replace hr4 := hr4.below hbn
        replace hb := below_then hb hbn
        clear hbn
        go_wp2_with fail
        refine (syllL_any A2 _ c2 s _ hk hr2 (by omega) I1.out).mono ?_
        rw [H3.out]
        rintro e w7 hf
        obtain ⟨A5, c5, rfl, hr5, hbn⟩ := hf.rd
        clear hf
        replace hk := hk.below' hbn
        replace hx := hx.below hbn
        replace hs := hs.below hbn
        replace hr1 := hr1.below hbn
        replace hr2 := hr2.below hbn
        replace hr3 := hr3.below hbn
        replace hr4 := hr4.below hbn
        replace hb := below_then hb hbn
        clear hbn
        go_wp2_with fail
        refine (runes_any A5 A2 _ _ c5 c2 s s _ hr5 hr2 (by omega) (by omega)).mono ?_
        rintro e w8 ⟨rfl, hdn⟩
        have hbn := hdn.to
        clear hdn
        replace hk := hk.below' hbn
        replace hx := hx.below hbn
        replace hs := hs.below hbn
        replace hr1 := hr1.below hbn
        replace hr2 := hr2.below hbn
        replace hr3 := hr3.below hbn
        replace hr4 := hr4.below hbn
        replace hr5 := hr5.below hbn
        replace hb := below_then hb hbn
        clear hbn
        go_wp2_with fail
        refine (partsL_any A' _ _ ps _ hk hs (by omega)).mono ?_
        rw [HQ.out]
        rintro e w9 hf
        obtain ⟨A6, c6, rfl, hr6, hbn⟩ := hf.rd
        clear hf
        replace hk := hk.below' hbn
        replace hx := hx.below hbn
        replace hs := hs.below hbn
        replace hr1 := hr1.below hbn
        replace hr2 := hr2.below hbn
        replace hr3 := hr3.below hbn
        replace hr4 := hr4.below hbn
        replace hr5 := hr5.below hbn
        replace hb := below_then hb hbn
        clear hbn
        go_wp2_with fail
        refine (syllL_any A6 _ c6 q _ hk hr6 (by omega) I2.out).mono ?_
        rw [H4.out]
        rintro e w10 hf
        obtain ⟨A7, c7, rfl, hr7, hbn⟩ := hf.rd
        clear hf
        replace hk := hk.below' hbn
        replace hx := hx.below hbn
        replace hs := hs.below hbn
        replace hr1 := hr1.below hbn
        replace hr2 := hr2.below hbn
        replace hr3 := hr3.below hbn
        replace hr4 := hr4.below hbn
        replace hr5 := hr5.below hbn
        replace hr6 := hr6.below hbn
        replace hb := below_then hb hbn
        clear hbn
        go_wp2_with fail
        refine (runes_any A7 A' _ _ _ _ ps ps _ hr7 hs (by omega) (by omega)).mono ?_
        rintro e w11 ⟨rfl, hdn⟩
        have hbn := hdn.to
        clear hdn
        replace hk := hk.below' hbn
        replace hx := hx.below hbn
        replace hs := hs.below hbn
        replace hr1 := hr1.below hbn
        replace hr2 := hr2.below hbn
        replace hr3 := hr3.below hbn
        replace hr4 := hr4.below hbn
        replace hr5 := hr5.below hbn
        replace hr6 := hr6.below hbn
        replace hr7 := hr7.below hbn
        replace hb := below_then hb hbn
        clear hbn
        have hlen : (s.length : Int) ≤ (k : Int) := by omega
        go_wp2_with fail
        refine (awake07 _ hk).mono ?_
        rintro e w12 ⟨rfl, hbn⟩
        replace hk := hk.below' hbn
        replace hx := hx.below hbn
        replace hs := hs.below hbn
        replace hr1 := hr1.below hbn
        replace hr2 := hr2.below hbn
        replace hr3 := hr3.below hbn
        replace hr4 := hr4.below hbn
        replace hr5 := hr5.below hbn
        replace hr6 := hr6.below hbn
        replace hr7 := hr7.below hbn
        replace hb := below_then hb hbn
        clear hbn
        go_wp2
        go_returns
        exact ⟨rfl, hb⟩
end Go.Proofs.YtcfnncapdkjlnaaDoor
