/- The law on rows: true. -/
import Derived.Test.YtagncjnbabdbmaaDoorUcdPJ
import Derived.Test.YtagncjnbabdbmaaDoorUcdQ
set_option linter.unusedSimpArgs false
set_option linter.unusedVariables false
namespace Go.Proofs.YtagncjnbabdbmaaDoor
open Go.RowKit

theorem get_same {os os2 : List RA} {r : List RowS} (h : os.map (·.1) = r) (h2 : os2.map (·.1) = r) {k : Nat} (hk : k < os.length) : ∃ x A c B d, os[k]? = some (x, A, c) ∧ os2[k]? = some (x, B, d) ∧ x ∈ r := by
  have hl : os2.length = os.length := by have := congrArg List.length (h.trans h2.symm); simpa using this.symm
  have h1 : os[k]? = some os[k] := List.getElem?_eq_getElem hk
  have h3 : os2[k]? = some (os2[k]'(by omega)) := List.getElem?_eq_getElem (by omega)
  have e1 : r[k]? = some os[k].1 := by rw [← h, List.getElem?_map, h1]; rfl
  have e2 : r[k]? = some (os2[k]'(by omega)).1 := by rw [← h2, List.getElem?_map, h3]; rfl
  have e3 : (os2[k]'(by omega)).1 = os[k].1 := by rw [e1] at e2; injection e2 with e2; exact e2.symm
  exact ⟨os[k].1, os[k].2.1, os[k].2.2, (os2[k]'(by omega)).2.1, (os2[k]'(by omega)).2.2, h1, by rw [h3, ← e3], List.mem_of_getElem? e1⟩
set_option maxRecDepth 20000 in
set_option maxHeartbeats 4000000 in
theorem ucdrows_yes (s : ByteArray) (w : World) (hE : Env w) :
    Calls Tryd.prog 9 #[.string s] w fun e w' => e = .returned (.bool true) ∧ Below w.heap.size w w' := by
  by_cases hbig : 8000 < s.size
  · have hb : (8000 : Int) < (s.size : Int) := by omega
    go_enter Tryd.func9, Tryd.ntmps9
    go_wp2_with fail
    refine (awake5_any _ hE).mono ?_
    rintro e w1 ⟨rfl, hb1⟩
    go_wp2
    go_returns
    exact ⟨rfl, hb1⟩
  · have hsi : (s.size : Int) ≤ 8000 := by omega
    have C1 := rows_any s w hE (by omega)
    have C2 := fun w => rrows_any s w (by omega)
    have hil := rows_il (bs s)
    have hlen := rowsS_len (bs s)
    obtain ⟨⟨r, no, er⟩, hr⟩ : ∃ z, z = rowsS (bs s) := ⟨_, rfl⟩
    rw [← hr] at C1 C2 hil hlen
    simp only [] at hil hlen
    clear hr hbig
    have s1 : (no == no) = true := by simp
    have s2 : (er == er) = true := by simp
    have s3 : (no != no) = false := by simp
    have s4 : (er != er) = false := by simp
    go_enter Tryd.func9, Tryd.ntmps9
    go_wp2_with fail
    refine C1.mono ?_
    rintro e w1 ⟨os, A, c, hos, rfl, hra, hb1⟩
    have hr1 := hra.rd
    clear C1 hra
    go_wp2_with fail
    refine (C2 _).mono ?_
    rintro e w2 ⟨os2, A2, c2, hos2, rfl, hra, hb2⟩
    have hr2 := hra.rd
    replace hr1 := hr1.below hb2
    have hbw := below_then hb1 hb2
    replace hE := hE.below hbw
    have hl2 : os2.length = os.length := by have := congrArg List.length (hos.trans hos2.symm); simpa using this.symm
    have hol : os.length ≤ 4096 := by have := congrArg List.length hos; rw [List.length_map] at this; omega
    rw [hl2]
    have HOS := Lib.hid (And.intro hos hos2)
    have HIL := Lib.hid hil
    clear C2 hra hos hos2 hb1 hb2 hil hl2
    have s5 : ((os.length : Int) != (os.length : Int)) = false := by simp
    go_wp2
    go_loopw [9] (fun i wr => ∃ k : Nat, k ≤ os.length ∧ i = .int .i64 k ∧ Below w2.heap.size w2 wr) (fun i _ => os.length - (intOf i).toNat)
    case atStart => exact ⟨0, Nat.zero_le _, rfl, Below.refl _ _⟩
    case round =>
      obtain ⟨k, hk, rfl, hb⟩ := hrel
      by_cases hlt : k < os.length
      · obtain ⟨x, Ax, cx, Bx, dx, hx1, hx2, hxr⟩ := get_same HOS.out.1 HOS.out.2 hlt
        have hi : (k : Int) < (os.length : Int) := by omega
        have hA := (hr1.below hb).into _ (List.mem_of_getElem? hx1)
        have hB := (hr2.below hb).into _ (List.mem_of_getElem? hx2)
        obtain ⟨b, off, rfl, hbl, hcx⟩ := (hr1.below hb).at_ (by omega)
        obtain ⟨b', off', rfl, hbl', hcy⟩ := (hr2.below hb).at_ (by have := congrArg List.length (HOS.out.1.trans HOS.out.2.symm); simp at this; omega)
        obtain ⟨x0, x1, x2, x3, x4, x5, x6⟩ := row_cells hx1 hcx
        obtain ⟨y0, y1, y2, y3, y4, y5, y6⟩ := row_cells hx2 hcy
        have hxl := HIL.out x hxr
        have HS := fun w' (hb' : Below wr.heap.size wr w') => same_eq x Ax Bx cx dx w' (hA.below hb') (hB.below hb') (by omega)
        simp only [rowV] at HS
        clear hcx hcy hx1 hx2 hA hB hr1 hr2
        go_wp2
        go_region_with (go_at_call 37; refine (HS _ ?_).mono ?_; (first | exact Below.refl _ _ | exact below_drewN _ _ _ | exact Drew.to ⟨1, rfl⟩); rintro e w3 ⟨rfl, hb3⟩)
        all_goals
          have hb4 := hb.trans ((below_then (Drew.to ⟨1, rfl⟩ : Below wr.heap.size wr wr.drew) hb3).mono hb.size)
          clear HS hb3 x0 x1 x2 x3 x4 x5 x6 y0 y1 y2 y3 y4 y5 y6
          go_wp2
          go_roundw
          case rel => exact ⟨k + 1, by omega, by go_num, hb4⟩
          case measure => simp [intOf]; omega
      · have hi : (os.length : Int) ≤ (k : Int) := by omega
        have hbx := below_then hbw hb
        clear hr1 hr2
        go_wp2_with fail
        refine (awake5_any _ (hE.below hb)).mono ?_
        rintro e w21 ⟨rfl, hbn⟩
        go_wp2
        go_returns
        exact ⟨rfl, below_then hbx hbn⟩
end Go.Proofs.YtagncjnbabdbmaaDoor
