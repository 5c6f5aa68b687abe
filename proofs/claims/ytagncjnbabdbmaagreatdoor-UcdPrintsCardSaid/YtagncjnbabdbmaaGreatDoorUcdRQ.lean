/- Rows as lines: the document. -/
import Derived.Test.YtagncjnbabdbmaaGreatDoorUcdRP
import Derived.Test.YtagncjnbabdbmaaGreatDoorUcdRC
import Derived.Test.YtagncjnbabdbmaaGreatDoorUcdPr2
set_option linter.unusedSimpArgs false
set_option linter.unusedVariables false
namespace Go.Proofs.YtagncjnbabdbmaaGreatDoor
open Go.RowKit Go.Shelf

/-- What a row of the law has. -/
structure RowK (x : RowS) : Prop where
  fr : -2147483648 ≤ x.fr ∧ x.fr ≤ 2147483647
  up : -2147483648 ≤ x.up ∧ x.up ≤ 2147483647
  cl : -9223372036854775808 ≤ x.cl ∧ x.cl ≤ 9223372036854775807
  nm : x.nm.length ≤ 300
  ct : x.ct.length ≤ 300
  kd : x.kd.length ≤ 300
  len : x.il.length ≤ 60
  il : ∀ z ∈ x.il, -2147483648 ≤ z ∧ z ≤ 2147483647
set_option maxRecDepth 20000 in
set_option maxHeartbeats 8000000 in
theorem rprint_any (A : Option Addr) (n c : Nat) (os : List RA) (w : World) (hr : RowsRd w A os) (hn : os.length = n) (ho : ∀ x ∈ os, RowK x.1) (h40 : n ≤ 40) :
    Calls Tryz.prog 9 #[.slice A n c] w fun e w' => e = .returned (.tuple #[.string (mk8 (printS (os.map (·.1))).1), .int .i64 (printS (os.map (·.1))).2]) ∧ Below w.heap.size w w' := by
  obtain ⟨R, hR⟩ : ∃ R, R = os.map (·.1) := ⟨_, rfl⟩
  rw [← hR]
  have hRl : R.length = n := by rw [hR, List.length_map]; exact hn
  have hget : ∀ k x a c, os[k]? = some (x, a, c) → R[k]? = some x := fun k x a c h => by rw [hR, List.getElem?_map, h]; rfl
  have HG := Lib.hid hget
  have HRL := Lib.hid hRl
  have HOL := Lib.hid hn
  have HO := Lib.hid ho
  clear hR hget hRl hn ho
  go_enter Tryz.func9, Tryz.ntmps9
  go_wp2
  go_loopw [4] (fun i wr => ∃ k : Nat, k ≤ n ∧ i = .int .i64 k ∧ Hid (firstBad R = firstBad (R.drop k)) ∧ Below w.heap.size w wr) (fun i _ => n - (intOf i).toNat)
  case atStart => exact ⟨0, Nat.zero_le _, rfl, rfl, Below.refl _ _⟩
  case round =>
    obtain ⟨k, hk, rfl, HD, hb⟩ := hrel
    have hsz := hb.size
    by_cases hlt : k < n
    · have hi : (k : Int) < (n : Int) := by omega
      obtain ⟨⟨x, Ax, cx⟩, hx⟩ : ∃ z, os[k]? = some z := ⟨_, List.getElem?_eq_getElem (by rw [HOL.out]; exact hlt)⟩
      have hstep := firstBad_step (HG.out k x Ax cx hx)
      obtain ⟨b, off, rfl, hbl, hcx⟩ := (hr.below hb).at_ (by rw [HOL.out]; omega)
      obtain ⟨x0, x1, x2, x3, x4, x5, x6⟩ := row_cells hx hcx
      have hA := (hr.below hb).into _ (List.mem_of_getElem? hx)
      have hxo : RowK x := HO.out _ (List.mem_of_getElem? hx)
      have HC := fun W' (hb' : Below wr.heap.size wr W') => rcheck_any x Ax cx W' (hA.below hb') (by have := hxo.len; omega) (by have := hxo.nm; omega) (by have := hxo.ct; omega) (by have := hxo.kd; omega)
      simp only [rowV] at HC
      clear hcx hA hx hxo
      go_wp2_with fail
      refine (HC _ (Below.refl _ _)).mono ?_
      rintro e w1 ⟨rfl, hb1⟩
      have hb2 := hb.trans (hb1.mono hsz)
      clear HC x0 x1 x2 x3 x4 x5 x6 hb1
      by_cases hc0 : checkS x = 0
      · rw [hc0]
        rw [if_neg (by simp [hc0])] at hstep
        have HD2 : Hid (firstBad R = firstBad (R.drop (k + 1))) := by show _ = _; rw [HD.out, hstep]
        clear hstep HD hc0
        go_wp2
        go_roundw
        case rel => exact ⟨k + 1, by omega, by go_num, HD2, hb2⟩
        case measure => simp [intOf]; omega
      · rw [if_pos hc0] at hstep
        have hP : printS R = ([], checkS x) := by
          unfold printS
          rw [HD.out, hstep, if_pos hc0]
        have HP := Lib.hid hP
        generalize checkS x = ee at *
        have hn1 : (ee == 0) = false := by simpa using hc0
        have hn2 : (ee != 0) = true := by simpa using hc0
        clear hstep HD hP
        go_wp2
        go_returns
        exact ⟨by rw [HP.out]; rfl, hb2⟩
    · have hi : (n : Int) ≤ (k : Int) := by omega
      have hkn : k = n := by omega
      have hfb : firstBad R = 0 := by
        rw [HD.out, List.drop_eq_nil_of_le (by rw [HRL.out]; omega)]
        rfl
      have hP0 : printS R = printW [] (-1) R := by unfold printS; rw [if_neg (by simp [hfb])]
      have HP0 := Lib.hid hP0
      have HGD : Hid (∀ x ∈ R, RowG x) := fun x hx => rowG (firstBad_ok hfb x hx)
      have HB0 := Lib.hid hb
      clear hfb hP0 HD hkn hsz
      go_wp2
      go_loopw [6, 7] (fun s i wr => ∃ (k : Nat) (acc : List UInt8) (was : Int), k ≤ n ∧ i = .int .i64 k ∧ s = .string (mk8 acc) ∧ Hid (printW [] (-1) R = printW acc was (R.drop k)) ∧ Hid (∀ j x, k = j + 1 → R[j]? = some x → was = x.up) ∧ Hid (k = 0 → was = -1) ∧ acc.length ≤ 4000 * k ∧ Below w.heap.size w wr) (fun _ i _ => n - (intOf i).toNat)
      case atStart => exact ⟨0, [], -1, Nat.zero_le _, rfl, rfl, rfl, (fun j x h => by omega), (fun _ => rfl), Nat.le_refl _, hb⟩
      case round =>
        obtain ⟨k, acc, was, hk, rfl, rfl, HD, HW1, HW0, hal, hb⟩ := hrel
        have hsz := hb.size
        by_cases hlt : k < n
        · have hi : (k : Int) < (n : Int) := by omega
          obtain ⟨⟨x, Ax, cx⟩, hx⟩ : ∃ z, os[k]? = some z := ⟨_, List.getElem?_eq_getElem (by rw [HOL.out]; exact hlt)⟩
          have hRx := HG.out k x Ax cx hx
          have hg := HGD.out x (List.mem_of_getElem? hRx)
          have hstep := printW_step hRx acc was
          obtain ⟨b, off, hAe, hbl2, hcx⟩ := (hr.below hb).at_ (by rw [HOL.out]; omega)
          subst hAe
          obtain ⟨x0, x1, x2, x3, x4, x5, x6⟩ := row_cells hx hcx
          have hA := (hr.below hb).into _ (List.mem_of_getElem? hx)
          have hxo : RowK x := HO.out _ (List.mem_of_getElem? hx)
          have hkd : x.kd.length ≤ 300 := hxo.kd
          have hrl := row_le hg (by omega)
          have hpn := plain_facts hg.nm
          have LN := fun (r : Int) (nm : List UInt8) W' (hb' : Below wr.heap.size wr W') (hr : -2147483648 ≤ r ∧ r ≤ 2147483647) (hnm : nm.length ≤ 110) => rline_any x Ax cx r nm W' (hA.below hb') hxo.il hr hg.len hg.cl (by omega) (by have := (plain_facts hg.ct).1; omega) (by omega)
          simp only [rowV] at LN
          have MK : ∀ w' : World, Below wr.heap.size wr w' → (w'.cell? ⟨b, off + k * 7, none⟩ = some (.int .i32 x.fr) ∧ w'.cell? ⟨b, off + k * 7 + 1, none⟩ = some (.int .i32 x.up) ∧ w'.cell? ⟨b, off + k * 7 + 2, none⟩ = some (.string (mk8 x.nm)) ∧ w'.cell? ⟨b, off + k * 7 + 3, none⟩ = some (.string (mk8 x.ct)) ∧ w'.cell? ⟨b, off + k * 7 + 4, none⟩ = some (.int .i64 x.cl) ∧ w'.cell? ⟨b, off + k * 7 + 5, none⟩ = some (.string (mk8 x.kd)) ∧ w'.cell? ⟨b, off + k * 7 + 6, none⟩ = some (.slice Ax x.il.length cx)) ∧ Below wr.heap.size wr w' := fun w' hb' => ⟨⟨cell_belowU x0 hb', cell_belowU x1 hb', cell_belowU x2 hb', cell_belowU x3 hb', cell_belowU x4 hb', cell_belowU x5 hb', cell_belowU x6 hb'⟩, hb'⟩
          have HUP : Hid (∀ j y, k + 1 = j + 1 → R[j]? = some y → x.up = y.up) := by
            show ∀ j y, k + 1 = j + 1 → R[j]? = some y → x.up = y.up
            intro j y h hy
            rw [show j = k by omega, hRx] at hy
            injection hy with hy
            rw [hy]
          rcases Nat.eq_zero_or_pos k with hk0 | hk0
          · have hk1 : (k : Int) ≤ 0 := by omega
            have hkk : decide ((0 : Int) < (k : Int)) = false := by simp; omega
            have hkk2 : decide (0 < k) = false := by simp; omega
            rw [if_neg (by have := HW0.out hk0; have := (scalar_bd hg.fr).1; omega)] at hstep
            have HD2 : Hid (printW [] (-1) R = printW (acc ++ rowL x) x.up (R.drop (k + 1))) := by show _ = _; rw [HD.out, hstep]
            clear HD hstep hRx hx hcx HW0 HW1 hA hk0
            by_cases he : x.fr = x.up
            · have hrw : rowL x = (lineL x.fr x.nm x) := by unfold rowL; rw [if_pos he]
              have e1 : (x.fr == x.up) = true := by simp [he]
              have hcat : mk8 acc ++ mk8 (lineL x.fr x.nm x) = mk8 (acc ++ rowL x) := bs_inj (by rw [hrw, bs_append]; rfl)
              have HCAT := Lib.hid hcat
              have q4 := mk8_size (lineL x.fr x.nm x)
              have q5 := mk8_size acc
              have hll : (lineL x.fr x.nm x).length ≤ 4000 := by rw [← hrw]; exact hrl
              have hs4 : ¬ (9223372036854775807 < (mk8 acc).size + (mk8 (lineL x.fr x.nm x)).size) := by omega
              have LN1 := fun W' hb' => LN x.fr x.nm W' hb' hxo.fr (by omega)
              have HMK := Lib.hid MK
              clear hrw he hxo LN hpn hcat q4 q5 MK
              go_wp2
              go_quiet (fail)
              generalize hWQ : wr.drewN nq = W0 at *
              have hbn0 : Below wr.heap.size wr W0 := by rw [← hWQ]; exact below_drewN _ _ _
              have v0 := cell_belowU x0 hbn0
              have v1 := cell_belowU x1 hbn0
              clear hWQ x0 x1 x2 x3 x4 x5 x6
              go_wp2
              go_quiet (fail)
              go_upto_region 14 with fail
              generalize hWQ : W0.drewN _ = W at *
              have hbn : Below wr.heap.size wr W := by rw [← hWQ]; exact below_drew' hbn0 _
              clear hWQ v0 v1 hbn0
              refine wp_region_held_drew (S := fun w' => (w'.cell? ⟨b, off + k * 7, none⟩ = some (.int .i32 x.fr) ∧ w'.cell? ⟨b, off + k * 7 + 1, none⟩ = some (.int .i32 x.up) ∧ w'.cell? ⟨b, off + k * 7 + 2, none⟩ = some (.string (mk8 x.nm)) ∧ w'.cell? ⟨b, off + k * 7 + 3, none⟩ = some (.string (mk8 x.ct)) ∧ w'.cell? ⟨b, off + k * 7 + 4, none⟩ = some (.int .i64 x.cl) ∧ w'.cell? ⟨b, off + k * 7 + 5, none⟩ = some (.string (mk8 x.kd)) ∧ w'.cell? ⟨b, off + k * 7 + 6, none⟩ = some (.slice Ax x.il.length cx)) ∧ Below wr.heap.size wr w') (by kernel_rfl) (HMK.out _ (below_then hbn (Drew.to ⟨1, rfl⟩))) (fun hH => ?_)
              refine wpAnyH_take (i := 0) (v := .string (mk8 acc)) rfl (by kernel_rfl) (by kernel_rfl) (by kernel_rfl) (fun _ _ _ h => h) (Or.inl ⟨by kernel_rfl, ?_⟩) hH ?_
              · intro w hSw
                (try dsimp only at hSw)
                go_simp
                try with_reducible rfl
              simp only [List.getElem_toArray, List.getElem_cons_succ, List.getElem_cons_zero, Act.put, List.setIfInBounds_toArray, List.set_cons_zero, List.set_cons_succ]
              refine wpAnyH_take (i := 1) (v := .slice (some ⟨b, off, none⟩) n c) rfl (by kernel_rfl) (by kernel_rfl) (by kernel_rfl) (fun _ _ _ h => h) (Or.inl ⟨by kernel_rfl, ?_⟩) hH ?_
              · intro w hSw
                (try dsimp only at hSw)
                go_simp
                try with_reducible rfl
              simp only [List.getElem_toArray, List.getElem_cons_succ, List.getElem_cons_zero, Act.put, List.setIfInBounds_toArray, List.set_cons_zero, List.set_cons_succ]
              refine wpAnyH_take (i := 2) (v := .int .i64 k) rfl (by kernel_rfl) (by kernel_rfl) (by kernel_rfl) (fun _ _ _ h => h) (Or.inl ⟨by kernel_rfl, ?_⟩) hH ?_
              · intro w hSw
                (try dsimp only at hSw)
                go_simp
                try with_reducible rfl
              simp only [List.getElem_toArray, List.getElem_cons_succ, List.getElem_cons_zero, Act.put, List.setIfInBounds_toArray, List.set_cons_zero, List.set_cons_succ]
              refine wpAnyH_take (i := 3) (v := .pointer (some ⟨b, off + k * 7, none⟩)) rfl (by kernel_rfl) (by kernel_rfl) (by kernel_rfl) (fun _ _ _ h => h) (Or.inl ⟨by kernel_rfl, ?_⟩) hH ?_
              · intro w hSw
                (try dsimp only at hSw)
                go_simp
                try with_reducible rfl
              simp only [List.getElem_toArray, List.getElem_cons_succ, List.getElem_cons_zero, Act.put, List.setIfInBounds_toArray, List.set_cons_zero, List.set_cons_succ]
              refine wpAnyH_take (i := 4) (v := .pointer (some ⟨b, off + k * 7, none⟩)) rfl (by kernel_rfl) (by kernel_rfl) (by kernel_rfl) (fun _ _ _ h => h) (Or.inl ⟨by kernel_rfl, ?_⟩) hH ?_
              · intro w hSw
                (try dsimp only at hSw)
                go_simp
                try with_reducible rfl
              simp only [List.getElem_toArray, List.getElem_cons_succ, List.getElem_cons_zero, Act.put, List.setIfInBounds_toArray, List.set_cons_zero, List.set_cons_succ]
              refine wpAnyH_take (i := 5) (v := .int .i32 x.fr) rfl (by kernel_rfl) (by kernel_rfl) (by kernel_rfl) (fun _ _ _ h => h) (Or.inl ⟨by kernel_rfl, ?_⟩) hH ?_
              · intro w hSw
                (try dsimp only at hSw)
                go_simp
                try with_reducible rfl
              simp only [List.getElem_toArray, List.getElem_cons_succ, List.getElem_cons_zero, Act.put, List.setIfInBounds_toArray, List.set_cons_zero, List.set_cons_succ]
              refine wpAnyH_take (i := 6) (v := .slice (some ⟨b, off, none⟩) n c) rfl (by kernel_rfl) (by kernel_rfl) (by kernel_rfl) (fun _ _ _ h => h) (Or.inl ⟨by kernel_rfl, ?_⟩) hH ?_
              · intro w hSw
                (try dsimp only at hSw)
                go_simp
                try with_reducible rfl
              simp only [List.getElem_toArray, List.getElem_cons_succ, List.getElem_cons_zero, Act.put, List.setIfInBounds_toArray, List.set_cons_zero, List.set_cons_succ]
              refine wpAnyH_take (i := 7) (v := .int .i64 k) rfl (by kernel_rfl) (by kernel_rfl) (by kernel_rfl) (fun _ _ _ h => h) (Or.inl ⟨by kernel_rfl, ?_⟩) hH ?_
              · intro w hSw
                (try dsimp only at hSw)
                go_simp
                try with_reducible rfl
              simp only [List.getElem_toArray, List.getElem_cons_succ, List.getElem_cons_zero, Act.put, List.setIfInBounds_toArray, List.set_cons_zero, List.set_cons_succ]
              refine wpAnyH_take (i := 8) (v := .pointer (some ⟨b, off + k * 7, none⟩)) rfl (by kernel_rfl) (by kernel_rfl) (by kernel_rfl) (fun _ _ _ h => h) (Or.inl ⟨by kernel_rfl, ?_⟩) hH ?_
              · intro w hSw
                (try dsimp only at hSw)
                go_simp
                try with_reducible rfl
              simp only [List.getElem_toArray, List.getElem_cons_succ, List.getElem_cons_zero, Act.put, List.setIfInBounds_toArray, List.set_cons_zero, List.set_cons_succ]
              refine wpAnyH_take (i := 9) (v := .pointer (some ⟨b, off + k * 7 + 2, none⟩)) rfl (by kernel_rfl) (by kernel_rfl) (by kernel_rfl) (fun _ _ _ h => h) (Or.inl ⟨by kernel_rfl, ?_⟩) hH ?_
              · intro w hSw
                (try dsimp only at hSw)
                go_simp
                try with_reducible rfl
              simp only [List.getElem_toArray, List.getElem_cons_succ, List.getElem_cons_zero, Act.put, List.setIfInBounds_toArray, List.set_cons_zero, List.set_cons_succ]
              refine wpAnyH_take (i := 10) (v := .string (mk8 x.nm)) rfl (by kernel_rfl) (by kernel_rfl) (by kernel_rfl) (fun _ _ _ h => h) (Or.inl ⟨by kernel_rfl, ?_⟩) hH ?_
              · intro w hSw
                (try dsimp only at hSw)
                go_simp
                try with_reducible rfl
              simp only [List.getElem_toArray, List.getElem_cons_succ, List.getElem_cons_zero, Act.put, List.setIfInBounds_toArray, List.set_cons_zero, List.set_cons_succ]
              refine wpAnyH_take (i := 11) (v := .slice (some ⟨b, off, none⟩) n c) rfl (by kernel_rfl) (by kernel_rfl) (by kernel_rfl) (fun _ _ _ h => h) (Or.inl ⟨by kernel_rfl, ?_⟩) hH ?_
              · intro w hSw
                (try dsimp only at hSw)
                go_simp
                try with_reducible rfl
              simp only [List.getElem_toArray, List.getElem_cons_succ, List.getElem_cons_zero, Act.put, List.setIfInBounds_toArray, List.set_cons_zero, List.set_cons_succ]
              refine wpAnyH_take (i := 12) (v := .int .i64 k) rfl (by kernel_rfl) (by kernel_rfl) (by kernel_rfl) (fun _ _ _ h => h) (Or.inl ⟨by kernel_rfl, ?_⟩) hH ?_
              · intro w hSw
                (try dsimp only at hSw)
                go_simp
                try with_reducible rfl
              simp only [List.getElem_toArray, List.getElem_cons_succ, List.getElem_cons_zero, Act.put, List.setIfInBounds_toArray, List.set_cons_zero, List.set_cons_succ]
              refine wpAnyH_take (i := 13) (v := .pointer (some ⟨b, off + k * 7, none⟩)) rfl (by kernel_rfl) (by kernel_rfl) (by kernel_rfl) (fun _ _ _ h => h) (Or.inl ⟨by kernel_rfl, ?_⟩) hH ?_
              · intro w hSw
                (try dsimp only at hSw)
                go_simp
                try with_reducible rfl
              simp only [List.getElem_toArray, List.getElem_cons_succ, List.getElem_cons_zero, Act.put, List.setIfInBounds_toArray, List.set_cons_zero, List.set_cons_succ]
              refine wpAnyH_take (i := 14) (v := .agg #[.int .i32 x.fr, .int .i32 x.up, .string (mk8 x.nm), .string (mk8 x.ct), .int .i64 x.cl, .string (mk8 x.kd), .slice Ax x.il.length cx]) rfl (by kernel_rfl) (by kernel_rfl) (by kernel_rfl) (fun _ _ _ h => h) (Or.inl ⟨by kernel_rfl, ?_⟩) hH ?_
              · intro w hSw
                (try dsimp only at hSw)
                go_simp
                try with_reducible rfl
              simp only [List.getElem_toArray, List.getElem_cons_succ, List.getElem_cons_zero, Act.put, List.setIfInBounds_toArray, List.set_cons_zero, List.set_cons_succ]
              refine wpAnyH_ready (rs := [15]) (by kernel_rfl) (by simp) ?_
              refine AllReadyH.cons rfl (fun K hK => ?_) AllReadyH.nil
              go_simp
              refine (LN1 _ hH.2).mono ?_
              rintro e w5 ⟨rfl, hb5⟩
              refine hK.out _ _ (HMK.out _ (below_then hH.2 hb5)) (fun hHb => ?_)
              clear hK K hH
              try simp only [List.getElem_toArray, List.getElem_cons_succ, List.getElem_cons_zero, Act.put, List.setIfInBounds_toArray, List.set_cons_zero, List.set_cons_succ]
              refine wpAnyH_take (i := 16) (v := .string (mk8 acc ++ mk8 (lineL x.fr x.nm x))) rfl (by kernel_rfl) (by kernel_rfl) (by kernel_rfl) (fun _ _ _ h => h) (Or.inl ⟨by kernel_rfl, ?_⟩) hHb ?_
              · intro w hSw
                (try dsimp only at hSw)
                go_simp
                try with_reducible rfl
              simp only [List.getElem_toArray, List.getElem_cons_succ, List.getElem_cons_zero, Act.put, List.setIfInBounds_toArray, List.set_cons_zero, List.set_cons_succ]
              refine wpAnyH_take (i := 17) (v := .string (mk8 acc ++ mk8 (lineL x.fr x.nm x))) rfl (by kernel_rfl) (by kernel_rfl) (by kernel_rfl) (fun _ _ _ h => h) (Or.inl ⟨by kernel_rfl, ?_⟩) hHb ?_
              · intro w hSw
                (try dsimp only at hSw)
                go_simp
                try with_reducible rfl
              simp only [List.getElem_toArray, List.getElem_cons_succ, List.getElem_cons_zero, Act.put, List.setIfInBounds_toArray, List.set_cons_zero, List.set_cons_succ]
              refine wpAnyH_done (by kernel_rfl) ?_ _
              have hbq := hHb.2
              clear HMK LN1 hHb hbn
              have hfin := hb.trans (hbq.mono hsz)
              go_wp2
              go_roundw
              case rel => exact ⟨k + 1, acc ++ rowL x, x.up, by omega, by go_num, by rw [HCAT.out], HD2, HUP.out, (fun h => by omega), by rw [List.length_append]; omega, hfin⟩
              case measure => simp [intOf]; omega
            · have hrw : rowL x = (lineL x.fr (firstN x.nm) x) ++ (lineL x.up (lastN x.nm) x) := by unfold rowL; rw [if_neg he]
              have e1 : (x.fr == x.up) = false := by simp [he]
              have hcat : mk8 acc ++ mk8 (lineL x.fr (firstN x.nm) x) ++ mk8 (lineL x.up (lastN x.nm) x) = mk8 (acc ++ rowL x) := bs_inj (by rw [hrw, bs_append, bs_append, List.append_assoc]; rfl)
              have HCAT := Lib.hid hcat
              have q4 := mk8_size (lineL x.fr (firstN x.nm) x)
              have q5 := mk8_size acc
              have q6 := mk8_size (lineL x.up (lastN x.nm) x)
              have q3 := mk8_size x.nm
              have q0 : (⟨#[60]⟩ : ByteArray).size = 1 := rfl
              have q1 : (⟨#[44, 32, 70, 105, 114, 115, 116, 62]⟩ : ByteArray).size = 8 := rfl
              have q2 : (⟨#[44, 32, 76, 97, 115, 116, 62]⟩ : ByteArray).size = 7 := rfl
              have hll : (lineL x.fr (firstN x.nm) x).length + (lineL x.up (lastN x.nm) x).length ≤ 4000 := by rw [← List.length_append, ← hrw]; exact hrl
              have hpl := hpn.1
              have hs1 : ¬ (9223372036854775807 < (⟨#[60]⟩ : ByteArray).size + (mk8 x.nm).size) := by omega
              have hs2 : ¬ (9223372036854775807 < ((⟨#[60]⟩ : ByteArray) ++ mk8 x.nm).size + (⟨#[44, 32, 70, 105, 114, 115, 116, 62]⟩ : ByteArray).size) := by rw [ByteArray.size_append]; omega
              have hs3 : ¬ (9223372036854775807 < ((⟨#[60]⟩ : ByteArray) ++ mk8 x.nm).size + (⟨#[44, 32, 76, 97, 115, 116, 62]⟩ : ByteArray).size) := by rw [ByteArray.size_append]; omega
              have hs4 : ¬ (9223372036854775807 < (mk8 acc).size + (mk8 (lineL x.fr (firstN x.nm) x)).size) := by omega
              have hs5 : ¬ (9223372036854775807 < (mk8 acc ++ mk8 (lineL x.fr (firstN x.nm) x)).size + (mk8 (lineL x.up (lastN x.nm) x)).size) := by rw [ByteArray.size_append]; omega
              have hs6 : ¬ (9223372036854775807 < 1 + (mk8 x.nm).size) := by omega
              have hs7 : ¬ (9223372036854775807 < 1 + (mk8 x.nm).size + 8) := by omega
              have hs8 : ¬ (9223372036854775807 < 1 + (mk8 x.nm).size + 7) := by omega
              have hs9 : ¬ (9223372036854775807 < (mk8 acc).size + (mk8 (lineL x.fr (firstN x.nm) x)).size + (mk8 (lineL x.up (lastN x.nm) x)).size) := by omega
              have hc1 : bs (⟨#[60]⟩ ++ mk8 x.nm ++ ⟨#[44, 32, 70, 105, 114, 115, 116, 62]⟩) = firstN x.nm := by rw [bs_append, bs_append]; rfl
              have hc2 : bs (⟨#[60]⟩ ++ mk8 x.nm ++ ⟨#[44, 32, 76, 97, 115, 116, 62]⟩) = lastN x.nm := by rw [bs_append, bs_append]; rfl
              have HC1 := Lib.hid hc1
              have HC2 := Lib.hid hc2
              have LNS : ∀ (r : Int) (s : ByteArray) (nm : List UInt8) W', Below wr.heap.size wr W' → -2147483648 ≤ r ∧ r ≤ 2147483647 → bs s = nm → nm.length ≤ 110 → Calls Tryz.prog 25 #[.int .i32 r, .string s, .agg #[.int .i32 x.fr, .int .i32 x.up, .string (mk8 x.nm), .string (mk8 x.ct), .int .i64 x.cl, .string (mk8 x.kd), .slice Ax x.il.length cx]] W' fun e w' => e = .returned (.string (mk8 (lineL r nm x))) ∧ Below W'.heap.size W' w' := fun r s nm W' hb' hr hs hn => by
                subst hs
                have := LN r (bs s) W' hb' hr hn
                rwa [mk8_bs] at this
              have L1 : (firstN x.nm).length ≤ 110 := (name_facts hg.nm (en := FSTB) (.inl rfl)).2.2
              have L2 : (lastN x.nm).length ≤ 110 := (name_facts hg.nm (en := LSTB) (.inr rfl)).2.2
              have hfr := hxo.fr
              have hup := hxo.up
              have HMK := Lib.hid MK
              clear hrw he hxo LN hpn hcat q0 q1 q2 q3 q4 q5 q6 MK hc1 hc2
              go_wp2
              go_quiet (fail)
              generalize hWQ : wr.drewN nq = W0 at *
              have hbn0 : Below wr.heap.size wr W0 := by rw [← hWQ]; exact below_drewN _ _ _
              have v0 := cell_belowU x0 hbn0
              have v1 := cell_belowU x1 hbn0
              clear hWQ x0 x1 x2 x3 x4 x5 x6
              go_wp2
              go_quiet (fail)
              go_upto_region 15 with fail
              generalize hWQ : W0.drewN _ = W at *
              have hbn : Below wr.heap.size wr W := by rw [← hWQ]; exact below_drew' hbn0 _
              clear hWQ v0 v1 hbn0
              refine wp_region_held_drew (S := fun w' => (w'.cell? ⟨b, off + k * 7, none⟩ = some (.int .i32 x.fr) ∧ w'.cell? ⟨b, off + k * 7 + 1, none⟩ = some (.int .i32 x.up) ∧ w'.cell? ⟨b, off + k * 7 + 2, none⟩ = some (.string (mk8 x.nm)) ∧ w'.cell? ⟨b, off + k * 7 + 3, none⟩ = some (.string (mk8 x.ct)) ∧ w'.cell? ⟨b, off + k * 7 + 4, none⟩ = some (.int .i64 x.cl) ∧ w'.cell? ⟨b, off + k * 7 + 5, none⟩ = some (.string (mk8 x.kd)) ∧ w'.cell? ⟨b, off + k * 7 + 6, none⟩ = some (.slice Ax x.il.length cx)) ∧ Below wr.heap.size wr w') (by kernel_rfl) (HMK.out _ (below_then hbn (Drew.to ⟨1, rfl⟩))) (fun hH => ?_)
              refine wpAnyH_take (i := 0) (v := .string (mk8 acc)) rfl (by kernel_rfl) (by kernel_rfl) (by kernel_rfl) (fun _ _ _ h => h) (Or.inl ⟨by kernel_rfl, ?_⟩) hH ?_
              · intro w hSw
                (try dsimp only at hSw)
                go_simp
                try with_reducible rfl
              simp only [List.getElem_toArray, List.getElem_cons_succ, List.getElem_cons_zero, Act.put, List.setIfInBounds_toArray, List.set_cons_zero, List.set_cons_succ]
              refine wpAnyH_take (i := 1) (v := .slice (some ⟨b, off, none⟩) n c) rfl (by kernel_rfl) (by kernel_rfl) (by kernel_rfl) (fun _ _ _ h => h) (Or.inl ⟨by kernel_rfl, ?_⟩) hH ?_
              · intro w hSw
                (try dsimp only at hSw)
                go_simp
                try with_reducible rfl
              simp only [List.getElem_toArray, List.getElem_cons_succ, List.getElem_cons_zero, Act.put, List.setIfInBounds_toArray, List.set_cons_zero, List.set_cons_succ]
              refine wpAnyH_take (i := 2) (v := .int .i64 k) rfl (by kernel_rfl) (by kernel_rfl) (by kernel_rfl) (fun _ _ _ h => h) (Or.inl ⟨by kernel_rfl, ?_⟩) hH ?_
              · intro w hSw
                (try dsimp only at hSw)
                go_simp
                try with_reducible rfl
              simp only [List.getElem_toArray, List.getElem_cons_succ, List.getElem_cons_zero, Act.put, List.setIfInBounds_toArray, List.set_cons_zero, List.set_cons_succ]
              refine wpAnyH_take (i := 3) (v := .pointer (some ⟨b, off + k * 7, none⟩)) rfl (by kernel_rfl) (by kernel_rfl) (by kernel_rfl) (fun _ _ _ h => h) (Or.inl ⟨by kernel_rfl, ?_⟩) hH ?_
              · intro w hSw
                (try dsimp only at hSw)
                go_simp
                try with_reducible rfl
              simp only [List.getElem_toArray, List.getElem_cons_succ, List.getElem_cons_zero, Act.put, List.setIfInBounds_toArray, List.set_cons_zero, List.set_cons_succ]
              refine wpAnyH_take (i := 4) (v := .pointer (some ⟨b, off + k * 7, none⟩)) rfl (by kernel_rfl) (by kernel_rfl) (by kernel_rfl) (fun _ _ _ h => h) (Or.inl ⟨by kernel_rfl, ?_⟩) hH ?_
              · intro w hSw
                (try dsimp only at hSw)
                go_simp
                try with_reducible rfl
              simp only [List.getElem_toArray, List.getElem_cons_succ, List.getElem_cons_zero, Act.put, List.setIfInBounds_toArray, List.set_cons_zero, List.set_cons_succ]
              refine wpAnyH_take (i := 5) (v := .int .i32 x.fr) rfl (by kernel_rfl) (by kernel_rfl) (by kernel_rfl) (fun _ _ _ h => h) (Or.inl ⟨by kernel_rfl, ?_⟩) hH ?_
              · intro w hSw
                (try dsimp only at hSw)
                go_simp
                try with_reducible rfl
              simp only [List.getElem_toArray, List.getElem_cons_succ, List.getElem_cons_zero, Act.put, List.setIfInBounds_toArray, List.set_cons_zero, List.set_cons_succ]
              refine wpAnyH_take (i := 6) (v := .slice (some ⟨b, off, none⟩) n c) rfl (by kernel_rfl) (by kernel_rfl) (by kernel_rfl) (fun _ _ _ h => h) (Or.inl ⟨by kernel_rfl, ?_⟩) hH ?_
              · intro w hSw
                (try dsimp only at hSw)
                go_simp
                try with_reducible rfl
              simp only [List.getElem_toArray, List.getElem_cons_succ, List.getElem_cons_zero, Act.put, List.setIfInBounds_toArray, List.set_cons_zero, List.set_cons_succ]
              refine wpAnyH_take (i := 7) (v := .int .i64 k) rfl (by kernel_rfl) (by kernel_rfl) (by kernel_rfl) (fun _ _ _ h => h) (Or.inl ⟨by kernel_rfl, ?_⟩) hH ?_
              · intro w hSw
                (try dsimp only at hSw)
                go_simp
                try with_reducible rfl
              simp only [List.getElem_toArray, List.getElem_cons_succ, List.getElem_cons_zero, Act.put, List.setIfInBounds_toArray, List.set_cons_zero, List.set_cons_succ]
              refine wpAnyH_take (i := 8) (v := .pointer (some ⟨b, off + k * 7, none⟩)) rfl (by kernel_rfl) (by kernel_rfl) (by kernel_rfl) (fun _ _ _ h => h) (Or.inl ⟨by kernel_rfl, ?_⟩) hH ?_
              · intro w hSw
                (try dsimp only at hSw)
                go_simp
                try with_reducible rfl
              simp only [List.getElem_toArray, List.getElem_cons_succ, List.getElem_cons_zero, Act.put, List.setIfInBounds_toArray, List.set_cons_zero, List.set_cons_succ]
              refine wpAnyH_take (i := 9) (v := .pointer (some ⟨b, off + k * 7 + 2, none⟩)) rfl (by kernel_rfl) (by kernel_rfl) (by kernel_rfl) (fun _ _ _ h => h) (Or.inl ⟨by kernel_rfl, ?_⟩) hH ?_
              · intro w hSw
                (try dsimp only at hSw)
                go_simp
                try with_reducible rfl
              simp only [List.getElem_toArray, List.getElem_cons_succ, List.getElem_cons_zero, Act.put, List.setIfInBounds_toArray, List.set_cons_zero, List.set_cons_succ]
              refine wpAnyH_take (i := 10) (v := .string (mk8 x.nm)) rfl (by kernel_rfl) (by kernel_rfl) (by kernel_rfl) (fun _ _ _ h => h) (Or.inl ⟨by kernel_rfl, ?_⟩) hH ?_
              · intro w hSw
                (try dsimp only at hSw)
                go_simp
                try with_reducible rfl
              simp only [List.getElem_toArray, List.getElem_cons_succ, List.getElem_cons_zero, Act.put, List.setIfInBounds_toArray, List.set_cons_zero, List.set_cons_succ]
              refine wpAnyH_take (i := 11) (v := .string (⟨#[60]⟩ ++ mk8 x.nm)) rfl (by kernel_rfl) (by kernel_rfl) (by kernel_rfl) (fun _ _ _ h => h) (Or.inl ⟨by kernel_rfl, ?_⟩) hH ?_
              · intro w hSw
                (try dsimp only at hSw)
                go_simp
                try with_reducible rfl
              simp only [List.getElem_toArray, List.getElem_cons_succ, List.getElem_cons_zero, Act.put, List.setIfInBounds_toArray, List.set_cons_zero, List.set_cons_succ]
              refine wpAnyH_take (i := 12) (v := .string (⟨#[60]⟩ ++ mk8 x.nm ++ ⟨#[44, 32, 70, 105, 114, 115, 116, 62]⟩)) rfl (by kernel_rfl) (by kernel_rfl) (by kernel_rfl) (fun _ _ _ h => h) (Or.inl ⟨by kernel_rfl, ?_⟩) hH ?_
              · intro w hSw
                (try dsimp only at hSw)
                go_simp
                try with_reducible rfl
              simp only [List.getElem_toArray, List.getElem_cons_succ, List.getElem_cons_zero, Act.put, List.setIfInBounds_toArray, List.set_cons_zero, List.set_cons_succ]
              refine wpAnyH_take (i := 13) (v := .slice (some ⟨b, off, none⟩) n c) rfl (by kernel_rfl) (by kernel_rfl) (by kernel_rfl) (fun _ _ _ h => h) (Or.inl ⟨by kernel_rfl, ?_⟩) hH ?_
              · intro w hSw
                (try dsimp only at hSw)
                go_simp
                try with_reducible rfl
              simp only [List.getElem_toArray, List.getElem_cons_succ, List.getElem_cons_zero, Act.put, List.setIfInBounds_toArray, List.set_cons_zero, List.set_cons_succ]
              refine wpAnyH_take (i := 14) (v := .int .i64 k) rfl (by kernel_rfl) (by kernel_rfl) (by kernel_rfl) (fun _ _ _ h => h) (Or.inl ⟨by kernel_rfl, ?_⟩) hH ?_
              · intro w hSw
                (try dsimp only at hSw)
                go_simp
                try with_reducible rfl
              simp only [List.getElem_toArray, List.getElem_cons_succ, List.getElem_cons_zero, Act.put, List.setIfInBounds_toArray, List.set_cons_zero, List.set_cons_succ]
              refine wpAnyH_take (i := 15) (v := .pointer (some ⟨b, off + k * 7, none⟩)) rfl (by kernel_rfl) (by kernel_rfl) (by kernel_rfl) (fun _ _ _ h => h) (Or.inl ⟨by kernel_rfl, ?_⟩) hH ?_
              · intro w hSw
                (try dsimp only at hSw)
                go_simp
                try with_reducible rfl
              simp only [List.getElem_toArray, List.getElem_cons_succ, List.getElem_cons_zero, Act.put, List.setIfInBounds_toArray, List.set_cons_zero, List.set_cons_succ]
              refine wpAnyH_take (i := 16) (v := .agg #[.int .i32 x.fr, .int .i32 x.up, .string (mk8 x.nm), .string (mk8 x.ct), .int .i64 x.cl, .string (mk8 x.kd), .slice Ax x.il.length cx]) rfl (by kernel_rfl) (by kernel_rfl) (by kernel_rfl) (fun _ _ _ h => h) (Or.inl ⟨by kernel_rfl, ?_⟩) hH ?_
              · intro w hSw
                (try dsimp only at hSw)
                go_simp
                try with_reducible rfl
              simp only [List.getElem_toArray, List.getElem_cons_succ, List.getElem_cons_zero, Act.put, List.setIfInBounds_toArray, List.set_cons_zero, List.set_cons_succ]
              refine wpAnyH_take (i := 19) (v := .slice (some ⟨b, off, none⟩) n c) rfl (by kernel_rfl) (by kernel_rfl) (by kernel_rfl) (fun _ _ _ h => h) (Or.inl ⟨by kernel_rfl, ?_⟩) hH ?_
              · intro w hSw
                (try dsimp only at hSw)
                go_simp
                try with_reducible rfl
              simp only [List.getElem_toArray, List.getElem_cons_succ, List.getElem_cons_zero, Act.put, List.setIfInBounds_toArray, List.set_cons_zero, List.set_cons_succ]
              refine wpAnyH_take (i := 20) (v := .int .i64 k) rfl (by kernel_rfl) (by kernel_rfl) (by kernel_rfl) (fun _ _ _ h => h) (Or.inl ⟨by kernel_rfl, ?_⟩) hH ?_
              · intro w hSw
                (try dsimp only at hSw)
                go_simp
                try with_reducible rfl
              simp only [List.getElem_toArray, List.getElem_cons_succ, List.getElem_cons_zero, Act.put, List.setIfInBounds_toArray, List.set_cons_zero, List.set_cons_succ]
              refine wpAnyH_take (i := 21) (v := .pointer (some ⟨b, off + k * 7, none⟩)) rfl (by kernel_rfl) (by kernel_rfl) (by kernel_rfl) (fun _ _ _ h => h) (Or.inl ⟨by kernel_rfl, ?_⟩) hH ?_
              · intro w hSw
                (try dsimp only at hSw)
                go_simp
                try with_reducible rfl
              simp only [List.getElem_toArray, List.getElem_cons_succ, List.getElem_cons_zero, Act.put, List.setIfInBounds_toArray, List.set_cons_zero, List.set_cons_succ]
              refine wpAnyH_take (i := 22) (v := .pointer (some ⟨b, off + k * 7 + 1, none⟩)) rfl (by kernel_rfl) (by kernel_rfl) (by kernel_rfl) (fun _ _ _ h => h) (Or.inl ⟨by kernel_rfl, ?_⟩) hH ?_
              · intro w hSw
                (try dsimp only at hSw)
                go_simp
                try with_reducible rfl
              simp only [List.getElem_toArray, List.getElem_cons_succ, List.getElem_cons_zero, Act.put, List.setIfInBounds_toArray, List.set_cons_zero, List.set_cons_succ]
              refine wpAnyH_take (i := 23) (v := .int .i32 x.up) rfl (by kernel_rfl) (by kernel_rfl) (by kernel_rfl) (fun _ _ _ h => h) (Or.inl ⟨by kernel_rfl, ?_⟩) hH ?_
              · intro w hSw
                (try dsimp only at hSw)
                go_simp
                try with_reducible rfl
              simp only [List.getElem_toArray, List.getElem_cons_succ, List.getElem_cons_zero, Act.put, List.setIfInBounds_toArray, List.set_cons_zero, List.set_cons_succ]
              refine wpAnyH_take (i := 24) (v := .slice (some ⟨b, off, none⟩) n c) rfl (by kernel_rfl) (by kernel_rfl) (by kernel_rfl) (fun _ _ _ h => h) (Or.inl ⟨by kernel_rfl, ?_⟩) hH ?_
              · intro w hSw
                (try dsimp only at hSw)
                go_simp
                try with_reducible rfl
              simp only [List.getElem_toArray, List.getElem_cons_succ, List.getElem_cons_zero, Act.put, List.setIfInBounds_toArray, List.set_cons_zero, List.set_cons_succ]
              refine wpAnyH_take (i := 25) (v := .int .i64 k) rfl (by kernel_rfl) (by kernel_rfl) (by kernel_rfl) (fun _ _ _ h => h) (Or.inl ⟨by kernel_rfl, ?_⟩) hH ?_
              · intro w hSw
                (try dsimp only at hSw)
                go_simp
                try with_reducible rfl
              simp only [List.getElem_toArray, List.getElem_cons_succ, List.getElem_cons_zero, Act.put, List.setIfInBounds_toArray, List.set_cons_zero, List.set_cons_succ]
              refine wpAnyH_take (i := 26) (v := .pointer (some ⟨b, off + k * 7, none⟩)) rfl (by kernel_rfl) (by kernel_rfl) (by kernel_rfl) (fun _ _ _ h => h) (Or.inl ⟨by kernel_rfl, ?_⟩) hH ?_
              · intro w hSw
                (try dsimp only at hSw)
                go_simp
                try with_reducible rfl
              simp only [List.getElem_toArray, List.getElem_cons_succ, List.getElem_cons_zero, Act.put, List.setIfInBounds_toArray, List.set_cons_zero, List.set_cons_succ]
              refine wpAnyH_take (i := 27) (v := .pointer (some ⟨b, off + k * 7 + 2, none⟩)) rfl (by kernel_rfl) (by kernel_rfl) (by kernel_rfl) (fun _ _ _ h => h) (Or.inl ⟨by kernel_rfl, ?_⟩) hH ?_
              · intro w hSw
                (try dsimp only at hSw)
                go_simp
                try with_reducible rfl
              simp only [List.getElem_toArray, List.getElem_cons_succ, List.getElem_cons_zero, Act.put, List.setIfInBounds_toArray, List.set_cons_zero, List.set_cons_succ]
              refine wpAnyH_take (i := 28) (v := .string (mk8 x.nm)) rfl (by kernel_rfl) (by kernel_rfl) (by kernel_rfl) (fun _ _ _ h => h) (Or.inl ⟨by kernel_rfl, ?_⟩) hH ?_
              · intro w hSw
                (try dsimp only at hSw)
                go_simp
                try with_reducible rfl
              simp only [List.getElem_toArray, List.getElem_cons_succ, List.getElem_cons_zero, Act.put, List.setIfInBounds_toArray, List.set_cons_zero, List.set_cons_succ]
              refine wpAnyH_take (i := 29) (v := .string (⟨#[60]⟩ ++ mk8 x.nm)) rfl (by kernel_rfl) (by kernel_rfl) (by kernel_rfl) (fun _ _ _ h => h) (Or.inl ⟨by kernel_rfl, ?_⟩) hH ?_
              · intro w hSw
                (try dsimp only at hSw)
                go_simp
                try with_reducible rfl
              simp only [List.getElem_toArray, List.getElem_cons_succ, List.getElem_cons_zero, Act.put, List.setIfInBounds_toArray, List.set_cons_zero, List.set_cons_succ]
              refine wpAnyH_take (i := 30) (v := .string (⟨#[60]⟩ ++ mk8 x.nm ++ ⟨#[44, 32, 76, 97, 115, 116, 62]⟩)) rfl (by kernel_rfl) (by kernel_rfl) (by kernel_rfl) (fun _ _ _ h => h) (Or.inl ⟨by kernel_rfl, ?_⟩) hH ?_
              · intro w hSw
                (try dsimp only at hSw)
                go_simp
                try with_reducible rfl
              simp only [List.getElem_toArray, List.getElem_cons_succ, List.getElem_cons_zero, Act.put, List.setIfInBounds_toArray, List.set_cons_zero, List.set_cons_succ]
              refine wpAnyH_take (i := 31) (v := .slice (some ⟨b, off, none⟩) n c) rfl (by kernel_rfl) (by kernel_rfl) (by kernel_rfl) (fun _ _ _ h => h) (Or.inl ⟨by kernel_rfl, ?_⟩) hH ?_
              · intro w hSw
                (try dsimp only at hSw)
                go_simp
                try with_reducible rfl
              simp only [List.getElem_toArray, List.getElem_cons_succ, List.getElem_cons_zero, Act.put, List.setIfInBounds_toArray, List.set_cons_zero, List.set_cons_succ]
              refine wpAnyH_take (i := 32) (v := .int .i64 k) rfl (by kernel_rfl) (by kernel_rfl) (by kernel_rfl) (fun _ _ _ h => h) (Or.inl ⟨by kernel_rfl, ?_⟩) hH ?_
              · intro w hSw
                (try dsimp only at hSw)
                go_simp
                try with_reducible rfl
              simp only [List.getElem_toArray, List.getElem_cons_succ, List.getElem_cons_zero, Act.put, List.setIfInBounds_toArray, List.set_cons_zero, List.set_cons_succ]
              refine wpAnyH_take (i := 33) (v := .pointer (some ⟨b, off + k * 7, none⟩)) rfl (by kernel_rfl) (by kernel_rfl) (by kernel_rfl) (fun _ _ _ h => h) (Or.inl ⟨by kernel_rfl, ?_⟩) hH ?_
              · intro w hSw
                (try dsimp only at hSw)
                go_simp
                try with_reducible rfl
              simp only [List.getElem_toArray, List.getElem_cons_succ, List.getElem_cons_zero, Act.put, List.setIfInBounds_toArray, List.set_cons_zero, List.set_cons_succ]
              refine wpAnyH_take (i := 34) (v := .agg #[.int .i32 x.fr, .int .i32 x.up, .string (mk8 x.nm), .string (mk8 x.ct), .int .i64 x.cl, .string (mk8 x.kd), .slice Ax x.il.length cx]) rfl (by kernel_rfl) (by kernel_rfl) (by kernel_rfl) (fun _ _ _ h => h) (Or.inl ⟨by kernel_rfl, ?_⟩) hH ?_
              · intro w hSw
                (try dsimp only at hSw)
                go_simp
                try with_reducible rfl
              simp only [List.getElem_toArray, List.getElem_cons_succ, List.getElem_cons_zero, Act.put, List.setIfInBounds_toArray, List.set_cons_zero, List.set_cons_succ]
              refine wpAnyH_ready (rs := [17]) (by kernel_rfl) (by simp) ?_
              refine AllReadyH.cons rfl (fun K hK => ?_) AllReadyH.nil
              go_simp
              refine (LNS x.fr _ (firstN x.nm) _ hH.2 hfr HC1.out L1).mono ?_
              rintro e w5 ⟨rfl, hb5⟩
              refine hK.out _ _ (HMK.out _ (below_then hH.2 hb5)) (fun hHb => ?_)
              clear hK K hH
              try simp only [List.getElem_toArray, List.getElem_cons_succ, List.getElem_cons_zero, Act.put, List.setIfInBounds_toArray, List.set_cons_zero, List.set_cons_succ]
              refine wpAnyH_take (i := 18) (v := .string (mk8 acc ++ mk8 (lineL x.fr (firstN x.nm) x))) rfl (by kernel_rfl) (by kernel_rfl) (by kernel_rfl) (fun _ _ _ h => h) (Or.inl ⟨by kernel_rfl, ?_⟩) hHb ?_
              · intro w hSw
                (try dsimp only at hSw)
                go_simp
                try with_reducible rfl
              simp only [List.getElem_toArray, List.getElem_cons_succ, List.getElem_cons_zero, Act.put, List.setIfInBounds_toArray, List.set_cons_zero, List.set_cons_succ]
              refine wpAnyH_ready (rs := [35]) (by kernel_rfl) (by simp) ?_
              refine AllReadyH.cons rfl (fun K hK => ?_) AllReadyH.nil
              go_simp
              refine (LNS x.up _ (lastN x.nm) _ hHb.2 hup HC2.out L2).mono ?_
              rintro e w6 ⟨rfl, hb6⟩
              refine hK.out _ _ (HMK.out _ (below_then hHb.2 hb6)) (fun hHc => ?_)
              clear hK K hHb
              try simp only [List.getElem_toArray, List.getElem_cons_succ, List.getElem_cons_zero, Act.put, List.setIfInBounds_toArray, List.set_cons_zero, List.set_cons_succ]
              refine wpAnyH_take (i := 36) (v := .string (mk8 acc ++ mk8 (lineL x.fr (firstN x.nm) x) ++ mk8 (lineL x.up (lastN x.nm) x))) rfl (by kernel_rfl) (by kernel_rfl) (by kernel_rfl) (fun _ _ _ h => h) (Or.inl ⟨by kernel_rfl, ?_⟩) hHc ?_
              · intro w hSw
                (try dsimp only at hSw)
                go_simp
                try with_reducible rfl
              simp only [List.getElem_toArray, List.getElem_cons_succ, List.getElem_cons_zero, Act.put, List.setIfInBounds_toArray, List.set_cons_zero, List.set_cons_succ]
              refine wpAnyH_take (i := 37) (v := .string (mk8 acc ++ mk8 (lineL x.fr (firstN x.nm) x) ++ mk8 (lineL x.up (lastN x.nm) x))) rfl (by kernel_rfl) (by kernel_rfl) (by kernel_rfl) (fun _ _ _ h => h) (Or.inl ⟨by kernel_rfl, ?_⟩) hHc ?_
              · intro w hSw
                (try dsimp only at hSw)
                go_simp
                try with_reducible rfl
              simp only [List.getElem_toArray, List.getElem_cons_succ, List.getElem_cons_zero, Act.put, List.setIfInBounds_toArray, List.set_cons_zero, List.set_cons_succ]
              refine wpAnyH_done (by kernel_rfl) ?_ _
              have hbq := hHc.2
              clear HMK LNS hHc hbn
              have hfin := hb.trans (hbq.mono hsz)
              go_wp2
              go_roundw
              case rel => exact ⟨k + 1, acc ++ rowL x, x.up, by omega, by go_num, by rw [HCAT.out], HD2, HUP.out, (fun h => by omega), by rw [List.length_append]; omega, hfin⟩
              case measure => simp [intOf]; omega
          · obtain ⟨⟨y, Ay, cy⟩, hy⟩ : ∃ z, os[k - 1]? = some z := ⟨_, List.getElem?_eq_getElem (by rw [HOL.out]; omega)⟩
            have hRy := HG.out (k - 1) y Ay cy hy
            have hwas : was = y.up := HW1.out (k - 1) y (by omega) hRy
            obtain ⟨y0, y1, y2, y3, y4, y5, y6⟩ := row_cells hy hcx
            have hw1 : IntKind.i64.wrap ((k : Int) - 1) = ((k - 1 : Nat) : Int) := by rw [IntWalk.i64_in _ (by omega)]; omega
            have hlt2 : ((k - 1 : Nat) : Int) < (n : Int) := by omega
            have hki : (0 : Int) < (k : Int) := by omega
            clear y0 y2 y3 y4 y5 y6
            by_cases hge : x.fr ≤ was
            · rw [if_pos hge] at hstep
              have hP : printS R = ([], 12) := by rw [HP0.out, HD.out, hstep]
              have HP := Lib.hid hP
              have hge2 : x.fr ≤ y.up := by omega
              clear HD hP hstep hge hwas hRx hRy hx hy hcx HW0 HW1 hA hxo LN MK
              go_wp2
              go_quiet (fail)
              go_wp2
              go_returns
              exact ⟨by rw [HP.out]; rfl, below_drew' hb _⟩
            · rw [if_neg hge] at hstep
              have HD2 : Hid (printW [] (-1) R = printW (acc ++ rowL x) x.up (R.drop (k + 1))) := by show _ = _; rw [HD.out, hstep]
              have hge2 : y.up < x.fr := by omega
              clear HD hstep hge hwas hRx hRy hx hy hcx HW0 HW1 hA
              by_cases he : x.fr = x.up
              · have hrw : rowL x = (lineL x.fr x.nm x) := by unfold rowL; rw [if_pos he]
                have e1 : (x.fr == x.up) = true := by simp [he]
                have hcat : mk8 acc ++ mk8 (lineL x.fr x.nm x) = mk8 (acc ++ rowL x) := bs_inj (by rw [hrw, bs_append]; rfl)
                have HCAT := Lib.hid hcat
                have q4 := mk8_size (lineL x.fr x.nm x)
                have q5 := mk8_size acc
                have hll : (lineL x.fr x.nm x).length ≤ 4000 := by rw [← hrw]; exact hrl
                have hs4 : ¬ (9223372036854775807 < (mk8 acc).size + (mk8 (lineL x.fr x.nm x)).size) := by omega
                have LN1 := fun W' hb' => LN x.fr x.nm W' hb' hxo.fr (by omega)
                have HMK := Lib.hid MK
                clear hrw he hxo LN hpn hcat q4 q5 MK
                go_wp2
                go_quiet (fail)
                generalize hWQ : wr.drewN nq = W0 at *
                have hbn0 : Below wr.heap.size wr W0 := by rw [← hWQ]; exact below_drewN _ _ _
                have v0 := cell_belowU x0 hbn0
                have v1 := cell_belowU x1 hbn0
                clear hWQ x0 x1 x2 x3 x4 x5 x6
                go_wp2
                go_quiet (fail)
                go_upto_region 14 with fail
                generalize hWQ : W0.drewN _ = W at *
                have hbn : Below wr.heap.size wr W := by rw [← hWQ]; exact below_drew' hbn0 _
                clear hWQ v0 v1 hbn0
                refine wp_region_held_drew (S := fun w' => (w'.cell? ⟨b, off + k * 7, none⟩ = some (.int .i32 x.fr) ∧ w'.cell? ⟨b, off + k * 7 + 1, none⟩ = some (.int .i32 x.up) ∧ w'.cell? ⟨b, off + k * 7 + 2, none⟩ = some (.string (mk8 x.nm)) ∧ w'.cell? ⟨b, off + k * 7 + 3, none⟩ = some (.string (mk8 x.ct)) ∧ w'.cell? ⟨b, off + k * 7 + 4, none⟩ = some (.int .i64 x.cl) ∧ w'.cell? ⟨b, off + k * 7 + 5, none⟩ = some (.string (mk8 x.kd)) ∧ w'.cell? ⟨b, off + k * 7 + 6, none⟩ = some (.slice Ax x.il.length cx)) ∧ Below wr.heap.size wr w') (by kernel_rfl) (HMK.out _ (below_then hbn (Drew.to ⟨1, rfl⟩))) (fun hH => ?_)
                refine wpAnyH_take (i := 0) (v := .string (mk8 acc)) rfl (by kernel_rfl) (by kernel_rfl) (by kernel_rfl) (fun _ _ _ h => h) (Or.inl ⟨by kernel_rfl, ?_⟩) hH ?_
                · intro w hSw
                  (try dsimp only at hSw)
                  go_simp
                  try with_reducible rfl
                simp only [List.getElem_toArray, List.getElem_cons_succ, List.getElem_cons_zero, Act.put, List.setIfInBounds_toArray, List.set_cons_zero, List.set_cons_succ]
                refine wpAnyH_take (i := 1) (v := .slice (some ⟨b, off, none⟩) n c) rfl (by kernel_rfl) (by kernel_rfl) (by kernel_rfl) (fun _ _ _ h => h) (Or.inl ⟨by kernel_rfl, ?_⟩) hH ?_
                · intro w hSw
                  (try dsimp only at hSw)
                  go_simp
                  try with_reducible rfl
                simp only [List.getElem_toArray, List.getElem_cons_succ, List.getElem_cons_zero, Act.put, List.setIfInBounds_toArray, List.set_cons_zero, List.set_cons_succ]
                refine wpAnyH_take (i := 2) (v := .int .i64 k) rfl (by kernel_rfl) (by kernel_rfl) (by kernel_rfl) (fun _ _ _ h => h) (Or.inl ⟨by kernel_rfl, ?_⟩) hH ?_
                · intro w hSw
                  (try dsimp only at hSw)
                  go_simp
                  try with_reducible rfl
                simp only [List.getElem_toArray, List.getElem_cons_succ, List.getElem_cons_zero, Act.put, List.setIfInBounds_toArray, List.set_cons_zero, List.set_cons_succ]
                refine wpAnyH_take (i := 3) (v := .pointer (some ⟨b, off + k * 7, none⟩)) rfl (by kernel_rfl) (by kernel_rfl) (by kernel_rfl) (fun _ _ _ h => h) (Or.inl ⟨by kernel_rfl, ?_⟩) hH ?_
                · intro w hSw
                  (try dsimp only at hSw)
                  go_simp
                  try with_reducible rfl
                simp only [List.getElem_toArray, List.getElem_cons_succ, List.getElem_cons_zero, Act.put, List.setIfInBounds_toArray, List.set_cons_zero, List.set_cons_succ]
                refine wpAnyH_take (i := 4) (v := .pointer (some ⟨b, off + k * 7, none⟩)) rfl (by kernel_rfl) (by kernel_rfl) (by kernel_rfl) (fun _ _ _ h => h) (Or.inl ⟨by kernel_rfl, ?_⟩) hH ?_
                · intro w hSw
                  (try dsimp only at hSw)
                  go_simp
                  try with_reducible rfl
                simp only [List.getElem_toArray, List.getElem_cons_succ, List.getElem_cons_zero, Act.put, List.setIfInBounds_toArray, List.set_cons_zero, List.set_cons_succ]
                refine wpAnyH_take (i := 5) (v := .int .i32 x.fr) rfl (by kernel_rfl) (by kernel_rfl) (by kernel_rfl) (fun _ _ _ h => h) (Or.inl ⟨by kernel_rfl, ?_⟩) hH ?_
                · intro w hSw
                  (try dsimp only at hSw)
                  go_simp
                  try with_reducible rfl
                simp only [List.getElem_toArray, List.getElem_cons_succ, List.getElem_cons_zero, Act.put, List.setIfInBounds_toArray, List.set_cons_zero, List.set_cons_succ]
                refine wpAnyH_take (i := 6) (v := .slice (some ⟨b, off, none⟩) n c) rfl (by kernel_rfl) (by kernel_rfl) (by kernel_rfl) (fun _ _ _ h => h) (Or.inl ⟨by kernel_rfl, ?_⟩) hH ?_
                · intro w hSw
                  (try dsimp only at hSw)
                  go_simp
                  try with_reducible rfl
                simp only [List.getElem_toArray, List.getElem_cons_succ, List.getElem_cons_zero, Act.put, List.setIfInBounds_toArray, List.set_cons_zero, List.set_cons_succ]
                refine wpAnyH_take (i := 7) (v := .int .i64 k) rfl (by kernel_rfl) (by kernel_rfl) (by kernel_rfl) (fun _ _ _ h => h) (Or.inl ⟨by kernel_rfl, ?_⟩) hH ?_
                · intro w hSw
                  (try dsimp only at hSw)
                  go_simp
                  try with_reducible rfl
                simp only [List.getElem_toArray, List.getElem_cons_succ, List.getElem_cons_zero, Act.put, List.setIfInBounds_toArray, List.set_cons_zero, List.set_cons_succ]
                refine wpAnyH_take (i := 8) (v := .pointer (some ⟨b, off + k * 7, none⟩)) rfl (by kernel_rfl) (by kernel_rfl) (by kernel_rfl) (fun _ _ _ h => h) (Or.inl ⟨by kernel_rfl, ?_⟩) hH ?_
                · intro w hSw
                  (try dsimp only at hSw)
                  go_simp
                  try with_reducible rfl
                simp only [List.getElem_toArray, List.getElem_cons_succ, List.getElem_cons_zero, Act.put, List.setIfInBounds_toArray, List.set_cons_zero, List.set_cons_succ]
                refine wpAnyH_take (i := 9) (v := .pointer (some ⟨b, off + k * 7 + 2, none⟩)) rfl (by kernel_rfl) (by kernel_rfl) (by kernel_rfl) (fun _ _ _ h => h) (Or.inl ⟨by kernel_rfl, ?_⟩) hH ?_
                · intro w hSw
                  (try dsimp only at hSw)
                  go_simp
                  try with_reducible rfl
                simp only [List.getElem_toArray, List.getElem_cons_succ, List.getElem_cons_zero, Act.put, List.setIfInBounds_toArray, List.set_cons_zero, List.set_cons_succ]
                refine wpAnyH_take (i := 10) (v := .string (mk8 x.nm)) rfl (by kernel_rfl) (by kernel_rfl) (by kernel_rfl) (fun _ _ _ h => h) (Or.inl ⟨by kernel_rfl, ?_⟩) hH ?_
                · intro w hSw
                  (try dsimp only at hSw)
                  go_simp
                  try with_reducible rfl
                simp only [List.getElem_toArray, List.getElem_cons_succ, List.getElem_cons_zero, Act.put, List.setIfInBounds_toArray, List.set_cons_zero, List.set_cons_succ]
                refine wpAnyH_take (i := 11) (v := .slice (some ⟨b, off, none⟩) n c) rfl (by kernel_rfl) (by kernel_rfl) (by kernel_rfl) (fun _ _ _ h => h) (Or.inl ⟨by kernel_rfl, ?_⟩) hH ?_
                · intro w hSw
                  (try dsimp only at hSw)
                  go_simp
                  try with_reducible rfl
                simp only [List.getElem_toArray, List.getElem_cons_succ, List.getElem_cons_zero, Act.put, List.setIfInBounds_toArray, List.set_cons_zero, List.set_cons_succ]
                refine wpAnyH_take (i := 12) (v := .int .i64 k) rfl (by kernel_rfl) (by kernel_rfl) (by kernel_rfl) (fun _ _ _ h => h) (Or.inl ⟨by kernel_rfl, ?_⟩) hH ?_
                · intro w hSw
                  (try dsimp only at hSw)
                  go_simp
                  try with_reducible rfl
                simp only [List.getElem_toArray, List.getElem_cons_succ, List.getElem_cons_zero, Act.put, List.setIfInBounds_toArray, List.set_cons_zero, List.set_cons_succ]
                refine wpAnyH_take (i := 13) (v := .pointer (some ⟨b, off + k * 7, none⟩)) rfl (by kernel_rfl) (by kernel_rfl) (by kernel_rfl) (fun _ _ _ h => h) (Or.inl ⟨by kernel_rfl, ?_⟩) hH ?_
                · intro w hSw
                  (try dsimp only at hSw)
                  go_simp
                  try with_reducible rfl
                simp only [List.getElem_toArray, List.getElem_cons_succ, List.getElem_cons_zero, Act.put, List.setIfInBounds_toArray, List.set_cons_zero, List.set_cons_succ]
                refine wpAnyH_take (i := 14) (v := .agg #[.int .i32 x.fr, .int .i32 x.up, .string (mk8 x.nm), .string (mk8 x.ct), .int .i64 x.cl, .string (mk8 x.kd), .slice Ax x.il.length cx]) rfl (by kernel_rfl) (by kernel_rfl) (by kernel_rfl) (fun _ _ _ h => h) (Or.inl ⟨by kernel_rfl, ?_⟩) hH ?_
                · intro w hSw
                  (try dsimp only at hSw)
                  go_simp
                  try with_reducible rfl
                simp only [List.getElem_toArray, List.getElem_cons_succ, List.getElem_cons_zero, Act.put, List.setIfInBounds_toArray, List.set_cons_zero, List.set_cons_succ]
                refine wpAnyH_ready (rs := [15]) (by kernel_rfl) (by simp) ?_
                refine AllReadyH.cons rfl (fun K hK => ?_) AllReadyH.nil
                go_simp
                refine (LN1 _ hH.2).mono ?_
                rintro e w5 ⟨rfl, hb5⟩
                refine hK.out _ _ (HMK.out _ (below_then hH.2 hb5)) (fun hHb => ?_)
                clear hK K hH
                try simp only [List.getElem_toArray, List.getElem_cons_succ, List.getElem_cons_zero, Act.put, List.setIfInBounds_toArray, List.set_cons_zero, List.set_cons_succ]
                refine wpAnyH_take (i := 16) (v := .string (mk8 acc ++ mk8 (lineL x.fr x.nm x))) rfl (by kernel_rfl) (by kernel_rfl) (by kernel_rfl) (fun _ _ _ h => h) (Or.inl ⟨by kernel_rfl, ?_⟩) hHb ?_
                · intro w hSw
                  (try dsimp only at hSw)
                  go_simp
                  try with_reducible rfl
                simp only [List.getElem_toArray, List.getElem_cons_succ, List.getElem_cons_zero, Act.put, List.setIfInBounds_toArray, List.set_cons_zero, List.set_cons_succ]
                refine wpAnyH_take (i := 17) (v := .string (mk8 acc ++ mk8 (lineL x.fr x.nm x))) rfl (by kernel_rfl) (by kernel_rfl) (by kernel_rfl) (fun _ _ _ h => h) (Or.inl ⟨by kernel_rfl, ?_⟩) hHb ?_
                · intro w hSw
                  (try dsimp only at hSw)
                  go_simp
                  try with_reducible rfl
                simp only [List.getElem_toArray, List.getElem_cons_succ, List.getElem_cons_zero, Act.put, List.setIfInBounds_toArray, List.set_cons_zero, List.set_cons_succ]
                refine wpAnyH_done (by kernel_rfl) ?_ _
                have hbq := hHb.2
                clear HMK LN1 hHb hbn
                have hfin := hb.trans (hbq.mono hsz)
                go_wp2
                go_roundw
                case rel => exact ⟨k + 1, acc ++ rowL x, x.up, by omega, by go_num, by rw [HCAT.out], HD2, HUP.out, (fun h => by omega), by rw [List.length_append]; omega, hfin⟩
                case measure => simp [intOf]; omega
              · have hrw : rowL x = (lineL x.fr (firstN x.nm) x) ++ (lineL x.up (lastN x.nm) x) := by unfold rowL; rw [if_neg he]
                have e1 : (x.fr == x.up) = false := by simp [he]
                have hcat : mk8 acc ++ mk8 (lineL x.fr (firstN x.nm) x) ++ mk8 (lineL x.up (lastN x.nm) x) = mk8 (acc ++ rowL x) := bs_inj (by rw [hrw, bs_append, bs_append, List.append_assoc]; rfl)
                have HCAT := Lib.hid hcat
                have q4 := mk8_size (lineL x.fr (firstN x.nm) x)
                have q5 := mk8_size acc
                have q6 := mk8_size (lineL x.up (lastN x.nm) x)
                have q3 := mk8_size x.nm
                have q0 : (⟨#[60]⟩ : ByteArray).size = 1 := rfl
                have q1 : (⟨#[44, 32, 70, 105, 114, 115, 116, 62]⟩ : ByteArray).size = 8 := rfl
                have q2 : (⟨#[44, 32, 76, 97, 115, 116, 62]⟩ : ByteArray).size = 7 := rfl
                have hll : (lineL x.fr (firstN x.nm) x).length + (lineL x.up (lastN x.nm) x).length ≤ 4000 := by rw [← List.length_append, ← hrw]; exact hrl
                have hpl := hpn.1
                have hs1 : ¬ (9223372036854775807 < (⟨#[60]⟩ : ByteArray).size + (mk8 x.nm).size) := by omega
                have hs2 : ¬ (9223372036854775807 < ((⟨#[60]⟩ : ByteArray) ++ mk8 x.nm).size + (⟨#[44, 32, 70, 105, 114, 115, 116, 62]⟩ : ByteArray).size) := by rw [ByteArray.size_append]; omega
                have hs3 : ¬ (9223372036854775807 < ((⟨#[60]⟩ : ByteArray) ++ mk8 x.nm).size + (⟨#[44, 32, 76, 97, 115, 116, 62]⟩ : ByteArray).size) := by rw [ByteArray.size_append]; omega
                have hs4 : ¬ (9223372036854775807 < (mk8 acc).size + (mk8 (lineL x.fr (firstN x.nm) x)).size) := by omega
                have hs5 : ¬ (9223372036854775807 < (mk8 acc ++ mk8 (lineL x.fr (firstN x.nm) x)).size + (mk8 (lineL x.up (lastN x.nm) x)).size) := by rw [ByteArray.size_append]; omega
                have hs6 : ¬ (9223372036854775807 < 1 + (mk8 x.nm).size) := by omega
                have hs7 : ¬ (9223372036854775807 < 1 + (mk8 x.nm).size + 8) := by omega
                have hs8 : ¬ (9223372036854775807 < 1 + (mk8 x.nm).size + 7) := by omega
                have hs9 : ¬ (9223372036854775807 < (mk8 acc).size + (mk8 (lineL x.fr (firstN x.nm) x)).size + (mk8 (lineL x.up (lastN x.nm) x)).size) := by omega
                have hc1 : bs (⟨#[60]⟩ ++ mk8 x.nm ++ ⟨#[44, 32, 70, 105, 114, 115, 116, 62]⟩) = firstN x.nm := by rw [bs_append, bs_append]; rfl
                have hc2 : bs (⟨#[60]⟩ ++ mk8 x.nm ++ ⟨#[44, 32, 76, 97, 115, 116, 62]⟩) = lastN x.nm := by rw [bs_append, bs_append]; rfl
                have HC1 := Lib.hid hc1
                have HC2 := Lib.hid hc2
                have LNS : ∀ (r : Int) (s : ByteArray) (nm : List UInt8) W', Below wr.heap.size wr W' → -2147483648 ≤ r ∧ r ≤ 2147483647 → bs s = nm → nm.length ≤ 110 → Calls Tryz.prog 25 #[.int .i32 r, .string s, .agg #[.int .i32 x.fr, .int .i32 x.up, .string (mk8 x.nm), .string (mk8 x.ct), .int .i64 x.cl, .string (mk8 x.kd), .slice Ax x.il.length cx]] W' fun e w' => e = .returned (.string (mk8 (lineL r nm x))) ∧ Below W'.heap.size W' w' := fun r s nm W' hb' hr hs hn => by
                  subst hs
                  have := LN r (bs s) W' hb' hr hn
                  rwa [mk8_bs] at this
                have L1 : (firstN x.nm).length ≤ 110 := (name_facts hg.nm (en := FSTB) (.inl rfl)).2.2
                have L2 : (lastN x.nm).length ≤ 110 := (name_facts hg.nm (en := LSTB) (.inr rfl)).2.2
                have hfr := hxo.fr
                have hup := hxo.up
                have HMK := Lib.hid MK
                clear hrw he hxo LN hpn hcat q0 q1 q2 q3 q4 q5 q6 MK hc1 hc2
                go_wp2
                go_quiet (fail)
                generalize hWQ : wr.drewN nq = W0 at *
                have hbn0 : Below wr.heap.size wr W0 := by rw [← hWQ]; exact below_drewN _ _ _
                have v0 := cell_belowU x0 hbn0
                have v1 := cell_belowU x1 hbn0
                clear hWQ x0 x1 x2 x3 x4 x5 x6
                go_wp2
                go_quiet (fail)
                go_upto_region 15 with fail
                generalize hWQ : W0.drewN _ = W at *
                have hbn : Below wr.heap.size wr W := by rw [← hWQ]; exact below_drew' hbn0 _
                clear hWQ v0 v1 hbn0
                refine wp_region_held_drew (S := fun w' => (w'.cell? ⟨b, off + k * 7, none⟩ = some (.int .i32 x.fr) ∧ w'.cell? ⟨b, off + k * 7 + 1, none⟩ = some (.int .i32 x.up) ∧ w'.cell? ⟨b, off + k * 7 + 2, none⟩ = some (.string (mk8 x.nm)) ∧ w'.cell? ⟨b, off + k * 7 + 3, none⟩ = some (.string (mk8 x.ct)) ∧ w'.cell? ⟨b, off + k * 7 + 4, none⟩ = some (.int .i64 x.cl) ∧ w'.cell? ⟨b, off + k * 7 + 5, none⟩ = some (.string (mk8 x.kd)) ∧ w'.cell? ⟨b, off + k * 7 + 6, none⟩ = some (.slice Ax x.il.length cx)) ∧ Below wr.heap.size wr w') (by kernel_rfl) (HMK.out _ (below_then hbn (Drew.to ⟨1, rfl⟩))) (fun hH => ?_)
                refine wpAnyH_take (i := 0) (v := .string (mk8 acc)) rfl (by kernel_rfl) (by kernel_rfl) (by kernel_rfl) (fun _ _ _ h => h) (Or.inl ⟨by kernel_rfl, ?_⟩) hH ?_
                · intro w hSw
                  (try dsimp only at hSw)
                  go_simp
                  try with_reducible rfl
                simp only [List.getElem_toArray, List.getElem_cons_succ, List.getElem_cons_zero, Act.put, List.setIfInBounds_toArray, List.set_cons_zero, List.set_cons_succ]
                refine wpAnyH_take (i := 1) (v := .slice (some ⟨b, off, none⟩) n c) rfl (by kernel_rfl) (by kernel_rfl) (by kernel_rfl) (fun _ _ _ h => h) (Or.inl ⟨by kernel_rfl, ?_⟩) hH ?_
                · intro w hSw
                  (try dsimp only at hSw)
                  go_simp
                  try with_reducible rfl
                simp only [List.getElem_toArray, List.getElem_cons_succ, List.getElem_cons_zero, Act.put, List.setIfInBounds_toArray, List.set_cons_zero, List.set_cons_succ]
                refine wpAnyH_take (i := 2) (v := .int .i64 k) rfl (by kernel_rfl) (by kernel_rfl) (by kernel_rfl) (fun _ _ _ h => h) (Or.inl ⟨by kernel_rfl, ?_⟩) hH ?_
                · intro w hSw
                  (try dsimp only at hSw)
                  go_simp
                  try with_reducible rfl
                simp only [List.getElem_toArray, List.getElem_cons_succ, List.getElem_cons_zero, Act.put, List.setIfInBounds_toArray, List.set_cons_zero, List.set_cons_succ]
                refine wpAnyH_take (i := 3) (v := .pointer (some ⟨b, off + k * 7, none⟩)) rfl (by kernel_rfl) (by kernel_rfl) (by kernel_rfl) (fun _ _ _ h => h) (Or.inl ⟨by kernel_rfl, ?_⟩) hH ?_
                · intro w hSw
                  (try dsimp only at hSw)
                  go_simp
                  try with_reducible rfl
                simp only [List.getElem_toArray, List.getElem_cons_succ, List.getElem_cons_zero, Act.put, List.setIfInBounds_toArray, List.set_cons_zero, List.set_cons_succ]
                refine wpAnyH_take (i := 4) (v := .pointer (some ⟨b, off + k * 7, none⟩)) rfl (by kernel_rfl) (by kernel_rfl) (by kernel_rfl) (fun _ _ _ h => h) (Or.inl ⟨by kernel_rfl, ?_⟩) hH ?_
                · intro w hSw
                  (try dsimp only at hSw)
                  go_simp
                  try with_reducible rfl
                simp only [List.getElem_toArray, List.getElem_cons_succ, List.getElem_cons_zero, Act.put, List.setIfInBounds_toArray, List.set_cons_zero, List.set_cons_succ]
                refine wpAnyH_take (i := 5) (v := .int .i32 x.fr) rfl (by kernel_rfl) (by kernel_rfl) (by kernel_rfl) (fun _ _ _ h => h) (Or.inl ⟨by kernel_rfl, ?_⟩) hH ?_
                · intro w hSw
                  (try dsimp only at hSw)
                  go_simp
                  try with_reducible rfl
                simp only [List.getElem_toArray, List.getElem_cons_succ, List.getElem_cons_zero, Act.put, List.setIfInBounds_toArray, List.set_cons_zero, List.set_cons_succ]
                refine wpAnyH_take (i := 6) (v := .slice (some ⟨b, off, none⟩) n c) rfl (by kernel_rfl) (by kernel_rfl) (by kernel_rfl) (fun _ _ _ h => h) (Or.inl ⟨by kernel_rfl, ?_⟩) hH ?_
                · intro w hSw
                  (try dsimp only at hSw)
                  go_simp
                  try with_reducible rfl
                simp only [List.getElem_toArray, List.getElem_cons_succ, List.getElem_cons_zero, Act.put, List.setIfInBounds_toArray, List.set_cons_zero, List.set_cons_succ]
                refine wpAnyH_take (i := 7) (v := .int .i64 k) rfl (by kernel_rfl) (by kernel_rfl) (by kernel_rfl) (fun _ _ _ h => h) (Or.inl ⟨by kernel_rfl, ?_⟩) hH ?_
                · intro w hSw
                  (try dsimp only at hSw)
                  go_simp
                  try with_reducible rfl
                simp only [List.getElem_toArray, List.getElem_cons_succ, List.getElem_cons_zero, Act.put, List.setIfInBounds_toArray, List.set_cons_zero, List.set_cons_succ]
                refine wpAnyH_take (i := 8) (v := .pointer (some ⟨b, off + k * 7, none⟩)) rfl (by kernel_rfl) (by kernel_rfl) (by kernel_rfl) (fun _ _ _ h => h) (Or.inl ⟨by kernel_rfl, ?_⟩) hH ?_
                · intro w hSw
                  (try dsimp only at hSw)
                  go_simp
                  try with_reducible rfl
                simp only [List.getElem_toArray, List.getElem_cons_succ, List.getElem_cons_zero, Act.put, List.setIfInBounds_toArray, List.set_cons_zero, List.set_cons_succ]
                refine wpAnyH_take (i := 9) (v := .pointer (some ⟨b, off + k * 7 + 2, none⟩)) rfl (by kernel_rfl) (by kernel_rfl) (by kernel_rfl) (fun _ _ _ h => h) (Or.inl ⟨by kernel_rfl, ?_⟩) hH ?_
                · intro w hSw
                  (try dsimp only at hSw)
                  go_simp
                  try with_reducible rfl
                simp only [List.getElem_toArray, List.getElem_cons_succ, List.getElem_cons_zero, Act.put, List.setIfInBounds_toArray, List.set_cons_zero, List.set_cons_succ]
                refine wpAnyH_take (i := 10) (v := .string (mk8 x.nm)) rfl (by kernel_rfl) (by kernel_rfl) (by kernel_rfl) (fun _ _ _ h => h) (Or.inl ⟨by kernel_rfl, ?_⟩) hH ?_
                · intro w hSw
                  (try dsimp only at hSw)
                  go_simp
                  try with_reducible rfl
                simp only [List.getElem_toArray, List.getElem_cons_succ, List.getElem_cons_zero, Act.put, List.setIfInBounds_toArray, List.set_cons_zero, List.set_cons_succ]
                refine wpAnyH_take (i := 11) (v := .string (⟨#[60]⟩ ++ mk8 x.nm)) rfl (by kernel_rfl) (by kernel_rfl) (by kernel_rfl) (fun _ _ _ h => h) (Or.inl ⟨by kernel_rfl, ?_⟩) hH ?_
                · intro w hSw
                  (try dsimp only at hSw)
                  go_simp
                  try with_reducible rfl
                simp only [List.getElem_toArray, List.getElem_cons_succ, List.getElem_cons_zero, Act.put, List.setIfInBounds_toArray, List.set_cons_zero, List.set_cons_succ]
                refine wpAnyH_take (i := 12) (v := .string (⟨#[60]⟩ ++ mk8 x.nm ++ ⟨#[44, 32, 70, 105, 114, 115, 116, 62]⟩)) rfl (by kernel_rfl) (by kernel_rfl) (by kernel_rfl) (fun _ _ _ h => h) (Or.inl ⟨by kernel_rfl, ?_⟩) hH ?_
                · intro w hSw
                  (try dsimp only at hSw)
                  go_simp
                  try with_reducible rfl
                simp only [List.getElem_toArray, List.getElem_cons_succ, List.getElem_cons_zero, Act.put, List.setIfInBounds_toArray, List.set_cons_zero, List.set_cons_succ]
                refine wpAnyH_take (i := 13) (v := .slice (some ⟨b, off, none⟩) n c) rfl (by kernel_rfl) (by kernel_rfl) (by kernel_rfl) (fun _ _ _ h => h) (Or.inl ⟨by kernel_rfl, ?_⟩) hH ?_
                · intro w hSw
                  (try dsimp only at hSw)
                  go_simp
                  try with_reducible rfl
                simp only [List.getElem_toArray, List.getElem_cons_succ, List.getElem_cons_zero, Act.put, List.setIfInBounds_toArray, List.set_cons_zero, List.set_cons_succ]
                refine wpAnyH_take (i := 14) (v := .int .i64 k) rfl (by kernel_rfl) (by kernel_rfl) (by kernel_rfl) (fun _ _ _ h => h) (Or.inl ⟨by kernel_rfl, ?_⟩) hH ?_
                · intro w hSw
                  (try dsimp only at hSw)
                  go_simp
                  try with_reducible rfl
                simp only [List.getElem_toArray, List.getElem_cons_succ, List.getElem_cons_zero, Act.put, List.setIfInBounds_toArray, List.set_cons_zero, List.set_cons_succ]
                refine wpAnyH_take (i := 15) (v := .pointer (some ⟨b, off + k * 7, none⟩)) rfl (by kernel_rfl) (by kernel_rfl) (by kernel_rfl) (fun _ _ _ h => h) (Or.inl ⟨by kernel_rfl, ?_⟩) hH ?_
                · intro w hSw
                  (try dsimp only at hSw)
                  go_simp
                  try with_reducible rfl
                simp only [List.getElem_toArray, List.getElem_cons_succ, List.getElem_cons_zero, Act.put, List.setIfInBounds_toArray, List.set_cons_zero, List.set_cons_succ]
                refine wpAnyH_take (i := 16) (v := .agg #[.int .i32 x.fr, .int .i32 x.up, .string (mk8 x.nm), .string (mk8 x.ct), .int .i64 x.cl, .string (mk8 x.kd), .slice Ax x.il.length cx]) rfl (by kernel_rfl) (by kernel_rfl) (by kernel_rfl) (fun _ _ _ h => h) (Or.inl ⟨by kernel_rfl, ?_⟩) hH ?_
                · intro w hSw
                  (try dsimp only at hSw)
                  go_simp
                  try with_reducible rfl
                simp only [List.getElem_toArray, List.getElem_cons_succ, List.getElem_cons_zero, Act.put, List.setIfInBounds_toArray, List.set_cons_zero, List.set_cons_succ]
                refine wpAnyH_take (i := 19) (v := .slice (some ⟨b, off, none⟩) n c) rfl (by kernel_rfl) (by kernel_rfl) (by kernel_rfl) (fun _ _ _ h => h) (Or.inl ⟨by kernel_rfl, ?_⟩) hH ?_
                · intro w hSw
                  (try dsimp only at hSw)
                  go_simp
                  try with_reducible rfl
                simp only [List.getElem_toArray, List.getElem_cons_succ, List.getElem_cons_zero, Act.put, List.setIfInBounds_toArray, List.set_cons_zero, List.set_cons_succ]
                refine wpAnyH_take (i := 20) (v := .int .i64 k) rfl (by kernel_rfl) (by kernel_rfl) (by kernel_rfl) (fun _ _ _ h => h) (Or.inl ⟨by kernel_rfl, ?_⟩) hH ?_
                · intro w hSw
                  (try dsimp only at hSw)
                  go_simp
                  try with_reducible rfl
                simp only [List.getElem_toArray, List.getElem_cons_succ, List.getElem_cons_zero, Act.put, List.setIfInBounds_toArray, List.set_cons_zero, List.set_cons_succ]
                refine wpAnyH_take (i := 21) (v := .pointer (some ⟨b, off + k * 7, none⟩)) rfl (by kernel_rfl) (by kernel_rfl) (by kernel_rfl) (fun _ _ _ h => h) (Or.inl ⟨by kernel_rfl, ?_⟩) hH ?_
                · intro w hSw
                  (try dsimp only at hSw)
                  go_simp
                  try with_reducible rfl
                simp only [List.getElem_toArray, List.getElem_cons_succ, List.getElem_cons_zero, Act.put, List.setIfInBounds_toArray, List.set_cons_zero, List.set_cons_succ]
                refine wpAnyH_take (i := 22) (v := .pointer (some ⟨b, off + k * 7 + 1, none⟩)) rfl (by kernel_rfl) (by kernel_rfl) (by kernel_rfl) (fun _ _ _ h => h) (Or.inl ⟨by kernel_rfl, ?_⟩) hH ?_
                · intro w hSw
                  (try dsimp only at hSw)
                  go_simp
                  try with_reducible rfl
                simp only [List.getElem_toArray, List.getElem_cons_succ, List.getElem_cons_zero, Act.put, List.setIfInBounds_toArray, List.set_cons_zero, List.set_cons_succ]
                refine wpAnyH_take (i := 23) (v := .int .i32 x.up) rfl (by kernel_rfl) (by kernel_rfl) (by kernel_rfl) (fun _ _ _ h => h) (Or.inl ⟨by kernel_rfl, ?_⟩) hH ?_
                · intro w hSw
                  (try dsimp only at hSw)
                  go_simp
                  try with_reducible rfl
                simp only [List.getElem_toArray, List.getElem_cons_succ, List.getElem_cons_zero, Act.put, List.setIfInBounds_toArray, List.set_cons_zero, List.set_cons_succ]
                refine wpAnyH_take (i := 24) (v := .slice (some ⟨b, off, none⟩) n c) rfl (by kernel_rfl) (by kernel_rfl) (by kernel_rfl) (fun _ _ _ h => h) (Or.inl ⟨by kernel_rfl, ?_⟩) hH ?_
                · intro w hSw
                  (try dsimp only at hSw)
                  go_simp
                  try with_reducible rfl
                simp only [List.getElem_toArray, List.getElem_cons_succ, List.getElem_cons_zero, Act.put, List.setIfInBounds_toArray, List.set_cons_zero, List.set_cons_succ]
                refine wpAnyH_take (i := 25) (v := .int .i64 k) rfl (by kernel_rfl) (by kernel_rfl) (by kernel_rfl) (fun _ _ _ h => h) (Or.inl ⟨by kernel_rfl, ?_⟩) hH ?_
                · intro w hSw
                  (try dsimp only at hSw)
                  go_simp
                  try with_reducible rfl
                simp only [List.getElem_toArray, List.getElem_cons_succ, List.getElem_cons_zero, Act.put, List.setIfInBounds_toArray, List.set_cons_zero, List.set_cons_succ]
                refine wpAnyH_take (i := 26) (v := .pointer (some ⟨b, off + k * 7, none⟩)) rfl (by kernel_rfl) (by kernel_rfl) (by kernel_rfl) (fun _ _ _ h => h) (Or.inl ⟨by kernel_rfl, ?_⟩) hH ?_
                · intro w hSw
                  (try dsimp only at hSw)
                  go_simp
                  try with_reducible rfl
                simp only [List.getElem_toArray, List.getElem_cons_succ, List.getElem_cons_zero, Act.put, List.setIfInBounds_toArray, List.set_cons_zero, List.set_cons_succ]
                refine wpAnyH_take (i := 27) (v := .pointer (some ⟨b, off + k * 7 + 2, none⟩)) rfl (by kernel_rfl) (by kernel_rfl) (by kernel_rfl) (fun _ _ _ h => h) (Or.inl ⟨by kernel_rfl, ?_⟩) hH ?_
                · intro w hSw
                  (try dsimp only at hSw)
                  go_simp
                  try with_reducible rfl
                simp only [List.getElem_toArray, List.getElem_cons_succ, List.getElem_cons_zero, Act.put, List.setIfInBounds_toArray, List.set_cons_zero, List.set_cons_succ]
                refine wpAnyH_take (i := 28) (v := .string (mk8 x.nm)) rfl (by kernel_rfl) (by kernel_rfl) (by kernel_rfl) (fun _ _ _ h => h) (Or.inl ⟨by kernel_rfl, ?_⟩) hH ?_
                · intro w hSw
                  (try dsimp only at hSw)
                  go_simp
                  try with_reducible rfl
                simp only [List.getElem_toArray, List.getElem_cons_succ, List.getElem_cons_zero, Act.put, List.setIfInBounds_toArray, List.set_cons_zero, List.set_cons_succ]
                refine wpAnyH_take (i := 29) (v := .string (⟨#[60]⟩ ++ mk8 x.nm)) rfl (by kernel_rfl) (by kernel_rfl) (by kernel_rfl) (fun _ _ _ h => h) (Or.inl ⟨by kernel_rfl, ?_⟩) hH ?_
                · intro w hSw
                  (try dsimp only at hSw)
                  go_simp
                  try with_reducible rfl
                simp only [List.getElem_toArray, List.getElem_cons_succ, List.getElem_cons_zero, Act.put, List.setIfInBounds_toArray, List.set_cons_zero, List.set_cons_succ]
                refine wpAnyH_take (i := 30) (v := .string (⟨#[60]⟩ ++ mk8 x.nm ++ ⟨#[44, 32, 76, 97, 115, 116, 62]⟩)) rfl (by kernel_rfl) (by kernel_rfl) (by kernel_rfl) (fun _ _ _ h => h) (Or.inl ⟨by kernel_rfl, ?_⟩) hH ?_
                · intro w hSw
                  (try dsimp only at hSw)
                  go_simp
                  try with_reducible rfl
                simp only [List.getElem_toArray, List.getElem_cons_succ, List.getElem_cons_zero, Act.put, List.setIfInBounds_toArray, List.set_cons_zero, List.set_cons_succ]
                refine wpAnyH_take (i := 31) (v := .slice (some ⟨b, off, none⟩) n c) rfl (by kernel_rfl) (by kernel_rfl) (by kernel_rfl) (fun _ _ _ h => h) (Or.inl ⟨by kernel_rfl, ?_⟩) hH ?_
                · intro w hSw
                  (try dsimp only at hSw)
                  go_simp
                  try with_reducible rfl
                simp only [List.getElem_toArray, List.getElem_cons_succ, List.getElem_cons_zero, Act.put, List.setIfInBounds_toArray, List.set_cons_zero, List.set_cons_succ]
                refine wpAnyH_take (i := 32) (v := .int .i64 k) rfl (by kernel_rfl) (by kernel_rfl) (by kernel_rfl) (fun _ _ _ h => h) (Or.inl ⟨by kernel_rfl, ?_⟩) hH ?_
                · intro w hSw
                  (try dsimp only at hSw)
                  go_simp
                  try with_reducible rfl
                simp only [List.getElem_toArray, List.getElem_cons_succ, List.getElem_cons_zero, Act.put, List.setIfInBounds_toArray, List.set_cons_zero, List.set_cons_succ]
                refine wpAnyH_take (i := 33) (v := .pointer (some ⟨b, off + k * 7, none⟩)) rfl (by kernel_rfl) (by kernel_rfl) (by kernel_rfl) (fun _ _ _ h => h) (Or.inl ⟨by kernel_rfl, ?_⟩) hH ?_
                · intro w hSw
                  (try dsimp only at hSw)
                  go_simp
                  try with_reducible rfl
                simp only [List.getElem_toArray, List.getElem_cons_succ, List.getElem_cons_zero, Act.put, List.setIfInBounds_toArray, List.set_cons_zero, List.set_cons_succ]
                refine wpAnyH_take (i := 34) (v := .agg #[.int .i32 x.fr, .int .i32 x.up, .string (mk8 x.nm), .string (mk8 x.ct), .int .i64 x.cl, .string (mk8 x.kd), .slice Ax x.il.length cx]) rfl (by kernel_rfl) (by kernel_rfl) (by kernel_rfl) (fun _ _ _ h => h) (Or.inl ⟨by kernel_rfl, ?_⟩) hH ?_
                · intro w hSw
                  (try dsimp only at hSw)
                  go_simp
                  try with_reducible rfl
                simp only [List.getElem_toArray, List.getElem_cons_succ, List.getElem_cons_zero, Act.put, List.setIfInBounds_toArray, List.set_cons_zero, List.set_cons_succ]
                refine wpAnyH_ready (rs := [17]) (by kernel_rfl) (by simp) ?_
                refine AllReadyH.cons rfl (fun K hK => ?_) AllReadyH.nil
                go_simp
                refine (LNS x.fr _ (firstN x.nm) _ hH.2 hfr HC1.out L1).mono ?_
                rintro e w5 ⟨rfl, hb5⟩
                refine hK.out _ _ (HMK.out _ (below_then hH.2 hb5)) (fun hHb => ?_)
                clear hK K hH
                try simp only [List.getElem_toArray, List.getElem_cons_succ, List.getElem_cons_zero, Act.put, List.setIfInBounds_toArray, List.set_cons_zero, List.set_cons_succ]
                refine wpAnyH_take (i := 18) (v := .string (mk8 acc ++ mk8 (lineL x.fr (firstN x.nm) x))) rfl (by kernel_rfl) (by kernel_rfl) (by kernel_rfl) (fun _ _ _ h => h) (Or.inl ⟨by kernel_rfl, ?_⟩) hHb ?_
                · intro w hSw
                  (try dsimp only at hSw)
                  go_simp
                  try with_reducible rfl
                simp only [List.getElem_toArray, List.getElem_cons_succ, List.getElem_cons_zero, Act.put, List.setIfInBounds_toArray, List.set_cons_zero, List.set_cons_succ]
                refine wpAnyH_ready (rs := [35]) (by kernel_rfl) (by simp) ?_
                refine AllReadyH.cons rfl (fun K hK => ?_) AllReadyH.nil
                go_simp
                refine (LNS x.up _ (lastN x.nm) _ hHb.2 hup HC2.out L2).mono ?_
                rintro e w6 ⟨rfl, hb6⟩
                refine hK.out _ _ (HMK.out _ (below_then hHb.2 hb6)) (fun hHc => ?_)
                clear hK K hHb
                try simp only [List.getElem_toArray, List.getElem_cons_succ, List.getElem_cons_zero, Act.put, List.setIfInBounds_toArray, List.set_cons_zero, List.set_cons_succ]
                refine wpAnyH_take (i := 36) (v := .string (mk8 acc ++ mk8 (lineL x.fr (firstN x.nm) x) ++ mk8 (lineL x.up (lastN x.nm) x))) rfl (by kernel_rfl) (by kernel_rfl) (by kernel_rfl) (fun _ _ _ h => h) (Or.inl ⟨by kernel_rfl, ?_⟩) hHc ?_
                · intro w hSw
                  (try dsimp only at hSw)
                  go_simp
                  try with_reducible rfl
                simp only [List.getElem_toArray, List.getElem_cons_succ, List.getElem_cons_zero, Act.put, List.setIfInBounds_toArray, List.set_cons_zero, List.set_cons_succ]
                refine wpAnyH_take (i := 37) (v := .string (mk8 acc ++ mk8 (lineL x.fr (firstN x.nm) x) ++ mk8 (lineL x.up (lastN x.nm) x))) rfl (by kernel_rfl) (by kernel_rfl) (by kernel_rfl) (fun _ _ _ h => h) (Or.inl ⟨by kernel_rfl, ?_⟩) hHc ?_
                · intro w hSw
                  (try dsimp only at hSw)
                  go_simp
                  try with_reducible rfl
                simp only [List.getElem_toArray, List.getElem_cons_succ, List.getElem_cons_zero, Act.put, List.setIfInBounds_toArray, List.set_cons_zero, List.set_cons_succ]
                refine wpAnyH_done (by kernel_rfl) ?_ _
                have hbq := hHc.2
                clear HMK LNS hHc hbn
                have hfin := hb.trans (hbq.mono hsz)
                go_wp2
                go_roundw
                case rel => exact ⟨k + 1, acc ++ rowL x, x.up, by omega, by go_num, by rw [HCAT.out], HD2, HUP.out, (fun h => by omega), by rw [List.length_append]; omega, hfin⟩
                case measure => simp [intOf]; omega
        · have hi : (n : Int) ≤ (k : Int) := by omega
          have hkn : k = n := by omega
          have hP : printS R = (acc, 0) := by
            rw [HP0.out, HD.out, List.drop_eq_nil_of_le (by rw [HRL.out]; omega)]
            rfl
          have HP := Lib.hid hP
          clear HD hP hkn
          go_wp2
          go_returns
          exact ⟨by rw [HP.out]; rfl, hb⟩
end Go.Proofs.YtagncjnbabdbmaaGreatDoor
