/- The law on what printed rows tell: true. -/
import Derived.Test.YtagncjnbabdbmaaDoorUcdPr2
set_option linter.unusedSimpArgs false
set_option linter.unusedVariables false
namespace Go.Proofs.YtagncjnbabdbmaaDoor
open Go.RowKit Go.Shelf

theorem get_sameP {os os2 : List RA} {r : List RowS} (h : os.map (·.1) = r) (h2 : os2.map (·.1) = r) {k : Nat} (hk : k < os.length) : ∃ x A c B d, os[k]? = some (x, A, c) ∧ os2[k]? = some (x, B, d) ∧ x ∈ r := by
  have hl : os2.length = os.length := by have := congrArg List.length (h.trans h2.symm); simpa using this.symm
  have h1 : os[k]? = some os[k] := List.getElem?_eq_getElem hk
  have h3 : os2[k]? = some (os2[k]'(by omega)) := List.getElem?_eq_getElem (by omega)
  have e1 : r[k]? = some os[k].1 := by rw [← h, List.getElem?_map, h1]; rfl
  have e2 : r[k]? = some (os2[k]'(by omega)).1 := by rw [← h2, List.getElem?_map, h3]; rfl
  have e3 : (os2[k]'(by omega)).1 = os[k].1 := by rw [e1] at e2; injection e2 with e2; exact e2.symm
  exact ⟨os[k].1, os[k].2.1, os[k].2.2, (os2[k]'(by omega)).2.1, (os2[k]'(by omega)).2.2, h1, by rw [h3, ← e3], List.mem_of_getElem? e1⟩
set_option maxRecDepth 20000 in
theorem plain5P_any (x : RowS) (A : Option Addr) (c : Nat) (w : World) :
    Calls Tryd.prog 38 #[rowV x A c] w fun e w' => e = .returned (rowV x A c) ∧ Below w.heap.size w w' := by
  obtain ⟨xf, xu, xn, xct, xcl, xk, xil⟩ := x
  simp only [rowV]
  go_enter Tryd.func38, Tryd.ntmps38
  go_wp2
  go_returns
  refine ⟨rfl, ?_⟩
  exact ((Below.refl _ _).alloc (Nat.le_refl _) _).alloc (by simp) _
theorem keep14P {A B : World → Prop} {w0 w w' : World} (MK : ∀ w', Below w0.heap.size w0 w' → A w' ∧ B w' ∧ Below w0.heap.size w0 w') (h : A w ∧ B w ∧ Below w0.heap.size w0 w) (hb : Below w.heap.size w w') : A w' ∧ B w' ∧ Below w0.heap.size w0 w' := MK _ (below_then h.2.2 hb)
theorem keepBP {A B : World → Prop} {w0 w : World} (MK : ∀ w', Below w0.heap.size w0 w' → A w' ∧ B w' ∧ Below w0.heap.size w0 w') (h : A w ∧ B w ∧ Below w0.heap.size w0 w) : Below w0.heap.size w0 w := h.2.2
theorem print_err {l : List RowS} (h : (printS l).2 ≠ 0) : (printS l).1 = [] := by
  have hw : ∀ (l : List RowS) (acc : List UInt8) (was : Int), (printW acc was l).2 ≠ 0 → (printW acc was l).1 = [] := by
    intro l
    induction l with
    | nil => intro acc was h; exact absurd rfl h
    | cons x t ih =>
      intro acc was h
      unfold printW at h ⊢
      split
      · rfl
      · rename_i h1
        rw [if_neg h1] at h
        exact ih _ _ h
  unfold printS at *
  split
  · rfl
  · rename_i h1
    rw [if_neg h1] at h
    exact hw _ _ _ h
theorem print_len {l : List RowS} {s : List UInt8} (hp : printS l = (s, 0)) (hl : l.length ≤ 40) (hk : ∀ x ∈ l, x.kd.length ≤ 50) : s.length ≤ 160000 := by
  unfold printS at hp
  split at hp
  · rename_i h
    simp only [Prod.mk.injEq] at hp
    exact absurd hp.2 h
  · rename_i h
    have hg : ∀ x ∈ l, RowG x := fun x hx => rowG (firstBad_ok (Classical.not_not.1 h) x hx)
    have hw : ∀ (l : List RowS) (acc : List UInt8) (was : Int) (s : List UInt8), (∀ x ∈ l, RowG x) → (∀ x ∈ l, x.kd.length ≤ 50) → printW acc was l = (s, 0) → s.length ≤ acc.length + 4000 * l.length := by
      intro l
      induction l with
      | nil =>
        intro acc was s _ _ h
        simp only [printW, Prod.mk.injEq, and_true] at h
        subst h
        simp
      | cons x t ih =>
        intro acc was s h1 h2 h
        unfold printW at h
        split at h
        · simp at h
        · have h3 := ih _ _ _ (fun y hy => h1 y (by simp [hy])) (fun y hy => h2 y (by simp [hy])) h
          have h4 := row_le (h1 x (by simp)) (by have := h2 x (by simp); omega)
          rw [List.length_append] at h3
          rw [List.length_cons]
          omega
    have := hw l [] (-1) s hg hk hp
    simp at this
    omega
/-- What a row of an argument has. -/
structure RowJ (x : RowS) : Prop where
  fr : -2147483648 ≤ x.fr ∧ x.fr ≤ 2147483647
  up : -2147483648 ≤ x.up ∧ x.up ≤ 2147483647
  cl : -9223372036854775808 ≤ x.cl ∧ x.cl ≤ 9223372036854775807
  nm : x.nm.length ≤ 9223372036854775807
  ct : x.ct.length ≤ 9223372036854775807
  kd : x.kd.length ≤ 9223372036854775807
  len : x.il.length ≤ 9223372036854775807
  il : ∀ z ∈ x.il, -2147483648 ≤ z ∧ z ≤ 2147483647
theorem take_rows {os : List RA} {k : Nat} {x : RA} {P : RA → Prop} (h : ∀ y ∈ os.take k, P y) (hx : os[k]? = some x) (hp : P x) : ∀ y ∈ os.take (k + 1), P y := by
  intro y hy
  rw [List.take_add_one, hx] at hy
  rcases List.mem_append.1 hy with hy | hy
  · exact h y hy
  · simp at hy
    subst hy
    exact hp
set_option maxRecDepth 20000 in
set_option maxHeartbeats 8000000 in
theorem ucdback_yes (A : Option Addr) (n c : Nat) (os : List RA) (w : World) (hE : Env w) (hT : TabP w) (hr : RowsRd w A os) (hn : os.length = n) (ho : ∀ x ∈ os, RowJ x.1) :
    Calls Tryd.prog 11 #[.slice A n c] w fun e w' => e = .returned (.bool true) ∧ Below w.heap.size w w' := by
  have HOL := Lib.hid hn
  have HO := Lib.hid ho
  clear hn ho
  by_cases hbig : 40 < n
  · have hb : (40 : Int) < (n : Int) := by omega
    go_enter Tryd.func11, Tryd.ntmps11
    go_wp2_with fail
    refine (awake5_any _ hE).mono ?_
    rintro e w1 ⟨rfl, hb1⟩
    go_wp2
    go_returns
    exact ⟨rfl, hb1⟩
  · have hni : (n : Int) ≤ 40 := by omega
    have hn40 : n ≤ 40 := by omega
    clear hbig
    go_enter Tryd.func11, Tryd.ntmps11
    go_wp2
    go_loopw [3] (fun i wr => ∃ k : Nat, k ≤ n ∧ i = .int .i64 k ∧ Hid (∀ x ∈ os.take k, x.1.kd.length ≤ 50) ∧ Below w.heap.size w wr) (fun i _ => n - (intOf i).toNat)
    case atStart => exact ⟨0, Nat.zero_le _, rfl, (by show ∀ x ∈ os.take 0, _; simp), Below.refl _ _⟩
    case round =>
      obtain ⟨k, hk, rfl, HS, hb⟩ := hrel
      by_cases hlt : k < n
      · have hi : (k : Int) < (n : Int) := by omega
        obtain ⟨⟨x, Ax, cx⟩, hx⟩ : ∃ z, os[k]? = some z := ⟨_, List.getElem?_eq_getElem (by rw [HOL.out]; exact hlt)⟩
        obtain ⟨b, off, rfl, hbl, hcx⟩ := (hr.below hb).at_ (by rw [HOL.out]; omega)
        obtain ⟨x0, x1, x2, x3, x4, x5, x6⟩ := row_cells hx hcx
        have hms := mk8_size x.kd
        by_cases hkb : 50 < x.kd.length
        · have hki : (50 : Int) < ((mk8 x.kd).size : Int) := by omega
          clear hcx hx hms hkb x0 x1 x2 x3 x4 x6 HS
          go_wp2_with fail
          refine (awake5_any _ (hE.below hb)).mono ?_
          rintro e w21 ⟨rfl, hbn⟩
          go_wp2
          go_returns
          exact ⟨rfl, below_then hb hbn⟩
        · have hki : ((mk8 x.kd).size : Int) ≤ 50 := by omega
          have HS2 : Hid (∀ x ∈ os.take (k + 1), x.1.kd.length ≤ 50) := take_rows (P := fun x => x.1.kd.length ≤ 50) HS.out hx (by show x.kd.length ≤ 50; omega)
          clear hcx hx hms hkb x0 x1 x2 x3 x4 x6 HS
          go_wp2
          go_roundw
          case rel => exact ⟨k + 1, by omega, by go_num, HS2, hb⟩
          case measure => simp [intOf]; omega
      · have hi : (n : Int) ≤ (k : Int) := by omega
        have hkn : k = n := by omega
        have hkd : ∀ x ∈ os, x.1.kd.length ≤ 50 := by
          have := HS.out
          rwa [List.take_of_length_le (by rw [HOL.out]; omega)] at this
        obtain ⟨R, hR⟩ : ∃ R, R = os.map (·.1) := ⟨_, rfl⟩
        have PR := print_any A n c os wr (tabP_below hT hb) (hr.below hb) HOL.out (fun x hx => ⟨(HO.out x hx).fr, (HO.out x hx).up, (HO.out x hx).cl, (HO.out x hx).nm, (HO.out x hx).ct, by have := hkd x hx; omega, (HO.out x hx).len, (HO.out x hx).il⟩) (by omega)
        rw [← hR] at PR
        have hRl : R.length ≤ 40 := by rw [hR, List.length_map, HOL.out]; exact hn40
        have hRk : ∀ x ∈ R, x.kd.length ≤ 50 := by
          intro x hx
          rw [hR] at hx
          obtain ⟨y, hy, rfl⟩ := List.mem_map.1 hx
          exact hkd y hy
        have HR : Hid (os.map (·.1) = R) := hR.symm
        have herr := print_err (l := R)
        have hback := fun s h => rows_print (l := R) (s := s) h hRl hRk
        have hslen := fun s h => print_len (l := R) (s := s) h hRl hRk
        obtain ⟨⟨s, e⟩, hse⟩ : ∃ z, z = printS R := ⟨_, rfl⟩
        rw [← hse] at PR herr hback hslen
        simp only [] at PR herr
        clear hse hkd hR HS hRk hRl hkn
        by_cases he : e = 0
        · subst he
          have hrs := hback s rfl
          have hsl := hslen s rfl
          have RW := fun w h => rows_any (mk8 s) w h (by rw [mk8_size]; omega)
          rw [bs_mk8, hrs] at RW
          have hil := rows_il s
          rw [hrs] at hil
          have HIL := Lib.hid hil
          clear hil
          clear hback hslen herr hrs hsl
          go_wp2_with fail
          refine PR.mono ?_
          rintro e w1 ⟨rfl, hb1⟩
          have hb2 := below_then hb hb1
          clear PR hb1
          go_wp2_with fail
          refine (RW _ (hE.below hb2)).mono ?_
          rintro e w2 ⟨os2, A2, c2, hos2, rfl, hra, hb3⟩
          have hbw := below_then hb2 hb3
          have hr2 := hra.rd
          have hl2 : os2.length = n := by
            have := congrArg List.length (hos2.trans HR.out.symm)
            simp only [List.length_map] at this
            rw [this]; exact HOL.out
          have hrw := hr.below hbw
          have hEw := hE.below hbw
          have HK := Lib.hid (And.intro hrw (And.intro hr2 (And.intro hos2 (And.intro HR.out (And.intro HOL.out hl2)))))
          have hzw := hbw.size
          have HBW := Lib.hid hbw
          rw [hl2]
          clear RW hra hb2 hb3 hb hr hr2 hrw hos2 hl2 hbw hT hE
          have hne : ((n : Int) != (n : Int)) = false := by simp
          go_wp2
          go_loopw [9] (fun i wr => ∃ k : Nat, k ≤ n ∧ i = .int .i64 k ∧ Below w2.heap.size w2 wr) (fun i _ => n - (intOf i).toNat)
          case atStart => exact ⟨0, Nat.zero_le _, rfl, Below.refl _ _⟩
          case round =>
            obtain ⟨k, hk, rfl, hb⟩ := hrel
            by_cases hlt : k < n
            · obtain ⟨x, Ax, cx, Bx, dx, hx1, hx2, hxr⟩ := get_sameP HK.out.2.2.1 HK.out.2.2.2.1 (k := k) (by rw [HK.out.2.2.2.2.2]; exact hlt)
              have hi : (k : Int) < (n : Int) := by omega
              have r4 := HK.out.2.1.below hb
              have r3 := HK.out.1.below hb
              have hA := r4.into _ (List.mem_of_getElem? hx1)
              have hB := r3.into _ (List.mem_of_getElem? hx2)
              obtain ⟨b1, o1, rfl, hbl, hcx⟩ := r4.at_ (by rw [HK.out.2.2.2.2.2]; omega)
              obtain ⟨b2, o2, hAe, hbl2, hcy⟩ := r3.at_ (by rw [HK.out.2.2.2.2.1]; omega)
              subst hAe
              have MK : ∀ w', Below wr.heap.size wr w' → (w'.cell? ⟨b1, o1 + k * 7, none⟩ = some (.int .i32 x.fr) ∧ w'.cell? ⟨b1, o1 + k * 7 + 1, none⟩ = some (.int .i32 x.up) ∧ w'.cell? ⟨b1, o1 + k * 7 + 2, none⟩ = some (.string (mk8 x.nm)) ∧ w'.cell? ⟨b1, o1 + k * 7 + 3, none⟩ = some (.string (mk8 x.ct)) ∧ w'.cell? ⟨b1, o1 + k * 7 + 4, none⟩ = some (.int .i64 x.cl) ∧ w'.cell? ⟨b1, o1 + k * 7 + 5, none⟩ = some (.string (mk8 x.kd)) ∧ w'.cell? ⟨b1, o1 + k * 7 + 6, none⟩ = some (.slice Ax x.il.length cx)) ∧ (w'.cell? ⟨b2, o2 + k * 7, none⟩ = some (.int .i32 x.fr) ∧ w'.cell? ⟨b2, o2 + k * 7 + 1, none⟩ = some (.int .i32 x.up) ∧ w'.cell? ⟨b2, o2 + k * 7 + 2, none⟩ = some (.string (mk8 x.nm)) ∧ w'.cell? ⟨b2, o2 + k * 7 + 3, none⟩ = some (.string (mk8 x.ct)) ∧ w'.cell? ⟨b2, o2 + k * 7 + 4, none⟩ = some (.int .i64 x.cl) ∧ w'.cell? ⟨b2, o2 + k * 7 + 5, none⟩ = some (.string (mk8 x.kd)) ∧ w'.cell? ⟨b2, o2 + k * 7 + 6, none⟩ = some (.slice Bx x.il.length dx)) ∧ Below wr.heap.size wr w' := fun w' hb' =>
                ⟨⟨cell_belowU (row_cells hx1 hcx).1 hb', cell_belowU (row_cells hx1 hcx).2.1 hb', cell_belowU (row_cells hx1 hcx).2.2.1 hb', cell_belowU (row_cells hx1 hcx).2.2.2.1 hb', cell_belowU (row_cells hx1 hcx).2.2.2.2.1 hb', cell_belowU (row_cells hx1 hcx).2.2.2.2.2.1 hb', cell_belowU (row_cells hx1 hcx).2.2.2.2.2.2 hb'⟩,
                 ⟨cell_belowU (row_cells hx2 hcy).1 hb', cell_belowU (row_cells hx2 hcy).2.1 hb', cell_belowU (row_cells hx2 hcy).2.2.1 hb', cell_belowU (row_cells hx2 hcy).2.2.2.1 hb', cell_belowU (row_cells hx2 hcy).2.2.2.2.1 hb', cell_belowU (row_cells hx2 hcy).2.2.2.2.2.1 hb', cell_belowU (row_cells hx2 hcy).2.2.2.2.2.2 hb'⟩, hb'⟩
              have hxl : x.il.length ≤ 18 := HIL.out x hxr
              have HP := fun w' => plain5P_any x Bx dx w'
              have HS := fun w' (hb' : Below wr.heap.size wr w') => same_eq x Ax Bx cx dx w' (hA.below hb') (hB.below hb') (by omega)
              simp only [rowV] at HS HP
              have HBB := Lib.hid hb
              clear hcx hcy hx1 hx2 hA hB r4 r3 hb
              go_wp2
              go_region_held3 (fun w' => (w'.cell? ⟨b1, o1 + k * 7, none⟩ = some (.int .i32 x.fr) ∧ w'.cell? ⟨b1, o1 + k * 7 + 1, none⟩ = some (.int .i32 x.up) ∧ w'.cell? ⟨b1, o1 + k * 7 + 2, none⟩ = some (.string (mk8 x.nm)) ∧ w'.cell? ⟨b1, o1 + k * 7 + 3, none⟩ = some (.string (mk8 x.ct)) ∧ w'.cell? ⟨b1, o1 + k * 7 + 4, none⟩ = some (.int .i64 x.cl) ∧ w'.cell? ⟨b1, o1 + k * 7 + 5, none⟩ = some (.string (mk8 x.kd)) ∧ w'.cell? ⟨b1, o1 + k * 7 + 6, none⟩ = some (.slice Ax x.il.length cx)) ∧ (w'.cell? ⟨b2, o2 + k * 7, none⟩ = some (.int .i32 x.fr) ∧ w'.cell? ⟨b2, o2 + k * 7 + 1, none⟩ = some (.int .i32 x.up) ∧ w'.cell? ⟨b2, o2 + k * 7 + 2, none⟩ = some (.string (mk8 x.nm)) ∧ w'.cell? ⟨b2, o2 + k * 7 + 3, none⟩ = some (.string (mk8 x.ct)) ∧ w'.cell? ⟨b2, o2 + k * 7 + 4, none⟩ = some (.int .i64 x.cl) ∧ w'.cell? ⟨b2, o2 + k * 7 + 5, none⟩ = some (.string (mk8 x.kd)) ∧ w'.cell? ⟨b2, o2 + k * 7 + 6, none⟩ = some (.slice Bx x.il.length dx)) ∧ Below wr.heap.size wr w') (first | exact MK _ (Drew.to ⟨1, rfl⟩) | assumption | (refine keep14P MK ?_ hb5; assumption) | (refine keep14P MK ?_ hb6; assumption))
                (first
                  | (go_at_call 38; refine (HP _).mono ?_; rintro e w5 ⟨rfl, hb5⟩)
                  | (go_at_call 37; refine (HS _ (keepBP MK ?_)).mono ?_; assumption; rintro e w6 ⟨rfl, hb6⟩))
              all_goals
                have hb7 : (w6.cell? ⟨b1, o1 + k * 7, none⟩ = some (.int .i32 x.fr) ∧ w6.cell? ⟨b1, o1 + k * 7 + 1, none⟩ = some (.int .i32 x.up) ∧ w6.cell? ⟨b1, o1 + k * 7 + 2, none⟩ = some (.string (mk8 x.nm)) ∧ w6.cell? ⟨b1, o1 + k * 7 + 3, none⟩ = some (.string (mk8 x.ct)) ∧ w6.cell? ⟨b1, o1 + k * 7 + 4, none⟩ = some (.int .i64 x.cl) ∧ w6.cell? ⟨b1, o1 + k * 7 + 5, none⟩ = some (.string (mk8 x.kd)) ∧ w6.cell? ⟨b1, o1 + k * 7 + 6, none⟩ = some (.slice Ax x.il.length cx)) ∧ (w6.cell? ⟨b2, o2 + k * 7, none⟩ = some (.int .i32 x.fr) ∧ w6.cell? ⟨b2, o2 + k * 7 + 1, none⟩ = some (.int .i32 x.up) ∧ w6.cell? ⟨b2, o2 + k * 7 + 2, none⟩ = some (.string (mk8 x.nm)) ∧ w6.cell? ⟨b2, o2 + k * 7 + 3, none⟩ = some (.string (mk8 x.ct)) ∧ w6.cell? ⟨b2, o2 + k * 7 + 4, none⟩ = some (.int .i64 x.cl) ∧ w6.cell? ⟨b2, o2 + k * 7 + 5, none⟩ = some (.string (mk8 x.kd)) ∧ w6.cell? ⟨b2, o2 + k * 7 + 6, none⟩ = some (.slice Bx x.il.length dx)) ∧ Below wr.heap.size wr w6 := by assumption
                have hb8 := HBB.out.trans (hb7.2.2.mono HBB.out.size)
                clear HS HP hb7 MK
                go_wp2
                go_roundw
                case rel => exact ⟨k + 1, by omega, by go_num, hb8⟩
                case measure => simp [intOf]; omega
            · have hi : (n : Int) ≤ (k : Int) := by omega
              have hbx := below_then HBW.out hb
              go_wp2_with fail
              refine (awake5_any _ (hEw.below hb)).mono ?_
              rintro e w21 ⟨rfl, hbn⟩
              go_wp2
              go_returns
              exact ⟨rfl, below_then hbx hbn⟩
        · have hs := herr he
          subst hs
          have hn1 : (e == 0) = false := by simpa using he
          have hn2 : (e != 0) = true := by simpa using he
          have hse : (mk8 []).toList.isEmpty = true := by rw [mk8_empty]; simp
          have hse2 : (mk8 []).toList = [] := by rw [toList_bs]; rfl
          have hse3 := str_eq_self (mk8 [])
          clear hback hslen herr
          go_wp2_with fail
          refine PR.mono ?_
          rintro q w1 ⟨rfl, hb1⟩
          have hb2 := below_then hb hb1
          have hE2 := hE.below hb2
          clear PR hb1
          go_wp2_with fail
          refine (awake5_any _ hE2).mono ?_
          rintro q w2 ⟨rfl, hb3⟩
          go_wp2
          go_returns
          exact ⟨rfl, below_then hb2 hb3⟩
end Go.Proofs.YtagncjnbabdbmaaDoor
