/- The law on what is refused, and on what is dropped: true. -/
import Derived.Test.YthfakejhkbelhaaDoorNmsQ
import Derived.Test.YthfakejhkbelhaaDoorNamI
set_option linter.unusedSimpArgs false
set_option linter.unusedVariables false
namespace Go.Proofs.YthfakejhkbelhaaDoor
open Go.RowKit Go.Lib

theorem mem_one {y : OA} {P : OA → Prop} (h : P y) : ∀ x ∈ [y], P x := fun x hx => by rw [List.mem_singleton] at hx; subst hx; exact h
/-- Lists that stand in no block of a registry stand behind what a call writes. -/
theorem own_post {w4 w' : World} {r n : Nat} {os : List TA} {A : Option Addr} {c : Nat} {v : Value} {xs : List Value} {H : Nat} (hreg : ∀ g, RegB r os A c g → g < H) (h : w4.ownsRow H 9 1 v n xs) (hst : ∀ g, g < w4.heap.size → ¬ RegB r os A c g → w'.heap[g]? = w4.heap[g]?) : w'.ownsRow H 9 1 v n xs :=
  own_sameN h fun g hg => by
    obtain ⟨h1, cur, h2⟩ := own_blk h hg
    exact hst g (box_lt h2) fun hB => by have := hreg g hB; omega
set_option maxRecDepth 20000 in
set_option maxHeartbeats 4000000 in
theorem namesKeeps_great (A : Option Addr) (n c : Nat) (ys : List OA) (y : OA) (w : World) (hE : EnvN w) (hr : OpsRd w A ys) (hyl : ys.length = n) (hn : n ≤ 9223372036854775807) (hol : ∀ y ∈ ys, y.1.ot.length ≤ 9223372036854775807) (hy : OpRd w y) (hyo : y.1.ot.length ≤ 9223372036854775807)
    (hbig : fewB (ys.map (·.1)) = false ∨ (fewB (ys.map (·.1)) = true ∧ fewB [y.1] = false)) :
    Calls Tryd.prog 4 #[.slice A n c, oV y] w fun e w' => e = .returned (.bool true) ∧ Below w.heap.size w w' := by
  obtain ⟨W1, hW1⟩ : ∃ W1, w.alloc (.cells #[.int .i64 y.1.k, .int .i64 y.1.x, .string (mk8 y.1.nm), .slice y.2.1 y.1.ot.length y.2.2] 30) = W1 := ⟨_, rfl⟩
  have hb1 : Below w.heap.size w W1 := by rw [← hW1]; exact (Below.refl _ w).alloc (Nat.le_refl _) _
  have c0 : W1.cell? ⟨w.heap.size, 0, none⟩ = some (.int .i64 y.1.k) := by rw [← hW1]; simp [go_sem]
  have c1 : W1.cell? ⟨w.heap.size, 1, none⟩ = some (.int .i64 y.1.x) := by rw [← hW1]; simp [go_sem]
  have c2 : W1.cell? ⟨w.heap.size, 2, none⟩ = some (.string (mk8 y.1.nm)) := by rw [← hW1]; simp [go_sem]
  have c3 : W1.cell? ⟨w.heap.size, 3, none⟩ = some (.slice y.2.1 y.1.ot.length y.2.2) := by rw [← hW1]; simp [go_sem]
  have NW := newL_any W1
  rcases hbig with hb | ⟨hb, hb'⟩
  · have FW := fun W h => few_any A n c ys W (hr.below h) hyl hn hol
    rw [hb] at FW
    have FW' := Lib.hid FW
    have AW := Lib.hid fun W h => awake21_any W (hE.below h)
    clear hr hy hE hyl hol hb FW hyo
    go_enter Tryd.func4, Tryd.ntmps4
    go_wp2_with fail
    refine NW.mono ?_
    rintro e w2 ⟨rfl, hL⟩
    have hb2 := below_then hb1 hL.bel
    clear NW hW1 c0 c1 c2 c3
    go_wp2_with fail
    refine (FW'.out _ hb2).mono ?_
    rintro e w3 ⟨rfl, rfl⟩
    go_wp2_with fail
    refine (AW.out _ hb2).mono ?_
    rintro e w4 ⟨rfl, hb3⟩
    go_wp2
    go_returns
    exact ⟨rfl, below_then hb2 hb3⟩
  · have FW := fun W h => few_any A n c ys W (hr.below h) hyl hn hol
    rw [hb] at FW
    have FW' := Lib.hid FW
    have AW := Lib.hid fun W h => awake21_any W (hE.below h)
    have F1 := fun W h => few1_any y W (hy.below h) hyo
    rw [hb'] at F1
    have F1' := Lib.hid F1
    clear hr hy hE hyl hol hb FW hb' F1 hyo
    go_enter Tryd.func4, Tryd.ntmps4
    go_wp2_with fail
    refine NW.mono ?_
    rintro e w2 ⟨rfl, hL⟩
    have hb2 := below_then hb1 hL.bel
    replace c0 := cell_below c0 hL.bel
    replace c1 := cell_below c1 hL.bel
    replace c2 := cell_below c2 hL.bel
    replace c3 := cell_below c3 hL.bel
    clear NW hW1
    go_wp2_with fail
    refine (FW'.out _ hb2).mono ?_
    rintro e w3 ⟨rfl, rfl⟩
    go_wp2_with fail
    refine (F1'.out _ hb2).mono ?_
    rintro e w3 ⟨rfl, hb3⟩
    have hb4 := below_then hb2 hb3
    clear hb2 c0 c1 c2 c3
    go_wp2_with fail
    refine (AW.out _ hb4).mono ?_
    rintro e w4 ⟨rfl, hb5⟩
    go_wp2
    go_returns
    exact ⟨rfl, below_then hb4 hb5⟩
set_option maxRecDepth 20000 in
set_option maxHeartbeats 8000000 in
theorem namesKeeps_small (A : Option Addr) (n c : Nat) (ys : List OA) (y : OA) (w : World) (hE : EnvN w) (hr : OpsRd w A ys) (hyl : ys.length = n) (hn : n ≤ 9223372036854775807) (hol : ∀ y ∈ ys, y.1.ot.length ≤ 9223372036854775807) (hy : OpRd w y) (hyo : y.1.ot.length ≤ 9223372036854775807)
    (hs1 : fewB (ys.map (·.1)) = true) (hs2 : fewB [y.1] = true) :
    Calls Tryd.prog 4 #[.slice A n c, oV y] w fun e w' => e = .returned (.bool true) ∧ Below w.heap.size w w' := by
  obtain ⟨W1, hW1⟩ : ∃ W1, w.alloc (.cells #[.int .i64 y.1.k, .int .i64 y.1.x, .string (mk8 y.1.nm), .slice y.2.1 y.1.ot.length y.2.2] 30) = W1 := ⟨_, rfl⟩
  have hb1 : Below w.heap.size w W1 := by rw [← hW1]; exact (Below.refl _ w).alloc (Nat.le_refl _) _
  have hz1 : w.heap.size ≤ W1.heap.size := hb1.size
  have hz1' : w.heap.size < W1.heap.size := by rw [← hW1]; simp
  have c0 : W1.cell? ⟨w.heap.size, 0, none⟩ = some (.int .i64 y.1.k) := by rw [← hW1]; simp [go_sem]
  have c1 : W1.cell? ⟨w.heap.size, 1, none⟩ = some (.int .i64 y.1.x) := by rw [← hW1]; simp [go_sem]
  have c2 : W1.cell? ⟨w.heap.size, 2, none⟩ = some (.string (mk8 y.1.nm)) := by rw [← hW1]; simp [go_sem]
  have c3 : W1.cell? ⟨w.heap.size, 3, none⟩ = some (.slice y.2.1 y.1.ot.length y.2.2) := by rw [← hW1]; simp [go_sem]
  have NW := newL_any W1
  have FW := fun W h => few_any A n c ys W (hr.below h) hyl hn hol
  rw [hs1] at FW
  have FW' := Lib.hid FW
  have AW := Lib.hid fun W h => awake21_any W (hE.below h)
  have F1 := fun W h => few1_any y W (hy.below h) hyo
  rw [hs2] at F1
  have F1' := Lib.hid F1
  have HF := Lib.hid (fewB_is hs1)
  have HF2 := Lib.hid (fewB_is hs2)
  have HYL := Lib.hid hyl
  have hn60 : n ≤ 60 := by have := HF.out.1; rw [List.length_map, hyl] at this; exact this
  have hfy := (fewO_is (HF2.out.2 y.1 (by simp))).2.1
  clear hol hyo hs1 hs2 F1 FW hyl HF2
  go_enter Tryd.func4, Tryd.ntmps4
  go_wp2_with fail
  refine NW.mono ?_
  rintro e w2 ⟨rfl, hL⟩
  have hb2 := below_then hb1 hL.bel
  have d0 := cell_below c0 hL.bel
  have d1 := cell_below c1 hL.bel
  have d2 := cell_below c2 hL.bel
  have d3 := cell_below c3 hL.bel
  clear NW hW1
  go_wp2_with fail
  refine (FW'.out _ hb2).mono ?_
  rintro e w3 ⟨rfl, rfl⟩
  go_wp2_with fail
  refine (F1'.out _ hb2).mono ?_
  rintro e w3 ⟨rfl, hb3⟩
  replace hL := hL.below hb3
  clear hb2 d0 d1 d2 d3 FW' F1' hb3
  go_wp2
  go_loopw [6] (fun i wr => ∃ k : Nat, k ≤ n ∧ i = .int .i64 k ∧ LInv W1 k wr) (fun i _ => n - (intOf i).toNat)
  case atStart => exact ⟨0, Nat.zero_le _, rfl, hL⟩
  case round =>
    obtain ⟨k, hk, rfl, hL⟩ := hrel
    have hbw := below_then hb1 hL.bel
    by_cases hlt : k < n
    · obtain ⟨⟨t, At, ct⟩, hx⟩ : ∃ x, ys[k]? = some x := ⟨_, List.getElem?_eq_getElem (by rw [HYL.out]; exact hlt)⟩
      obtain ⟨b, off, rfl, hbl, hc⟩ := (hr.below hbw).at_ (by rw [HYL.out]; omega)
      obtain ⟨e0, e1, e2, e3⟩ := op_cells hx hc
      have C := linv_round hL (hE.below hbw) (by omega) (t, At, ct) ((hr.below hbw).each _ (List.mem_of_getElem? hx)) (HF.out.2 t (List.mem_map.2 ⟨_, List.mem_of_getElem? hx, rfl⟩))
      dsimp only [oV] at C
      have hki : (k : Int) < (n : Int) := by omega
      clear hx hc hr hy c0 c1 c2 c3
      go_wp2_with fail
      refine C.mono ?_
      rintro e w1 ⟨⟨v, rfl⟩, hL1⟩
      clear C e0 e1 e2 e3 hL hbw
      go_wp2
      go_roundw
      case rel => exact ⟨k + 1, by omega, by go_num, hL1⟩
      case measure => simp [intOf]; omega
    · have hki : (n : Int) ≤ (k : Int) := by omega
      replace c0 := cell_below c0 hL.bel
      replace c1 := cell_below c1 hL.bel
      replace c2 := cell_below c2 hL.bel
      replace c3 := cell_below c3 hL.bel
      obtain ⟨os, A1, cc, hR, hI, hFw, hB⟩ := hL
      have hzw := hbw.size
      have hzr : w.heap.size < W1.heap.size := hz1'
      have hoL : (os.map (·.1)).length = os.length := List.length_map _
      have hEw := hE.below hbw
      have LI := listed_any hR hEw (good_of hI hFw (by omega))
      have hyw := hy.below hbw
      have HRL : ∀ g, RegB W1.heap.size os A1 cc g → g < wr.heap.size := fun g => hR.lt
      have HRLh := Lib.hid HRL
      have HOL := Lib.hid hoL
      obtain ⟨L, hLL⟩ : ∃ L, L = os.map (·.1) := ⟨_, rfl⟩
      have hle : os.length ≤ 256 := hR.len
      rw [← hLL] at LI hI hFw hoL
      have hLlen : L.length ≤ 256 := by omega
      have HLL := Lib.hid hLL
      have HI := Lib.hid (And.intro hI hFw)
      have hfw2 : ∀ x ∈ os, x.1.ot.length + y.1.ot.length ≤ 1000000 := fun x hx => by have := hFw.2 x.1 (by rw [hLL]; exact List.mem_map_of_mem hx); omega
      have HFW := Lib.hid hfw2
      clear hr hy HRL hoL HF HOL hfw2 hI hFw hLL hle
      go_wp2_with fail
      refine LI.mono ?_
      rintro e w2 ⟨A2, c2', rfl, hown2, hb2⟩
      have hR2 := hR.below hb2
      have OT := OthersQ_any hR2 y.1.nm (hEw.below hb2)
      rw [← HLL.out] at OT
      have f2 := cell_below c2 hb2
      clear LI
      go_wp2_with fail
      refine OT.mono ?_
      rintro e w3 ⟨A3, ls, c3', f, rfl, hown3, HO1, HO2, hb3⟩
      have hR3 := hR2.below hb3
      have hbs3 := below_then hb2 hb3
      have FD := FindQ_any hR3 y.1.nm ((hEw.below hb2).below hb3)
      rw [← HLL.out] at FD
      have f3 := cell_below f2 hb3
      clear OT f2
      go_wp2_with fail
      refine FD.mono ?_
      rintro e w4 ⟨x4, nm4, f4, rfl, HF1, HF2, hb4⟩
      have hR4 := hR3.below hb4
      have hbs4 := below_then hbs3 hb4
      have hE4 := hEw.below hbs4
      have CA := calls_any hR4 hE4 y.1.k y.1.x y.1.nm y.2.1 y.1.ot.length y.2.2 y.1.ot (hyw.below hbs4).ot hyw.nil (by omega) hyw.cap HFW.out
      have hown24 := own_below hown2 (below_then hb3 hb4)
      have hown34 := own_base (own_below hown3 hb4) hb2.size
      obtain ⟨v, hv⟩ : ∃ v, v = (opD L y.1).2 := ⟨_, rfl⟩
      obtain ⟨L5, hl5⟩ : ∃ L5, L5 = (opD L y.1).1 := ⟨_, rfl⟩
      unfold opD at hv hl5
      rw [← HLL.out, ← hv, ← hl5] at CA
      have HV : Hid (v = (opD L y.1).2 ∧ L5 = (opD L y.1).1) := ⟨hv, hl5⟩
      have g0 := cell_below c0 hbs4
      have g1 := cell_below c1 hbs4
      have g2 := cell_below c2 hbs4
      have g3 := cell_below c3 hbs4
      have hb04 := below_then hbw hbs4
      clear FD f3 c0 c1 c2 c3 hv hl5 hown2 hown3 hR2 hR3 hb2 hb3 hbs3 hb4 hbs4 hEw hE4 hbw hR hyw
      go_wp2_with fail
      refine CA.mono ?_
      rintro e w5 ⟨rfl, os', A', c', hL5, hR5, hb5, hst5, _⟩
      have k0 : w5.cell? ⟨w.heap.size, 0, none⟩ = some (.int .i64 y.1.k) := (hb5.cell (p := ⟨w.heap.size, 0, none⟩) hzr).trans g0
      have hb05 := hb04.trans (hb5.mono hz1)
      have hE5 := hE.below hb05
      have hI5 : Reg1 L5 := by rw [HV.out.2]; exact reg1_op HI.out.1 y.1
      have hF5 : FewR (k + 1) L5 := by rw [HV.out.2]; exact fewR_op HI.out.2 y.1 hfy
      have LI2 := listed_any hR5 hE5 (by rw [hL5]; exact good_of hI5 hF5 (by omega))
      rw [hL5] at LI2
      have hown25 := own_post HRLh.out hown24 hst5
      have hown35 := own_post HRLh.out hown34 hst5
      have HL5 := Lib.hid hL5
      have hst := Lib.hid hst5
      clear CA g0 g1 g2 g3 hL5 hst5 hown24 hown34 hR4 hI5 hF5 hb5 hb04
      go_wp2_with fail
      refine LI2.mono ?_
      rintro e w6 ⟨A6, c6, rfl, hown6, hb6⟩
      have hR6 := hR5.below hb6
      have hb06 := below_then hb05 hb6
      have hE6 := hE5.below hb6
      have j0 := cell_below k0 hb6
      have hown26 := own_below hown25 hb6
      have hown36 := own_below hown35 hb6
      have hL5len : L5.length ≤ 1000 := by
        have := (fewR_op HI.out.2 y.1 hfy).1
        rw [HV.out.2]
        omega
      clear LI2 hown25 hown35 hR5 hb05 hE5 k0
      by_cases hv0 : v = 0
      · by_cases hk01 : y.1.k = 0 ∨ y.1.k = 1
        · have hge := Lib.hid (opD_grows (o := y.1) (L := L) hk01 (by rw [← HV.out.1]; exact hv0))
          have hgl : (L.length : Int) ≤ (L5.length : Int) := by have := hge.out; rw [HV.out.2]; omega
          have hgl2 : ((L5.length : Int) < (L.length : Int)) = False := by simp; omega
          subst hv0
          have AW' := AW.out _ hb06
          have hcase : (y.1.k == 0) = true ∨ ((y.1.k == 0) = false ∧ (y.1.k == 1) = true) := by
            rcases hk01 with h | h
            · left; rw [h]; rfl
            · right; rw [h]; exact ⟨rfl, rfl⟩
          clear hk01 hown26 hown36 hown6 hR6 hge hgl2
          rcases hcase with q0 | ⟨q0, q1⟩
          all_goals
            go_wp2_with fail
            refine AW'.mono ?_
            rintro e w7 ⟨rfl, hb7⟩
            go_wp2
            go_returns
            exact ⟨rfl, below_then hb06 hb7⟩
        · have HK : Hid (opD L y.1 = dropN L y.1.nm) := by
            show _ = _
            unfold opD opN
            rw [if_neg (fun h => hk01 (.inl h)), if_neg (fun h => hk01 (.inr h))]
          have q0 : (y.1.k == 0) = false := beq_eq_false_iff_ne.2 fun h => hk01 (.inl h)
          have q1 : (y.1.k == 1) = false := beq_eq_false_iff_ne.2 fun h => hk01 (.inr h)
          obtain ⟨i, hi, hd⟩ := dropN_yes (L := L) (nm := y.1.nm) (by rw [← HK.out, ← HV.out.1]; exact hv0)
          have hL5e : L5 = L.eraseIdx i := by rw [HV.out.2, HK.out, hd]
          obtain ⟨t, ht, rfl, rfl⟩ := HO1.out i hi
          obtain ⟨t', ht', hx4, hn4, hf4⟩ := HF1.out i hi
          obtain rfl : t = t' := by rw [ht] at ht'; injection ht'
          have hno := (reg1_erase HI.out.1 ht).2
          rw [← hL5e] at hno
          have hlen : (L5.length : Int) = (L.length : Int) - 1 := by
            have hlt := atF_lt hi
            rw [hL5e, List.length_eraseIdx_of_lt hlt]
            omega
          have hlen1 : ((L5.length : Int) != (L.length : Int) - 1) = false := by simp [hlen]
          have hlen2 : (1 : Int) ≤ (L.length : Int) := by have hlt := atF_lt hi; omega
          have FD := FindQ_any hR6 nm4 hE6
          rw [HL5.out] at FD
          have hn0 : atF nm4 L5 = none := by rw [hn4]; exact hno _ (by simp [namesT])
          have HNO := Lib.hid hno
          have HN0 := Lib.hid hn0
          have htl : t.ot.length ≤ 1000000 := by
            have := HI.out.2.2 t (List.mem_of_getElem? ht)
            omega
          subst hv0
          have hwr : wrap64 ((L.length : Int) - 1) = (L.length : Int) - 1 := by
            unfold wrap64
            omega
          clear hk01 hno hlen hd hi hL5e ht ht' hx4 hn4 hf4 hn0 hwr HV
          go_wp2_with fail
          refine FD.mono ?_
          rintro e w7 ⟨x7, nm7, f7, rfl, HG1, HG2, hb7⟩
          obtain ⟨rfl, rfl, rfl⟩ := HG2.out HN0.out
          have hR7 := hR6.below hb7
          have hb07 := below_then hb06 hb7
          have hown37 := own_below hown36 hb7
          obtain ⟨A7, c7, he7, _, _, hrd7⟩ := Rd.of_own hown37
          injection he7 with he7 _ he8
          subst he7 he8
          clear FD hR6 hb7 hown37 hown36 hown26 hown6 hb06 hE6 j0 HG1 HG2 hb6
          go_wp2
          go_loopw [20] (fun i wr => ∃ k : Nat, k ≤ t.ot.length ∧ i = .int .i64 k ∧ Below w7.heap.size w7 wr) (fun i _ => t.ot.length - (intOf i).toNat)
          case atStart => exact ⟨0, Nat.zero_le _, rfl, Below.refl _ _⟩
          case round =>
            obtain ⟨m, hm, rfl, hbm⟩ := hrel
            by_cases hml : m < t.ot.length
            · obtain ⟨u, hu⟩ : ∃ u, t.ot[m]? = some u := ⟨_, List.getElem?_eq_getElem hml⟩
              obtain ⟨b, off, rfl, _, hcx⟩ := (hrd7.below hbm).at_ (by omega)
              have cu := hcx m (.string (mk8 u)) (by simp [Ss, hu])
              have FD := FindQ_any (hR7.below hbm) u (hE.below (below_then hb07 hbm))
              rw [HL5.out] at FD
              have hn0 : atF u L5 = none := HNO.out _ (by simp [namesT, List.mem_of_getElem? hu])
              have HN0 := Lib.hid hn0
              have hmi : (m : Int) < (t.ot.length : Int) := by omega
              clear hcx hu hn0 hrd7 hR7
              go_wp2_with fail
              refine FD.mono ?_
              rintro e w8 ⟨x8, nm8, f8, rfl, HG1, HG2, hb8⟩
              obtain ⟨rfl, rfl, rfl⟩ := HG2.out HN0.out
              have hbm2 := below_then hbm hb8
              clear FD hbm hb8 HG1 HG2 cu
              go_wp2
              go_roundw
              case rel => exact ⟨m + 1, by omega, by go_num, hbm2⟩
              case measure => simp [intOf]; omega
            · have hmi : (t.ot.length : Int) ≤ (m : Int) := by omega
              have hb08 := below_then hb07 hbm
              have AW' := AW.out _ hb08
              clear hrd7 hR7
              go_wp2_with fail
              refine AW'.mono ?_
              rintro e w9 ⟨rfl, hb9⟩
              go_wp2
              go_returns
              exact ⟨rfl, below_then hb08 hb9⟩
      · have hLe : L5 = L := by rw [HV.out.2]; exact opD_same (by rw [← HV.out.1]; exact hv0)
        subst hLe
        obtain ⟨A7, c7, he7, _, _, hrd2⟩ := Rd.of_own hown26
        injection he7 with he7 _ he8
        subst he7 he8
        obtain ⟨A8, c8, he9, _, _, hrd6⟩ := Rd.of_own hown6
        injection he9 with he9 _ he0
        subst he9 he0
        have TX := texts_any A2 A6 L5.length L5.length c2' c6 (listS L5) (listS L5) w6 hrd2 hrd6 (by omega) (by omega)
        rw [decide_eq_true rfl] at TX
        have q0 : (v == 0) = false := beq_eq_false_iff_ne.2 hv0
        have q1 : (v != 0) = true := by simp [hv0]
        clear hv0 hrd2 hrd6 hown26 hown6 hown36 hR6
        go_wp2_with fail
        refine TX.mono ?_
        rintro e w7 ⟨rfl, hd7⟩
        have hb07 := below_then hb06 hd7.to
        have AW' := AW.out _ hb07
        clear TX hd7
        go_wp2_with fail
        refine AW'.mono ?_
        rintro e w8 ⟨rfl, hb8⟩
        go_wp2
        go_returns
        exact ⟨rfl, below_then hb07 hb8⟩
theorem namesKeeps_yes (A : Option Addr) (n c : Nat) (ys : List OA) (y : OA) (w : World) (hE : EnvN w) (hr : OpsRd w A ys) (hyl : ys.length = n) (hn : n ≤ 9223372036854775807) (hol : ∀ y ∈ ys, y.1.ot.length ≤ 9223372036854775807) (hy : OpRd w y) (hyo : y.1.ot.length ≤ 9223372036854775807) :
    Calls Tryd.prog 4 #[.slice A n c, oV y] w fun e w' => e = .returned (.bool true) ∧ Below w.heap.size w w' := by
  cases h1 : fewB (ys.map (·.1)) with
  | false => exact namesKeeps_great A n c ys y w hE hr hyl hn hol hy hyo (.inl h1)
  | true =>
    cases h2 : fewB [y.1] with
    | false => exact namesKeeps_great A n c ys y w hE hr hyl hn hol hy hyo (.inr ⟨h1, h2⟩)
    | true => exact namesKeeps_small A n c ys y w hE hr hyl hn hol hy hyo h1 h2
end Go.Proofs.YthfakejhkbelhaaDoor
