/- The law on what is added: true. -/
import Derived.Test.YthfakejhkbelhaaDoorNmsR
set_option linter.unusedSimpArgs false
set_option linter.unusedVariables false
namespace Go.Proofs.YthfakejhkbelhaaDoor
open Go.RowKit Go.Lib

set_option maxRecDepth 20000 in
set_option maxHeartbeats 4000000 in
theorem namesAdds_great (A : Option Addr) (n c : Nat) (ys : List OA) (y : OA) (w : World) (hE : EnvN w) (hr : OpsRd w A ys) (hyl : ys.length = n) (hn : n ≤ 9223372036854775807) (hol : ∀ y ∈ ys, y.1.ot.length ≤ 9223372036854775807) (hy : OpRd w y) (hyo : y.1.ot.length ≤ 9223372036854775807)
    (hbig : fewB (ys.map (·.1)) = false ∨ (fewB (ys.map (·.1)) = true ∧ fewB [y.1] = false)) :
    Calls Tryd.prog 7 #[.slice A n c, oV y] w fun e w' => e = .returned (.bool true) ∧ Below w.heap.size w w' := by
  obtain ⟨W1, hW1⟩ : ∃ W1, w.alloc (.cells #[.int .i64 y.1.k, .int .i64 y.1.x, .string (mk8 y.1.nm), .slice y.2.1 y.1.ot.length y.2.2] 30) = W1 := ⟨_, rfl⟩
  have hb1 : Below w.heap.size w W1 := by rw [← hW1]; exact (Below.refl _ w).alloc (Nat.le_refl _) _
  have c0 : W1.cell? ⟨w.heap.size, 0, none⟩ = some (.int .i64 y.1.k) := by rw [← hW1]; simp [go_sem]
  have c1 : W1.cell? ⟨w.heap.size, 1, none⟩ = some (.int .i64 y.1.x) := by rw [← hW1]; simp [go_sem]
  have c2 : W1.cell? ⟨w.heap.size, 2, none⟩ = some (.string (mk8 y.1.nm)) := by rw [← hW1]; simp [go_sem]
  have c3 : W1.cell? ⟨w.heap.size, 3, none⟩ = some (.slice y.2.1 y.1.ot.length y.2.2) := by rw [← hW1]; simp [go_sem]
  have NW := newL_any W1
  rcases hbig with hb | ⟨hb, hb'⟩
  · have FW := fun W h => few_any A n c ys W (hr.below h) hyl hn hol
    rw [hb] at FW
    have FW' := Lib.hid FW
    have AW := Lib.hid fun W h => awake21_any W (hE.below h)
    clear hr hy hE hyl hol hb FW hyo
    go_enter Tryd.func7, Tryd.ntmps7
    go_wp2_with fail
    refine NW.mono ?_
    rintro e w2 ⟨rfl, hL⟩
    have hb2 := below_then hb1 hL.bel
    clear NW hW1 c0 c1 c2 c3
    go_wp2_with fail
    refine (FW'.out _ hb2).mono ?_
    rintro e w3 ⟨rfl, rfl⟩
    go_wp2_with fail
    refine (AW.out _ hb2).mono ?_
    rintro e w4 ⟨rfl, hb3⟩
    go_wp2
    go_returns
    exact ⟨rfl, below_then hb2 hb3⟩
  · have FW := fun W h => few_any A n c ys W (hr.below h) hyl hn hol
    rw [hb] at FW
    have FW' := Lib.hid FW
    have AW := Lib.hid fun W h => awake21_any W (hE.below h)
    have F1 := fun W h => few1_any y W (hy.below h) hyo
    rw [hb'] at F1
    have F1' := Lib.hid F1
    clear hr hy hE hyl hol hb FW hb' F1 hyo
    go_enter Tryd.func7, Tryd.ntmps7
    go_wp2_with fail
    refine NW.mono ?_
    rintro e w2 ⟨rfl, hL⟩
    have hb2 := below_then hb1 hL.bel
    replace c0 := cell_below c0 hL.bel
    replace c1 := cell_below c1 hL.bel
    replace c2 := cell_below c2 hL.bel
    replace c3 := cell_below c3 hL.bel
    clear NW hW1
    go_wp2_with fail
    refine (FW'.out _ hb2).mono ?_
    rintro e w3 ⟨rfl, rfl⟩
    go_wp2_with fail
    refine (F1'.out _ hb2).mono ?_
    rintro e w3 ⟨rfl, hb3⟩
    have hb4 := below_then hb2 hb3
    clear hb2 c0 c1 c2 c3
    go_wp2_with fail
    refine (AW.out _ hb4).mono ?_
    rintro e w4 ⟨rfl, hb5⟩
    go_wp2
    go_returns
    exact ⟨rfl, below_then hb4 hb5⟩
set_option maxRecDepth 20000 in
set_option maxHeartbeats 8000000 in
theorem namesAdds_small (A : Option Addr) (n c : Nat) (ys : List OA) (y : OA) (w : World) (hE : EnvN w) (hr : OpsRd w A ys) (hyl : ys.length = n) (hn : n ≤ 9223372036854775807) (hol : ∀ y ∈ ys, y.1.ot.length ≤ 9223372036854775807) (hy : OpRd w y) (hyo : y.1.ot.length ≤ 9223372036854775807)
    (hs1 : fewB (ys.map (·.1)) = true) (hs2 : fewB [y.1] = true) :
    Calls Tryd.prog 7 #[.slice A n c, oV y] w fun e w' => e = .returned (.bool true) ∧ Below w.heap.size w w' := by
  obtain ⟨W1, hW1⟩ : ∃ W1, w.alloc (.cells #[.int .i64 y.1.k, .int .i64 y.1.x, .string (mk8 y.1.nm), .slice y.2.1 y.1.ot.length y.2.2] 30) = W1 := ⟨_, rfl⟩
  have hb1 : Below w.heap.size w W1 := by rw [← hW1]; exact (Below.refl _ w).alloc (Nat.le_refl _) _
  have hz1 : w.heap.size ≤ W1.heap.size := hb1.size
  have hz1' : w.heap.size < W1.heap.size := by rw [← hW1]; simp
  have c0 : W1.cell? ⟨w.heap.size, 0, none⟩ = some (.int .i64 y.1.k) := by rw [← hW1]; simp [go_sem]
  have c1 : W1.cell? ⟨w.heap.size, 1, none⟩ = some (.int .i64 y.1.x) := by rw [← hW1]; simp [go_sem]
  have c2 : W1.cell? ⟨w.heap.size, 2, none⟩ = some (.string (mk8 y.1.nm)) := by rw [← hW1]; simp [go_sem]
  have c3 : W1.cell? ⟨w.heap.size, 3, none⟩ = some (.slice y.2.1 y.1.ot.length y.2.2) := by rw [← hW1]; simp [go_sem]
  have NW := newL_any W1
  have FW := fun W h => few_any A n c ys W (hr.below h) hyl hn hol
  rw [hs1] at FW
  have FW' := Lib.hid FW
  have AW := Lib.hid fun W h => awake21_any W (hE.below h)
  have F1 := fun W h => few1_any y W (hy.below h) hyo
  rw [hs2] at F1
  have F1' := Lib.hid F1
  have HF := Lib.hid (fewB_is hs1)
  have HF2 := Lib.hid (fewB_is hs2)
  have HYL := Lib.hid hyl
  have hn60 : n ≤ 60 := by have := HF.out.1; rw [List.length_map, hyl] at this; exact this
  have hfy := (fewO_is (HF2.out.2 y.1 (by simp))).2.1
  clear hol hyo hs1 hs2 F1 FW hyl HF2
  go_enter Tryd.func7, Tryd.ntmps7
  go_wp2_with fail
  refine NW.mono ?_
  rintro e w2 ⟨rfl, hL⟩
  have hb2 := below_then hb1 hL.bel
  have d0 := cell_below c0 hL.bel
  have d1 := cell_below c1 hL.bel
  have d2 := cell_below c2 hL.bel
  have d3 := cell_below c3 hL.bel
  clear NW hW1
  go_wp2_with fail
  refine (FW'.out _ hb2).mono ?_
  rintro e w3 ⟨rfl, rfl⟩
  go_wp2_with fail
  refine (F1'.out _ hb2).mono ?_
  rintro e w3 ⟨rfl, hb3⟩
  replace hL := hL.below hb3
  clear hb2 d0 d1 d2 d3 FW' F1' hb3
  go_wp2
  go_loopw [6] (fun i wr => ∃ k : Nat, k ≤ n ∧ i = .int .i64 k ∧ LInv W1 k wr) (fun i _ => n - (intOf i).toNat)
  case atStart => exact ⟨0, Nat.zero_le _, rfl, hL⟩
  case round =>
    obtain ⟨k, hk, rfl, hL⟩ := hrel
    have hbw := below_then hb1 hL.bel
    by_cases hlt : k < n
    · obtain ⟨⟨t, At, ct⟩, hx⟩ : ∃ x, ys[k]? = some x := ⟨_, List.getElem?_eq_getElem (by rw [HYL.out]; exact hlt)⟩
      obtain ⟨b, off, rfl, hbl, hc⟩ := (hr.below hbw).at_ (by rw [HYL.out]; omega)
      obtain ⟨e0, e1, e2, e3⟩ := op_cells hx hc
      have C := linv_round hL (hE.below hbw) (by omega) (t, At, ct) ((hr.below hbw).each _ (List.mem_of_getElem? hx)) (HF.out.2 t (List.mem_map.2 ⟨_, List.mem_of_getElem? hx, rfl⟩))
      dsimp only [oV] at C
      have hki : (k : Int) < (n : Int) := by omega
      clear hx hc hr hy c0 c1 c2 c3
      go_wp2_with fail
      refine C.mono ?_
      rintro e w1 ⟨⟨v, rfl⟩, hL1⟩
      clear C e0 e1 e2 e3 hL hbw
      go_wp2
      go_roundw
      case rel => exact ⟨k + 1, by omega, by go_num, hL1⟩
      case measure => simp [intOf]; omega
    · have hki : (n : Int) ≤ (k : Int) := by omega
      replace c0 := cell_below c0 hL.bel
      replace c1 := cell_below c1 hL.bel
      replace c2 := cell_below c2 hL.bel
      replace c3 := cell_below c3 hL.bel
      obtain ⟨os, A1, cc, hR, hI, hFw, hB⟩ := hL
      have hzw := hbw.size
      have hzr : w.heap.size < W1.heap.size := hz1'
      have hoL : (os.map (·.1)).length = os.length := List.length_map _
      have hEw := hE.below hbw
      have LI := listed_any hR hEw (good_of hI hFw (by omega))
      have hyw := hy.below hbw
      have hcy0 := hy.ot
      have HRL : ∀ g, RegB W1.heap.size os A1 cc g → g < wr.heap.size := fun g => hR.lt
      have HRLh := Lib.hid HRL
      have HOL := Lib.hid hoL
      obtain ⟨L, hLL⟩ : ∃ L, L = os.map (·.1) := ⟨_, rfl⟩
      have hle : os.length ≤ 256 := hR.len
      rw [← hLL] at LI hI hFw hoL
      have hol2 : Hid (os.length = L.length) := hoL.symm
      have hLlen : L.length ≤ 256 := by omega
      have HLL := Lib.hid hLL
      have HI := Lib.hid (And.intro hI hFw)
      have hcy := hyw.ot
      have hny := hyw.nil
      have hc10 : y.1.ot.length ≤ 10 := hfy
      clear hr hy HRL hoL HF HOL hI hFw hLL hle
      go_wp2_with fail
      refine LI.mono ?_
      rintro e w2 ⟨A2, c2', rfl, hown2, hb2⟩
      have hR2 := hR.below hb2
      have LN := len_any hR2
      rw [hol2.out] at LN
      have f1 := cell_below c1 hb2
      have f2 := cell_below c2 hb2
      have f3 := cell_below c3 hb2
      clear LI
      go_wp2_with fail
      refine LN.mono ?_
      rintro e w3 ⟨rfl, rfl⟩
      have AD := Add_any hR2 (hEw.below hb2) y.1.x y.1.nm y.2.1 y.1.ot.length y.2.2 y.1.ot (hcy.below hb2) hny (by omega)
      obtain ⟨v, hv⟩ : ∃ v, v = (addN L y.1.x y.1.nm y.1.ot).2 := ⟨_, rfl⟩
      obtain ⟨L5, hl5⟩ : ∃ L5, L5 = (addN L y.1.x y.1.nm y.1.ot).1 := ⟨_, rfl⟩
      rw [← HLL.out, ← hv, ← hl5] at AD
      have HV : Hid (v = (addN L y.1.x y.1.nm y.1.ot).2 ∧ L5 = (addN L y.1.x y.1.nm y.1.ot).1) := ⟨hv, hl5⟩
      have hb02 := below_then hbw hb2
      clear hv hl5 LN
      go_wp2_with fail
      refine AD.mono ?_
      rintro e w5 ⟨rfl, os', A', c', hL5, hR5, hb5, hst5, hnw5⟩
      have hcell := fun (p : Addr) (hp : p.block < W1.heap.size) => hb5.cell (p := p) hp
      have k1 : w5.cell? ⟨w.heap.size, 1, none⟩ = some (.int .i64 y.1.x) := (hcell ⟨w.heap.size, 1, none⟩ hzr).trans f1
      have k2 : w5.cell? ⟨w.heap.size, 2, none⟩ = some (.string (mk8 y.1.nm)) := (hcell ⟨w.heap.size, 2, none⟩ hzr).trans f2
      have k3 : w5.cell? ⟨w.heap.size, 3, none⟩ = some (.slice y.2.1 y.1.ot.length y.2.2) := (hcell ⟨w.heap.size, 3, none⟩ hzr).trans f3
      have k1' := k1
      have k2' := k2
      have hb05 := hb02.trans (hb5.mono hz1)
      have hE5 := hE.below hb05
      have hown25 := own_post HRLh.out hown2 hst5
      have hrd5 : Rd w5 y.2.1 y.1.ot.length (Ss y.1.ot) := hcy0.below hb05
      have hnw := Lib.hid hnw5
      have HL5 := Lib.hid hL5
      have hL5l : os'.length = L5.length := by rw [← hL5, List.length_map]
      have HLT2 := Lib.hid (own_ltN hown2)
      have HSZ : Hid (∀ g, RegB W1.heap.size os A1 cc g → g < w2.heap.size) := fun g hg => hR2.lt hg
      clear AD f1 f2 f3 hcell hst5 hnw5 hL5 hown2 hb5
      by_cases hv0 : v = 0
      · obtain ⟨hfr, hl256, hadd⟩ := addN_yes (L := L) (x := y.1.x) (nm := y.1.nm) (ot := y.1.ot) (by rw [← HV.out.1]; exact hv0)
        have hL5e : L5 = L ++ [⟨y.1.x, y.1.nm, y.1.ot⟩] := by rw [HV.out.2, hadd]
        have hL5n : L5.length = L.length + 1 := by rw [hL5e]; simp
        have HFR := Lib.hid hfr
        have HLE := Lib.hid hL5e
        subst hv0
        have hbA : Below w5.heap.size w5 (w5.alloc (.cells #[.string (mk8 y.1.nm)] 9)) := (Below.refl _ _).alloc (Nat.le_refl _) _
        have hown0 : (w5.alloc (.cells #[.string (mk8 y.1.nm)] 9)).ownsRow w5.heap.size 9 1 (.slice none 0 0) 0 [] := World.ownsRow_nil _ _ _ _
        have hrd1 := Rd.new1 w5 9 (.string (mk8 y.1.nm))
        have hone1 := one_of (u := .string (mk8 y.1.nm)) rfl
        clear hfr hl256 hadd hL5e
        go_wp2_with (at_builtin; refine wpList_app strElem _ rfl _ _ rfl w5.heap.size rfl hown0 rfl hrd1 hone1 (by simp) (by omega) (by simp) ?_)
        intro A6 c6 w6 hown6 hg6 hat6
        have hb6 := below_app hbA (by simp) hown0 hg6
        have m1 := cell_below k1 hb6
        have m2 := cell_below k2 hb6
        have m3 := cell_below k3 hb6
        have hown6' : w6.ownsRow w5.heap.size 9 1 (.slice A6 1 c6) 1 (Ss [y.1.nm]) := by simpa [Ss] using hown6
        have hrd6 := hrd5.below hb6
        have hone6 := Ss_one y.1.ot
        have hz6 := hb6.size
        clear hown0 hown6 hg6 hat6 hrd1 hone1 hbA k1 k2 k3
        go_wp2_with (at_builtin; refine wpList_app strElem _ rfl _ _ rfl w5.heap.size rfl hown6' rfl hrd6 hone6 (by omega) (by omega) (by omega) ?_)
        intro A7 c7 w7 hown7 hg7 hat7
        have hb7 := below_app hb6 hz6 hown6' hg7
        have m1' : w7.cell? ⟨w.heap.size, 1, none⟩ = some (.int .i64 y.1.x) := cell_below k1' hb7
        have m2' : w7.cell? ⟨w.heap.size, 2, none⟩ = some (.string (mk8 y.1.nm)) := cell_below k2' hb7
        obtain ⟨N, hN⟩ : ∃ N, N = 1 + y.1.ot.length := ⟨_, rfl⟩
        obtain ⟨al, hal⟩ : ∃ al, al = y.1.nm :: y.1.ot := ⟨_, rfl⟩
        rw [← hN] at hown7
        have hown8 : w7.ownsRow w5.heap.size 9 1 (.slice A7 N c7) N (Ss al) := by rw [hal]; simpa [Ss] using hown7
        rw [← hN]
        have hR7 := hR5.below hb7
        have hb07 := below_then hb05 hb7
        have hown27 := own_below hown25 hb7
        have HAL := Lib.hid hal
        have hallen : al.length = N := by rw [hal, hN]; simp; omega
        have HLN := Lib.hid hallen
        have hN1 : 1 ≤ N ∧ N ≤ 11 := by omega
        clear hown6' hown7 hg7 hat7 hrd6 hone6 m1 m2 m3 hal hN hallen hR5 hown25
        obtain ⟨A', c'', hv', hnc', _, hrd7⟩ := Rd.of_own hown8
        injection hv' with hv1 _ hv2
        subst hv1 hv2
        go_wp2
        go_loopw [11] (fun i wr => ∃ k : Nat, k ≤ N ∧ i = .int .i64 k ∧ Below w7.heap.size w7 wr) (fun i _ => N - (intOf i).toNat)
        case atStart => exact ⟨0, Nat.zero_le _, rfl, Below.refl _ _⟩
        case round =>
          obtain ⟨m, hm, rfl, hbm⟩ := hrel
          have z1 := cell_below m1' hbm
          have z2 := cell_below m2' hbm
          by_cases hmn : m < N
          · obtain ⟨u, hu⟩ : ∃ u, al[m]? = some u := ⟨_, List.getElem?_eq_getElem (by rw [HLN.out]; exact hmn)⟩
            obtain ⟨b, off, rfl, _, hcx⟩ := (hrd7.below hbm).at_ (by omega)
            have cu := hcx m (.string (mk8 u)) (by simp [Ss, hu])
            have FD := FindQ_any (hR7.below hbm) u (hE.below (below_then hb07 hbm))
            rw [HL5.out] at FD
            have hat : atF u L5 = some L.length := by
              rw [HLE.out]
              exact add_at HFR.out (by rw [← HAL.out]; exact List.mem_of_getElem? hu)
            have HAT := Lib.hid hat
            have hmi : (m : Int) < (N : Int) := by omega
            clear hcx hu hrd7 hR7 hat
            go_wp2_with fail
            refine FD.mono ?_
            rintro e w8 ⟨x8, nm8, f8, rfl, HG1, HG2, hb8⟩
            obtain ⟨t, ht, rfl, rfl, rfl⟩ := HG1.out _ HAT.out
            have hte : t = ⟨y.1.x, y.1.nm, y.1.ot⟩ := by
              rw [HLE.out, List.getElem?_append_right (Nat.le_refl _), Nat.sub_self] at ht
              injection ht with ht
              exact ht.symm
            subst hte
            have hbm2 := below_then hbm hb8
            have y1 := cell_below z1 hb8
            have y2 := cell_below z2 hb8
            have hse : ((mk8 y.1.nm).toList == (mk8 y.1.nm).toList) = true := by simp
            clear FD hbm hb8 HG1 HG2 cu ht z1 z2
            go_wp2
            go_roundw
            case rel => exact ⟨m + 1, by omega, by go_num, hbm2⟩
            case measure => simp [intOf]; omega
          · have hmi : (N : Int) ≤ (m : Int) := by omega
            have hb0m := below_then hb07 hbm
            have hR8 := hR7.below hbm
            have LN8 := len_any hR8
            rw [hL5l, hL5n] at LN8
            have hrd8 := hrd7.below hbm
            obtain ⟨p, hp⟩ : ∃ p, N = p + 1 := ⟨N - 1, by omega⟩
            obtain ⟨u, hu⟩ : ∃ u, al[p]? = some u := ⟨_, List.getElem?_eq_getElem (by rw [HLN.out]; omega)⟩
            obtain ⟨b, off, rfl, _, hcx⟩ := hrd8.at_ (by omega)
            have cu := hcx p (.string (mk8 u)) (by simp [Ss, hu])
            have hmem : u ∈ y.1.nm :: y.1.ot := by rw [← HAL.out]; exact List.mem_of_getElem? hu
            have HMEM := Lib.hid hmem
            have DR := Drop_any hR8 u (hE.below hb0m)
            rw [HL5.out] at DR
            have hdr : dropN L5 u = (L, 0) := by rw [HLE.out]; exact add_drop HFR.out hmem
            rw [hdr] at DR
            have hown28 := own_below hown27 hbm
            have hNp : (N : Int) - 1 = (p : Int) := by omega
            have hpN : (p : Int) < (N : Int) := by omega
            have hp0 : (0 : Int) ≤ (p : Int) := by omega
            have hLi : ((L.length + 1 : Nat) : Int) = (L.length : Int) + 1 := by omega
            have hzz := hbm.size
            clear hcx hu hrd7 hR7 hrd8 hmem hdr hown8 hown27 hbm hp
            go_wp2_with fail
            refine LN8.mono ?_
            rintro e w8 ⟨rfl, rfl⟩
            clear LN8
            go_wp2_with fail
            refine DR.mono ?_
            rintro e w9 ⟨rfl, os9, A9, c9, hL9, hR9, hb9, hst9, _⟩
            have hown29 := own_sameN hown28 (fun g hg => hst9 g (own_ltN hown28 g hg) (fun hB => by
              have h1 := HLT2.out g hg
              have h2 := (own_blk hown28 hg).1
              rcases hnw.out g hB with h3 | h3
              · have := HRLh.out g h3
                omega
              · omega))
            have hb09 := hb0m.trans (hb9.mono hz1)
            have hE9 := hE.below hb09
            have LI9 := listed_any hR9 hE9 (by rw [hL9, HLL.out]; exact good_of (HLL.out ▸ HI.out.1) (HLL.out ▸ HI.out.2) (by omega))
            rw [hL9] at LI9
            clear DR hL9 hst9 hb9 hown28
            go_wp2_with fail
            refine LI9.mono ?_
            rintro e w10 ⟨A6, c6, rfl, hown6, hb10⟩
            have hown210 := own_below hown29 hb10
            have hb010 := below_then hb09 hb10
            obtain ⟨A7, c7, he7, _, _, hrd2⟩ := Rd.of_own hown210
            injection he7 with he7 _ he8
            subst he7 he8
            obtain ⟨A8, c8, he9, _, _, hrd6⟩ := Rd.of_own hown6
            injection he9 with he9 _ he0
            subst he9 he0
            have TX := texts_any A2 A6 L.length L.length c2' c6 (listS L) (listS L) w10 hrd2 hrd6 (by omega) (by omega)
            rw [decide_eq_true rfl] at TX
            clear hrd2 hrd6 hown210 hown6 LI9 hown29 hR9
            go_wp2_with fail
            refine TX.mono ?_
            rintro e w11 ⟨rfl, hd11⟩
            have hb011 := below_then hb010 hd11.to
            have AW' := AW.out _ hb011
            clear TX hd11
            go_wp2_with fail
            refine AW'.mono ?_
            rintro e w12 ⟨rfl, hb12⟩
            go_wp2
            go_returns
            exact ⟨rfl, below_then hb011 hb12⟩
      · have hLe : L5 = L := by
          have := opD_same (L := L) (o := ⟨0, y.1.x, y.1.nm, y.1.ot⟩) (by unfold opD opN; rw [if_pos rfl, ← HV.out.1]; exact hv0)
          unfold opD opN at this
          rw [if_pos rfl] at this
          rw [HV.out.2]; exact this
        have q0 : (v == 0) = false := beq_eq_false_iff_ne.2 hv0
        have q1 : (v != 0) = true := by simp [hv0]
        have LN5 := len_any hR5
        rw [hL5l, hLe] at LN5
        have AW' := AW.out _ hb05
        clear hv0 hR5 hown25 hL5l
        go_wp2_with fail
        refine LN5.mono ?_
        rintro e w6 ⟨rfl, rfl⟩
        clear LN5
        go_wp2_with fail
        refine AW'.mono ?_
        rintro e w7 ⟨rfl, hb7⟩
        go_wp2
        go_returns
        exact ⟨rfl, below_then hb05 hb7⟩
theorem namesAdds_yes (A : Option Addr) (n c : Nat) (ys : List OA) (y : OA) (w : World) (hE : EnvN w) (hr : OpsRd w A ys) (hyl : ys.length = n) (hn : n ≤ 9223372036854775807) (hol : ∀ y ∈ ys, y.1.ot.length ≤ 9223372036854775807) (hy : OpRd w y) (hyo : y.1.ot.length ≤ 9223372036854775807) :
    Calls Tryd.prog 7 #[.slice A n c, oV y] w fun e w' => e = .returned (.bool true) ∧ Below w.heap.size w w' := by
  cases h1 : fewB (ys.map (·.1)) with
  | false => exact namesAdds_great A n c ys y w hE hr hyl hn hol hy hyo (.inl h1)
  | true =>
    cases h2 : fewB [y.1] with
    | false => exact namesAdds_great A n c ys y w hE hr hyl hn hol hy hyo (.inr ⟨h1, h2⟩)
    | true => exact namesAdds_small A n c ys y w hE hr hyl hn hol hy hyo h1 h2
end Go.Proofs.YthfakejhkbelhaaDoor
