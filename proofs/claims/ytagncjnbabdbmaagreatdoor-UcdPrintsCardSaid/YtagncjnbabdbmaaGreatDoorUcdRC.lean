/- Which names may be, and what is wrong with a row: the document. -/
import Derived.Test.YtagncjnbabdbmaaGreatDoorUcdR2
import Derived.Test.YtagncjnbabdbmaaGreatDoorUcdKK
set_option linter.unusedSimpArgs false
set_option linter.unusedVariables false
namespace Go.Proofs.YtagncjnbabdbmaaGreatDoor
open Go.RowKit

theorem rinner_snd (nm en : List UInt8) : (rinnerS nm en).2 = (innerS nm en).2 := by
  unfold rinnerS
  split
  · rename_i h; rw [h]
  · rename_i h; simpa using h
theorem goodL_cons (b : UInt8) (t : List UInt8) : goodL (b :: t) = (goodB b && goodL t) := by simp [goodL]
theorem goodB_cases (x : UInt8) : (x.toNat < 32 ∧ goodB x = false) ∨ (32 ≤ x.toNat ∧ x.toNat = 59 ∧ goodB x = false) ∨ (32 ≤ x.toNat ∧ x.toNat ≠ 59 ∧ x.toNat = 35 ∧ goodB x = false) ∨ (32 ≤ x.toNat ∧ x.toNat ≠ 59 ∧ x.toNat ≠ 35 ∧ goodB x = true) := by
  unfold goodB badR
  rcases (show x.toNat < 32 ∨ (32 ≤ x.toNat ∧ x.toNat = 59) ∨ (32 ≤ x.toNat ∧ x.toNat ≠ 59 ∧ x.toNat = 35) ∨ (32 ≤ x.toNat ∧ x.toNat ≠ 59 ∧ x.toNat ≠ 35) by omega) with h | h | h | h
  · exact .inl ⟨h, by simp; omega⟩
  · exact .inr (.inl ⟨h.1, h.2, by simp; omega⟩)
  · exact .inr (.inr (.inl ⟨h.1, h.2.1, h.2.2, by simp; omega⟩))
  · exact .inr (.inr (.inr ⟨h.1, h.2.1, h.2.2, by simp; omega⟩))
set_option maxRecDepth 20000 in
set_option maxHeartbeats 4000000 in
theorem rplain_any (s : ByteArray) (w : World) (hs : s.size ≤ 1073741824) :
    Calls Tryz.prog 21 #[.string s] w fun e w' => e = .returned (.bool (plainL (bs s))) ∧ w = w' := by
  obtain ⟨res, hres⟩ : ∃ res, res = plainL (bs s) := ⟨_, rfl⟩
  rw [← hres]
  have BR := fun w => rbare_any s w (by omega)
  by_cases hl : 100 < s.size
  · have hli : (100 : Int) < (s.size : Int) := by omega
    have HR : Hid (res = false) := by show _ = _; rw [hres]; unfold plainL; simp [bs_length]; omega
    clear hres hl BR
    go_enter Tryz.func21, Tryz.ntmps21
    go_wp2
    go_returns
    exact ⟨ret_bool HR.out.symm, rfl⟩
  · have hli : (s.size : Int) ≤ 100 := by omega
    by_cases hb : bareL (bs s) = bs s
    · rw [hb, mk8_bs] at BR
      have hse := str_eq_self s
      have hse2 : (s != s) = false := by simp [bne, hse]
      have HRES : Hid (res = goodL (bs s)) := by
        show _ = _
        rw [hres]
        unfold plainL
        simp [hb, bs_length]
        omega
      clear hres hl hb
      go_enter Tryz.func21, Tryz.ntmps21
      go_wp2_with fail
      refine (BR _).mono ?_
      rintro e w1 ⟨rfl, rfl⟩
      clear BR
      go_wp2
      go_loop [3] (fun i => ∃ k : Nat, k ≤ s.size ∧ i = .int .i64 k ∧ Hid (res = goodL ((bs s).drop k))) (fun i => s.size - (intOf i).toNat)
      case atStart => exact ⟨0, Nat.zero_le _, rfl, (by show res = _; rw [HRES.out]; rfl)⟩
      case round =>
        obtain ⟨k, hk, rfl, HR⟩ := hrel
        by_cases hlt : k < s.size
        · have hki : (k : Int) < (s.size : Int) := by omega
          have hd := bs_drop s k hlt
          have hx := fun w => index_at s (k : Int) k hlt rfl w
          obtain ⟨x, hxe⟩ : ∃ x, (s[k]'hlt) = x := ⟨_, rfl⟩
          rw [hxe] at hd hx
          rw [hd] at HR
          have hc := goodB_cases x
          have HR1 : Hid (res = (goodB x && goodL ((bs s).drop (k + 1)))) := by show _ = _; rw [HR.out, goodL_cons]
          obtain ⟨xv, hxv⟩ : ∃ xv : Nat, xv = x.toNat := ⟨_, rfl⟩
          rw [← hxv] at hx hc
          clear hd hxe HR hxv
          rcases hc with ⟨h1, e⟩ | ⟨h1, h2, e⟩ | ⟨h1, h2, h3, e⟩ | ⟨h1, h2, h3, e⟩
          · have HR2 : Hid (res = false) := by show _ = _; rw [HR1.out, e]; rfl
            have g1 : (xv : Int) < 32 := by omega
            clear h1 e HR1
            go_wp2
            go_returns
            exact ⟨ret_bool HR2.out.symm, rfl⟩
          · have HR2 : Hid (res = false) := by show _ = _; rw [HR1.out, e]; rfl
            subst h2
            clear h1 e HR1
            go_wp2
            go_returns
            exact ⟨ret_bool HR2.out.symm, rfl⟩
          · have HR2 : Hid (res = false) := by show _ = _; rw [HR1.out, e]; rfl
            subst h3
            clear h1 h2 e HR1
            go_wp2
            go_returns
            exact ⟨ret_bool HR2.out.symm, rfl⟩
          · have HR2 : Hid (res = goodL ((bs s).drop (k + 1))) := by show _ = _; rw [HR1.out, e]; rfl
            have g1 : (32 : Int) ≤ (xv : Int) := by omega
            have g2 : ((xv : Int) == 59) = false := by simp; omega
            have g3 : ((xv : Int) == 35) = false := by simp; omega
            clear h1 h2 h3 e HR1
            go_wp2
            go_round
            case rel => exact ⟨k + 1, by omega, by go_num, HR2⟩
            case measure => simp [intOf]; omega
        · have hki : (s.size : Int) ≤ (k : Int) := by omega
          have HR2 : Hid (res = true) := by
            show _ = _
            rw [HR.out, List.drop_eq_nil_of_le (by rw [bs_length]; omega)]
            rfl
          clear HR
          go_wp2
          go_returns
          exact ⟨ret_bool HR2.out.symm, rfl⟩
    · have HR : Hid (res = false) := by show _ = _; rw [hres]; unfold plainL; simp [hb]
      have hne : ¬ ((mk8 (bareL (bs s))).toList = s.toList) := by rw [toList_bs, toList_bs, bs_mk8]; exact hb
      have hne2 : ((mk8 (bareL (bs s))).toList == s.toList) = false := by simpa using hne
      clear hres hb
      go_enter Tryz.func21, Tryz.ntmps21
      go_wp2_with fail
      refine (BR _).mono ?_
      rintro e w1 ⟨rfl, rfl⟩
      clear BR
      go_wp2
      go_returns
      exact ⟨ret_bool HR.out.symm, rfl⟩
theorem badI_cons (z : Int) (t : List Int) : badI (z :: t) = (!scalarB z || badI t) := by simp [badI]
set_option maxRecDepth 20000 in
set_option maxHeartbeats 8000000 in
theorem rcheck_any (x : RowS) (A : Option Addr) (c : Nat) (w : World) (hA : Rd w A x.il.length (Rs x.il)) (hl : x.il.length ≤ 1000) (hn : x.nm.length ≤ 1000) (hc : x.ct.length ≤ 1000) (hkd : x.kd.length ≤ 1000) :
    Calls Tryz.prog 7 #[rowV x A c] w fun e w' => e = .returned (.int .i64 (checkS x)) ∧ Below w.heap.size w w' := by
  obtain ⟨xf, xu, xn, xct, xcl, xk, xil⟩ := x
  simp only [] at hA hl hn hc hkd
  obtain ⟨r, hr⟩ : ∃ r, r = checkS ⟨xf, xu, xn, xct, xcl, xk, xil⟩ := ⟨_, rfl⟩
  rw [← hr]
  simp only [rowV]
  generalize hgm : xil.length = m at *
  have HGM : Hid (xil.length = m) := hgm
  clear hgm
  have HBOX : ∀ o, Below w.heap.size w (w.alloc o) := fun o => (Below.refl _ _).alloc (Nat.le_refl _) _
  have IF := fun w => rinner_any (mk8 xn) ⟨#[44, 32, 70, 105, 114, 115, 116, 62]⟩ w (by rw [mk8_size]; omega) (by decide)
  have IL := fun w => rinner_any (mk8 xn) ⟨#[44, 32, 76, 97, 115, 116, 62]⟩ w (by rw [mk8_size]; omega) (by decide)
  rw [bs_mk8, rinner_snd, show bs ⟨#[44, 32, 70, 105, 114, 115, 116, 62]⟩ = FSTB from rfl] at IF
  rw [bs_mk8, rinner_snd, show bs ⟨#[44, 32, 76, 97, 115, 116, 62]⟩ = LSTB from rfl] at IL
  have LT := fun w => rletters_any (mk8 xk) w (by rw [mk8_size]; omega)
  have PN := fun w => rplain_any (mk8 xn) w (by rw [mk8_size]; omega)
  have PC := fun w => rplain_any (mk8 xct) w (by rw [mk8_size]; omega)
  rw [bs_mk8] at LT PN PC
  cases h1 : scalarB xf
  · have HR : Hid (r = 11) := by
      show _ = _
      rw [hr]
      unfold checkS rangeBad; rw [if_pos (by simp [h1])]
    clear hr
    clear IF IL LT PN PC
    go_enter Tryz.func7, Tryz.ntmps7
    go_wp2_with fail
    refine (scalar_any _ _).mono ?_
    rintro e w1 ⟨rfl, rfl⟩
    go_wp2
    go_returns
    exact ⟨ret_i64 HR.out.symm, HBOX _⟩
  · cases h2 : scalarB xu
    · have HR : Hid (r = 11) := by
        show _ = _
        rw [hr]
        unfold checkS rangeBad; rw [if_pos (by simp [h2])]
      clear hr
      clear IF IL LT PN PC
      go_enter Tryz.func7, Tryz.ntmps7
      go_wp2_with fail
      refine (scalar_any _ _).mono ?_
      rintro e w1 ⟨rfl, rfl⟩
      go_wp2_with fail
      refine (scalar_any _ _).mono ?_
      rintro e w1 ⟨rfl, rfl⟩
      go_wp2
      go_returns
      exact ⟨ret_i64 HR.out.symm, HBOX _⟩
    · by_cases h3 : xu < xf
      · have HR : Hid (r = 11) := by
          show _ = _
          rw [hr]
          unfold checkS rangeBad; rw [if_pos (by simp [h3])]
        clear hr
        clear IF IL LT PN PC
        go_enter Tryz.func7, Tryz.ntmps7
        go_wp2_with fail
        refine (scalar_any _ _).mono ?_
        rintro e w1 ⟨rfl, rfl⟩
        go_wp2_with fail
        refine (scalar_any _ _).mono ?_
        rintro e w1 ⟨rfl, rfl⟩
        go_wp2
        go_returns
        exact ⟨ret_i64 HR.out.symm, HBOX _⟩
      · have h3i : xf ≤ xu := by omega
        by_cases h4 : xcl < 0
        · have HR : Hid (r = 11) := by
            show _ = _
            rw [hr]
            unfold checkS rangeBad; rw [if_pos (by simp [h4])]
          clear hr
          clear IF IL LT PN PC
          go_enter Tryz.func7, Tryz.ntmps7
          go_wp2_with fail
          refine (scalar_any _ _).mono ?_
          rintro e w1 ⟨rfl, rfl⟩
          go_wp2_with fail
          refine (scalar_any _ _).mono ?_
          rintro e w1 ⟨rfl, rfl⟩
          go_wp2
          go_returns
          exact ⟨ret_i64 HR.out.symm, HBOX _⟩
        · have h4i : 0 ≤ xcl := by omega
          by_cases h5 : 254 < xcl
          · have HR : Hid (r = 11) := by
              show _ = _
              rw [hr]
              unfold checkS rangeBad; rw [if_pos (by simp [h5])]
            clear hr
            clear IF IL LT PN PC
            go_enter Tryz.func7, Tryz.ntmps7
            go_wp2_with fail
            refine (scalar_any _ _).mono ?_
            rintro e w1 ⟨rfl, rfl⟩
            go_wp2_with fail
            refine (scalar_any _ _).mono ?_
            rintro e w1 ⟨rfl, rfl⟩
            go_wp2
            go_returns
            exact ⟨ret_i64 HR.out.symm, HBOX _⟩
          · have h5i : xcl ≤ 254 := by omega
            by_cases h6 : 18 < m
            · have HR : Hid (r = 11) := by
                show _ = _
                rw [hr]
                unfold checkS rangeBad; rw [if_pos (by simp [HGM.out, h6])]
              clear hr
              have h6i : (18 : Int) < (m : Int) := by omega
              clear IF IL LT PN PC
              go_enter Tryz.func7, Tryz.ntmps7
              go_wp2_with fail
              refine (scalar_any _ _).mono ?_
              rintro e w1 ⟨rfl, rfl⟩
              go_wp2_with fail
              refine (scalar_any _ _).mono ?_
              rintro e w1 ⟨rfl, rfl⟩
              go_wp2
              go_returns
              exact ⟨ret_i64 HR.out.symm, HBOX _⟩
            · have h6i : (m : Int) ≤ 18 := by omega
              have hRB : rangeBad ⟨xf, xu, xn, xct, xcl, xk, xil⟩ = badI xil := by
                simp only [rangeBad, h1, h2, HGM.out]
                simp [h3, h4, h5, h6]
                try omega
              have hcz : r = if badI xil = true then 11 else if kindBad ⟨xf, xu, xn, xct, xcl, xk, xil⟩ = true ∨ oneBad ⟨xf, xu, xn, xct, xcl, xk, xil⟩ = true ∨ nameBad ⟨xf, xu, xn, xct, xcl, xk, xil⟩ = true then 10 else 0 := by rw [hr]; unfold checkS; rw [hRB]
              have HCZ := Lib.hid hcz
              clear hr hRB hcz
              go_enter Tryz.func7, Tryz.ntmps7
              go_wp2_with fail
              refine (scalar_any _ _).mono ?_
              rw [h1]
              rintro e w1 ⟨rfl, rfl⟩
              go_wp2_with fail
              refine (scalar_any _ _).mono ?_
              rw [h2]
              rintro e w1 ⟨rfl, rfl⟩
              go_wp2
              generalize hWW : w.alloc _ = W at *
              have hbW : Below w.heap.size w W := by rw [← hWW]; exact HBOX _
              have hx : W.heap[w.heap.size]? = some (.cells #[.int .i32 xf, .int .i32 xu, .string (mk8 xn), .string (mk8 xct), .int .i64 xcl, .string (mk8 xk), .slice A m c] 28 (0, 0)) := by rw [← hWW]; exact box_new _ _ _
              have hAW := hA.below hbW
              have hz0 : W.cell? ⟨w.heap.size, 0, none⟩ = some (.int .i32 xf) := box_cell hx 0 rfl
              have hz1 : W.cell? ⟨w.heap.size, 1, none⟩ = some (.int .i32 xu) := box_cell hx 1 rfl
              have hz2 : W.cell? ⟨w.heap.size, 2, none⟩ = some (.string (mk8 xn)) := box_cell hx 2 rfl
              have hz3 : W.cell? ⟨w.heap.size, 3, none⟩ = some (.string (mk8 xct)) := box_cell hx 3 rfl
              have hz4 : W.cell? ⟨w.heap.size, 4, none⟩ = some (.int .i64 xcl) := box_cell hx 4 rfl
              have hz5 : W.cell? ⟨w.heap.size, 5, none⟩ = some (.string (mk8 xk)) := box_cell hx 5 rfl
              have hz6 : W.cell? ⟨w.heap.size, 6, none⟩ = some (.slice A m c) := box_cell hx 6 rfl
              clear hWW HBOX hA
              go_loop [3] (fun i => ∃ k : Nat, k ≤ m ∧ i = .int .i64 k ∧ Hid (badI xil = badI (xil.drop k))) (fun i => m - (intOf i).toNat)
              case atStart => exact ⟨0, Nat.zero_le _, rfl, rfl⟩
              case round =>
                obtain ⟨k, hk, rfl, HB⟩ := hrel
                by_cases hlt : k < m
                · have hi : (k : Int) < (m : Int) := by omega
                  obtain ⟨z, hzz⟩ : ∃ z, xil[k]? = some z := ⟨_, List.getElem?_eq_getElem (by rw [HGM.out]; exact hlt)⟩
                  have hd : xil.drop k = z :: xil.drop (k + 1) := by
                    obtain ⟨h, he⟩ := List.getElem?_eq_some_iff.1 hzz
                    rw [List.drop_eq_getElem_cons h, he]
                  obtain ⟨b, off, hAe, hbl, hcx⟩ := hAW.at_ (by omega)
                  subst hAe
                  have hcz := hcx k (.int .i32 z) (by simp [hzz])
                  clear hcx hzz IF IL LT PN PC
                  cases hs : scalarB z
                  · have HR : Hid (r = 11) := by
                      show _ = _
                      rw [HCZ.out, HB.out, hd, badI_cons, hs]
                      rfl
                    go_wp2_with fail
                    refine (scalar_any _ _).mono ?_
                    rw [hs]
                    rintro e w1 ⟨rfl, rfl⟩
                    clear hd hs
                    go_wp2
                    go_returns
                    exact ⟨ret_i64 HR.out.symm, hbW⟩
                  · have HB2 : Hid (badI xil = badI (xil.drop (k + 1))) := by
                      show _ = _
                      rw [HB.out, hd, badI_cons, hs]
                      rfl
                    go_wp2_with fail
                    refine (scalar_any _ _).mono ?_
                    rw [hs]
                    rintro e w1 ⟨rfl, rfl⟩
                    clear hd hs HB
                    go_wp2
                    go_round
                    case rel => exact ⟨k + 1, by omega, by go_num, HB2⟩
                    case measure => simp [intOf]; omega
                · have hi : (m : Int) ≤ (k : Int) := by omega
                  have hbf : badI xil = false := by
                    rw [HB.out, List.drop_eq_nil_of_le (by rw [HGM.out]; omega)]
                    rfl
                  have HCY : Hid (r = if kindBad ⟨xf, xu, xn, xct, xcl, xk, xil⟩ = true ∨ oneBad ⟨xf, xu, xn, xct, xcl, xk, xil⟩ = true ∨ nameBad ⟨xf, xu, xn, xct, xcl, xk, xil⟩ = true then 10 else 0) := by
                    show _ = _
                    rw [HCZ.out, hbf, if_neg (by simp)]
                  obtain ⟨⟨fa, fb⟩, hFF⟩ : ∃ q, q = innerS xn FSTB := ⟨_, rfl⟩
                  obtain ⟨⟨la, lb⟩, hLL⟩ : ∃ q, q = innerS xn LSTB := ⟨_, rfl⟩
                  rw [← hFF] at IF
                  rw [← hLL] at IL
                  have HFF := Lib.hid hFF
                  have HLL := Lib.hid hLL
                  clear hFF hLL hbf HB HCZ hAW
                  cases hlk : lettersL xk
                  · rw [hlk] at LT
                    have HR : Hid (r = 10) := by
                      show _ = _
                      rw [HCY.out]
                      rw [if_pos (.inl (by simp [kindBad, hlk]))]
                    clear HCY HFF HLL hlk
                    go_wp2_with fail
                    refine (IF _).mono ?_
                    rintro e w2 ⟨rfl, rfl⟩
                    go_wp2_with fail
                    refine (IL _).mono ?_
                    rintro e w2 ⟨rfl, rfl⟩
                    go_wp2_with fail
                    refine (LT _).mono ?_
                    rintro e w2 ⟨rfl, rfl⟩
                    go_wp2
                    go_returns
                    exact ⟨ret_i64 HR.out.symm, hbW⟩
                  · rw [hlk] at LT
                    by_cases hk0 : xk = []
                    · subst hk0
                      have hk1 := mk8_empty []
                      by_cases hue : xu = xf
                      · have e1 : (xu == xf) = true := by simp [hue]
                        have e2 : (xu != xf) = false := by simp [hue]
                        cases hpn : plainL xn
                        · rw [hpn] at PN
                          have HR : Hid (r = 10) := by
                            show _ = _
                            rw [HCY.out]
                            rw [if_pos (.inr (.inr (by simp [nameBad, hpn])))]
                          clear HCY HFF HLL hpn
                          go_wp2_with fail
                          refine (IF _).mono ?_
                          rintro e w2 ⟨rfl, rfl⟩
                          go_wp2_with fail
                          refine (IL _).mono ?_
                          rintro e w2 ⟨rfl, rfl⟩
                          go_wp2_with fail
                          refine (LT _).mono ?_
                          rintro e w2 ⟨rfl, rfl⟩
                          go_wp2_with fail
                          refine (PN _).mono ?_
                          rintro e w2 ⟨rfl, rfl⟩
                          go_wp2
                          go_returns
                          exact ⟨ret_i64 HR.out.symm, hbW⟩
                        · rw [hpn] at PN
                          cases hpc : plainL xct
                          · rw [hpc] at PC
                            have HR : Hid (r = 10) := by
                              show _ = _
                              rw [HCY.out]
                              rw [if_pos (.inr (.inr (by simp [nameBad, hpc])))]
                            clear HCY HFF HLL hpn hpc
                            go_wp2_with fail
                            refine (IF _).mono ?_
                            rintro e w2 ⟨rfl, rfl⟩
                            go_wp2_with fail
                            refine (IL _).mono ?_
                            rintro e w2 ⟨rfl, rfl⟩
                            go_wp2_with fail
                            refine (LT _).mono ?_
                            rintro e w2 ⟨rfl, rfl⟩
                            go_wp2_with fail
                            refine (PN _).mono ?_
                            rintro e w2 ⟨rfl, rfl⟩
                            go_wp2_with fail
                            refine (PC _).mono ?_
                            rintro e w2 ⟨rfl, rfl⟩
                            go_wp2
                            go_returns
                            exact ⟨ret_i64 HR.out.symm, hbW⟩
                          · rw [hpc] at PC
                            cases fb
                            · cases lb
                              · have HR : Hid (r = 0) := by
                                  show _ = _
                                  rw [HCY.out]
                                  rw [if_neg (by simp [kindBad, oneBad, nameBad, hlk, hpn, hpc, hue, decide_true, ← HFF.out, ← HLL.out])]
                                clear HCY HFF HLL hpn hpc
                                go_wp2_with fail
                                refine (IF _).mono ?_
                                rintro e w2 ⟨rfl, rfl⟩
                                go_wp2_with fail
                                refine (IL _).mono ?_
                                rintro e w2 ⟨rfl, rfl⟩
                                go_wp2_with fail
                                refine (LT _).mono ?_
                                rintro e w2 ⟨rfl, rfl⟩
                                go_wp2_with fail
                                refine (PN _).mono ?_
                                rintro e w2 ⟨rfl, rfl⟩
                                go_wp2_with fail
                                refine (PC _).mono ?_
                                rintro e w2 ⟨rfl, rfl⟩
                                go_wp2
                                go_returns
                                exact ⟨ret_i64 HR.out.symm, hbW⟩
                              · have HR : Hid (r = 10) := by
                                  show _ = _
                                  rw [HCY.out]
                                  rw [if_pos (.inr (.inl (by simp [oneBad, hue, ← HLL.out])))]
                                clear HCY HFF HLL hpn hpc
                                go_wp2_with fail
                                refine (IF _).mono ?_
                                rintro e w2 ⟨rfl, rfl⟩
                                go_wp2_with fail
                                refine (IL _).mono ?_
                                rintro e w2 ⟨rfl, rfl⟩
                                go_wp2_with fail
                                refine (LT _).mono ?_
                                rintro e w2 ⟨rfl, rfl⟩
                                go_wp2_with fail
                                refine (PN _).mono ?_
                                rintro e w2 ⟨rfl, rfl⟩
                                go_wp2_with fail
                                refine (PC _).mono ?_
                                rintro e w2 ⟨rfl, rfl⟩
                                go_wp2
                                go_returns
                                exact ⟨ret_i64 HR.out.symm, hbW⟩
                            · have HR : Hid (r = 10) := by
                                show _ = _
                                rw [HCY.out]
                                rw [if_pos (.inr (.inl (by simp [oneBad, hue, ← HFF.out])))]
                              clear HCY HFF HLL hpn hpc
                              go_wp2_with fail
                              refine (IF _).mono ?_
                              rintro e w2 ⟨rfl, rfl⟩
                              go_wp2_with fail
                              refine (IL _).mono ?_
                              rintro e w2 ⟨rfl, rfl⟩
                              go_wp2_with fail
                              refine (LT _).mono ?_
                              rintro e w2 ⟨rfl, rfl⟩
                              go_wp2_with fail
                              refine (PN _).mono ?_
                              rintro e w2 ⟨rfl, rfl⟩
                              go_wp2_with fail
                              refine (PC _).mono ?_
                              rintro e w2 ⟨rfl, rfl⟩
                              go_wp2
                              go_returns
                              exact ⟨ret_i64 HR.out.symm, hbW⟩
                      · have e1 : (xu == xf) = false := by simp [hue]
                        have e2 : (xu != xf) = true := by simp [hue]
                        rcases Nat.eq_zero_or_pos m with hm0 | hm0
                        · have hil : xil = [] := List.eq_nil_of_length_eq_zero (by rw [HGM.out]; exact hm0)
                          subst hm0
                          cases hpn : plainL xn
                          · rw [hpn] at PN
                            have HR : Hid (r = 10) := by
                              show _ = _
                              rw [HCY.out]
                              rw [if_pos (.inr (.inr (by simp [nameBad, hpn])))]
                            clear HCY HFF HLL hpn
                            go_wp2_with fail
                            refine (IF _).mono ?_
                            rintro e w2 ⟨rfl, rfl⟩
                            go_wp2_with fail
                            refine (IL _).mono ?_
                            rintro e w2 ⟨rfl, rfl⟩
                            go_wp2_with fail
                            refine (LT _).mono ?_
                            rintro e w2 ⟨rfl, rfl⟩
                            go_wp2_with fail
                            refine (PN _).mono ?_
                            rintro e w2 ⟨rfl, rfl⟩
                            go_wp2
                            go_returns
                            exact ⟨ret_i64 HR.out.symm, hbW⟩
                          · rw [hpn] at PN
                            cases hpc : plainL xct
                            · rw [hpc] at PC
                              have HR : Hid (r = 10) := by
                                show _ = _
                                rw [HCY.out]
                                rw [if_pos (.inr (.inr (by simp [nameBad, hpc])))]
                              clear HCY HFF HLL hpn hpc
                              go_wp2_with fail
                              refine (IF _).mono ?_
                              rintro e w2 ⟨rfl, rfl⟩
                              go_wp2_with fail
                              refine (IL _).mono ?_
                              rintro e w2 ⟨rfl, rfl⟩
                              go_wp2_with fail
                              refine (LT _).mono ?_
                              rintro e w2 ⟨rfl, rfl⟩
                              go_wp2_with fail
                              refine (PN _).mono ?_
                              rintro e w2 ⟨rfl, rfl⟩
                              go_wp2_with fail
                              refine (PC _).mono ?_
                              rintro e w2 ⟨rfl, rfl⟩
                              go_wp2
                              go_returns
                              exact ⟨ret_i64 HR.out.symm, hbW⟩
                            · rw [hpc] at PC
                              have HR : Hid (r = 0) := by
                                show _ = _
                                rw [HCY.out]
                                rw [if_neg (by simp [kindBad, oneBad, nameBad, hlk, hpn, hpc, hue, decide_true, hil])]
                              clear HCY HFF HLL hpn hpc
                              go_wp2_with fail
                              refine (IF _).mono ?_
                              rintro e w2 ⟨rfl, rfl⟩
                              go_wp2_with fail
                              refine (IL _).mono ?_
                              rintro e w2 ⟨rfl, rfl⟩
                              go_wp2_with fail
                              refine (LT _).mono ?_
                              rintro e w2 ⟨rfl, rfl⟩
                              go_wp2_with fail
                              refine (PN _).mono ?_
                              rintro e w2 ⟨rfl, rfl⟩
                              go_wp2_with fail
                              refine (PC _).mono ?_
                              rintro e w2 ⟨rfl, rfl⟩
                              go_wp2
                              go_returns
                              exact ⟨ret_i64 HR.out.symm, hbW⟩
                        · have hil : xil ≠ [] := fun h => by have := HGM.out; rw [h] at this; simp at this; omega
                          have hmi : (0 : Int) < (m : Int) := by omega
                          have HR : Hid (r = 10) := by
                            show _ = _
                            rw [HCY.out]
                            rw [if_pos (.inr (.inl (by simp [oneBad, hue, hil])))]
                          clear HCY HFF HLL hil
                          go_wp2_with fail
                          refine (IF _).mono ?_
                          rintro e w2 ⟨rfl, rfl⟩
                          go_wp2_with fail
                          refine (IL _).mono ?_
                          rintro e w2 ⟨rfl, rfl⟩
                          go_wp2_with fail
                          refine (LT _).mono ?_
                          rintro e w2 ⟨rfl, rfl⟩
                          go_wp2
                          go_returns
                          exact ⟨ret_i64 HR.out.symm, hbW⟩
                    · have hk1 := mk8_empty xk
                      rw [show decide (xk = []) = false from by simp [hk0]] at hk1
                      have hk2 : ¬ ((mk8 xk).toList = (⟨#[]⟩ : ByteArray).toList) := fun h => hk0 (by rw [toList_bs, toList_bs, bs_mk8] at h; exact h)
                      rcases Nat.eq_zero_or_pos m with hm0 | hm0
                      · have hil : xil = [] := List.eq_nil_of_length_eq_zero (by rw [HGM.out]; exact hm0)
                        subst hm0
                        have HR : Hid (r = 10) := by
                          show _ = _
                          rw [HCY.out]
                          rw [if_pos (.inl (by simp [kindBad, hlk, hk0, hil]))]
                        clear HCY HFF HLL hil hk0
                        go_wp2_with fail
                        refine (IF _).mono ?_
                        rintro e w2 ⟨rfl, rfl⟩
                        go_wp2_with fail
                        refine (IL _).mono ?_
                        rintro e w2 ⟨rfl, rfl⟩
                        go_wp2_with fail
                        refine (LT _).mono ?_
                        rintro e w2 ⟨rfl, rfl⟩
                        go_wp2
                        go_returns
                        exact ⟨ret_i64 HR.out.symm, hbW⟩
                      · have hil : xil ≠ [] := fun h => by have := HGM.out; rw [h] at this; simp at this; omega
                        have hmi : (0 : Int) < (m : Int) := by omega
                        have hm2 : ((m : Int) == 0) = false := by simp; omega
                        by_cases hue : xu = xf
                        · have e1 : (xu == xf) = true := by simp [hue]
                          have e2 : (xu != xf) = false := by simp [hue]
                          cases hpn : plainL xn
                          · rw [hpn] at PN
                            have HR : Hid (r = 10) := by
                              show _ = _
                              rw [HCY.out]
                              rw [if_pos (.inr (.inr (by simp [nameBad, hpn])))]
                            clear HCY HFF HLL hpn
                            go_wp2_with fail
                            refine (IF _).mono ?_
                            rintro e w2 ⟨rfl, rfl⟩
                            go_wp2_with fail
                            refine (IL _).mono ?_
                            rintro e w2 ⟨rfl, rfl⟩
                            go_wp2_with fail
                            refine (LT _).mono ?_
                            rintro e w2 ⟨rfl, rfl⟩
                            go_wp2_with fail
                            refine (PN _).mono ?_
                            rintro e w2 ⟨rfl, rfl⟩
                            go_wp2
                            go_returns
                            exact ⟨ret_i64 HR.out.symm, hbW⟩
                          · rw [hpn] at PN
                            cases hpc : plainL xct
                            · rw [hpc] at PC
                              have HR : Hid (r = 10) := by
                                show _ = _
                                rw [HCY.out]
                                rw [if_pos (.inr (.inr (by simp [nameBad, hpc])))]
                              clear HCY HFF HLL hpn hpc
                              go_wp2_with fail
                              refine (IF _).mono ?_
                              rintro e w2 ⟨rfl, rfl⟩
                              go_wp2_with fail
                              refine (IL _).mono ?_
                              rintro e w2 ⟨rfl, rfl⟩
                              go_wp2_with fail
                              refine (LT _).mono ?_
                              rintro e w2 ⟨rfl, rfl⟩
                              go_wp2_with fail
                              refine (PN _).mono ?_
                              rintro e w2 ⟨rfl, rfl⟩
                              go_wp2_with fail
                              refine (PC _).mono ?_
                              rintro e w2 ⟨rfl, rfl⟩
                              go_wp2
                              go_returns
                              exact ⟨ret_i64 HR.out.symm, hbW⟩
                            · rw [hpc] at PC
                              cases fb
                              · cases lb
                                · have HR : Hid (r = 0) := by
                                    show _ = _
                                    rw [HCY.out]
                                    rw [if_neg (by simp [kindBad, oneBad, nameBad, hlk, hpn, hpc, hue, hk0, hil, ← HFF.out, ← HLL.out])]
                                  clear HCY HFF HLL hpn hpc
                                  go_wp2_with fail
                                  refine (IF _).mono ?_
                                  rintro e w2 ⟨rfl, rfl⟩
                                  go_wp2_with fail
                                  refine (IL _).mono ?_
                                  rintro e w2 ⟨rfl, rfl⟩
                                  go_wp2_with fail
                                  refine (LT _).mono ?_
                                  rintro e w2 ⟨rfl, rfl⟩
                                  go_wp2_with fail
                                  refine (PN _).mono ?_
                                  rintro e w2 ⟨rfl, rfl⟩
                                  go_wp2_with fail
                                  refine (PC _).mono ?_
                                  rintro e w2 ⟨rfl, rfl⟩
                                  go_wp2
                                  go_returns
                                  exact ⟨ret_i64 HR.out.symm, hbW⟩
                                · have HR : Hid (r = 10) := by
                                    show _ = _
                                    rw [HCY.out]
                                    rw [if_pos (.inr (.inl (by simp [oneBad, hue, ← HLL.out])))]
                                  clear HCY HFF HLL hpn hpc
                                  go_wp2_with fail
                                  refine (IF _).mono ?_
                                  rintro e w2 ⟨rfl, rfl⟩
                                  go_wp2_with fail
                                  refine (IL _).mono ?_
                                  rintro e w2 ⟨rfl, rfl⟩
                                  go_wp2_with fail
                                  refine (LT _).mono ?_
                                  rintro e w2 ⟨rfl, rfl⟩
                                  go_wp2_with fail
                                  refine (PN _).mono ?_
                                  rintro e w2 ⟨rfl, rfl⟩
                                  go_wp2_with fail
                                  refine (PC _).mono ?_
                                  rintro e w2 ⟨rfl, rfl⟩
                                  go_wp2
                                  go_returns
                                  exact ⟨ret_i64 HR.out.symm, hbW⟩
                              · have HR : Hid (r = 10) := by
                                  show _ = _
                                  rw [HCY.out]
                                  rw [if_pos (.inr (.inl (by simp [oneBad, hue, ← HFF.out])))]
                                clear HCY HFF HLL hpn hpc
                                go_wp2_with fail
                                refine (IF _).mono ?_
                                rintro e w2 ⟨rfl, rfl⟩
                                go_wp2_with fail
                                refine (IL _).mono ?_
                                rintro e w2 ⟨rfl, rfl⟩
                                go_wp2_with fail
                                refine (LT _).mono ?_
                                rintro e w2 ⟨rfl, rfl⟩
                                go_wp2_with fail
                                refine (PN _).mono ?_
                                rintro e w2 ⟨rfl, rfl⟩
                                go_wp2_with fail
                                refine (PC _).mono ?_
                                rintro e w2 ⟨rfl, rfl⟩
                                go_wp2
                                go_returns
                                exact ⟨ret_i64 HR.out.symm, hbW⟩
                        · have e1 : (xu == xf) = false := by simp [hue]
                          have e2 : (xu != xf) = true := by simp [hue]
                          have HR : Hid (r = 10) := by
                            show _ = _
                            rw [HCY.out]
                            rw [if_pos (.inr (.inl (by simp [oneBad, hue, hil])))]
                          clear HCY HFF HLL hil
                          go_wp2_with fail
                          refine (IF _).mono ?_
                          rintro e w2 ⟨rfl, rfl⟩
                          go_wp2_with fail
                          refine (IL _).mono ?_
                          rintro e w2 ⟨rfl, rfl⟩
                          go_wp2_with fail
                          refine (LT _).mono ?_
                          rintro e w2 ⟨rfl, rfl⟩
                          go_wp2
                          go_returns
                          exact ⟨ret_i64 HR.out.symm, hbW⟩
end Go.Proofs.YtagncjnbabdbmaaGreatDoor
