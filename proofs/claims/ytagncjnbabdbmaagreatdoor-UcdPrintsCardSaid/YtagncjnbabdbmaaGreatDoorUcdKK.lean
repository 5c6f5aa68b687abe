/- Which names may be: the code. What is wrong with a row: the code. -/
import Derived.Test.YtagncjnbabdbmaaGreatDoorUcdWU
section
set_option linter.unusedSimpArgs false
set_option linter.unusedVariables false
namespace Go.Proofs.YtagncjnbabdbmaaGreatDoor
open Go.RowKit

def badR (x : Nat) : Bool := decide (x < 32 ∨ x = 59 ∨ x = 35)
def goodB (b : UInt8) : Bool := !badR b.toNat
def goodL (l : List UInt8) : Bool := l.all goodB
/-- A name, or a category, that may be. -/
def plainL (l : List UInt8) : Bool := decide (l.length ≤ 100) && decide (bareL l = l) && goodL l
theorem high_good (s : ByteArray) (pos : Nat) (h : pos < s.size) (ha : 128 ≤ (s[pos]'h).toNat) :
    pos + (Utf8.decode s pos).2 ≤ s.size ∧ goodL (((bs s).drop pos).take (Utf8.decode s pos).2) = true := by
  have hb := high_bytes s pos h ha
  refine ⟨hb.1, ?_⟩
  have hd := Lib.decodeN_conts ((bs s).length - pos) (((bs s).getD pos 0).toNat) (((bs s).getD (pos + 1) 0).toNat) (((bs s).getD (pos + 2) 0).toNat) (((bs s).getD (pos + 3) 0).toNat)
  have hN : Utf8.decode s pos = Lib.decodeN ((bs s).length - pos) (((bs s).getD pos 0).toNat) (((bs s).getD (pos + 1) 0).toNat) (((bs s).getD (pos + 2) 0).toNat) (((bs s).getD (pos + 3) 0).toNat) := Lib.decode_N s pos
  rw [← hN] at hd
  obtain ⟨c2, c3, c4, c5⟩ := hd
  rw [goodL, List.all_eq_true]
  intro b hm
  obtain ⟨j, hj, hbj⟩ := List.getElem_of_mem hm
  have hjn : j < (Utf8.decode s pos).2 := by rw [List.length_take] at hj; omega
  have hget : (bs s)[pos + j]? = some b := by
    have h1 : (((bs s).drop pos).take (Utf8.decode s pos).2)[j]? = some b := by rw [List.getElem?_eq_getElem hj, hbj]
    rw [List.getElem?_take_of_lt hjn, List.getElem?_drop] at h1
    exact h1
  have hbig : 128 ≤ b.toNat := by
    have hg : ∀ i, (bs s)[i]? = some b → ((bs s).getD i 0) = b := fun i hi => by simp [List.getD, hi]
    rcases (show j = 0 ∨ j = 1 ∨ j = 2 ∨ j = 3 by omega) with e | e | e | e
    · subst e
      rw [Nat.add_zero, bs_get s pos h] at hget
      injection hget with hget
      rw [← hget]; exact ha
    · subst e; have := c2 (by omega); rw [hg _ hget] at this; omega
    · subst e; have := c3 (by omega); rw [hg _ hget] at this; omega
    · subst e; have := c4 (by omega); rw [hg _ hget] at this; omega
  simp only [goodB, badR, Bool.not_eq_true', decide_eq_false_iff_not]
  omega
/-- No bad one among the characters, just if none among the bytes. -/
theorem idx_good (s : ByteArray) : ∀ (f pos : Nat), s.size - pos ≤ f → (decide (0 ≤ Lib.idxFuncFrom badR true s f pos)) = !goodL ((bs s).drop pos) := by
  intro f
  induction f with
  | zero =>
    intro pos hf
    rw [Lib.idxFuncFrom_end _ _ _ _ _ (by omega), List.drop_eq_nil_of_le (by rw [bs_length]; omega)]
    rfl
  | succ f ih =>
    intro pos hf
    by_cases hp : pos < s.size
    · have hd := bs_drop s pos hp
      unfold Lib.idxFuncFrom
      rw [if_pos hp]
      by_cases ha : (s[pos]'hp).toNat < 128
      · have hdec : Utf8.decode s pos = ((s[pos]'hp).toNat, 1) := decode_ascii s pos hp ha
        rw [hdec]
        simp only []
        cases hl : badR (s[pos]'hp).toNat
        · rw [if_neg (by simp), ih (pos + 1) (by omega), hd]
          simp [goodL, goodB, hl]
        · rw [if_pos rfl, hd]
          simp [goodL, goodB, hl]
      · have hh := decode_high s pos hp (by omega)
        obtain ⟨hs, hg⟩ := high_good s pos hp (by omega)
        obtain ⟨r, n, hrn⟩ : ∃ r n, Utf8.decode s pos = (r, n) := ⟨_, _, rfl⟩
        rw [hrn] at hh hs hg ⊢
        simp only [] at hh hs hg ⊢
        have hb : badR r = false := by unfold badR; rw [decide_eq_false_iff_not]; omega
        rw [if_neg (by rw [hb]; simp), ih (pos + n) (by omega)]
        have hsp : (bs s).drop pos = ((bs s).drop pos).take n ++ (bs s).drop (pos + n) := by rw [← List.drop_drop, List.take_append_drop]
        rw [hsp]
        unfold goodL at hg ⊢
        rw [List.all_append, hg]
        simp
    · rw [Lib.idxFuncFrom_end _ _ _ _ _ hp, List.drop_eq_nil_of_le (by rw [bs_length]; omega)]
      rfl
theorem idx_good0 (s : ByteArray) : (decide (0 ≤ Lib.idxFunc badR true s)) = !goodL (bs s) := by
  have := idx_good s s.size 0 (by omega)
  rw [List.drop_zero] at this
  exact this
theorem plain1_any (x : Nat) (w : World) : Calls Tryz.prog 34 #[.int .i32 x] w fun e w' => e = .returned (.bool (badR x)) ∧ w = w' := by
  rcases (show x < 32 ∨ x = 59 ∨ x = 35 ∨ (32 ≤ x ∧ x ≠ 59 ∧ x ≠ 35) by omega) with h | h | h | ⟨h, h', h2⟩
  · go_enter Tryz.func34, Tryz.ntmps34
    go_wp2
    go_returns
    exact ⟨ret_bool (by unfold badR; symm; rw [decide_eq_true_iff]; omega), rfl⟩
  · subst h
    go_enter Tryz.func34, Tryz.ntmps34
    go_wp2
    go_returns
    exact ⟨ret_bool (by decide), rfl⟩
  · subst h
    go_enter Tryz.func34, Tryz.ntmps34
    go_wp2
    go_returns
    exact ⟨ret_bool (by decide), rfl⟩
  · have i1 : (32 : Int) ≤ (x : Int) := by omega
    have i2 : ((x : Int) == 59) = false := by simp; omega
    have i3 : ((x : Int) == 35) = false := by simp; omega
    go_enter Tryz.func34, Tryz.ntmps34
    go_wp2
    go_returns
    exact ⟨ret_bool (by unfold badR; symm; first | (rw [decide_eq_false_iff_not]; omega) | (rw [Bool.eq_iff_iff]; simp; omega)), rfl⟩
theorem plain1_pred (w : World) : Go.Proofs.PredGrows Tryz.prog 34 #[] badR w := by
  intro W x _ _
  exact (plain1_any x W).mono fun e w' h => ⟨h.1, h.2 ▸ Below.refl _ _⟩
theorem goodl_any (l : List UInt8) (w : World) :
    Calls Tryz.prog 16 #[.string (mk8 l), .func (.func 34) #[] #[]] w fun e w' => e = .returned (.bool (!goodL l)) ∧ Below w.heap.size w w' := by
  have := Tryz.strings_ContainsFunc_grows 34 #[] (enters_of Tryz.func34 (by kernel_rfl) rfl) badR (mk8 l) w (plain1_pred w)
  rw [idx_good0, bs_mk8] at this
  exact this
set_option maxRecDepth 20000 in
theorem plainL_any (l : List UInt8) (w : World) (hs : l.length ≤ 9223372036854775807) :
    Calls Tryz.prog 18 #[.string (mk8 l)] w fun e w' => e = .returned (.bool (plainL l)) ∧ Below w.heap.size w w' := by
  have hmf : ∀ (fn : Fn) (first cap : Array Value) (w : World), (Instr.makeFunc fn first cap).run Tryz.prog w = .ok (.func fn first cap) w := fun _ _ _ _ => rfl
  have GD := fun w => goodl_any l w
  by_cases hl : l.length ≤ 100
  · have TR := fun w => trim_any l w (by omega)
    have hli : ((mk8 l).size : Int) ≤ 100 := by rw [mk8_size]; omega
    by_cases hb : bareL l = l
    · rw [hb] at TR
      have hv : plainL l = goodL l := by simp [plainL, hl, hb]
      rw [hv]
      cases hg : goodL l
      · rw [hg] at GD
        clear hv hg hb hl
        go_enter Tryz.func18, Tryz.ntmps18
        go_wp2_with fail
        refine (TR _).mono ?_
        rintro e w1 ⟨rfl, hb1⟩
        go_wp2_with fail
        refine (GD _).mono ?_
        rintro e w2 ⟨rfl, hb2⟩
        go_wp2
        go_returns
        exact ⟨rfl, below_then hb1 hb2⟩
      · rw [hg] at GD
        clear hv hg hb hl
        go_enter Tryz.func18, Tryz.ntmps18
        go_wp2_with fail
        refine (TR _).mono ?_
        rintro e w1 ⟨rfl, hb1⟩
        go_wp2_with fail
        refine (GD _).mono ?_
        rintro e w2 ⟨rfl, hb2⟩
        go_wp2
        go_returns
        exact ⟨rfl, below_then hb1 hb2⟩
    · have hv : plainL l = false := by simp [plainL, hb]
      rw [hv]
      have hne := tl_ne hb
      have hne2 : ¬ ((mk8 (bareL l)).toList = (mk8 l).toList) := tl_ne2 hb
      clear hv hb hl
      go_enter Tryz.func18, Tryz.ntmps18
      go_wp2_with fail
      refine (TR _).mono ?_
      rintro e w1 ⟨rfl, hb1⟩
      go_wp2
      go_returns
      exact ⟨rfl, hb1⟩
  · have hli : (100 : Int) < ((mk8 l).size : Int) := by rw [mk8_size]; omega
    have hv : plainL l = false := by simp [plainL]; omega
    rw [hv]
    clear hv hl
    go_enter Tryz.func18, Tryz.ntmps18
    go_wp2
    go_returns
    exact ⟨rfl, Below.refl _ _⟩
end Go.Proofs.YtagncjnbabdbmaaGreatDoor
end

section
set_option linter.unusedSimpArgs false
set_option linter.unusedVariables false
namespace Go.Proofs.YtagncjnbabdbmaaGreatDoor
open Go.RowKit

def badI (l : List Int) : Bool := l.any fun x => !scalarB x
def rangeBad (x : RowS) : Bool := !scalarB x.fr || !scalarB x.up || decide (x.up < x.fr) || decide (x.cl < 0) || decide (254 < x.cl) || decide (18 < x.il.length) || badI x.il
def kindBad (x : RowS) : Bool := !lettersL x.kd || (decide (x.kd ≠ []) && decide (x.il = []))
def oneBad (x : RowS) : Bool := (decide (x.up ≠ x.fr) && decide (x.il ≠ [])) || (decide (x.up = x.fr) && ((innerS x.nm FSTB).2 || (innerS x.nm LSTB).2))
def nameBad (x : RowS) : Bool := !plainL x.nm || !plainL x.ct
/-- What is wrong with a row. -/
def checkS (x : RowS) : Int := if rangeBad x = true then 11 else if kindBad x = true ∨ oneBad x = true ∨ nameBad x = true then 10 else 0
theorem check1_any (x : Int) (w : World) : Calls Tryz.prog 14 #[.int .i32 x] w fun e w' => e = .returned (.bool (!scalarB x)) ∧ w = w' := by
  go_enter Tryz.func14, Tryz.ntmps14
  go_wp2_with fail
  refine (scalar_any _ _).mono ?_
  rintro e w1 ⟨rfl, rfl⟩
  go_wp2
  go_returns
  exact ⟨rfl, rfl⟩
theorem badc_any (A : Option Addr) (n c : Nat) (zs : List Int) (W : World) (hr : Rd W A n (Rs zs)) (hn : n ≤ 1099511627776) :
    Calls Tryz.prog 13 #[.slice A n c, .func (.func 14) #[] #[]] W fun e w' => e = .returned (.bool (badI zs)) ∧ Below W.heap.size W w' := by
  refine containsf_any _ _ (enters_of Tryz.func14 (by kernel_rfl) rfl) (fun x => !scalarB x) A n c zs W hr hn ?_
  intro x W2 hb
  refine (check1_any x W2).mono ?_
  rintro e w' ⟨rfl, rfl⟩
  exact ⟨rfl, Below.refl _ _⟩
theorem innerF5 (l : List UInt8) (w : World) (hs : l.length ≤ 9223372036854775807) :
    Calls Tryz.prog 15 #[.string (mk8 l), .string ⟨#[44, 32, 70, 105, 114, 115, 116, 62]⟩] w fun e w' => e = .returned (.tuple #[.string (mk8 (innerS l FSTB).1), .bool (innerS l FSTB).2]) ∧ w = w' := by
  have := inner_any (mk8 l) ⟨#[44, 32, 70, 105, 114, 115, 116, 62]⟩ w (by rw [mk8_size]; exact hs)
  rw [bs_mk8] at this
  exact this
theorem innerL5 (l : List UInt8) (w : World) (hs : l.length ≤ 9223372036854775807) :
    Calls Tryz.prog 15 #[.string (mk8 l), .string ⟨#[44, 32, 76, 97, 115, 116, 62]⟩] w fun e w' => e = .returned (.tuple #[.string (mk8 (innerS l LSTB).1), .bool (innerS l LSTB).2]) ∧ w = w' := by
  have := inner_any (mk8 l) ⟨#[44, 32, 76, 97, 115, 116, 62]⟩ w (by rw [mk8_size]; exact hs)
  rw [bs_mk8] at this
  exact this
theorem mk8_empty (l : List UInt8) : (mk8 l).toList.isEmpty = decide (l = []) := by
  rw [toList_bs, bs_mk8]
  cases l <;> simp
set_option maxRecDepth 20000 in
set_option maxHeartbeats 8000000 in
theorem check_any (x : RowS) (A : Option Addr) (c : Nat) (w : World) (hA : Rd w A x.il.length (Rs x.il)) (hl : x.il.length ≤ 9223372036854775807) (hn : x.nm.length ≤ 9223372036854775807) (hc : x.ct.length ≤ 9223372036854775807) :
    Calls Tryz.prog 6 #[rowV x A c] w fun e w' => e = .returned (.int .i64 (checkS x)) ∧ Below w.heap.size w w' := by
  obtain ⟨xf, xu, xn, xct, xcl, xk, xil⟩ := x
  simp only [] at hA hl hn hc
  obtain ⟨r, hr⟩ : ∃ r, r = checkS ⟨xf, xu, xn, xct, xcl, xk, xil⟩ := ⟨_, rfl⟩
  rw [← hr]
  simp only [rowV]
  generalize hgm : xil.length = m at *
  have HGM : Hid (xil.length = m) := hgm
  clear hgm
  have HBOX : ∀ o, Below w.heap.size w (w.alloc o) := fun o => (Below.refl _ _).alloc (Nat.le_refl _) _
  cases h1 : scalarB xf
  · have HR : Hid (r = 11) := by
      show _ = _
      rw [hr]
      unfold checkS rangeBad; rw [if_pos (by simp [h1])]
    clear hr
    go_enter Tryz.func6, Tryz.ntmps6
    go_wp2_with fail
    refine (scalar_any _ _).mono ?_
    rintro e w1 ⟨rfl, rfl⟩
    go_wp2
    go_returns
    exact ⟨ret_i64 HR.out.symm, HBOX _⟩
  · cases h2 : scalarB xu
    · have HR : Hid (r = 11) := by
        show _ = _
        rw [hr]
        unfold checkS rangeBad; rw [if_pos (by simp [h2])]
      clear hr
      go_enter Tryz.func6, Tryz.ntmps6
      go_wp2_with fail
      refine (scalar_any _ _).mono ?_
      rintro e w1 ⟨rfl, rfl⟩
      go_wp2_with fail
      refine (scalar_any _ _).mono ?_
      rintro e w1 ⟨rfl, rfl⟩
      go_wp2
      go_returns
      exact ⟨ret_i64 HR.out.symm, HBOX _⟩
    · by_cases h3 : xu < xf
      · have HR : Hid (r = 11) := by
          show _ = _
          rw [hr]
          unfold checkS rangeBad; rw [if_pos (by simp [h3])]
        clear hr
        go_enter Tryz.func6, Tryz.ntmps6
        go_wp2_with fail
        refine (scalar_any _ _).mono ?_
        rintro e w1 ⟨rfl, rfl⟩
        go_wp2_with fail
        refine (scalar_any _ _).mono ?_
        rintro e w1 ⟨rfl, rfl⟩
        go_wp2
        go_returns
        exact ⟨ret_i64 HR.out.symm, HBOX _⟩
      · have h3i : xf ≤ xu := by omega
        by_cases h4 : xcl < 0
        · have HR : Hid (r = 11) := by
            show _ = _
            rw [hr]
            unfold checkS rangeBad; rw [if_pos (by simp [h4])]
          clear hr
          go_enter Tryz.func6, Tryz.ntmps6
          go_wp2_with fail
          refine (scalar_any _ _).mono ?_
          rintro e w1 ⟨rfl, rfl⟩
          go_wp2_with fail
          refine (scalar_any _ _).mono ?_
          rintro e w1 ⟨rfl, rfl⟩
          go_wp2
          go_returns
          exact ⟨ret_i64 HR.out.symm, HBOX _⟩
        · have h4i : 0 ≤ xcl := by omega
          by_cases h5 : 254 < xcl
          · have HR : Hid (r = 11) := by
              show _ = _
              rw [hr]
              unfold checkS rangeBad; rw [if_pos (by simp [h5])]
            clear hr
            go_enter Tryz.func6, Tryz.ntmps6
            go_wp2_with fail
            refine (scalar_any _ _).mono ?_
            rintro e w1 ⟨rfl, rfl⟩
            go_wp2_with fail
            refine (scalar_any _ _).mono ?_
            rintro e w1 ⟨rfl, rfl⟩
            go_wp2
            go_returns
            exact ⟨ret_i64 HR.out.symm, HBOX _⟩
          · have h5i : xcl ≤ 254 := by omega
            by_cases h6 : 18 < m
            · have HR : Hid (r = 11) := by
                show _ = _
                rw [hr]
                unfold checkS rangeBad; rw [if_pos (by simp [HGM.out, h6])]
              clear hr
              have h6i : (18 : Int) < (m : Int) := by omega
              go_enter Tryz.func6, Tryz.ntmps6
              go_wp2_with fail
              refine (scalar_any _ _).mono ?_
              rintro e w1 ⟨rfl, rfl⟩
              go_wp2_with fail
              refine (scalar_any _ _).mono ?_
              rintro e w1 ⟨rfl, rfl⟩
              go_wp2
              go_returns
              exact ⟨ret_i64 HR.out.symm, HBOX _⟩
            · have h6i : (m : Int) ≤ 18 := by omega
              cases hbi : badI xil
              · have hRB : rangeBad ⟨xf, xu, xn, xct, xcl, xk, xil⟩ = false := by simp [rangeBad, h1, h2, h3, h4, h5, hbi, HGM.out]; omega
                obtain ⟨⟨fa, fb⟩, hFF⟩ : ∃ z, z = innerS xn FSTB := ⟨_, rfl⟩
                obtain ⟨⟨la, lb⟩, hLL⟩ : ∃ z, z = innerS xn LSTB := ⟨_, rfl⟩
                have hcz : r = if kindBad ⟨xf, xu, xn, xct, xcl, xk, xil⟩ = true ∨ oneBad ⟨xf, xu, xn, xct, xcl, xk, xil⟩ = true ∨ nameBad ⟨xf, xu, xn, xct, xcl, xk, xil⟩ = true then 10 else 0 := by rw [hr]; unfold checkS; rw [if_neg (by rw [hRB]; simp)]
                clear hr hRB
                cases hlk : lettersL xk
                · have HR : Hid (r = 10) := by
                    show _ = _
                    rw [hcz, if_pos (.inl (by simp [kindBad, hlk]))]
                  clear hcz
                  go_enter Tryz.func6, Tryz.ntmps6
                  go_wp2_with fail
                  refine (scalar_any _ _).mono ?_
                  rintro e w1 ⟨rfl, rfl⟩
                  go_wp2_with fail
                  refine (scalar_any _ _).mono ?_
                  rintro e w1 ⟨rfl, rfl⟩
                  go_wp2_with fail
                  generalize hWW : w.alloc _ = W at *
                  have hbW : Below w.heap.size w W := by rw [← hWW]; exact HBOX _
                  have hx : W.heap[w.heap.size]? = some (.cells #[.int .i32 xf, .int .i32 xu, .string (mk8 xn), .string (mk8 xct), .int .i64 xcl, .string (mk8 xk), .slice A m c] 27 (0, 0)) := by rw [← hWW]; exact box_new _ _ _
                  clear hWW HBOX
                  refine (badc_any A m c xil W (hA.below hbW) (by omega)).mono ?_
                  rw [hbi]
                  rintro e w2 ⟨rfl, hb2⟩
                  have hBB := below_then hbW hb2
                  have hzx := box_below hx hb2
                  have hz0 : w2.cell? ⟨w.heap.size, 0, none⟩ = some (.int .i32 xf) := box_cell hzx 0 rfl
                  have hz1 : w2.cell? ⟨w.heap.size, 1, none⟩ = some (.int .i32 xu) := box_cell hzx 1 rfl
                  have hz2 : w2.cell? ⟨w.heap.size, 2, none⟩ = some (.string (mk8 xn)) := box_cell hzx 2 rfl
                  have hz3 : w2.cell? ⟨w.heap.size, 3, none⟩ = some (.string (mk8 xct)) := box_cell hzx 3 rfl
                  have hz4 : w2.cell? ⟨w.heap.size, 4, none⟩ = some (.int .i64 xcl) := box_cell hzx 4 rfl
                  have hz5 : w2.cell? ⟨w.heap.size, 5, none⟩ = some (.string (mk8 xk)) := box_cell hzx 5 rfl
                  have hz6 : w2.cell? ⟨w.heap.size, 6, none⟩ = some (.slice A m c) := box_cell hzx 6 rfl
                  clear hbW hb2 hx hA
                  go_wp2_with fail
                  refine (innerF5 xn _ hn).mono ?_
                  rw [← hFF]
                  rintro e w3 ⟨rfl, rfl⟩
                  go_wp2_with fail
                  refine (innerL5 xn _ hn).mono ?_
                  rw [← hLL]
                  rintro e w3 ⟨rfl, rfl⟩
                  go_wp2_with fail
                  refine (letters_any xk _).mono ?_
                  rw [hlk]
                  rintro e w4 ⟨rfl, hb4⟩
                  replace hBB := below_then hBB hb4
                  have hyx := box_below hzx hb4
                  have hy0 : w4.cell? ⟨w.heap.size, 0, none⟩ = some (.int .i32 xf) := box_cell hyx 0 rfl
                  have hy1 : w4.cell? ⟨w.heap.size, 1, none⟩ = some (.int .i32 xu) := box_cell hyx 1 rfl
                  have hy2 : w4.cell? ⟨w.heap.size, 2, none⟩ = some (.string (mk8 xn)) := box_cell hyx 2 rfl
                  have hy3 : w4.cell? ⟨w.heap.size, 3, none⟩ = some (.string (mk8 xct)) := box_cell hyx 3 rfl
                  have hy4 : w4.cell? ⟨w.heap.size, 4, none⟩ = some (.int .i64 xcl) := box_cell hyx 4 rfl
                  have hy5 : w4.cell? ⟨w.heap.size, 5, none⟩ = some (.string (mk8 xk)) := box_cell hyx 5 rfl
                  have hy6 : w4.cell? ⟨w.heap.size, 6, none⟩ = some (.slice A m c) := box_cell hyx 6 rfl
                  clear hz0 hz1 hz2 hz3 hz4 hz5 hz6 hzx hb4
                  go_wp2
                  go_returns
                  exact ⟨ret_i64 HR.out.symm, hBB⟩
                · by_cases hke : xk ≠ [] ∧ xil = []
                  · have HR : Hid (r = 10) := by
                      show _ = _
                      rw [hcz, if_pos (.inl (by simp [kindBad, hke.1, hke.2]))]
                    clear hcz
                    obtain ⟨hke1, hke2⟩ := hke
                    have hkn : (mk8 xk).toList.isEmpty = false := by rw [mk8_empty]; simpa using hke1
                    obtain rfl : m = 0 := by rw [← HGM.out, hke2]; rfl
                    clear hke1 hke2
                    go_enter Tryz.func6, Tryz.ntmps6
                    go_wp2_with fail
                    refine (scalar_any _ _).mono ?_
                    rintro e w1 ⟨rfl, rfl⟩
                    go_wp2_with fail
                    refine (scalar_any _ _).mono ?_
                    rintro e w1 ⟨rfl, rfl⟩
                    go_wp2_with fail
                    generalize hWW : w.alloc _ = W at *
                    have hbW : Below w.heap.size w W := by rw [← hWW]; exact HBOX _
                    have hx : W.heap[w.heap.size]? = some (.cells #[.int .i32 xf, .int .i32 xu, .string (mk8 xn), .string (mk8 xct), .int .i64 xcl, .string (mk8 xk), .slice A 0 c] 27 (0, 0)) := by rw [← hWW]; exact box_new _ _ _
                    clear hWW HBOX
                    refine (badc_any A 0 c xil W (hA.below hbW) (by omega)).mono ?_
                    rw [hbi]
                    rintro e w2 ⟨rfl, hb2⟩
                    have hBB := below_then hbW hb2
                    have hzx := box_below hx hb2
                    have hz0 : w2.cell? ⟨w.heap.size, 0, none⟩ = some (.int .i32 xf) := box_cell hzx 0 rfl
                    have hz1 : w2.cell? ⟨w.heap.size, 1, none⟩ = some (.int .i32 xu) := box_cell hzx 1 rfl
                    have hz2 : w2.cell? ⟨w.heap.size, 2, none⟩ = some (.string (mk8 xn)) := box_cell hzx 2 rfl
                    have hz3 : w2.cell? ⟨w.heap.size, 3, none⟩ = some (.string (mk8 xct)) := box_cell hzx 3 rfl
                    have hz4 : w2.cell? ⟨w.heap.size, 4, none⟩ = some (.int .i64 xcl) := box_cell hzx 4 rfl
                    have hz5 : w2.cell? ⟨w.heap.size, 5, none⟩ = some (.string (mk8 xk)) := box_cell hzx 5 rfl
                    have hz6 : w2.cell? ⟨w.heap.size, 6, none⟩ = some (.slice A 0 c) := box_cell hzx 6 rfl
                    clear hbW hb2 hx hA
                    go_wp2_with fail
                    refine (innerF5 xn _ hn).mono ?_
                    rw [← hFF]
                    rintro e w3 ⟨rfl, rfl⟩
                    go_wp2_with fail
                    refine (innerL5 xn _ hn).mono ?_
                    rw [← hLL]
                    rintro e w3 ⟨rfl, rfl⟩
                    go_wp2_with fail
                    refine (letters_any xk _).mono ?_
                    rw [hlk]
                    rintro e w4 ⟨rfl, hb4⟩
                    replace hBB := below_then hBB hb4
                    have hyx := box_below hzx hb4
                    have hy0 : w4.cell? ⟨w.heap.size, 0, none⟩ = some (.int .i32 xf) := box_cell hyx 0 rfl
                    have hy1 : w4.cell? ⟨w.heap.size, 1, none⟩ = some (.int .i32 xu) := box_cell hyx 1 rfl
                    have hy2 : w4.cell? ⟨w.heap.size, 2, none⟩ = some (.string (mk8 xn)) := box_cell hyx 2 rfl
                    have hy3 : w4.cell? ⟨w.heap.size, 3, none⟩ = some (.string (mk8 xct)) := box_cell hyx 3 rfl
                    have hy4 : w4.cell? ⟨w.heap.size, 4, none⟩ = some (.int .i64 xcl) := box_cell hyx 4 rfl
                    have hy5 : w4.cell? ⟨w.heap.size, 5, none⟩ = some (.string (mk8 xk)) := box_cell hyx 5 rfl
                    have hy6 : w4.cell? ⟨w.heap.size, 6, none⟩ = some (.slice A 0 c) := box_cell hyx 6 rfl
                    clear hz0 hz1 hz2 hz3 hz4 hz5 hz6 hzx hb4
                    go_wp2
                    go_returns
                    exact ⟨ret_i64 HR.out.symm, hBB⟩
                  · have HKB : Hid (kindBad ⟨xf, xu, xn, xct, xcl, xk, xil⟩ = false) := by
                      show _ = _
                      simp only [kindBad, hlk]
                      simp
                      intro h1 h2
                      exact hke ⟨h1, h2⟩
                    have hzz : (mk8 xk).toList.isEmpty = true ∨ ((mk8 xk).toList.isEmpty = false ∧ 0 < m) := by
                      rw [mk8_empty]
                      by_cases hk : xk = []
                      · left; simpa using hk
                      · right
                        refine ⟨by simpa using hk, by rw [← HGM.out]; exact List.length_pos_iff.2 (fun h => hke ⟨hk, h⟩)⟩
                    have HCZ := Lib.hid hcz
                    clear hcz hke
                    rcases hzz with hkn | ⟨hkn, hmp⟩
                    · by_cases hone : xu = xf
                      · subst hone
                        have hoi : (xu == xu) = true := by simp
                        cases hfb : fb
                        · subst hfb
                          cases hlb : lb
                          · cases hpn : plainL xn
                            · have HR : Hid (r = 10) := by
                                show _ = _
                                rw [HCZ.out, if_pos (.inr (.inr (by simp [nameBad, hpn])))]
                              go_enter Tryz.func6, Tryz.ntmps6
                              go_wp2_with fail
                              refine (scalar_any _ _).mono ?_
                              rintro e w1 ⟨rfl, rfl⟩
                              go_wp2_with fail
                              refine (scalar_any _ _).mono ?_
                              rintro e w1 ⟨rfl, rfl⟩
                              go_wp2_with fail
                              generalize hWW : w.alloc _ = W at *
                              have hbW : Below w.heap.size w W := by rw [← hWW]; exact HBOX _
                              have hx : W.heap[w.heap.size]? = some (.cells #[.int .i32 xu, .int .i32 xu, .string (mk8 xn), .string (mk8 xct), .int .i64 xcl, .string (mk8 xk), .slice A m c] 27 (0, 0)) := by rw [← hWW]; exact box_new _ _ _
                              clear hWW HBOX
                              refine (badc_any A m c xil W (hA.below hbW) (by omega)).mono ?_
                              rw [hbi]
                              rintro e w2 ⟨rfl, hb2⟩
                              have hBB := below_then hbW hb2
                              have hzx := box_below hx hb2
                              have hz0 : w2.cell? ⟨w.heap.size, 0, none⟩ = some (.int .i32 xu) := box_cell hzx 0 rfl
                              have hz1 : w2.cell? ⟨w.heap.size, 1, none⟩ = some (.int .i32 xu) := box_cell hzx 1 rfl
                              have hz2 : w2.cell? ⟨w.heap.size, 2, none⟩ = some (.string (mk8 xn)) := box_cell hzx 2 rfl
                              have hz3 : w2.cell? ⟨w.heap.size, 3, none⟩ = some (.string (mk8 xct)) := box_cell hzx 3 rfl
                              have hz4 : w2.cell? ⟨w.heap.size, 4, none⟩ = some (.int .i64 xcl) := box_cell hzx 4 rfl
                              have hz5 : w2.cell? ⟨w.heap.size, 5, none⟩ = some (.string (mk8 xk)) := box_cell hzx 5 rfl
                              have hz6 : w2.cell? ⟨w.heap.size, 6, none⟩ = some (.slice A m c) := box_cell hzx 6 rfl
                              clear hbW hb2 hx hA
                              go_wp2_with fail
                              refine (innerF5 xn _ hn).mono ?_
                              rw [← hFF]
                              rintro e w3 ⟨rfl, rfl⟩
                              go_wp2_with fail
                              refine (innerL5 xn _ hn).mono ?_
                              rw [← hLL]
                              rintro e w3 ⟨rfl, rfl⟩
                              go_wp2_with fail
                              refine (letters_any xk _).mono ?_
                              rw [hlk]
                              rintro e w4 ⟨rfl, hb4⟩
                              replace hBB := below_then hBB hb4
                              have hyx := box_below hzx hb4
                              have hy0 : w4.cell? ⟨w.heap.size, 0, none⟩ = some (.int .i32 xu) := box_cell hyx 0 rfl
                              have hy1 : w4.cell? ⟨w.heap.size, 1, none⟩ = some (.int .i32 xu) := box_cell hyx 1 rfl
                              have hy2 : w4.cell? ⟨w.heap.size, 2, none⟩ = some (.string (mk8 xn)) := box_cell hyx 2 rfl
                              have hy3 : w4.cell? ⟨w.heap.size, 3, none⟩ = some (.string (mk8 xct)) := box_cell hyx 3 rfl
                              have hy4 : w4.cell? ⟨w.heap.size, 4, none⟩ = some (.int .i64 xcl) := box_cell hyx 4 rfl
                              have hy5 : w4.cell? ⟨w.heap.size, 5, none⟩ = some (.string (mk8 xk)) := box_cell hyx 5 rfl
                              have hy6 : w4.cell? ⟨w.heap.size, 6, none⟩ = some (.slice A m c) := box_cell hyx 6 rfl
                              clear hz0 hz1 hz2 hz3 hz4 hz5 hz6 hzx hb4
                              go_wp2_with fail
                              refine (plainL_any xn _ hn).mono ?_
                              rw [hpn]
                              rintro e w5 ⟨rfl, hb5⟩
                              replace hBB := below_then hBB hb5
                              have hux := box_below hyx hb5
                              have hu0 : w5.cell? ⟨w.heap.size, 0, none⟩ = some (.int .i32 xu) := box_cell hux 0 rfl
                              have hu1 : w5.cell? ⟨w.heap.size, 1, none⟩ = some (.int .i32 xu) := box_cell hux 1 rfl
                              have hu2 : w5.cell? ⟨w.heap.size, 2, none⟩ = some (.string (mk8 xn)) := box_cell hux 2 rfl
                              have hu3 : w5.cell? ⟨w.heap.size, 3, none⟩ = some (.string (mk8 xct)) := box_cell hux 3 rfl
                              have hu4 : w5.cell? ⟨w.heap.size, 4, none⟩ = some (.int .i64 xcl) := box_cell hux 4 rfl
                              have hu5 : w5.cell? ⟨w.heap.size, 5, none⟩ = some (.string (mk8 xk)) := box_cell hux 5 rfl
                              have hu6 : w5.cell? ⟨w.heap.size, 6, none⟩ = some (.slice A m c) := box_cell hux 6 rfl
                              clear hy0 hy1 hy2 hy3 hy4 hy5 hy6 hyx hb5
                              go_wp2
                              go_returns
                              exact ⟨ret_i64 HR.out.symm, hBB⟩
                            · cases hpc : plainL xct
                              · have HR : Hid (r = 10) := by
                                  show _ = _
                                  rw [HCZ.out, if_pos (.inr (.inr (by simp [nameBad, hpc])))]
                                go_enter Tryz.func6, Tryz.ntmps6
                                go_wp2_with fail
                                refine (scalar_any _ _).mono ?_
                                rintro e w1 ⟨rfl, rfl⟩
                                go_wp2_with fail
                                refine (scalar_any _ _).mono ?_
                                rintro e w1 ⟨rfl, rfl⟩
                                go_wp2_with fail
                                generalize hWW : w.alloc _ = W at *
                                have hbW : Below w.heap.size w W := by rw [← hWW]; exact HBOX _
                                have hx : W.heap[w.heap.size]? = some (.cells #[.int .i32 xu, .int .i32 xu, .string (mk8 xn), .string (mk8 xct), .int .i64 xcl, .string (mk8 xk), .slice A m c] 27 (0, 0)) := by rw [← hWW]; exact box_new _ _ _
                                clear hWW HBOX
                                refine (badc_any A m c xil W (hA.below hbW) (by omega)).mono ?_
                                rw [hbi]
                                rintro e w2 ⟨rfl, hb2⟩
                                have hBB := below_then hbW hb2
                                have hzx := box_below hx hb2
                                have hz0 : w2.cell? ⟨w.heap.size, 0, none⟩ = some (.int .i32 xu) := box_cell hzx 0 rfl
                                have hz1 : w2.cell? ⟨w.heap.size, 1, none⟩ = some (.int .i32 xu) := box_cell hzx 1 rfl
                                have hz2 : w2.cell? ⟨w.heap.size, 2, none⟩ = some (.string (mk8 xn)) := box_cell hzx 2 rfl
                                have hz3 : w2.cell? ⟨w.heap.size, 3, none⟩ = some (.string (mk8 xct)) := box_cell hzx 3 rfl
                                have hz4 : w2.cell? ⟨w.heap.size, 4, none⟩ = some (.int .i64 xcl) := box_cell hzx 4 rfl
                                have hz5 : w2.cell? ⟨w.heap.size, 5, none⟩ = some (.string (mk8 xk)) := box_cell hzx 5 rfl
                                have hz6 : w2.cell? ⟨w.heap.size, 6, none⟩ = some (.slice A m c) := box_cell hzx 6 rfl
                                clear hbW hb2 hx hA
                                go_wp2_with fail
                                refine (innerF5 xn _ hn).mono ?_
                                rw [← hFF]
                                rintro e w3 ⟨rfl, rfl⟩
                                go_wp2_with fail
                                refine (innerL5 xn _ hn).mono ?_
                                rw [← hLL]
                                rintro e w3 ⟨rfl, rfl⟩
                                go_wp2_with fail
                                refine (letters_any xk _).mono ?_
                                rw [hlk]
                                rintro e w4 ⟨rfl, hb4⟩
                                replace hBB := below_then hBB hb4
                                have hyx := box_below hzx hb4
                                have hy0 : w4.cell? ⟨w.heap.size, 0, none⟩ = some (.int .i32 xu) := box_cell hyx 0 rfl
                                have hy1 : w4.cell? ⟨w.heap.size, 1, none⟩ = some (.int .i32 xu) := box_cell hyx 1 rfl
                                have hy2 : w4.cell? ⟨w.heap.size, 2, none⟩ = some (.string (mk8 xn)) := box_cell hyx 2 rfl
                                have hy3 : w4.cell? ⟨w.heap.size, 3, none⟩ = some (.string (mk8 xct)) := box_cell hyx 3 rfl
                                have hy4 : w4.cell? ⟨w.heap.size, 4, none⟩ = some (.int .i64 xcl) := box_cell hyx 4 rfl
                                have hy5 : w4.cell? ⟨w.heap.size, 5, none⟩ = some (.string (mk8 xk)) := box_cell hyx 5 rfl
                                have hy6 : w4.cell? ⟨w.heap.size, 6, none⟩ = some (.slice A m c) := box_cell hyx 6 rfl
                                clear hz0 hz1 hz2 hz3 hz4 hz5 hz6 hzx hb4
                                go_wp2_with fail
                                refine (plainL_any xn _ hn).mono ?_
                                rw [hpn]
                                rintro e w5 ⟨rfl, hb5⟩
                                replace hBB := below_then hBB hb5
                                have hux := box_below hyx hb5
                                have hu0 : w5.cell? ⟨w.heap.size, 0, none⟩ = some (.int .i32 xu) := box_cell hux 0 rfl
                                have hu1 : w5.cell? ⟨w.heap.size, 1, none⟩ = some (.int .i32 xu) := box_cell hux 1 rfl
                                have hu2 : w5.cell? ⟨w.heap.size, 2, none⟩ = some (.string (mk8 xn)) := box_cell hux 2 rfl
                                have hu3 : w5.cell? ⟨w.heap.size, 3, none⟩ = some (.string (mk8 xct)) := box_cell hux 3 rfl
                                have hu4 : w5.cell? ⟨w.heap.size, 4, none⟩ = some (.int .i64 xcl) := box_cell hux 4 rfl
                                have hu5 : w5.cell? ⟨w.heap.size, 5, none⟩ = some (.string (mk8 xk)) := box_cell hux 5 rfl
                                have hu6 : w5.cell? ⟨w.heap.size, 6, none⟩ = some (.slice A m c) := box_cell hux 6 rfl
                                clear hy0 hy1 hy2 hy3 hy4 hy5 hy6 hyx hb5
                                go_wp2_with fail
                                refine (plainL_any xct _ hc).mono ?_
                                rw [hpc]
                                rintro e w6 ⟨rfl, hb6⟩
                                replace hBB := below_then hBB hb6
                                go_wp2
                                go_returns
                                exact ⟨ret_i64 HR.out.symm, hBB⟩
                              · have HR : Hid (r = 0) := by
                                  show _ = _
                                  rw [HCZ.out, if_neg]
                                  rintro (h | h | h)
                                  · rw [HKB.out] at h; simp at h
                                  · simp [oneBad, ← hFF, ← hLL, hlb] at h
                                  · simp [nameBad, hpn, hpc] at h
                                go_enter Tryz.func6, Tryz.ntmps6
                                go_wp2_with fail
                                refine (scalar_any _ _).mono ?_
                                rintro e w1 ⟨rfl, rfl⟩
                                go_wp2_with fail
                                refine (scalar_any _ _).mono ?_
                                rintro e w1 ⟨rfl, rfl⟩
                                go_wp2_with fail
                                generalize hWW : w.alloc _ = W at *
                                have hbW : Below w.heap.size w W := by rw [← hWW]; exact HBOX _
                                have hx : W.heap[w.heap.size]? = some (.cells #[.int .i32 xu, .int .i32 xu, .string (mk8 xn), .string (mk8 xct), .int .i64 xcl, .string (mk8 xk), .slice A m c] 27 (0, 0)) := by rw [← hWW]; exact box_new _ _ _
                                clear hWW HBOX
                                refine (badc_any A m c xil W (hA.below hbW) (by omega)).mono ?_
                                rw [hbi]
                                rintro e w2 ⟨rfl, hb2⟩
                                have hBB := below_then hbW hb2
                                have hzx := box_below hx hb2
                                have hz0 : w2.cell? ⟨w.heap.size, 0, none⟩ = some (.int .i32 xu) := box_cell hzx 0 rfl
                                have hz1 : w2.cell? ⟨w.heap.size, 1, none⟩ = some (.int .i32 xu) := box_cell hzx 1 rfl
                                have hz2 : w2.cell? ⟨w.heap.size, 2, none⟩ = some (.string (mk8 xn)) := box_cell hzx 2 rfl
                                have hz3 : w2.cell? ⟨w.heap.size, 3, none⟩ = some (.string (mk8 xct)) := box_cell hzx 3 rfl
                                have hz4 : w2.cell? ⟨w.heap.size, 4, none⟩ = some (.int .i64 xcl) := box_cell hzx 4 rfl
                                have hz5 : w2.cell? ⟨w.heap.size, 5, none⟩ = some (.string (mk8 xk)) := box_cell hzx 5 rfl
                                have hz6 : w2.cell? ⟨w.heap.size, 6, none⟩ = some (.slice A m c) := box_cell hzx 6 rfl
                                clear hbW hb2 hx hA
                                go_wp2_with fail
                                refine (innerF5 xn _ hn).mono ?_
                                rw [← hFF]
                                rintro e w3 ⟨rfl, rfl⟩
                                go_wp2_with fail
                                refine (innerL5 xn _ hn).mono ?_
                                rw [← hLL]
                                rintro e w3 ⟨rfl, rfl⟩
                                go_wp2_with fail
                                refine (letters_any xk _).mono ?_
                                rw [hlk]
                                rintro e w4 ⟨rfl, hb4⟩
                                replace hBB := below_then hBB hb4
                                have hyx := box_below hzx hb4
                                have hy0 : w4.cell? ⟨w.heap.size, 0, none⟩ = some (.int .i32 xu) := box_cell hyx 0 rfl
                                have hy1 : w4.cell? ⟨w.heap.size, 1, none⟩ = some (.int .i32 xu) := box_cell hyx 1 rfl
                                have hy2 : w4.cell? ⟨w.heap.size, 2, none⟩ = some (.string (mk8 xn)) := box_cell hyx 2 rfl
                                have hy3 : w4.cell? ⟨w.heap.size, 3, none⟩ = some (.string (mk8 xct)) := box_cell hyx 3 rfl
                                have hy4 : w4.cell? ⟨w.heap.size, 4, none⟩ = some (.int .i64 xcl) := box_cell hyx 4 rfl
                                have hy5 : w4.cell? ⟨w.heap.size, 5, none⟩ = some (.string (mk8 xk)) := box_cell hyx 5 rfl
                                have hy6 : w4.cell? ⟨w.heap.size, 6, none⟩ = some (.slice A m c) := box_cell hyx 6 rfl
                                clear hz0 hz1 hz2 hz3 hz4 hz5 hz6 hzx hb4
                                go_wp2_with fail
                                refine (plainL_any xn _ hn).mono ?_
                                rw [hpn]
                                rintro e w5 ⟨rfl, hb5⟩
                                replace hBB := below_then hBB hb5
                                have hux := box_below hyx hb5
                                have hu0 : w5.cell? ⟨w.heap.size, 0, none⟩ = some (.int .i32 xu) := box_cell hux 0 rfl
                                have hu1 : w5.cell? ⟨w.heap.size, 1, none⟩ = some (.int .i32 xu) := box_cell hux 1 rfl
                                have hu2 : w5.cell? ⟨w.heap.size, 2, none⟩ = some (.string (mk8 xn)) := box_cell hux 2 rfl
                                have hu3 : w5.cell? ⟨w.heap.size, 3, none⟩ = some (.string (mk8 xct)) := box_cell hux 3 rfl
                                have hu4 : w5.cell? ⟨w.heap.size, 4, none⟩ = some (.int .i64 xcl) := box_cell hux 4 rfl
                                have hu5 : w5.cell? ⟨w.heap.size, 5, none⟩ = some (.string (mk8 xk)) := box_cell hux 5 rfl
                                have hu6 : w5.cell? ⟨w.heap.size, 6, none⟩ = some (.slice A m c) := box_cell hux 6 rfl
                                clear hy0 hy1 hy2 hy3 hy4 hy5 hy6 hyx hb5
                                go_wp2_with fail
                                refine (plainL_any xct _ hc).mono ?_
                                rw [hpc]
                                rintro e w6 ⟨rfl, hb6⟩
                                replace hBB := below_then hBB hb6
                                go_wp2
                                go_returns
                                exact ⟨ret_i64 HR.out.symm, hBB⟩
                          · have HR : Hid (r = 10) := by
                              show _ = _
                              rw [HCZ.out, if_pos (.inr (.inl (by simp [oneBad, ← hLL, hlb])))]
                            subst hlb
                            go_enter Tryz.func6, Tryz.ntmps6
                            go_wp2_with fail
                            refine (scalar_any _ _).mono ?_
                            rintro e w1 ⟨rfl, rfl⟩
                            go_wp2_with fail
                            refine (scalar_any _ _).mono ?_
                            rintro e w1 ⟨rfl, rfl⟩
                            go_wp2_with fail
                            generalize hWW : w.alloc _ = W at *
                            have hbW : Below w.heap.size w W := by rw [← hWW]; exact HBOX _
                            have hx : W.heap[w.heap.size]? = some (.cells #[.int .i32 xu, .int .i32 xu, .string (mk8 xn), .string (mk8 xct), .int .i64 xcl, .string (mk8 xk), .slice A m c] 27 (0, 0)) := by rw [← hWW]; exact box_new _ _ _
                            clear hWW HBOX
                            refine (badc_any A m c xil W (hA.below hbW) (by omega)).mono ?_
                            rw [hbi]
                            rintro e w2 ⟨rfl, hb2⟩
                            have hBB := below_then hbW hb2
                            have hzx := box_below hx hb2
                            have hz0 : w2.cell? ⟨w.heap.size, 0, none⟩ = some (.int .i32 xu) := box_cell hzx 0 rfl
                            have hz1 : w2.cell? ⟨w.heap.size, 1, none⟩ = some (.int .i32 xu) := box_cell hzx 1 rfl
                            have hz2 : w2.cell? ⟨w.heap.size, 2, none⟩ = some (.string (mk8 xn)) := box_cell hzx 2 rfl
                            have hz3 : w2.cell? ⟨w.heap.size, 3, none⟩ = some (.string (mk8 xct)) := box_cell hzx 3 rfl
                            have hz4 : w2.cell? ⟨w.heap.size, 4, none⟩ = some (.int .i64 xcl) := box_cell hzx 4 rfl
                            have hz5 : w2.cell? ⟨w.heap.size, 5, none⟩ = some (.string (mk8 xk)) := box_cell hzx 5 rfl
                            have hz6 : w2.cell? ⟨w.heap.size, 6, none⟩ = some (.slice A m c) := box_cell hzx 6 rfl
                            clear hbW hb2 hx hA
                            go_wp2_with fail
                            refine (innerF5 xn _ hn).mono ?_
                            rw [← hFF]
                            rintro e w3 ⟨rfl, rfl⟩
                            go_wp2_with fail
                            refine (innerL5 xn _ hn).mono ?_
                            rw [← hLL]
                            rintro e w3 ⟨rfl, rfl⟩
                            go_wp2_with fail
                            refine (letters_any xk _).mono ?_
                            rw [hlk]
                            rintro e w4 ⟨rfl, hb4⟩
                            replace hBB := below_then hBB hb4
                            have hyx := box_below hzx hb4
                            have hy0 : w4.cell? ⟨w.heap.size, 0, none⟩ = some (.int .i32 xu) := box_cell hyx 0 rfl
                            have hy1 : w4.cell? ⟨w.heap.size, 1, none⟩ = some (.int .i32 xu) := box_cell hyx 1 rfl
                            have hy2 : w4.cell? ⟨w.heap.size, 2, none⟩ = some (.string (mk8 xn)) := box_cell hyx 2 rfl
                            have hy3 : w4.cell? ⟨w.heap.size, 3, none⟩ = some (.string (mk8 xct)) := box_cell hyx 3 rfl
                            have hy4 : w4.cell? ⟨w.heap.size, 4, none⟩ = some (.int .i64 xcl) := box_cell hyx 4 rfl
                            have hy5 : w4.cell? ⟨w.heap.size, 5, none⟩ = some (.string (mk8 xk)) := box_cell hyx 5 rfl
                            have hy6 : w4.cell? ⟨w.heap.size, 6, none⟩ = some (.slice A m c) := box_cell hyx 6 rfl
                            clear hz0 hz1 hz2 hz3 hz4 hz5 hz6 hzx hb4
                            go_wp2
                            go_returns
                            exact ⟨ret_i64 HR.out.symm, hBB⟩
                        · have HR : Hid (r = 10) := by
                            show _ = _
                            rw [HCZ.out, if_pos (.inr (.inl (by simp [oneBad, ← hFF, hfb])))]
                          subst hfb
                          go_enter Tryz.func6, Tryz.ntmps6
                          go_wp2_with fail
                          refine (scalar_any _ _).mono ?_
                          rintro e w1 ⟨rfl, rfl⟩
                          go_wp2_with fail
                          refine (scalar_any _ _).mono ?_
                          rintro e w1 ⟨rfl, rfl⟩
                          go_wp2_with fail
                          generalize hWW : w.alloc _ = W at *
                          have hbW : Below w.heap.size w W := by rw [← hWW]; exact HBOX _
                          have hx : W.heap[w.heap.size]? = some (.cells #[.int .i32 xu, .int .i32 xu, .string (mk8 xn), .string (mk8 xct), .int .i64 xcl, .string (mk8 xk), .slice A m c] 27 (0, 0)) := by rw [← hWW]; exact box_new _ _ _
                          clear hWW HBOX
                          refine (badc_any A m c xil W (hA.below hbW) (by omega)).mono ?_
                          rw [hbi]
                          rintro e w2 ⟨rfl, hb2⟩
                          have hBB := below_then hbW hb2
                          have hzx := box_below hx hb2
                          have hz0 : w2.cell? ⟨w.heap.size, 0, none⟩ = some (.int .i32 xu) := box_cell hzx 0 rfl
                          have hz1 : w2.cell? ⟨w.heap.size, 1, none⟩ = some (.int .i32 xu) := box_cell hzx 1 rfl
                          have hz2 : w2.cell? ⟨w.heap.size, 2, none⟩ = some (.string (mk8 xn)) := box_cell hzx 2 rfl
                          have hz3 : w2.cell? ⟨w.heap.size, 3, none⟩ = some (.string (mk8 xct)) := box_cell hzx 3 rfl
                          have hz4 : w2.cell? ⟨w.heap.size, 4, none⟩ = some (.int .i64 xcl) := box_cell hzx 4 rfl
                          have hz5 : w2.cell? ⟨w.heap.size, 5, none⟩ = some (.string (mk8 xk)) := box_cell hzx 5 rfl
                          have hz6 : w2.cell? ⟨w.heap.size, 6, none⟩ = some (.slice A m c) := box_cell hzx 6 rfl
                          clear hbW hb2 hx hA
                          go_wp2_with fail
                          refine (innerF5 xn _ hn).mono ?_
                          rw [← hFF]
                          rintro e w3 ⟨rfl, rfl⟩
                          go_wp2_with fail
                          refine (innerL5 xn _ hn).mono ?_
                          rw [← hLL]
                          rintro e w3 ⟨rfl, rfl⟩
                          go_wp2_with fail
                          refine (letters_any xk _).mono ?_
                          rw [hlk]
                          rintro e w4 ⟨rfl, hb4⟩
                          replace hBB := below_then hBB hb4
                          have hyx := box_below hzx hb4
                          have hy0 : w4.cell? ⟨w.heap.size, 0, none⟩ = some (.int .i32 xu) := box_cell hyx 0 rfl
                          have hy1 : w4.cell? ⟨w.heap.size, 1, none⟩ = some (.int .i32 xu) := box_cell hyx 1 rfl
                          have hy2 : w4.cell? ⟨w.heap.size, 2, none⟩ = some (.string (mk8 xn)) := box_cell hyx 2 rfl
                          have hy3 : w4.cell? ⟨w.heap.size, 3, none⟩ = some (.string (mk8 xct)) := box_cell hyx 3 rfl
                          have hy4 : w4.cell? ⟨w.heap.size, 4, none⟩ = some (.int .i64 xcl) := box_cell hyx 4 rfl
                          have hy5 : w4.cell? ⟨w.heap.size, 5, none⟩ = some (.string (mk8 xk)) := box_cell hyx 5 rfl
                          have hy6 : w4.cell? ⟨w.heap.size, 6, none⟩ = some (.slice A m c) := box_cell hyx 6 rfl
                          clear hz0 hz1 hz2 hz3 hz4 hz5 hz6 hzx hb4
                          go_wp2
                          go_returns
                          exact ⟨ret_i64 HR.out.symm, hBB⟩
                      · have hoi : (xu == xf) = false := by simpa using hone
                        rcases Nat.eq_zero_or_pos m with hm0 | hm0
                        · subst hm0
                          have hil : xil = [] := List.eq_nil_of_length_eq_zero HGM.out
                          have HIL := Lib.hid hil
                          clear hil
                          cases hpn : plainL xn
                          · have HR : Hid (r = 10) := by
                              show _ = _
                              rw [HCZ.out, if_pos (.inr (.inr (by simp [nameBad, hpn])))]
                            go_enter Tryz.func6, Tryz.ntmps6
                            go_wp2_with fail
                            refine (scalar_any _ _).mono ?_
                            rintro e w1 ⟨rfl, rfl⟩
                            go_wp2_with fail
                            refine (scalar_any _ _).mono ?_
                            rintro e w1 ⟨rfl, rfl⟩
                            go_wp2_with fail
                            generalize hWW : w.alloc _ = W at *
                            have hbW : Below w.heap.size w W := by rw [← hWW]; exact HBOX _
                            have hx : W.heap[w.heap.size]? = some (.cells #[.int .i32 xf, .int .i32 xu, .string (mk8 xn), .string (mk8 xct), .int .i64 xcl, .string (mk8 xk), .slice A 0 c] 27 (0, 0)) := by rw [← hWW]; exact box_new _ _ _
                            clear hWW HBOX
                            refine (badc_any A 0 c xil W (hA.below hbW) (by omega)).mono ?_
                            rw [hbi]
                            rintro e w2 ⟨rfl, hb2⟩
                            have hBB := below_then hbW hb2
                            have hzx := box_below hx hb2
                            have hz0 : w2.cell? ⟨w.heap.size, 0, none⟩ = some (.int .i32 xf) := box_cell hzx 0 rfl
                            have hz1 : w2.cell? ⟨w.heap.size, 1, none⟩ = some (.int .i32 xu) := box_cell hzx 1 rfl
                            have hz2 : w2.cell? ⟨w.heap.size, 2, none⟩ = some (.string (mk8 xn)) := box_cell hzx 2 rfl
                            have hz3 : w2.cell? ⟨w.heap.size, 3, none⟩ = some (.string (mk8 xct)) := box_cell hzx 3 rfl
                            have hz4 : w2.cell? ⟨w.heap.size, 4, none⟩ = some (.int .i64 xcl) := box_cell hzx 4 rfl
                            have hz5 : w2.cell? ⟨w.heap.size, 5, none⟩ = some (.string (mk8 xk)) := box_cell hzx 5 rfl
                            have hz6 : w2.cell? ⟨w.heap.size, 6, none⟩ = some (.slice A 0 c) := box_cell hzx 6 rfl
                            clear hbW hb2 hx hA
                            go_wp2_with fail
                            refine (innerF5 xn _ hn).mono ?_
                            rw [← hFF]
                            rintro e w3 ⟨rfl, rfl⟩
                            go_wp2_with fail
                            refine (innerL5 xn _ hn).mono ?_
                            rw [← hLL]
                            rintro e w3 ⟨rfl, rfl⟩
                            go_wp2_with fail
                            refine (letters_any xk _).mono ?_
                            rw [hlk]
                            rintro e w4 ⟨rfl, hb4⟩
                            replace hBB := below_then hBB hb4
                            have hyx := box_below hzx hb4
                            have hy0 : w4.cell? ⟨w.heap.size, 0, none⟩ = some (.int .i32 xf) := box_cell hyx 0 rfl
                            have hy1 : w4.cell? ⟨w.heap.size, 1, none⟩ = some (.int .i32 xu) := box_cell hyx 1 rfl
                            have hy2 : w4.cell? ⟨w.heap.size, 2, none⟩ = some (.string (mk8 xn)) := box_cell hyx 2 rfl
                            have hy3 : w4.cell? ⟨w.heap.size, 3, none⟩ = some (.string (mk8 xct)) := box_cell hyx 3 rfl
                            have hy4 : w4.cell? ⟨w.heap.size, 4, none⟩ = some (.int .i64 xcl) := box_cell hyx 4 rfl
                            have hy5 : w4.cell? ⟨w.heap.size, 5, none⟩ = some (.string (mk8 xk)) := box_cell hyx 5 rfl
                            have hy6 : w4.cell? ⟨w.heap.size, 6, none⟩ = some (.slice A 0 c) := box_cell hyx 6 rfl
                            clear hz0 hz1 hz2 hz3 hz4 hz5 hz6 hzx hb4
                            go_wp2_with fail
                            refine (plainL_any xn _ hn).mono ?_
                            rw [hpn]
                            rintro e w5 ⟨rfl, hb5⟩
                            replace hBB := below_then hBB hb5
                            have hux := box_below hyx hb5
                            have hu0 : w5.cell? ⟨w.heap.size, 0, none⟩ = some (.int .i32 xf) := box_cell hux 0 rfl
                            have hu1 : w5.cell? ⟨w.heap.size, 1, none⟩ = some (.int .i32 xu) := box_cell hux 1 rfl
                            have hu2 : w5.cell? ⟨w.heap.size, 2, none⟩ = some (.string (mk8 xn)) := box_cell hux 2 rfl
                            have hu3 : w5.cell? ⟨w.heap.size, 3, none⟩ = some (.string (mk8 xct)) := box_cell hux 3 rfl
                            have hu4 : w5.cell? ⟨w.heap.size, 4, none⟩ = some (.int .i64 xcl) := box_cell hux 4 rfl
                            have hu5 : w5.cell? ⟨w.heap.size, 5, none⟩ = some (.string (mk8 xk)) := box_cell hux 5 rfl
                            have hu6 : w5.cell? ⟨w.heap.size, 6, none⟩ = some (.slice A 0 c) := box_cell hux 6 rfl
                            clear hy0 hy1 hy2 hy3 hy4 hy5 hy6 hyx hb5
                            go_wp2
                            go_returns
                            exact ⟨ret_i64 HR.out.symm, hBB⟩
                          · cases hpc : plainL xct
                            · have HR : Hid (r = 10) := by
                                show _ = _
                                rw [HCZ.out, if_pos (.inr (.inr (by simp [nameBad, hpc])))]
                              go_enter Tryz.func6, Tryz.ntmps6
                              go_wp2_with fail
                              refine (scalar_any _ _).mono ?_
                              rintro e w1 ⟨rfl, rfl⟩
                              go_wp2_with fail
                              refine (scalar_any _ _).mono ?_
                              rintro e w1 ⟨rfl, rfl⟩
                              go_wp2_with fail
                              generalize hWW : w.alloc _ = W at *
                              have hbW : Below w.heap.size w W := by rw [← hWW]; exact HBOX _
                              have hx : W.heap[w.heap.size]? = some (.cells #[.int .i32 xf, .int .i32 xu, .string (mk8 xn), .string (mk8 xct), .int .i64 xcl, .string (mk8 xk), .slice A 0 c] 27 (0, 0)) := by rw [← hWW]; exact box_new _ _ _
                              clear hWW HBOX
                              refine (badc_any A 0 c xil W (hA.below hbW) (by omega)).mono ?_
                              rw [hbi]
                              rintro e w2 ⟨rfl, hb2⟩
                              have hBB := below_then hbW hb2
                              have hzx := box_below hx hb2
                              have hz0 : w2.cell? ⟨w.heap.size, 0, none⟩ = some (.int .i32 xf) := box_cell hzx 0 rfl
                              have hz1 : w2.cell? ⟨w.heap.size, 1, none⟩ = some (.int .i32 xu) := box_cell hzx 1 rfl
                              have hz2 : w2.cell? ⟨w.heap.size, 2, none⟩ = some (.string (mk8 xn)) := box_cell hzx 2 rfl
                              have hz3 : w2.cell? ⟨w.heap.size, 3, none⟩ = some (.string (mk8 xct)) := box_cell hzx 3 rfl
                              have hz4 : w2.cell? ⟨w.heap.size, 4, none⟩ = some (.int .i64 xcl) := box_cell hzx 4 rfl
                              have hz5 : w2.cell? ⟨w.heap.size, 5, none⟩ = some (.string (mk8 xk)) := box_cell hzx 5 rfl
                              have hz6 : w2.cell? ⟨w.heap.size, 6, none⟩ = some (.slice A 0 c) := box_cell hzx 6 rfl
                              clear hbW hb2 hx hA
                              go_wp2_with fail
                              refine (innerF5 xn _ hn).mono ?_
                              rw [← hFF]
                              rintro e w3 ⟨rfl, rfl⟩
                              go_wp2_with fail
                              refine (innerL5 xn _ hn).mono ?_
                              rw [← hLL]
                              rintro e w3 ⟨rfl, rfl⟩
                              go_wp2_with fail
                              refine (letters_any xk _).mono ?_
                              rw [hlk]
                              rintro e w4 ⟨rfl, hb4⟩
                              replace hBB := below_then hBB hb4
                              have hyx := box_below hzx hb4
                              have hy0 : w4.cell? ⟨w.heap.size, 0, none⟩ = some (.int .i32 xf) := box_cell hyx 0 rfl
                              have hy1 : w4.cell? ⟨w.heap.size, 1, none⟩ = some (.int .i32 xu) := box_cell hyx 1 rfl
                              have hy2 : w4.cell? ⟨w.heap.size, 2, none⟩ = some (.string (mk8 xn)) := box_cell hyx 2 rfl
                              have hy3 : w4.cell? ⟨w.heap.size, 3, none⟩ = some (.string (mk8 xct)) := box_cell hyx 3 rfl
                              have hy4 : w4.cell? ⟨w.heap.size, 4, none⟩ = some (.int .i64 xcl) := box_cell hyx 4 rfl
                              have hy5 : w4.cell? ⟨w.heap.size, 5, none⟩ = some (.string (mk8 xk)) := box_cell hyx 5 rfl
                              have hy6 : w4.cell? ⟨w.heap.size, 6, none⟩ = some (.slice A 0 c) := box_cell hyx 6 rfl
                              clear hz0 hz1 hz2 hz3 hz4 hz5 hz6 hzx hb4
                              go_wp2_with fail
                              refine (plainL_any xn _ hn).mono ?_
                              rw [hpn]
                              rintro e w5 ⟨rfl, hb5⟩
                              replace hBB := below_then hBB hb5
                              have hux := box_below hyx hb5
                              have hu0 : w5.cell? ⟨w.heap.size, 0, none⟩ = some (.int .i32 xf) := box_cell hux 0 rfl
                              have hu1 : w5.cell? ⟨w.heap.size, 1, none⟩ = some (.int .i32 xu) := box_cell hux 1 rfl
                              have hu2 : w5.cell? ⟨w.heap.size, 2, none⟩ = some (.string (mk8 xn)) := box_cell hux 2 rfl
                              have hu3 : w5.cell? ⟨w.heap.size, 3, none⟩ = some (.string (mk8 xct)) := box_cell hux 3 rfl
                              have hu4 : w5.cell? ⟨w.heap.size, 4, none⟩ = some (.int .i64 xcl) := box_cell hux 4 rfl
                              have hu5 : w5.cell? ⟨w.heap.size, 5, none⟩ = some (.string (mk8 xk)) := box_cell hux 5 rfl
                              have hu6 : w5.cell? ⟨w.heap.size, 6, none⟩ = some (.slice A 0 c) := box_cell hux 6 rfl
                              clear hy0 hy1 hy2 hy3 hy4 hy5 hy6 hyx hb5
                              go_wp2_with fail
                              refine (plainL_any xct _ hc).mono ?_
                              rw [hpc]
                              rintro e w6 ⟨rfl, hb6⟩
                              replace hBB := below_then hBB hb6
                              go_wp2
                              go_returns
                              exact ⟨ret_i64 HR.out.symm, hBB⟩
                            · have HR : Hid (r = 0) := by
                                show _ = _
                                rw [HCZ.out, if_neg]
                                rintro (h | h | h)
                                · rw [HKB.out] at h; simp at h
                                · simp [oneBad, hone, HIL.out] at h
                                · simp [nameBad, hpn, hpc] at h
                              go_enter Tryz.func6, Tryz.ntmps6
                              go_wp2_with fail
                              refine (scalar_any _ _).mono ?_
                              rintro e w1 ⟨rfl, rfl⟩
                              go_wp2_with fail
                              refine (scalar_any _ _).mono ?_
                              rintro e w1 ⟨rfl, rfl⟩
                              go_wp2_with fail
                              generalize hWW : w.alloc _ = W at *
                              have hbW : Below w.heap.size w W := by rw [← hWW]; exact HBOX _
                              have hx : W.heap[w.heap.size]? = some (.cells #[.int .i32 xf, .int .i32 xu, .string (mk8 xn), .string (mk8 xct), .int .i64 xcl, .string (mk8 xk), .slice A 0 c] 27 (0, 0)) := by rw [← hWW]; exact box_new _ _ _
                              clear hWW HBOX
                              refine (badc_any A 0 c xil W (hA.below hbW) (by omega)).mono ?_
                              rw [hbi]
                              rintro e w2 ⟨rfl, hb2⟩
                              have hBB := below_then hbW hb2
                              have hzx := box_below hx hb2
                              have hz0 : w2.cell? ⟨w.heap.size, 0, none⟩ = some (.int .i32 xf) := box_cell hzx 0 rfl
                              have hz1 : w2.cell? ⟨w.heap.size, 1, none⟩ = some (.int .i32 xu) := box_cell hzx 1 rfl
                              have hz2 : w2.cell? ⟨w.heap.size, 2, none⟩ = some (.string (mk8 xn)) := box_cell hzx 2 rfl
                              have hz3 : w2.cell? ⟨w.heap.size, 3, none⟩ = some (.string (mk8 xct)) := box_cell hzx 3 rfl
                              have hz4 : w2.cell? ⟨w.heap.size, 4, none⟩ = some (.int .i64 xcl) := box_cell hzx 4 rfl
                              have hz5 : w2.cell? ⟨w.heap.size, 5, none⟩ = some (.string (mk8 xk)) := box_cell hzx 5 rfl
                              have hz6 : w2.cell? ⟨w.heap.size, 6, none⟩ = some (.slice A 0 c) := box_cell hzx 6 rfl
                              clear hbW hb2 hx hA
                              go_wp2_with fail
                              refine (innerF5 xn _ hn).mono ?_
                              rw [← hFF]
                              rintro e w3 ⟨rfl, rfl⟩
                              go_wp2_with fail
                              refine (innerL5 xn _ hn).mono ?_
                              rw [← hLL]
                              rintro e w3 ⟨rfl, rfl⟩
                              go_wp2_with fail
                              refine (letters_any xk _).mono ?_
                              rw [hlk]
                              rintro e w4 ⟨rfl, hb4⟩
                              replace hBB := below_then hBB hb4
                              have hyx := box_below hzx hb4
                              have hy0 : w4.cell? ⟨w.heap.size, 0, none⟩ = some (.int .i32 xf) := box_cell hyx 0 rfl
                              have hy1 : w4.cell? ⟨w.heap.size, 1, none⟩ = some (.int .i32 xu) := box_cell hyx 1 rfl
                              have hy2 : w4.cell? ⟨w.heap.size, 2, none⟩ = some (.string (mk8 xn)) := box_cell hyx 2 rfl
                              have hy3 : w4.cell? ⟨w.heap.size, 3, none⟩ = some (.string (mk8 xct)) := box_cell hyx 3 rfl
                              have hy4 : w4.cell? ⟨w.heap.size, 4, none⟩ = some (.int .i64 xcl) := box_cell hyx 4 rfl
                              have hy5 : w4.cell? ⟨w.heap.size, 5, none⟩ = some (.string (mk8 xk)) := box_cell hyx 5 rfl
                              have hy6 : w4.cell? ⟨w.heap.size, 6, none⟩ = some (.slice A 0 c) := box_cell hyx 6 rfl
                              clear hz0 hz1 hz2 hz3 hz4 hz5 hz6 hzx hb4
                              go_wp2_with fail
                              refine (plainL_any xn _ hn).mono ?_
                              rw [hpn]
                              rintro e w5 ⟨rfl, hb5⟩
                              replace hBB := below_then hBB hb5
                              have hux := box_below hyx hb5
                              have hu0 : w5.cell? ⟨w.heap.size, 0, none⟩ = some (.int .i32 xf) := box_cell hux 0 rfl
                              have hu1 : w5.cell? ⟨w.heap.size, 1, none⟩ = some (.int .i32 xu) := box_cell hux 1 rfl
                              have hu2 : w5.cell? ⟨w.heap.size, 2, none⟩ = some (.string (mk8 xn)) := box_cell hux 2 rfl
                              have hu3 : w5.cell? ⟨w.heap.size, 3, none⟩ = some (.string (mk8 xct)) := box_cell hux 3 rfl
                              have hu4 : w5.cell? ⟨w.heap.size, 4, none⟩ = some (.int .i64 xcl) := box_cell hux 4 rfl
                              have hu5 : w5.cell? ⟨w.heap.size, 5, none⟩ = some (.string (mk8 xk)) := box_cell hux 5 rfl
                              have hu6 : w5.cell? ⟨w.heap.size, 6, none⟩ = some (.slice A 0 c) := box_cell hux 6 rfl
                              clear hy0 hy1 hy2 hy3 hy4 hy5 hy6 hyx hb5
                              go_wp2_with fail
                              refine (plainL_any xct _ hc).mono ?_
                              rw [hpc]
                              rintro e w6 ⟨rfl, hb6⟩
                              replace hBB := below_then hBB hb6
                              go_wp2
                              go_returns
                              exact ⟨ret_i64 HR.out.symm, hBB⟩
                        · have hmi : (0 : Int) < (m : Int) := by omega
                          have hil : xil ≠ [] := fun h => by have := HGM.out; rw [h] at this; simp at this; omega
                          have HR : Hid (r = 10) := by
                            show _ = _
                            rw [HCZ.out, if_pos (.inr (.inl (by simp [oneBad, hone, hil])))]
                          clear hil
                          go_enter Tryz.func6, Tryz.ntmps6
                          go_wp2_with fail
                          refine (scalar_any _ _).mono ?_
                          rintro e w1 ⟨rfl, rfl⟩
                          go_wp2_with fail
                          refine (scalar_any _ _).mono ?_
                          rintro e w1 ⟨rfl, rfl⟩
                          go_wp2_with fail
                          generalize hWW : w.alloc _ = W at *
                          have hbW : Below w.heap.size w W := by rw [← hWW]; exact HBOX _
                          have hx : W.heap[w.heap.size]? = some (.cells #[.int .i32 xf, .int .i32 xu, .string (mk8 xn), .string (mk8 xct), .int .i64 xcl, .string (mk8 xk), .slice A m c] 27 (0, 0)) := by rw [← hWW]; exact box_new _ _ _
                          clear hWW HBOX
                          refine (badc_any A m c xil W (hA.below hbW) (by omega)).mono ?_
                          rw [hbi]
                          rintro e w2 ⟨rfl, hb2⟩
                          have hBB := below_then hbW hb2
                          have hzx := box_below hx hb2
                          have hz0 : w2.cell? ⟨w.heap.size, 0, none⟩ = some (.int .i32 xf) := box_cell hzx 0 rfl
                          have hz1 : w2.cell? ⟨w.heap.size, 1, none⟩ = some (.int .i32 xu) := box_cell hzx 1 rfl
                          have hz2 : w2.cell? ⟨w.heap.size, 2, none⟩ = some (.string (mk8 xn)) := box_cell hzx 2 rfl
                          have hz3 : w2.cell? ⟨w.heap.size, 3, none⟩ = some (.string (mk8 xct)) := box_cell hzx 3 rfl
                          have hz4 : w2.cell? ⟨w.heap.size, 4, none⟩ = some (.int .i64 xcl) := box_cell hzx 4 rfl
                          have hz5 : w2.cell? ⟨w.heap.size, 5, none⟩ = some (.string (mk8 xk)) := box_cell hzx 5 rfl
                          have hz6 : w2.cell? ⟨w.heap.size, 6, none⟩ = some (.slice A m c) := box_cell hzx 6 rfl
                          clear hbW hb2 hx hA
                          go_wp2_with fail
                          refine (innerF5 xn _ hn).mono ?_
                          rw [← hFF]
                          rintro e w3 ⟨rfl, rfl⟩
                          go_wp2_with fail
                          refine (innerL5 xn _ hn).mono ?_
                          rw [← hLL]
                          rintro e w3 ⟨rfl, rfl⟩
                          go_wp2_with fail
                          refine (letters_any xk _).mono ?_
                          rw [hlk]
                          rintro e w4 ⟨rfl, hb4⟩
                          replace hBB := below_then hBB hb4
                          have hyx := box_below hzx hb4
                          have hy0 : w4.cell? ⟨w.heap.size, 0, none⟩ = some (.int .i32 xf) := box_cell hyx 0 rfl
                          have hy1 : w4.cell? ⟨w.heap.size, 1, none⟩ = some (.int .i32 xu) := box_cell hyx 1 rfl
                          have hy2 : w4.cell? ⟨w.heap.size, 2, none⟩ = some (.string (mk8 xn)) := box_cell hyx 2 rfl
                          have hy3 : w4.cell? ⟨w.heap.size, 3, none⟩ = some (.string (mk8 xct)) := box_cell hyx 3 rfl
                          have hy4 : w4.cell? ⟨w.heap.size, 4, none⟩ = some (.int .i64 xcl) := box_cell hyx 4 rfl
                          have hy5 : w4.cell? ⟨w.heap.size, 5, none⟩ = some (.string (mk8 xk)) := box_cell hyx 5 rfl
                          have hy6 : w4.cell? ⟨w.heap.size, 6, none⟩ = some (.slice A m c) := box_cell hyx 6 rfl
                          clear hz0 hz1 hz2 hz3 hz4 hz5 hz6 hzx hb4
                          go_wp2
                          go_returns
                          exact ⟨ret_i64 HR.out.symm, hBB⟩
                    · have hmi0 : (0 : Int) < (m : Int) := by omega
                      have hmn : (m == 0) = false := by simp; omega
                      by_cases hone : xu = xf
                      · subst hone
                        have hoi : (xu == xu) = true := by simp
                        cases hfb : fb
                        · subst hfb
                          cases hlb : lb
                          · cases hpn : plainL xn
                            · have HR : Hid (r = 10) := by
                                show _ = _
                                rw [HCZ.out, if_pos (.inr (.inr (by simp [nameBad, hpn])))]
                              go_enter Tryz.func6, Tryz.ntmps6
                              go_wp2_with fail
                              refine (scalar_any _ _).mono ?_
                              rintro e w1 ⟨rfl, rfl⟩
                              go_wp2_with fail
                              refine (scalar_any _ _).mono ?_
                              rintro e w1 ⟨rfl, rfl⟩
                              go_wp2_with fail
                              generalize hWW : w.alloc _ = W at *
                              have hbW : Below w.heap.size w W := by rw [← hWW]; exact HBOX _
                              have hx : W.heap[w.heap.size]? = some (.cells #[.int .i32 xu, .int .i32 xu, .string (mk8 xn), .string (mk8 xct), .int .i64 xcl, .string (mk8 xk), .slice A m c] 27 (0, 0)) := by rw [← hWW]; exact box_new _ _ _
                              clear hWW HBOX
                              refine (badc_any A m c xil W (hA.below hbW) (by omega)).mono ?_
                              rw [hbi]
                              rintro e w2 ⟨rfl, hb2⟩
                              have hBB := below_then hbW hb2
                              have hzx := box_below hx hb2
                              have hz0 : w2.cell? ⟨w.heap.size, 0, none⟩ = some (.int .i32 xu) := box_cell hzx 0 rfl
                              have hz1 : w2.cell? ⟨w.heap.size, 1, none⟩ = some (.int .i32 xu) := box_cell hzx 1 rfl
                              have hz2 : w2.cell? ⟨w.heap.size, 2, none⟩ = some (.string (mk8 xn)) := box_cell hzx 2 rfl
                              have hz3 : w2.cell? ⟨w.heap.size, 3, none⟩ = some (.string (mk8 xct)) := box_cell hzx 3 rfl
                              have hz4 : w2.cell? ⟨w.heap.size, 4, none⟩ = some (.int .i64 xcl) := box_cell hzx 4 rfl
                              have hz5 : w2.cell? ⟨w.heap.size, 5, none⟩ = some (.string (mk8 xk)) := box_cell hzx 5 rfl
                              have hz6 : w2.cell? ⟨w.heap.size, 6, none⟩ = some (.slice A m c) := box_cell hzx 6 rfl
                              clear hbW hb2 hx hA
                              go_wp2_with fail
                              refine (innerF5 xn _ hn).mono ?_
                              rw [← hFF]
                              rintro e w3 ⟨rfl, rfl⟩
                              go_wp2_with fail
                              refine (innerL5 xn _ hn).mono ?_
                              rw [← hLL]
                              rintro e w3 ⟨rfl, rfl⟩
                              go_wp2_with fail
                              refine (letters_any xk _).mono ?_
                              rw [hlk]
                              rintro e w4 ⟨rfl, hb4⟩
                              replace hBB := below_then hBB hb4
                              have hyx := box_below hzx hb4
                              have hy0 : w4.cell? ⟨w.heap.size, 0, none⟩ = some (.int .i32 xu) := box_cell hyx 0 rfl
                              have hy1 : w4.cell? ⟨w.heap.size, 1, none⟩ = some (.int .i32 xu) := box_cell hyx 1 rfl
                              have hy2 : w4.cell? ⟨w.heap.size, 2, none⟩ = some (.string (mk8 xn)) := box_cell hyx 2 rfl
                              have hy3 : w4.cell? ⟨w.heap.size, 3, none⟩ = some (.string (mk8 xct)) := box_cell hyx 3 rfl
                              have hy4 : w4.cell? ⟨w.heap.size, 4, none⟩ = some (.int .i64 xcl) := box_cell hyx 4 rfl
                              have hy5 : w4.cell? ⟨w.heap.size, 5, none⟩ = some (.string (mk8 xk)) := box_cell hyx 5 rfl
                              have hy6 : w4.cell? ⟨w.heap.size, 6, none⟩ = some (.slice A m c) := box_cell hyx 6 rfl
                              clear hz0 hz1 hz2 hz3 hz4 hz5 hz6 hzx hb4
                              go_wp2_with fail
                              refine (plainL_any xn _ hn).mono ?_
                              rw [hpn]
                              rintro e w5 ⟨rfl, hb5⟩
                              replace hBB := below_then hBB hb5
                              have hux := box_below hyx hb5
                              have hu0 : w5.cell? ⟨w.heap.size, 0, none⟩ = some (.int .i32 xu) := box_cell hux 0 rfl
                              have hu1 : w5.cell? ⟨w.heap.size, 1, none⟩ = some (.int .i32 xu) := box_cell hux 1 rfl
                              have hu2 : w5.cell? ⟨w.heap.size, 2, none⟩ = some (.string (mk8 xn)) := box_cell hux 2 rfl
                              have hu3 : w5.cell? ⟨w.heap.size, 3, none⟩ = some (.string (mk8 xct)) := box_cell hux 3 rfl
                              have hu4 : w5.cell? ⟨w.heap.size, 4, none⟩ = some (.int .i64 xcl) := box_cell hux 4 rfl
                              have hu5 : w5.cell? ⟨w.heap.size, 5, none⟩ = some (.string (mk8 xk)) := box_cell hux 5 rfl
                              have hu6 : w5.cell? ⟨w.heap.size, 6, none⟩ = some (.slice A m c) := box_cell hux 6 rfl
                              clear hy0 hy1 hy2 hy3 hy4 hy5 hy6 hyx hb5
                              go_wp2
                              go_returns
                              exact ⟨ret_i64 HR.out.symm, hBB⟩
                            · cases hpc : plainL xct
                              · have HR : Hid (r = 10) := by
                                  show _ = _
                                  rw [HCZ.out, if_pos (.inr (.inr (by simp [nameBad, hpc])))]
                                go_enter Tryz.func6, Tryz.ntmps6
                                go_wp2_with fail
                                refine (scalar_any _ _).mono ?_
                                rintro e w1 ⟨rfl, rfl⟩
                                go_wp2_with fail
                                refine (scalar_any _ _).mono ?_
                                rintro e w1 ⟨rfl, rfl⟩
                                go_wp2_with fail
                                generalize hWW : w.alloc _ = W at *
                                have hbW : Below w.heap.size w W := by rw [← hWW]; exact HBOX _
                                have hx : W.heap[w.heap.size]? = some (.cells #[.int .i32 xu, .int .i32 xu, .string (mk8 xn), .string (mk8 xct), .int .i64 xcl, .string (mk8 xk), .slice A m c] 27 (0, 0)) := by rw [← hWW]; exact box_new _ _ _
                                clear hWW HBOX
                                refine (badc_any A m c xil W (hA.below hbW) (by omega)).mono ?_
                                rw [hbi]
                                rintro e w2 ⟨rfl, hb2⟩
                                have hBB := below_then hbW hb2
                                have hzx := box_below hx hb2
                                have hz0 : w2.cell? ⟨w.heap.size, 0, none⟩ = some (.int .i32 xu) := box_cell hzx 0 rfl
                                have hz1 : w2.cell? ⟨w.heap.size, 1, none⟩ = some (.int .i32 xu) := box_cell hzx 1 rfl
                                have hz2 : w2.cell? ⟨w.heap.size, 2, none⟩ = some (.string (mk8 xn)) := box_cell hzx 2 rfl
                                have hz3 : w2.cell? ⟨w.heap.size, 3, none⟩ = some (.string (mk8 xct)) := box_cell hzx 3 rfl
                                have hz4 : w2.cell? ⟨w.heap.size, 4, none⟩ = some (.int .i64 xcl) := box_cell hzx 4 rfl
                                have hz5 : w2.cell? ⟨w.heap.size, 5, none⟩ = some (.string (mk8 xk)) := box_cell hzx 5 rfl
                                have hz6 : w2.cell? ⟨w.heap.size, 6, none⟩ = some (.slice A m c) := box_cell hzx 6 rfl
                                clear hbW hb2 hx hA
                                go_wp2_with fail
                                refine (innerF5 xn _ hn).mono ?_
                                rw [← hFF]
                                rintro e w3 ⟨rfl, rfl⟩
                                go_wp2_with fail
                                refine (innerL5 xn _ hn).mono ?_
                                rw [← hLL]
                                rintro e w3 ⟨rfl, rfl⟩
                                go_wp2_with fail
                                refine (letters_any xk _).mono ?_
                                rw [hlk]
                                rintro e w4 ⟨rfl, hb4⟩
                                replace hBB := below_then hBB hb4
                                have hyx := box_below hzx hb4
                                have hy0 : w4.cell? ⟨w.heap.size, 0, none⟩ = some (.int .i32 xu) := box_cell hyx 0 rfl
                                have hy1 : w4.cell? ⟨w.heap.size, 1, none⟩ = some (.int .i32 xu) := box_cell hyx 1 rfl
                                have hy2 : w4.cell? ⟨w.heap.size, 2, none⟩ = some (.string (mk8 xn)) := box_cell hyx 2 rfl
                                have hy3 : w4.cell? ⟨w.heap.size, 3, none⟩ = some (.string (mk8 xct)) := box_cell hyx 3 rfl
                                have hy4 : w4.cell? ⟨w.heap.size, 4, none⟩ = some (.int .i64 xcl) := box_cell hyx 4 rfl
                                have hy5 : w4.cell? ⟨w.heap.size, 5, none⟩ = some (.string (mk8 xk)) := box_cell hyx 5 rfl
                                have hy6 : w4.cell? ⟨w.heap.size, 6, none⟩ = some (.slice A m c) := box_cell hyx 6 rfl
                                clear hz0 hz1 hz2 hz3 hz4 hz5 hz6 hzx hb4
                                go_wp2_with fail
                                refine (plainL_any xn _ hn).mono ?_
                                rw [hpn]
                                rintro e w5 ⟨rfl, hb5⟩
                                replace hBB := below_then hBB hb5
                                have hux := box_below hyx hb5
                                have hu0 : w5.cell? ⟨w.heap.size, 0, none⟩ = some (.int .i32 xu) := box_cell hux 0 rfl
                                have hu1 : w5.cell? ⟨w.heap.size, 1, none⟩ = some (.int .i32 xu) := box_cell hux 1 rfl
                                have hu2 : w5.cell? ⟨w.heap.size, 2, none⟩ = some (.string (mk8 xn)) := box_cell hux 2 rfl
                                have hu3 : w5.cell? ⟨w.heap.size, 3, none⟩ = some (.string (mk8 xct)) := box_cell hux 3 rfl
                                have hu4 : w5.cell? ⟨w.heap.size, 4, none⟩ = some (.int .i64 xcl) := box_cell hux 4 rfl
                                have hu5 : w5.cell? ⟨w.heap.size, 5, none⟩ = some (.string (mk8 xk)) := box_cell hux 5 rfl
                                have hu6 : w5.cell? ⟨w.heap.size, 6, none⟩ = some (.slice A m c) := box_cell hux 6 rfl
                                clear hy0 hy1 hy2 hy3 hy4 hy5 hy6 hyx hb5
                                go_wp2_with fail
                                refine (plainL_any xct _ hc).mono ?_
                                rw [hpc]
                                rintro e w6 ⟨rfl, hb6⟩
                                replace hBB := below_then hBB hb6
                                go_wp2
                                go_returns
                                exact ⟨ret_i64 HR.out.symm, hBB⟩
                              · have HR : Hid (r = 0) := by
                                  show _ = _
                                  rw [HCZ.out, if_neg]
                                  rintro (h | h | h)
                                  · rw [HKB.out] at h; simp at h
                                  · simp [oneBad, ← hFF, ← hLL, hlb] at h
                                  · simp [nameBad, hpn, hpc] at h
                                go_enter Tryz.func6, Tryz.ntmps6
                                go_wp2_with fail
                                refine (scalar_any _ _).mono ?_
                                rintro e w1 ⟨rfl, rfl⟩
                                go_wp2_with fail
                                refine (scalar_any _ _).mono ?_
                                rintro e w1 ⟨rfl, rfl⟩
                                go_wp2_with fail
                                generalize hWW : w.alloc _ = W at *
                                have hbW : Below w.heap.size w W := by rw [← hWW]; exact HBOX _
                                have hx : W.heap[w.heap.size]? = some (.cells #[.int .i32 xu, .int .i32 xu, .string (mk8 xn), .string (mk8 xct), .int .i64 xcl, .string (mk8 xk), .slice A m c] 27 (0, 0)) := by rw [← hWW]; exact box_new _ _ _
                                clear hWW HBOX
                                refine (badc_any A m c xil W (hA.below hbW) (by omega)).mono ?_
                                rw [hbi]
                                rintro e w2 ⟨rfl, hb2⟩
                                have hBB := below_then hbW hb2
                                have hzx := box_below hx hb2
                                have hz0 : w2.cell? ⟨w.heap.size, 0, none⟩ = some (.int .i32 xu) := box_cell hzx 0 rfl
                                have hz1 : w2.cell? ⟨w.heap.size, 1, none⟩ = some (.int .i32 xu) := box_cell hzx 1 rfl
                                have hz2 : w2.cell? ⟨w.heap.size, 2, none⟩ = some (.string (mk8 xn)) := box_cell hzx 2 rfl
                                have hz3 : w2.cell? ⟨w.heap.size, 3, none⟩ = some (.string (mk8 xct)) := box_cell hzx 3 rfl
                                have hz4 : w2.cell? ⟨w.heap.size, 4, none⟩ = some (.int .i64 xcl) := box_cell hzx 4 rfl
                                have hz5 : w2.cell? ⟨w.heap.size, 5, none⟩ = some (.string (mk8 xk)) := box_cell hzx 5 rfl
                                have hz6 : w2.cell? ⟨w.heap.size, 6, none⟩ = some (.slice A m c) := box_cell hzx 6 rfl
                                clear hbW hb2 hx hA
                                go_wp2_with fail
                                refine (innerF5 xn _ hn).mono ?_
                                rw [← hFF]
                                rintro e w3 ⟨rfl, rfl⟩
                                go_wp2_with fail
                                refine (innerL5 xn _ hn).mono ?_
                                rw [← hLL]
                                rintro e w3 ⟨rfl, rfl⟩
                                go_wp2_with fail
                                refine (letters_any xk _).mono ?_
                                rw [hlk]
                                rintro e w4 ⟨rfl, hb4⟩
                                replace hBB := below_then hBB hb4
                                have hyx := box_below hzx hb4
                                have hy0 : w4.cell? ⟨w.heap.size, 0, none⟩ = some (.int .i32 xu) := box_cell hyx 0 rfl
                                have hy1 : w4.cell? ⟨w.heap.size, 1, none⟩ = some (.int .i32 xu) := box_cell hyx 1 rfl
                                have hy2 : w4.cell? ⟨w.heap.size, 2, none⟩ = some (.string (mk8 xn)) := box_cell hyx 2 rfl
                                have hy3 : w4.cell? ⟨w.heap.size, 3, none⟩ = some (.string (mk8 xct)) := box_cell hyx 3 rfl
                                have hy4 : w4.cell? ⟨w.heap.size, 4, none⟩ = some (.int .i64 xcl) := box_cell hyx 4 rfl
                                have hy5 : w4.cell? ⟨w.heap.size, 5, none⟩ = some (.string (mk8 xk)) := box_cell hyx 5 rfl
                                have hy6 : w4.cell? ⟨w.heap.size, 6, none⟩ = some (.slice A m c) := box_cell hyx 6 rfl
                                clear hz0 hz1 hz2 hz3 hz4 hz5 hz6 hzx hb4
                                go_wp2_with fail
                                refine (plainL_any xn _ hn).mono ?_
                                rw [hpn]
                                rintro e w5 ⟨rfl, hb5⟩
                                replace hBB := below_then hBB hb5
                                have hux := box_below hyx hb5
                                have hu0 : w5.cell? ⟨w.heap.size, 0, none⟩ = some (.int .i32 xu) := box_cell hux 0 rfl
                                have hu1 : w5.cell? ⟨w.heap.size, 1, none⟩ = some (.int .i32 xu) := box_cell hux 1 rfl
                                have hu2 : w5.cell? ⟨w.heap.size, 2, none⟩ = some (.string (mk8 xn)) := box_cell hux 2 rfl
                                have hu3 : w5.cell? ⟨w.heap.size, 3, none⟩ = some (.string (mk8 xct)) := box_cell hux 3 rfl
                                have hu4 : w5.cell? ⟨w.heap.size, 4, none⟩ = some (.int .i64 xcl) := box_cell hux 4 rfl
                                have hu5 : w5.cell? ⟨w.heap.size, 5, none⟩ = some (.string (mk8 xk)) := box_cell hux 5 rfl
                                have hu6 : w5.cell? ⟨w.heap.size, 6, none⟩ = some (.slice A m c) := box_cell hux 6 rfl
                                clear hy0 hy1 hy2 hy3 hy4 hy5 hy6 hyx hb5
                                go_wp2_with fail
                                refine (plainL_any xct _ hc).mono ?_
                                rw [hpc]
                                rintro e w6 ⟨rfl, hb6⟩
                                replace hBB := below_then hBB hb6
                                go_wp2
                                go_returns
                                exact ⟨ret_i64 HR.out.symm, hBB⟩
                          · have HR : Hid (r = 10) := by
                              show _ = _
                              rw [HCZ.out, if_pos (.inr (.inl (by simp [oneBad, ← hLL, hlb])))]
                            subst hlb
                            go_enter Tryz.func6, Tryz.ntmps6
                            go_wp2_with fail
                            refine (scalar_any _ _).mono ?_
                            rintro e w1 ⟨rfl, rfl⟩
                            go_wp2_with fail
                            refine (scalar_any _ _).mono ?_
                            rintro e w1 ⟨rfl, rfl⟩
                            go_wp2_with fail
                            generalize hWW : w.alloc _ = W at *
                            have hbW : Below w.heap.size w W := by rw [← hWW]; exact HBOX _
                            have hx : W.heap[w.heap.size]? = some (.cells #[.int .i32 xu, .int .i32 xu, .string (mk8 xn), .string (mk8 xct), .int .i64 xcl, .string (mk8 xk), .slice A m c] 27 (0, 0)) := by rw [← hWW]; exact box_new _ _ _
                            clear hWW HBOX
                            refine (badc_any A m c xil W (hA.below hbW) (by omega)).mono ?_
                            rw [hbi]
                            rintro e w2 ⟨rfl, hb2⟩
                            have hBB := below_then hbW hb2
                            have hzx := box_below hx hb2
                            have hz0 : w2.cell? ⟨w.heap.size, 0, none⟩ = some (.int .i32 xu) := box_cell hzx 0 rfl
                            have hz1 : w2.cell? ⟨w.heap.size, 1, none⟩ = some (.int .i32 xu) := box_cell hzx 1 rfl
                            have hz2 : w2.cell? ⟨w.heap.size, 2, none⟩ = some (.string (mk8 xn)) := box_cell hzx 2 rfl
                            have hz3 : w2.cell? ⟨w.heap.size, 3, none⟩ = some (.string (mk8 xct)) := box_cell hzx 3 rfl
                            have hz4 : w2.cell? ⟨w.heap.size, 4, none⟩ = some (.int .i64 xcl) := box_cell hzx 4 rfl
                            have hz5 : w2.cell? ⟨w.heap.size, 5, none⟩ = some (.string (mk8 xk)) := box_cell hzx 5 rfl
                            have hz6 : w2.cell? ⟨w.heap.size, 6, none⟩ = some (.slice A m c) := box_cell hzx 6 rfl
                            clear hbW hb2 hx hA
                            go_wp2_with fail
                            refine (innerF5 xn _ hn).mono ?_
                            rw [← hFF]
                            rintro e w3 ⟨rfl, rfl⟩
                            go_wp2_with fail
                            refine (innerL5 xn _ hn).mono ?_
                            rw [← hLL]
                            rintro e w3 ⟨rfl, rfl⟩
                            go_wp2_with fail
                            refine (letters_any xk _).mono ?_
                            rw [hlk]
                            rintro e w4 ⟨rfl, hb4⟩
                            replace hBB := below_then hBB hb4
                            have hyx := box_below hzx hb4
                            have hy0 : w4.cell? ⟨w.heap.size, 0, none⟩ = some (.int .i32 xu) := box_cell hyx 0 rfl
                            have hy1 : w4.cell? ⟨w.heap.size, 1, none⟩ = some (.int .i32 xu) := box_cell hyx 1 rfl
                            have hy2 : w4.cell? ⟨w.heap.size, 2, none⟩ = some (.string (mk8 xn)) := box_cell hyx 2 rfl
                            have hy3 : w4.cell? ⟨w.heap.size, 3, none⟩ = some (.string (mk8 xct)) := box_cell hyx 3 rfl
                            have hy4 : w4.cell? ⟨w.heap.size, 4, none⟩ = some (.int .i64 xcl) := box_cell hyx 4 rfl
                            have hy5 : w4.cell? ⟨w.heap.size, 5, none⟩ = some (.string (mk8 xk)) := box_cell hyx 5 rfl
                            have hy6 : w4.cell? ⟨w.heap.size, 6, none⟩ = some (.slice A m c) := box_cell hyx 6 rfl
                            clear hz0 hz1 hz2 hz3 hz4 hz5 hz6 hzx hb4
                            go_wp2
                            go_returns
                            exact ⟨ret_i64 HR.out.symm, hBB⟩
                        · have HR : Hid (r = 10) := by
                            show _ = _
                            rw [HCZ.out, if_pos (.inr (.inl (by simp [oneBad, ← hFF, hfb])))]
                          subst hfb
                          go_enter Tryz.func6, Tryz.ntmps6
                          go_wp2_with fail
                          refine (scalar_any _ _).mono ?_
                          rintro e w1 ⟨rfl, rfl⟩
                          go_wp2_with fail
                          refine (scalar_any _ _).mono ?_
                          rintro e w1 ⟨rfl, rfl⟩
                          go_wp2_with fail
                          generalize hWW : w.alloc _ = W at *
                          have hbW : Below w.heap.size w W := by rw [← hWW]; exact HBOX _
                          have hx : W.heap[w.heap.size]? = some (.cells #[.int .i32 xu, .int .i32 xu, .string (mk8 xn), .string (mk8 xct), .int .i64 xcl, .string (mk8 xk), .slice A m c] 27 (0, 0)) := by rw [← hWW]; exact box_new _ _ _
                          clear hWW HBOX
                          refine (badc_any A m c xil W (hA.below hbW) (by omega)).mono ?_
                          rw [hbi]
                          rintro e w2 ⟨rfl, hb2⟩
                          have hBB := below_then hbW hb2
                          have hzx := box_below hx hb2
                          have hz0 : w2.cell? ⟨w.heap.size, 0, none⟩ = some (.int .i32 xu) := box_cell hzx 0 rfl
                          have hz1 : w2.cell? ⟨w.heap.size, 1, none⟩ = some (.int .i32 xu) := box_cell hzx 1 rfl
                          have hz2 : w2.cell? ⟨w.heap.size, 2, none⟩ = some (.string (mk8 xn)) := box_cell hzx 2 rfl
                          have hz3 : w2.cell? ⟨w.heap.size, 3, none⟩ = some (.string (mk8 xct)) := box_cell hzx 3 rfl
                          have hz4 : w2.cell? ⟨w.heap.size, 4, none⟩ = some (.int .i64 xcl) := box_cell hzx 4 rfl
                          have hz5 : w2.cell? ⟨w.heap.size, 5, none⟩ = some (.string (mk8 xk)) := box_cell hzx 5 rfl
                          have hz6 : w2.cell? ⟨w.heap.size, 6, none⟩ = some (.slice A m c) := box_cell hzx 6 rfl
                          clear hbW hb2 hx hA
                          go_wp2_with fail
                          refine (innerF5 xn _ hn).mono ?_
                          rw [← hFF]
                          rintro e w3 ⟨rfl, rfl⟩
                          go_wp2_with fail
                          refine (innerL5 xn _ hn).mono ?_
                          rw [← hLL]
                          rintro e w3 ⟨rfl, rfl⟩
                          go_wp2_with fail
                          refine (letters_any xk _).mono ?_
                          rw [hlk]
                          rintro e w4 ⟨rfl, hb4⟩
                          replace hBB := below_then hBB hb4
                          have hyx := box_below hzx hb4
                          have hy0 : w4.cell? ⟨w.heap.size, 0, none⟩ = some (.int .i32 xu) := box_cell hyx 0 rfl
                          have hy1 : w4.cell? ⟨w.heap.size, 1, none⟩ = some (.int .i32 xu) := box_cell hyx 1 rfl
                          have hy2 : w4.cell? ⟨w.heap.size, 2, none⟩ = some (.string (mk8 xn)) := box_cell hyx 2 rfl
                          have hy3 : w4.cell? ⟨w.heap.size, 3, none⟩ = some (.string (mk8 xct)) := box_cell hyx 3 rfl
                          have hy4 : w4.cell? ⟨w.heap.size, 4, none⟩ = some (.int .i64 xcl) := box_cell hyx 4 rfl
                          have hy5 : w4.cell? ⟨w.heap.size, 5, none⟩ = some (.string (mk8 xk)) := box_cell hyx 5 rfl
                          have hy6 : w4.cell? ⟨w.heap.size, 6, none⟩ = some (.slice A m c) := box_cell hyx 6 rfl
                          clear hz0 hz1 hz2 hz3 hz4 hz5 hz6 hzx hb4
                          go_wp2
                          go_returns
                          exact ⟨ret_i64 HR.out.symm, hBB⟩
                      · have hoi : (xu == xf) = false := by simpa using hone
                        have hmi : (0 : Int) < (m : Int) := by omega
                        have hil : xil ≠ [] := fun h => by have := HGM.out; rw [h] at this; simp at this; omega
                        have HR : Hid (r = 10) := by
                          show _ = _
                          rw [HCZ.out, if_pos (.inr (.inl (by simp [oneBad, hone, hil])))]
                        clear hil
                        go_enter Tryz.func6, Tryz.ntmps6
                        go_wp2_with fail
                        refine (scalar_any _ _).mono ?_
                        rintro e w1 ⟨rfl, rfl⟩
                        go_wp2_with fail
                        refine (scalar_any _ _).mono ?_
                        rintro e w1 ⟨rfl, rfl⟩
                        go_wp2_with fail
                        generalize hWW : w.alloc _ = W at *
                        have hbW : Below w.heap.size w W := by rw [← hWW]; exact HBOX _
                        have hx : W.heap[w.heap.size]? = some (.cells #[.int .i32 xf, .int .i32 xu, .string (mk8 xn), .string (mk8 xct), .int .i64 xcl, .string (mk8 xk), .slice A m c] 27 (0, 0)) := by rw [← hWW]; exact box_new _ _ _
                        clear hWW HBOX
                        refine (badc_any A m c xil W (hA.below hbW) (by omega)).mono ?_
                        rw [hbi]
                        rintro e w2 ⟨rfl, hb2⟩
                        have hBB := below_then hbW hb2
                        have hzx := box_below hx hb2
                        have hz0 : w2.cell? ⟨w.heap.size, 0, none⟩ = some (.int .i32 xf) := box_cell hzx 0 rfl
                        have hz1 : w2.cell? ⟨w.heap.size, 1, none⟩ = some (.int .i32 xu) := box_cell hzx 1 rfl
                        have hz2 : w2.cell? ⟨w.heap.size, 2, none⟩ = some (.string (mk8 xn)) := box_cell hzx 2 rfl
                        have hz3 : w2.cell? ⟨w.heap.size, 3, none⟩ = some (.string (mk8 xct)) := box_cell hzx 3 rfl
                        have hz4 : w2.cell? ⟨w.heap.size, 4, none⟩ = some (.int .i64 xcl) := box_cell hzx 4 rfl
                        have hz5 : w2.cell? ⟨w.heap.size, 5, none⟩ = some (.string (mk8 xk)) := box_cell hzx 5 rfl
                        have hz6 : w2.cell? ⟨w.heap.size, 6, none⟩ = some (.slice A m c) := box_cell hzx 6 rfl
                        clear hbW hb2 hx hA
                        go_wp2_with fail
                        refine (innerF5 xn _ hn).mono ?_
                        rw [← hFF]
                        rintro e w3 ⟨rfl, rfl⟩
                        go_wp2_with fail
                        refine (innerL5 xn _ hn).mono ?_
                        rw [← hLL]
                        rintro e w3 ⟨rfl, rfl⟩
                        go_wp2_with fail
                        refine (letters_any xk _).mono ?_
                        rw [hlk]
                        rintro e w4 ⟨rfl, hb4⟩
                        replace hBB := below_then hBB hb4
                        have hyx := box_below hzx hb4
                        have hy0 : w4.cell? ⟨w.heap.size, 0, none⟩ = some (.int .i32 xf) := box_cell hyx 0 rfl
                        have hy1 : w4.cell? ⟨w.heap.size, 1, none⟩ = some (.int .i32 xu) := box_cell hyx 1 rfl
                        have hy2 : w4.cell? ⟨w.heap.size, 2, none⟩ = some (.string (mk8 xn)) := box_cell hyx 2 rfl
                        have hy3 : w4.cell? ⟨w.heap.size, 3, none⟩ = some (.string (mk8 xct)) := box_cell hyx 3 rfl
                        have hy4 : w4.cell? ⟨w.heap.size, 4, none⟩ = some (.int .i64 xcl) := box_cell hyx 4 rfl
                        have hy5 : w4.cell? ⟨w.heap.size, 5, none⟩ = some (.string (mk8 xk)) := box_cell hyx 5 rfl
                        have hy6 : w4.cell? ⟨w.heap.size, 6, none⟩ = some (.slice A m c) := box_cell hyx 6 rfl
                        clear hz0 hz1 hz2 hz3 hz4 hz5 hz6 hzx hb4
                        go_wp2
                        go_returns
                        exact ⟨ret_i64 HR.out.symm, hBB⟩
              · have HR : Hid (r = 11) := by
                  show _ = _
                  rw [hr]
                  unfold checkS rangeBad; rw [if_pos (by simp [hbi])]
                clear hr
                go_enter Tryz.func6, Tryz.ntmps6
                go_wp2_with fail
                refine (scalar_any _ _).mono ?_
                rintro e w1 ⟨rfl, rfl⟩
                go_wp2_with fail
                refine (scalar_any _ _).mono ?_
                rintro e w1 ⟨rfl, rfl⟩
                go_wp2_with fail
                generalize hWW : w.alloc _ = W at *
                have hbW : Below w.heap.size w W := by rw [← hWW]; exact HBOX _
                have hx : W.heap[w.heap.size]? = some (.cells #[.int .i32 xf, .int .i32 xu, .string (mk8 xn), .string (mk8 xct), .int .i64 xcl, .string (mk8 xk), .slice A m c] 27 (0, 0)) := by rw [← hWW]; exact box_new _ _ _
                clear hWW HBOX
                refine (badc_any A m c xil W (hA.below hbW) (by omega)).mono ?_
                rw [hbi]
                rintro e w2 ⟨rfl, hb2⟩
                have hBB := below_then hbW hb2
                have hzx := box_below hx hb2
                have hz0 : w2.cell? ⟨w.heap.size, 0, none⟩ = some (.int .i32 xf) := box_cell hzx 0 rfl
                have hz1 : w2.cell? ⟨w.heap.size, 1, none⟩ = some (.int .i32 xu) := box_cell hzx 1 rfl
                have hz2 : w2.cell? ⟨w.heap.size, 2, none⟩ = some (.string (mk8 xn)) := box_cell hzx 2 rfl
                have hz3 : w2.cell? ⟨w.heap.size, 3, none⟩ = some (.string (mk8 xct)) := box_cell hzx 3 rfl
                have hz4 : w2.cell? ⟨w.heap.size, 4, none⟩ = some (.int .i64 xcl) := box_cell hzx 4 rfl
                have hz5 : w2.cell? ⟨w.heap.size, 5, none⟩ = some (.string (mk8 xk)) := box_cell hzx 5 rfl
                have hz6 : w2.cell? ⟨w.heap.size, 6, none⟩ = some (.slice A m c) := box_cell hzx 6 rfl
                clear hbW hb2 hx hA
                go_wp2
                go_returns
                exact ⟨ret_i64 HR.out.symm, hBB⟩
end Go.Proofs.YtagncjnbabdbmaaGreatDoor
end
