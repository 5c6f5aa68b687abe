/- A row's line: the document. -/
import Derived.Test.YtagncjnbabdbmaaGreatDoorUcdPr
set_option linter.unusedSimpArgs false
set_option linter.unusedVariables false
namespace Go.Proofs.YtagncjnbabdbmaaGreatDoor
open Go.RowKit Go.Shelf

def decF : Nat → Nat → List UInt8
  | 0, n => [dchar (n % 10)]
  | f + 1, n => if 9 < n then decF f (n / 10) ++ [dchar (n % 10)] else [dchar (n % 10)]
theorem decF_T : ∀ n, n < 255 → decF 3 n = decT n := by decide +kernel
set_option maxRecDepth 20000 in
set_option maxHeartbeats 4000000 in
theorem rdecm_any : ∀ (f n : Nat) (w : World), n < 10 ^ (f + 1) → n ≤ 1000 → f ≤ 10 →
    Calls Tryz.prog 43 #[.int .i64 n] w fun e w' => e = .returned (.string (mk8 (decF f n))) ∧ Below w.heap.size w w'
  | f, n, w, hn, hb, hf => by
    obtain ⟨d, hd⟩ : ∃ d, d = n % 10 := ⟨_, rfl⟩
    have hd10 : d ≤ 9 := by omega
    have hmod : Int.tmod (n : Int) 10 = (d : Int) := by rw [hd]; rfl
    have hcv := one_str w (dchar d)
    rw [dchar_small hd10] at hcv
    have hd9 : (d : Int) ≤ 9 := by omega
    by_cases h9 : 9 < n
    · obtain ⟨g, rfl⟩ : ∃ g, f = g + 1 := by
        cases f with
        | zero => exfalso; simp at hn; omega
        | succ g => exact ⟨g, rfl⟩
      have hdec : decF (g + 1) n = decF g (n / 10) ++ [dchar d] := by
        rw [hd]
        show (if 9 < n then _ else _) = _
        rw [if_pos h9]
      rw [hdec]
      obtain ⟨q, hq⟩ : ∃ q, q = n / 10 := ⟨_, rfl⟩
      have hdiv : Int.tdiv (n : Int) 10 = (q : Int) := by rw [hq]; rfl
      have ih := fun w => rdecm_any g q w (by rw [Nat.pow_succ] at hn; omega) (by omega) (by omega)
      rw [← hq]
      have hlen : (decF g q).length ≤ g + 1 := by
        have : ∀ g q, (decF g q).length ≤ g + 1 := by
          intro g
          induction g with
          | zero => intro q; simp [decF]
          | succ g ih =>
            intro q
            unfold decF
            split
            · have := ih (q / 10); rw [List.length_append, List.length_singleton]; omega
            · simp
        exact this g q
      have hcat : mk8 (decF g q) ++ ⟨#[dchar d]⟩ = mk8 (decF g q ++ [dchar d]) := bs_inj (by rw [bs_append]; rfl)
      have HCAT := Lib.hid hcat
      have h9i : (9 : Int) < (n : Int) := by omega
      have hni : (n : Int) ≤ 1000 := by omega
      have hqi : (q : Int) ≤ 1000 := by omega
      have hsl : ¬ (9223372036854775807 < (mk8 (decF g q)).size + (⟨#[dchar d]⟩ : ByteArray).size) := by
        have : (⟨#[dchar d]⟩ : ByteArray).size = 1 := rfl
        rw [mk8_size]
        omega
      have hsl2 : ¬ (9223372036854775807 < (mk8 (decF g q)).size + 1) := by rw [mk8_size]; omega
      clear hd hq hdec hcat hn
      go_enter Tryz.func43, Tryz.ntmps43
      go_wp2_with fail
      refine (ih _).mono ?_
      rintro e w1 ⟨rfl, hb1⟩
      have hb2 := (Below.alloc (Below.refl _ _) (Nat.le_refl _) _).trans (hb1.mono (by simp))
      go_wp2
      go_returns
      exact ⟨ret_str HCAT.out, hb2⟩
    · have hdec : decF f n = [dchar d] := by
        rw [hd]
        cases f with
        | zero => rfl
        | succ f => show (if 9 < n then _ else _) = _; rw [if_neg h9]
      rw [hdec]
      have h9i : (n : Int) ≤ 9 := by omega
      clear hdec hn hd
      go_enter Tryz.func43, Tryz.ntmps43
      go_wp2
      go_returns
      exact ⟨rfl, Below.alloc (Below.refl _ _) (Nat.le_refl _) _⟩
set_option maxRecDepth 20000 in
set_option maxHeartbeats 4000000 in
theorem rline_any (x : RowS) (A : Option Addr) (c : Nat) (r : Int) (nm : List UInt8) (w : World) (hA : Rd w A x.il.length (Rs x.il)) (hi : ∀ z ∈ x.il, -2147483648 ≤ z ∧ z ≤ 2147483647) (hr : -2147483648 ≤ r ∧ r ≤ 2147483647)
    (hl : x.il.length ≤ 18) (hc : 0 ≤ x.cl ∧ x.cl ≤ 254) (hn : nm.length ≤ 1000000) (hct : x.ct.length ≤ 1000000) (hk : x.kd.length ≤ 1000000) :
    Calls Tryz.prog 25 #[.int .i32 r, .string (mk8 nm), rowV x A c] w fun e w' => e = .returned (.string (mk8 (lineL r nm x))) ∧ Below w.heap.size w w' := by
  obtain ⟨xf, xu, xn, xct, xcl, xk, xil⟩ := x
  simp only [] at hA hi hl hc hct hk
  obtain ⟨cl, rfl⟩ : ∃ n : Nat, xcl = n := ⟨xcl.toNat, by omega⟩
  have DC := fun w => rdecm_any 3 cl w (by omega) (by omega) (by omega)
  rw [decF_T cl (by omega)] at DC
  have TX := fun w h => rtext_any A xil.length c xil w h hi (by omega)
  have T1 : ∀ A c w, Rd w A 1 (Rs [r]) → Calls Tryz.prog 42 #[.slice A 1 c] w fun e w' => e = .returned (.string (mk8 (digS r))) ∧ Below w.heap.size w w' := fun A c w h => by
    have := rtext_any A 1 c [r] w h (fun z hz => by rw [List.mem_singleton] at hz; subst hz; exact hr) (by omega)
    rwa [show textS [r] = digS r from Lib.join_one _ _] at this
  have htl := textS_le xil
  have hdl : (decT cl).length ≤ 3 := (dec_facts cl (by omega)).2.2.2
  have hdg := digS_len r
  obtain ⟨L, hL⟩ : ∃ L, L = lineL r nm ⟨xf, xu, xn, xct, cl, xk, xil⟩ := ⟨_, rfl⟩
  obtain ⟨pre, hpre⟩ : ∃ pre, pre = digS r ++ [59] ++ nm ++ [59] ++ xct ++ [59] ++ decT cl ++ [59, 59] := ⟨_, rfl⟩
  have hLL : L = pre ++ partL ⟨xf, xu, xn, xct, cl, xk, xil⟩ ++ [10] := by
    rw [hL, hpre]
    unfold lineL lineB
    simp
  have hpl : pre.length ≤ 2000100 := by rw [hpre]; simp only [List.length_append, List.length_cons, List.length_nil]; omega
  have hcum : (mk8 (digS r)) ++ (⟨#[59]⟩ : ByteArray) ++ (mk8 nm) ++ (⟨#[59]⟩ : ByteArray) ++ (mk8 xct) ++ (⟨#[59]⟩ : ByteArray) ++ (mk8 (decT cl)) ++ (⟨#[59, 59]⟩ : ByteArray) = mk8 pre := bs_inj (by rw [hpre]; simp only [bs_append]; rfl)
  rw [← hL]
  have m1 := mk8_size (digS r)
  have m2 := mk8_size nm
  have m3 := mk8_size xct
  have m4 := mk8_size (decT cl)
  have m5 := mk8_size pre
  have m6 := mk8_size (textS xil)
  have m7 := mk8_size xk
  have q1 : (⟨#[59]⟩ : ByteArray).size = 1 := rfl
  have q2 : (⟨#[59, 59]⟩ : ByteArray).size = 2 := rfl
  have q3 : (⟨#[60]⟩ : ByteArray).size = 1 := rfl
  have q4 : (⟨#[62, 32]⟩ : ByteArray).size = 2 := rfl
  have q5 : (⟨#[10]⟩ : ByteArray).size = 1 := rfl
  have hsA0 : ¬ (9223372036854775807 < ((mk8 (digS r))).size + (⟨#[59]⟩ : ByteArray).size) := by (try simp only [ByteArray.size_append]); omega
  have hsB0 : ¬ (9223372036854775807 < (mk8 (digS r)).size + 1) := by omega
  have hsA1 : ¬ (9223372036854775807 < ((mk8 (digS r)) ++ (⟨#[59]⟩ : ByteArray)).size + (mk8 nm).size) := by (try simp only [ByteArray.size_append]); omega
  have hsB1 : ¬ (9223372036854775807 < (mk8 (digS r)).size + 1 + (mk8 nm).size) := by omega
  have hsA2 : ¬ (9223372036854775807 < ((mk8 (digS r)) ++ (⟨#[59]⟩ : ByteArray) ++ (mk8 nm)).size + (⟨#[59]⟩ : ByteArray).size) := by (try simp only [ByteArray.size_append]); omega
  have hsB2 : ¬ (9223372036854775807 < (mk8 (digS r)).size + 1 + (mk8 nm).size + 1) := by omega
  have hsA3 : ¬ (9223372036854775807 < ((mk8 (digS r)) ++ (⟨#[59]⟩ : ByteArray) ++ (mk8 nm) ++ (⟨#[59]⟩ : ByteArray)).size + (mk8 xct).size) := by (try simp only [ByteArray.size_append]); omega
  have hsB3 : ¬ (9223372036854775807 < (mk8 (digS r)).size + 1 + (mk8 nm).size + 1 + (mk8 xct).size) := by omega
  have hsA4 : ¬ (9223372036854775807 < ((mk8 (digS r)) ++ (⟨#[59]⟩ : ByteArray) ++ (mk8 nm) ++ (⟨#[59]⟩ : ByteArray) ++ (mk8 xct)).size + (⟨#[59]⟩ : ByteArray).size) := by (try simp only [ByteArray.size_append]); omega
  have hsB4 : ¬ (9223372036854775807 < (mk8 (digS r)).size + 1 + (mk8 nm).size + 1 + (mk8 xct).size + 1) := by omega
  have hsA5 : ¬ (9223372036854775807 < ((mk8 (digS r)) ++ (⟨#[59]⟩ : ByteArray) ++ (mk8 nm) ++ (⟨#[59]⟩ : ByteArray) ++ (mk8 xct) ++ (⟨#[59]⟩ : ByteArray)).size + (mk8 (decT cl)).size) := by (try simp only [ByteArray.size_append]); omega
  have hsB5 : ¬ (9223372036854775807 < (mk8 (digS r)).size + 1 + (mk8 nm).size + 1 + (mk8 xct).size + 1 + (mk8 (decT cl)).size) := by omega
  have hsA6 : ¬ (9223372036854775807 < ((mk8 (digS r)) ++ (⟨#[59]⟩ : ByteArray) ++ (mk8 nm) ++ (⟨#[59]⟩ : ByteArray) ++ (mk8 xct) ++ (⟨#[59]⟩ : ByteArray) ++ (mk8 (decT cl))).size + (⟨#[59, 59]⟩ : ByteArray).size) := by (try simp only [ByteArray.size_append]); omega
  have hsB6 : ¬ (9223372036854775807 < (mk8 (digS r)).size + 1 + (mk8 nm).size + 1 + (mk8 xct).size + 1 + (mk8 (decT cl)).size + 2) := by omega
  simp only [rowV]
  have HBOX : ∀ o, Below w.heap.size w (w.alloc o) := fun o => (Below.refl _ _).alloc (Nat.le_refl _) _
  have HCUM := Lib.hid hcum
  have HLL := Lib.hid hLL
  clear hcum hLL hL hpre
  go_enter Tryz.func25, Tryz.ntmps25
  go_upto_region 1 with fail
  generalize hWW : w.alloc _ = W at *
  have hbW : Below w.heap.size w W := by rw [← hWW]; exact HBOX _
  have hx : W.heap[w.heap.size]? = some (.cells #[.int .i32 xf, .int .i32 xu, .string (mk8 xn), .string (mk8 xct), .int .i64 cl, .string (mk8 xk), .slice A xil.length c] 28 (0, 0)) := by rw [← hWW]; exact box_new _ _ _
  have hz3 : W.cell? ⟨w.heap.size, 3, none⟩ = some (.string (mk8 xct)) := box_cell hx 3 rfl
  have hz4 : W.cell? ⟨w.heap.size, 4, none⟩ = some (.int .i64 cl) := box_cell hx 4 rfl
  have hpz := hbW.size
  generalize hgp : w.heap.size = p at *
  have HGP := Lib.hid hgp
  have HBX := Lib.hid hbW
  have HX := Lib.hid hx
  have HPZ := Lib.hid hpz
  have hA2 := hA.below (show Below w.heap.size w W by rw [HGP.out]; exact hbW)
  clear hWW HBOX hgp hx hbW hpz m1 m2 m3 m4 m5 m6 m7 q1 q2 q3 q4 q5
  go_region_held3 (fun w' => (w'.cell? ⟨p, 3, none⟩ = some (.string (mk8 xct)) ∧ w'.cell? ⟨p, 4, none⟩ = some (.int .i64 cl)) ∧ Below W.heap.size W w') (first | exact keepL_first hz3 hz4 | assumption | (refine keepL_alloc _ ?_; assumption) | (refine keepL_drew _ ?_; assumption) | (refine keepL_call ?_ hb5; assumption) | (refine keepL_call ?_ hb6; assumption))
    (first
      | (go_at_call 42; refine (T1 _ _ _ ?_).mono ?_; (first | exact Rd.drew (Rd.new1 _ _ _) | exact Rd.new1 _ _ _ | exact Rd.drew (Rd.alloc (Rd.new1 _ _ _) _)); rintro e w5 ⟨rfl, hb5⟩)
      | (go_at_call 43; refine (DC _).mono ?_; rintro e w6 ⟨rfl, hb6⟩))
  all_goals
    have hk7 : (w6.cell? ⟨p, 3, none⟩ = some (.string (mk8 xct)) ∧ w6.cell? ⟨p, 4, none⟩ = some (.int .i64 cl)) ∧ Below W.heap.size W w6 := by assumption
    have hb9 := hk7.2
    have hx6 := box_below HX.out hb9
    have z5 : w6.cell? ⟨p, 5, none⟩ = some (.string (mk8 xk)) := box_cell hx6 5 rfl
    have z6 : w6.cell? ⟨p, 6, none⟩ = some (.slice A xil.length c) := box_cell hx6 6 rfl
    have hA6 := hA2.below hb9
    clear hk7 DC T1 hz3 hz4 hx6 hsA0 hsB0 hsA1 hsB1 hsA2 hsB2 hsA3 hsB3 hsA4 hsB4 hsA5 hsB5 hsA6 hsB6
    rw [HCUM.out]
    have m5 := mk8_size pre
    have m6 := mk8_size (textS xil)
    have m7 := mk8_size xk
    have q3 : (⟨#[60]⟩ : ByteArray).size = 1 := rfl
    have q4 : (⟨#[62, 32]⟩ : ByteArray).size = 2 := rfl
    have q5 : (⟨#[10]⟩ : ByteArray).size = 1 := rfl
    by_cases hke : xk = []
    · have hlast : mk8 pre ++ mk8 (textS xil) ++ ⟨#[10]⟩ = mk8 L := bs_inj (by rw [HLL.out, bs_append, bs_append]; unfold partL; rw [if_pos hke]; rfl)
      have HLAST := Lib.hid hlast
      have htA0 : ¬ (9223372036854775807 < (mk8 pre).size + (mk8 (textS xil)).size) := by (try simp only [ByteArray.size_append]); omega
      have htB0 : ¬ (9223372036854775807 < (mk8 pre).size + (mk8 (textS xil)).size) := by omega
      have htA1 : ¬ (9223372036854775807 < (mk8 pre ++ mk8 (textS xil)).size + (⟨#[10]⟩ : ByteArray).size) := by (try simp only [ByteArray.size_append]); omega
      have htB1 : ¬ (9223372036854775807 < (mk8 pre).size + (mk8 (textS xil)).size + 1) := by omega
      subst hke
      have he5 := mk8_empty []
      clear hlast m5 m6 m7 q3 q4 q5
      go_wp2_with fail
      refine (TX _ hA6).mono ?_
      rintro e w7 ⟨rfl, hb7⟩
      have hfin := HBX.out.trans ((below_then hb9 hb7).mono HPZ.out)
      go_wp2
      go_returns
      exact ⟨ret_str HLAST.out, by rw [HGP.out]; exact hfin⟩
    · have hlast : mk8 pre ++ ⟨#[60]⟩ ++ mk8 xk ++ ⟨#[62, 32]⟩ ++ mk8 (textS xil) ++ ⟨#[10]⟩ = mk8 L := bs_inj (by rw [HLL.out]; unfold partL; rw [if_neg hke]; simp only [bs_append, List.append_assoc]; rfl)
      have HLAST := Lib.hid hlast
      have htA0 : ¬ (9223372036854775807 < (mk8 pre).size + (⟨#[60]⟩ : ByteArray).size) := by (try simp only [ByteArray.size_append]); omega
      have htB0 : ¬ (9223372036854775807 < (mk8 pre).size + 1) := by omega
      have htA1 : ¬ (9223372036854775807 < (mk8 pre ++ (⟨#[60]⟩ : ByteArray)).size + (mk8 xk).size) := by (try simp only [ByteArray.size_append]); omega
      have htB1 : ¬ (9223372036854775807 < (mk8 pre).size + 1 + (mk8 xk).size) := by omega
      have htA2 : ¬ (9223372036854775807 < (mk8 pre ++ (⟨#[60]⟩ : ByteArray) ++ mk8 xk).size + (⟨#[62, 32]⟩ : ByteArray).size) := by (try simp only [ByteArray.size_append]); omega
      have htB2 : ¬ (9223372036854775807 < (mk8 pre).size + 1 + (mk8 xk).size + 2) := by omega
      have htA3 : ¬ (9223372036854775807 < (mk8 pre ++ (⟨#[60]⟩ : ByteArray) ++ mk8 xk ++ (⟨#[62, 32]⟩ : ByteArray)).size + (mk8 (textS xil)).size) := by (try simp only [ByteArray.size_append]); omega
      have htB3 : ¬ (9223372036854775807 < (mk8 pre).size + 1 + (mk8 xk).size + 2 + (mk8 (textS xil)).size) := by omega
      have htA4 : ¬ (9223372036854775807 < (mk8 pre ++ (⟨#[60]⟩ : ByteArray) ++ mk8 xk ++ (⟨#[62, 32]⟩ : ByteArray) ++ mk8 (textS xil)).size + (⟨#[10]⟩ : ByteArray).size) := by (try simp only [ByteArray.size_append]); omega
      have htB4 : ¬ (9223372036854775807 < (mk8 pre).size + 1 + (mk8 xk).size + 2 + (mk8 (textS xil)).size + 1) := by omega
      have he5 : ¬ ((mk8 xk).toList = (⟨#[]⟩ : ByteArray).toList) := fun h => hke (by rw [toList_bs, toList_bs, bs_mk8] at h; exact h)
      have he6 := mk8_empty xk
      rw [show decide (xk = []) = false from by simp [hke]] at he6
      clear hlast hke m5 m6 m7 q3 q4 q5
      go_wp2_with fail
      refine (TX _ hA6).mono ?_
      rintro e w7 ⟨rfl, hb7⟩
      have hfin := HBX.out.trans ((below_then hb9 hb7).mono HPZ.out)
      go_wp2
      go_returns
      exact ⟨ret_str HLAST.out, by rw [HGP.out]; exact hfin⟩
end Go.Proofs.YtagncjnbabdbmaaGreatDoor
