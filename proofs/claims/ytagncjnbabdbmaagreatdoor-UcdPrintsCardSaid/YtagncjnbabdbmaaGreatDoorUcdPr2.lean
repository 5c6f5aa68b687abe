/- Rows as lines: the code. -/
import Derived.Test.YtagncjnbabdbmaaGreatDoorUcdPr
import Derived.Shelf.Strings.MapGrows
set_option linter.unusedSimpArgs false
set_option linter.unusedVariables false
namespace Go.Proofs.YtagncjnbabdbmaaGreatDoor
open Go.RowKit Go.Shelf

/-- What a row in memory has: numbers within their bounds, texts within theirs. -/
structure RowI (x : RowS) : Prop where
  fr : -2147483648 ≤ x.fr ∧ x.fr ≤ 2147483647
  up : -2147483648 ≤ x.up ∧ x.up ≤ 2147483647
  cl : -9223372036854775808 ≤ x.cl ∧ x.cl ≤ 9223372036854775807
  nm : x.nm.length ≤ 9223372036854775807
  ct : x.ct.length ≤ 9223372036854775807
  kd : x.kd.length ≤ 1000
  len : x.il.length ≤ 9223372036854775807
  il : ∀ z ∈ x.il, -2147483648 ≤ z ∧ z ≤ 2147483647
theorem line_le {x : RowS} (hx : RowG x) (hk : x.kd.length ≤ 1000) (r : Int) {nm : List UInt8} (hn : nm.length ≤ 110) : (lineL r nm x).length ≤ 2000 := by
  have h1 := digS_len r
  have h2 := (plain_facts hx.ct).1
  have h3 := (dec_of hx).2.2.2
  have h4 := (part_facts hx).2.2.2
  unfold lineL
  rw [lineB_R]
  simp only [List.length_append, List.length_cons, List.length_nil]
  omega
theorem row_le {x : RowS} (hx : RowG x) (hk : x.kd.length ≤ 1000) : (rowL x).length ≤ 4000 := by
  have h0 := (plain_facts hx.nm).1
  have h1 := line_le hx hk x.fr (nm := x.nm) (by omega)
  have h2 := line_le hx hk x.fr (name_facts hx.nm (en := FSTB) (.inl rfl)).2.2
  have h3 := line_le hx hk x.up (name_facts hx.nm (en := LSTB) (.inr rfl)).2.2
  unfold rowL
  split
  · omega
  · rw [List.length_append]
    show (lineL x.fr ([60] ++ x.nm ++ FSTB) x).length + (lineL x.up ([60] ++ x.nm ++ LSTB) x).length ≤ 4000
    omega
abbrev BldF (B : Nat) (l : List UInt8) (w : World) : Prop := Lib.IsBuilderF 49 5 B B (Bs l) w
theorem bld_below {B : Nat} {l : List UInt8} {w w' : World} (h : BldF B l w) (hb : Below w.heap.size w w') : BldF B l w' := Lib.IsBuilderF.below h hb
theorem wstrF_any (B : Nat) (acc l : List UInt8) (w : World) (h : BldF B acc w) (hlen : acc.length + l.length ≤ 140737488355328) (hBw : B ≤ w.heap.size) :
    Calls Tryz.prog 22 #[.pointer (some ⟨B, 0, none⟩), .string (mk8 l)] w fun e w' => e = .returned (.tuple #[.int .i64 l.length, .nilIface]) ∧ BldF B (acc ++ l) w' ∧ Below B w w' ∧ Lib.OthersKept 5 (some B) w w' := by
  refine (Any.Builder_WriteString_k (ρ := Tryz.lays156_ren) { Tryz.lays156 with } Tryz.Builder_Extra_156 B B (Bs acc) (mk8 l) w h (by rw [mk8_size]; simp; omega) hBw).mono ?_
  rintro e w' ⟨rfl, hb, h2, h3⟩
  refine ⟨by rw [mk8_size], .inr ?_, h2, h3⟩
  have e : Bs (acc ++ l) = Bs acc ++ Lib.strCells (mk8 l) := by simp [Lib.strCells, mk8]
  rw [e]
  exact hb
theorem bldF_new (w : World) : BldF w.heap.size [] (w.alloc (.cells #[.pointer none, .slice none 0 0] 49)) :=
  Lib.IsBuilderF.of (.inl ⟨Nat.le_refl _, .slice none 0 0, box_new _ _ _, World.ownsRow_nil _ _ _ _, by intro h; cases h⟩)
theorem string_any (B : Nat) (l : List UInt8) (w : World) (h : BldF B l w) (hBw : B ≤ w.heap.size) :
    Calls Tryz.prog 24 #[.pointer (some ⟨B, 0, none⟩)] w fun e w' => e = .returned (.string (mk8 l)) ∧ Below B w w' := by
  refine (Tryz.Builder_String_any_f B B l w h hBw).mono ?_
  rintro e w' ⟨rfl, _, hb⟩
  exact ⟨rfl, hb⟩
set_option maxRecDepth 20000 in
set_option maxHeartbeats 8000000 in
theorem print_any (A : Option Addr) (n c : Nat) (os : List RA) (w : World) (hT : TabP w) (hr : RowsRd w A os) (hn : os.length = n) (ho : ∀ x ∈ os, RowI x.1) (h40 : n ≤ 1000) :
    Calls Tryz.prog 8 #[.slice A n c] w fun e w' => e = .returned (.tuple #[.string (mk8 (printS (os.map (·.1))).1), .int .i64 (printS (os.map (·.1))).2]) ∧ Below w.heap.size w w' := by
  obtain ⟨R, hR⟩ : ∃ R, R = os.map (·.1) := ⟨_, rfl⟩
  rw [← hR]
  have hRl : R.length = n := by rw [hR, List.length_map]; exact hn
  have hget : ∀ k x a c, os[k]? = some (x, a, c) → R[k]? = some x := fun k x a c h => by rw [hR, List.getElem?_map, h]; rfl
  have HG := Lib.hid hget
  have HRL := Lib.hid hRl
  have HOL := Lib.hid hn
  have HO := Lib.hid ho
  clear hR hget hRl hn ho
  go_enter Tryz.func8, Tryz.ntmps8
  go_wp2
  go_loopw [12] (fun i wr => ∃ k : Nat, k ≤ n ∧ i = .int .i64 k ∧ Hid (firstBad R = firstBad (R.drop k)) ∧ Below w.heap.size w wr) (fun i _ => n - (intOf i).toNat)
  case atStart => exact ⟨0, Nat.zero_le _, rfl, rfl, Below.refl _ _⟩
  case round =>
    obtain ⟨k, hk, rfl, HD, hb⟩ := hrel
    have hsz := hb.size
    by_cases hlt : k < n
    · have hi : (k : Int) < (n : Int) := by omega
      obtain ⟨⟨x, Ax, cx⟩, hx⟩ : ∃ z, os[k]? = some z := ⟨_, List.getElem?_eq_getElem (by rw [HOL.out]; exact hlt)⟩
      have hstep := firstBad_step (HG.out k x Ax cx hx)
      obtain ⟨b, off, rfl, hbl, hcx⟩ := (hr.below hb).at_ (by rw [HOL.out]; omega)
      obtain ⟨x0, x1, x2, x3, x4, x5, x6⟩ := row_cells hx hcx
      have hA := (hr.below hb).into _ (List.mem_of_getElem? hx)
      have hxo := HO.out _ (List.mem_of_getElem? hx)
      have HC := fun W' (hb' : Below wr.heap.size wr W') => check_any x Ax cx W' (hA.below hb') hxo.len hxo.nm hxo.ct
      simp only [rowV] at HC
      clear hcx hA hx hxo
      go_wp2_with fail
      have hbB : Below wr.heap.size wr (wr.alloc (.cells #[.int .i32 x.fr, .int .i32 x.up, .string (mk8 x.nm), .string (mk8 x.ct), .int .i64 x.cl, .string (mk8 x.kd), .slice Ax x.il.length cx] 27)) := (Below.refl _ _).alloc (Nat.le_refl _) _
      refine (HC _ hbB).mono ?_
      rintro e w1 ⟨rfl, hb1⟩
      have hb2 := hb.trans ((below_then hbB hb1).mono hsz)
      clear HC x0 x1 x2 x3 x4 x5 x6 hb1 hbB
      by_cases hc0 : checkS x = 0
      · rw [hc0]
        rw [if_neg (by simp [hc0])] at hstep
        have HD2 : Hid (firstBad R = firstBad (R.drop (k + 1))) := by show _ = _; rw [HD.out, hstep]
        clear hstep HD hc0
        go_wp2
        go_roundw
        case rel => exact ⟨k + 1, by omega, by go_num, HD2, hb2⟩
        case measure => simp [intOf]; omega
      · rw [if_pos hc0] at hstep
        have hP : printS R = ([], checkS x) := by
          unfold printS
          rw [HD.out, hstep, if_pos hc0]
        have HP := Lib.hid hP
        generalize checkS x = ee at *
        have hn1 : (ee == 0) = false := by simpa using hc0
        have hn2 : (ee != 0) = true := by simpa using hc0
        clear hstep HD hP
        go_wp2
        go_returns
        exact ⟨by rw [HP.out]; rfl, hb2⟩
    · have hi : (n : Int) ≤ (k : Int) := by omega
      have hkn : k = n := by omega
      have hfb : firstBad R = 0 := by
        rw [HD.out, List.drop_eq_nil_of_le (by rw [HRL.out]; omega)]
        rfl
      have hP0 : printS R = printW [] (-1) R := by unfold printS; rw [if_neg (by simp [hfb])]
      have HP0 := Lib.hid hP0
      have HGD : Hid (∀ x ∈ R, RowG x) := fun x hx => rowG (firstBad_ok hfb x hx)
      have HBB := Lib.hid hb
      have HBN := bldF_new wr
      have hbn : Below wr.heap.size wr (wr.alloc (.cells #[.pointer none, .slice none 0 0] 49)) := (Below.refl _ _).alloc (Nat.le_refl _) _
      have hbN := hb.trans (hbn.mono hsz)
      have hBs : wr.heap.size < (wr.alloc (.cells #[.pointer none, .slice none 0 0] 49)).heap.size := by simp
      clear hfb hP0 HD hb hkn
      go_wp2
      generalize hWW : wr.alloc _ = W0 at *
      generalize hgB : wr.heap.size = B at *
      have HWW := Lib.hid hWW
      have HGB := Lib.hid hgB
      have HSZ := Lib.hid hsz
      clear hbn hWW hgB hsz
      go_loopw [24] (fun i wx => ∃ (k : Nat) (acc : List UInt8) (was : Int), k ≤ n ∧ i = .int .i64 k ∧ Hid (printW [] (-1) R = printW acc was (R.drop k)) ∧ Hid (∀ j x, k = j + 1 → R[j]? = some x → was = x.up) ∧ Hid (k = 0 → was = -1) ∧ acc.length ≤ 4000 * k ∧ BldF B acc wx ∧ B < wx.heap.size ∧ Below w.heap.size w wx) (fun i _ => n - (intOf i).toNat)
      case atStart => exact ⟨0, [], -1, Nat.zero_le _, rfl, rfl, (fun j x h => by omega), (fun _ => rfl), Nat.le_refl _, HBN, hBs, hbN⟩
      case round =>
        obtain ⟨k, acc, was, hk, rfl, HD, HW1, HW0, hal, hbl, hBw, hb⟩ := hrel
        have hsz := hb.size
        by_cases hlt : k < n
        · have hi : (k : Int) < (n : Int) := by omega
          obtain ⟨⟨x, Ax, cx⟩, hx⟩ : ∃ z, os[k]? = some z := ⟨_, List.getElem?_eq_getElem (by rw [HOL.out]; exact hlt)⟩
          have hRx := HG.out k x Ax cx hx
          have hg := HGD.out x (List.mem_of_getElem? hRx)
          have hstep := printW_step hRx acc was
          obtain ⟨b, off, hAe, hbl2, hcx⟩ := (hr.below hb).at_ (by rw [HOL.out]; omega)
          subst hAe
          obtain ⟨x0, x1, x2, x3, x4, x5, x6⟩ := row_cells hx hcx
          have hA := (hr.below hb).into _ (List.mem_of_getElem? hx)
          have hxo := HO.out _ (List.mem_of_getElem? hx)
          have hTx := tabP_below hT hb
          have hkd : x.kd.length ≤ 1000 := hxo.kd
          have hrl := row_le hg hkd
          have hpn := plain_facts hg.nm
          have LN := fun (r : Int) (nm : List UInt8) W' (hb' : Below wr.heap.size wr W') (hr : -2147483648 ≤ r ∧ r ≤ 2147483647) (hnm : nm.length ≤ 110) => line_any x Ax cx r nm W' (tabP_below hTx hb') (hA.below hb') hxo.il hr hg.len hg.cl (by omega) (by have := (plain_facts hg.ct).1; omega) (by omega)
          simp only [rowV] at LN
          rcases Nat.eq_zero_or_pos k with hk0 | hk0
          · subst hk0
            rw [Nat.zero_mul, Nat.add_zero] at x0 x1 x2 x3 x4 x5 x6
            rw [if_neg (by have := HW0.out rfl; have := (scalar_bd hg.fr).1; omega)] at hstep
            have HD2 : Hid (printW [] (-1) R = printW (acc ++ rowL x) x.up (R.drop (0 + 1))) := by show _ = _; rw [HD.out, hstep]
            have HUP : Hid (∀ j y, 0 + 1 = j + 1 → R[j]? = some y → x.up = y.up) := by
              show ∀ j y, 0 + 1 = j + 1 → R[j]? = some y → x.up = y.up
              intro j y h hy
              rw [show j = 0 by omega, hRx] at hy
              injection hy with hy
              rw [hy]
            clear HD hstep hRx hx hcx HW0 HW1
            by_cases he : x.fr = x.up
            · have hrw : rowL x = lineL x.fr x.nm x := by unfold rowL; rw [if_pos he]
              have e1 : (x.fr == x.up) = true := by simp [he]
              have HRW := Lib.hid hrw
              have hll : (lineL x.fr x.nm x).length ≤ 4000 := by rw [← hrw]; exact hrl
              have LN1 := fun W' hb' => LN x.fr x.nm W' hb' hxo.fr (by omega)
              clear hrw he hxo LN hA hpn
              go_wp2
              go_quiet (fail)
              go_wp2_with fail
              refine (LN1 _ (below_drew' ((Below.refl _ _).alloc (Nat.le_refl _) _) _)).mono ?_
              rintro e w3 ⟨rfl, hb3⟩
              have hbq := below_then (below_drew' ((Below.refl wr.heap.size wr).alloc (Nat.le_refl _) _) _) hb3
              clear hb3 LN1
              go_wp2_with fail
              refine (wstrF_any B acc (lineL x.fr x.nm x) w3 (bld_below hbl hbq) (by omega) (by have := hbq.size; omega)).mono ?_
              rintro e w4 ⟨rfl, hbl4, hb4, -⟩
              have hz3 := hbq.size
              have hz4 := hb4.size
              have hfin := (below_then hb hbq).trans (hb4.mono HSZ.out)
              go_wp2
              go_roundw
              case rel => exact ⟨0 + 1, acc ++ rowL x, x.up, by omega, by go_num, HD2, HUP.out, (fun h => by omega), by rw [List.length_append]; omega, by rw [HRW.out]; exact hbl4, by omega, hfin⟩
              case measure => simp [intOf]; omega
            · have hrw : rowL x = lineL x.fr (firstN x.nm) x ++ lineL x.up (lastN x.nm) x := by unfold rowL; rw [if_neg he]
              have e1 : (x.fr == x.up) = false := by simp [he]
              have hll : (lineL x.fr (firstN x.nm) x).length + (lineL x.up (lastN x.nm) x).length ≤ 4000 := by rw [← List.length_append, ← hrw]; exact hrl
              have hc1 : bs (⟨#[60]⟩ ++ mk8 x.nm ++ ⟨#[44, 32, 70, 105, 114, 115, 116, 62]⟩) = firstN x.nm := by rw [bs_append, bs_append]; rfl
              have hc2 : bs (⟨#[60]⟩ ++ mk8 x.nm ++ ⟨#[44, 32, 76, 97, 115, 116, 62]⟩) = lastN x.nm := by rw [bs_append, bs_append]; rfl
              have hc3 : bs (mk8 (lineL x.fr (firstN x.nm) x) ++ mk8 (lineL x.up (lastN x.nm) x)) = rowL x := by rw [bs_append, bs_mk8, bs_mk8, hrw]
              have hc4 : (mk8 (lineL x.fr (firstN x.nm) x) ++ mk8 (lineL x.up (lastN x.nm) x)).size ≤ 4000 := by rw [ByteArray.size_append, mk8_size, mk8_size]; exact hll
              have hpl := hpn.1
              have LNS : ∀ (r : Int) (s : ByteArray) (nm : List UInt8) W', Below wr.heap.size wr W' → -2147483648 ≤ r ∧ r ≤ 2147483647 → bs s = nm → nm.length ≤ 110 → Calls Tryz.prog 23 #[.agg #[.int .i32 x.fr, .int .i32 x.up, .string (mk8 x.nm), .string (mk8 x.ct), .int .i64 x.cl, .string (mk8 x.kd), .slice Ax x.il.length cx], .int .i32 r, .string s] W' fun e w' => e = .returned (.string (mk8 (lineL r nm x))) ∧ Below W'.heap.size W' w' := fun r s nm W' hb' hr hs hn => by
                subst hs
                have := LN r (bs s) W' hb' hr hn
                rwa [mk8_bs] at this
              have L1 : (firstN x.nm).length ≤ 110 := (name_facts hg.nm (en := FSTB) (.inl rfl)).2.2
              have L2 : (lastN x.nm).length ≤ 110 := (name_facts hg.nm (en := LSTB) (.inr rfl)).2.2
              have WS : ∀ (s : ByteArray) (l : List UInt8) w, bs s = l → s.size ≤ 4000 → BldF B acc w → B ≤ w.heap.size → Calls Tryz.prog 22 #[.pointer (some ⟨B, 0, none⟩), .string s] w fun e w' => e = .returned (.tuple #[.int .i64 l.length, .nilIface]) ∧ BldF B (acc ++ l) w' ∧ Below B w w' ∧ Lib.OthersKept 5 (some B) w w' := fun s l w hs hz h hB => by
                subst hs
                have := wstrF_any B acc (bs s) w h (by rw [bs_length]; omega) hB
                rwa [mk8_bs] at this
              have q0 : (⟨#[60]⟩ : ByteArray).size = 1 := rfl
              have q1 : (⟨#[44, 32, 70, 105, 114, 115, 116, 62]⟩ : ByteArray).size = 8 := rfl
              have q2 : (⟨#[44, 32, 76, 97, 115, 116, 62]⟩ : ByteArray).size = 7 := rfl
              have q3 := mk8_size x.nm
              have q4 := mk8_size (lineL x.fr (firstN x.nm) x)
              have q5 := mk8_size (lineL x.up (lastN x.nm) x)
              have hs1 : ¬ (9223372036854775807 < (⟨#[60]⟩ : ByteArray).size + (mk8 x.nm).size) := by omega
              have hs2 : ¬ (9223372036854775807 < ((⟨#[60]⟩ : ByteArray) ++ mk8 x.nm).size + (⟨#[44, 32, 70, 105, 114, 115, 116, 62]⟩ : ByteArray).size) := by rw [ByteArray.size_append]; omega
              have hs3 : ¬ (9223372036854775807 < ((⟨#[60]⟩ : ByteArray) ++ mk8 x.nm).size + (⟨#[44, 32, 76, 97, 115, 116, 62]⟩ : ByteArray).size) := by rw [ByteArray.size_append]; omega
              have hs4 : ¬ (9223372036854775807 < (mk8 (lineL x.fr (firstN x.nm) x)).size + (mk8 (lineL x.up (lastN x.nm) x)).size) := by omega
              have hs5 : ¬ (9223372036854775807 < 1 + (mk8 x.nm).size) := by omega
              have hs6 : ¬ (9223372036854775807 < 1 + (mk8 x.nm).size + 8) := by omega
              have hs7 : ¬ (9223372036854775807 < 1 + (mk8 x.nm).size + 7) := by omega
              have hfr := hxo.fr
              have hup := hxo.up
              clear he hxo LN hA hpn q0 q1 q2 q3 q4 q5 hrw
              go_wp2
              go_quiet (fail)
              go_upto_region 12 with fail
              have hpB : B < wr.heap.size := hBw
              have hbn : Below wr.heap.size wr ((wr.alloc (.cells #[.int .i32 x.fr, .int .i32 x.up, .string (mk8 x.nm), .string (mk8 x.ct), .int .i64 x.cl, .string (mk8 x.kd), .slice Ax x.il.length cx] 27)).drewN nq) := below_drew' ((Below.refl wr.heap.size wr).alloc (Nat.le_refl _) _) _
              have hbx : ((wr.alloc (.cells #[.int .i32 x.fr, .int .i32 x.up, .string (mk8 x.nm), .string (mk8 x.ct), .int .i64 x.cl, .string (mk8 x.kd), .slice Ax x.il.length cx] 27)).drewN nq).heap[wr.heap.size]? = some (.cells #[.int .i32 x.fr, .int .i32 x.up, .string (mk8 x.nm), .string (mk8 x.ct), .int .i64 x.cl, .string (mk8 x.kd), .slice Ax x.il.length cx] 27 (0, 0)) := box_new _ _ _
              generalize hWQ : (wr.alloc (.cells #[.int .i32 x.fr, .int .i32 x.up, .string (mk8 x.nm), .string (mk8 x.ct), .int .i64 x.cl, .string (mk8 x.kd), .slice Ax x.il.length cx] 27)).drewN nq = W at *
              have hblW := bld_below hbl hbn
              replace LNS := fun r s nm W' (hb' : Below W.heap.size W W') => LNS r s nm W' (below_then hbn hb')
              have HBN2 := Lib.hid hbn
              have hzW := hbn.size
              generalize hgp : wr.heap.size = p at *
              have HGP := Lib.hid hgp
              have hpne : p ≠ B := by omega
              have MK : ∀ w' : World, w'.heap[p]? = some (.cells #[.int .i32 x.fr, .int .i32 x.up, .string (mk8 x.nm), .string (mk8 x.ct), .int .i64 x.cl, .string (mk8 x.kd), .slice Ax x.il.length cx] 27 (0, 0)) → (w'.cell? ⟨p, 0, none⟩ = some (.int .i32 x.fr) ∧ w'.cell? ⟨p, 1, none⟩ = some (.int .i32 x.up) ∧ w'.cell? ⟨p, 2, none⟩ = some (.string (mk8 x.nm)) ∧ w'.cell? ⟨p, 3, none⟩ = some (.string (mk8 x.ct)) ∧ w'.cell? ⟨p, 4, none⟩ = some (.int .i64 x.cl) ∧ w'.cell? ⟨p, 5, none⟩ = some (.string (mk8 x.kd)) ∧ w'.cell? ⟨p, 6, none⟩ = some (.slice Ax x.il.length cx)) ∧ Hid (w'.heap[p]? = some (.cells #[.int .i32 x.fr, .int .i32 x.up, .string (mk8 x.nm), .string (mk8 x.ct), .int .i64 x.cl, .string (mk8 x.kd), .slice Ax x.il.length cx] 27 (0, 0))) := fun w' hx' => ⟨⟨box_cell hx' 0 rfl, box_cell hx' 1 rfl, box_cell hx' 2 rfl, box_cell hx' 3 rfl, box_cell hx' 4 rfl, box_cell hx' 5 rfl, box_cell hx' 6 rfl⟩, hx'⟩
              have MW : ∀ w' w'' : World, ((w'.cell? ⟨p, 0, none⟩ = some (.int .i32 x.fr) ∧ w'.cell? ⟨p, 1, none⟩ = some (.int .i32 x.up) ∧ w'.cell? ⟨p, 2, none⟩ = some (.string (mk8 x.nm)) ∧ w'.cell? ⟨p, 3, none⟩ = some (.string (mk8 x.ct)) ∧ w'.cell? ⟨p, 4, none⟩ = some (.int .i64 x.cl) ∧ w'.cell? ⟨p, 5, none⟩ = some (.string (mk8 x.kd)) ∧ w'.cell? ⟨p, 6, none⟩ = some (.slice Ax x.il.length cx)) ∧ Hid (w'.heap[p]? = some (.cells #[.int .i32 x.fr, .int .i32 x.up, .string (mk8 x.nm), .string (mk8 x.ct), .int .i64 x.cl, .string (mk8 x.kd), .slice Ax x.il.length cx] 27 (0, 0)))) → Below w'.heap.size w' w'' → ((w''.cell? ⟨p, 0, none⟩ = some (.int .i32 x.fr) ∧ w''.cell? ⟨p, 1, none⟩ = some (.int .i32 x.up) ∧ w''.cell? ⟨p, 2, none⟩ = some (.string (mk8 x.nm)) ∧ w''.cell? ⟨p, 3, none⟩ = some (.string (mk8 x.ct)) ∧ w''.cell? ⟨p, 4, none⟩ = some (.int .i64 x.cl) ∧ w''.cell? ⟨p, 5, none⟩ = some (.string (mk8 x.kd)) ∧ w''.cell? ⟨p, 6, none⟩ = some (.slice Ax x.il.length cx)) ∧ Hid (w''.heap[p]? = some (.cells #[.int .i32 x.fr, .int .i32 x.up, .string (mk8 x.nm), .string (mk8 x.ct), .int .i64 x.cl, .string (mk8 x.kd), .slice Ax x.il.length cx] 27 (0, 0)))) := fun w' w'' h hb' => MK _ (box_below h.2.out hb')
              have MO : ∀ w' w'' : World, ((w'.cell? ⟨p, 0, none⟩ = some (.int .i32 x.fr) ∧ w'.cell? ⟨p, 1, none⟩ = some (.int .i32 x.up) ∧ w'.cell? ⟨p, 2, none⟩ = some (.string (mk8 x.nm)) ∧ w'.cell? ⟨p, 3, none⟩ = some (.string (mk8 x.ct)) ∧ w'.cell? ⟨p, 4, none⟩ = some (.int .i64 x.cl) ∧ w'.cell? ⟨p, 5, none⟩ = some (.string (mk8 x.kd)) ∧ w'.cell? ⟨p, 6, none⟩ = some (.slice Ax x.il.length cx)) ∧ Hid (w'.heap[p]? = some (.cells #[.int .i32 x.fr, .int .i32 x.up, .string (mk8 x.nm), .string (mk8 x.ct), .int .i64 x.cl, .string (mk8 x.kd), .slice Ax x.il.length cx] 27 (0, 0)))) → Lib.OthersKept 5 (some B) w' w'' → ((w''.cell? ⟨p, 0, none⟩ = some (.int .i32 x.fr) ∧ w''.cell? ⟨p, 1, none⟩ = some (.int .i32 x.up) ∧ w''.cell? ⟨p, 2, none⟩ = some (.string (mk8 x.nm)) ∧ w''.cell? ⟨p, 3, none⟩ = some (.string (mk8 x.ct)) ∧ w''.cell? ⟨p, 4, none⟩ = some (.int .i64 x.cl) ∧ w''.cell? ⟨p, 5, none⟩ = some (.string (mk8 x.kd)) ∧ w''.cell? ⟨p, 6, none⟩ = some (.slice Ax x.il.length cx)) ∧ Hid (w''.heap[p]? = some (.cells #[.int .i32 x.fr, .int .i32 x.up, .string (mk8 x.nm), .string (mk8 x.ct), .int .i64 x.cl, .string (mk8 x.kd), .slice Ax x.il.length cx] 27 (0, 0)))) := fun w' w'' h ho => MK _ (ho p _ h.2.out (by intro h; injection h with h; exact hpne h) (by intro c fz h; injection h with _ h _; exact absurd h (by decide)))
              have HMK := Lib.hid MK
              have HMW := Lib.hid MW
              have HMO := Lib.hid MO
              have HC1 := Lib.hid hc1
              have HC2 := Lib.hid hc2
              have HC3 := Lib.hid hc3
              clear MK MW MO hc1 hc2 hc3 hWQ hgp hbn x0 x1 x2 x3 x4 x5 x6
              refine wp_region_held_drew (S := fun w' => (w'.cell? ⟨p, 0, none⟩ = some (.int .i32 x.fr) ∧ w'.cell? ⟨p, 1, none⟩ = some (.int .i32 x.up) ∧ w'.cell? ⟨p, 2, none⟩ = some (.string (mk8 x.nm)) ∧ w'.cell? ⟨p, 3, none⟩ = some (.string (mk8 x.ct)) ∧ w'.cell? ⟨p, 4, none⟩ = some (.int .i64 x.cl) ∧ w'.cell? ⟨p, 5, none⟩ = some (.string (mk8 x.kd)) ∧ w'.cell? ⟨p, 6, none⟩ = some (.slice Ax x.il.length cx)) ∧ Hid (w'.heap[p]? = some (.cells #[.int .i32 x.fr, .int .i32 x.up, .string (mk8 x.nm), .string (mk8 x.ct), .int .i64 x.cl, .string (mk8 x.kd), .slice Ax x.il.length cx] 27 (0, 0)))) (by kernel_rfl) (HMK.out _ hbx) (fun hH => ?_)
              refine wpAnyH_take (i := 0) (v := .agg #[.int .i32 x.fr, .int .i32 x.up, .string (mk8 x.nm), .string (mk8 x.ct), .int .i64 x.cl, .string (mk8 x.kd), .slice Ax x.il.length cx]) rfl (by kernel_rfl) (by kernel_rfl) (by kernel_rfl) (fun _ _ _ h => h) (Or.inl ⟨by kernel_rfl, ?_⟩) hH ?_
              · intro w hSw
                (try dsimp only at hSw)
                go_simp
                try with_reducible rfl
              simp only [List.getElem_toArray, List.getElem_cons_succ, List.getElem_cons_zero, Act.put, List.setIfInBounds_toArray, List.set_cons_zero, List.set_cons_succ]
              refine wpAnyH_take (i := 1) (v := .pointer (some ⟨p, 0, none⟩)) rfl (by kernel_rfl) (by kernel_rfl) (by kernel_rfl) (fun _ _ _ h => h) (Or.inl ⟨by kernel_rfl, ?_⟩) hH ?_
              · intro w hSw
                (try dsimp only at hSw)
                go_simp
                try with_reducible rfl
              simp only [List.getElem_toArray, List.getElem_cons_succ, List.getElem_cons_zero, Act.put, List.setIfInBounds_toArray, List.set_cons_zero, List.set_cons_succ]
              refine wpAnyH_take (i := 2) (v := .int .i32 x.fr) rfl (by kernel_rfl) (by kernel_rfl) (by kernel_rfl) (fun _ _ _ h => h) (Or.inl ⟨by kernel_rfl, ?_⟩) hH ?_
              · intro w hSw
                (try dsimp only at hSw)
                go_simp
                try with_reducible rfl
              simp only [List.getElem_toArray, List.getElem_cons_succ, List.getElem_cons_zero, Act.put, List.setIfInBounds_toArray, List.set_cons_zero, List.set_cons_succ]
              refine wpAnyH_take (i := 3) (v := .pointer (some ⟨p, 2, none⟩)) rfl (by kernel_rfl) (by kernel_rfl) (by kernel_rfl) (fun _ _ _ h => h) (Or.inl ⟨by kernel_rfl, ?_⟩) hH ?_
              · intro w hSw
                (try dsimp only at hSw)
                go_simp
                try with_reducible rfl
              simp only [List.getElem_toArray, List.getElem_cons_succ, List.getElem_cons_zero, Act.put, List.setIfInBounds_toArray, List.set_cons_zero, List.set_cons_succ]
              refine wpAnyH_take (i := 4) (v := .string (mk8 x.nm)) rfl (by kernel_rfl) (by kernel_rfl) (by kernel_rfl) (fun _ _ _ h => h) (Or.inl ⟨by kernel_rfl, ?_⟩) hH ?_
              · intro w hSw
                (try dsimp only at hSw)
                go_simp
                try with_reducible rfl
              simp only [List.getElem_toArray, List.getElem_cons_succ, List.getElem_cons_zero, Act.put, List.setIfInBounds_toArray, List.set_cons_zero, List.set_cons_succ]
              refine wpAnyH_take (i := 5) (v := .string (⟨#[60]⟩ ++ mk8 x.nm)) rfl (by kernel_rfl) (by kernel_rfl) (by kernel_rfl) (fun _ _ _ h => h) (Or.inl ⟨by kernel_rfl, ?_⟩) hH ?_
              · intro w hSw
                (try dsimp only at hSw)
                go_simp
                try with_reducible rfl
              simp only [List.getElem_toArray, List.getElem_cons_succ, List.getElem_cons_zero, Act.put, List.setIfInBounds_toArray, List.set_cons_zero, List.set_cons_succ]
              refine wpAnyH_take (i := 6) (v := .string (⟨#[60]⟩ ++ mk8 x.nm ++ ⟨#[44, 32, 70, 105, 114, 115, 116, 62]⟩)) rfl (by kernel_rfl) (by kernel_rfl) (by kernel_rfl) (fun _ _ _ h => h) (Or.inl ⟨by kernel_rfl, ?_⟩) hH ?_
              · intro w hSw
                (try dsimp only at hSw)
                go_simp
                try with_reducible rfl
              simp only [List.getElem_toArray, List.getElem_cons_succ, List.getElem_cons_zero, Act.put, List.setIfInBounds_toArray, List.set_cons_zero, List.set_cons_succ]
              refine wpAnyH_take (i := 8) (v := .agg #[.int .i32 x.fr, .int .i32 x.up, .string (mk8 x.nm), .string (mk8 x.ct), .int .i64 x.cl, .string (mk8 x.kd), .slice Ax x.il.length cx]) rfl (by kernel_rfl) (by kernel_rfl) (by kernel_rfl) (fun _ _ _ h => h) (Or.inl ⟨by kernel_rfl, ?_⟩) hH ?_
              · intro w hSw
                (try dsimp only at hSw)
                go_simp
                try with_reducible rfl
              simp only [List.getElem_toArray, List.getElem_cons_succ, List.getElem_cons_zero, Act.put, List.setIfInBounds_toArray, List.set_cons_zero, List.set_cons_succ]
              refine wpAnyH_take (i := 9) (v := .pointer (some ⟨p, 1, none⟩)) rfl (by kernel_rfl) (by kernel_rfl) (by kernel_rfl) (fun _ _ _ h => h) (Or.inl ⟨by kernel_rfl, ?_⟩) hH ?_
              · intro w hSw
                (try dsimp only at hSw)
                go_simp
                try with_reducible rfl
              simp only [List.getElem_toArray, List.getElem_cons_succ, List.getElem_cons_zero, Act.put, List.setIfInBounds_toArray, List.set_cons_zero, List.set_cons_succ]
              refine wpAnyH_take (i := 10) (v := .int .i32 x.up) rfl (by kernel_rfl) (by kernel_rfl) (by kernel_rfl) (fun _ _ _ h => h) (Or.inl ⟨by kernel_rfl, ?_⟩) hH ?_
              · intro w hSw
                (try dsimp only at hSw)
                go_simp
                try with_reducible rfl
              simp only [List.getElem_toArray, List.getElem_cons_succ, List.getElem_cons_zero, Act.put, List.setIfInBounds_toArray, List.set_cons_zero, List.set_cons_succ]
              refine wpAnyH_take (i := 11) (v := .pointer (some ⟨p, 2, none⟩)) rfl (by kernel_rfl) (by kernel_rfl) (by kernel_rfl) (fun _ _ _ h => h) (Or.inl ⟨by kernel_rfl, ?_⟩) hH ?_
              · intro w hSw
                (try dsimp only at hSw)
                go_simp
                try with_reducible rfl
              simp only [List.getElem_toArray, List.getElem_cons_succ, List.getElem_cons_zero, Act.put, List.setIfInBounds_toArray, List.set_cons_zero, List.set_cons_succ]
              refine wpAnyH_take (i := 12) (v := .string (mk8 x.nm)) rfl (by kernel_rfl) (by kernel_rfl) (by kernel_rfl) (fun _ _ _ h => h) (Or.inl ⟨by kernel_rfl, ?_⟩) hH ?_
              · intro w hSw
                (try dsimp only at hSw)
                go_simp
                try with_reducible rfl
              simp only [List.getElem_toArray, List.getElem_cons_succ, List.getElem_cons_zero, Act.put, List.setIfInBounds_toArray, List.set_cons_zero, List.set_cons_succ]
              refine wpAnyH_take (i := 13) (v := .string (⟨#[60]⟩ ++ mk8 x.nm)) rfl (by kernel_rfl) (by kernel_rfl) (by kernel_rfl) (fun _ _ _ h => h) (Or.inl ⟨by kernel_rfl, ?_⟩) hH ?_
              · intro w hSw
                (try dsimp only at hSw)
                go_simp
                try with_reducible rfl
              simp only [List.getElem_toArray, List.getElem_cons_succ, List.getElem_cons_zero, Act.put, List.setIfInBounds_toArray, List.set_cons_zero, List.set_cons_succ]
              refine wpAnyH_take (i := 14) (v := .string (⟨#[60]⟩ ++ mk8 x.nm ++ ⟨#[44, 32, 76, 97, 115, 116, 62]⟩)) rfl (by kernel_rfl) (by kernel_rfl) (by kernel_rfl) (fun _ _ _ h => h) (Or.inl ⟨by kernel_rfl, ?_⟩) hH ?_
              · intro w hSw
                (try dsimp only at hSw)
                go_simp
                try with_reducible rfl
              simp only [List.getElem_toArray, List.getElem_cons_succ, List.getElem_cons_zero, Act.put, List.setIfInBounds_toArray, List.set_cons_zero, List.set_cons_succ]
              refine wpAnyH_ready (rs := [7]) (by kernel_rfl) (by simp) ?_
              refine AllReadyH.cons rfl (fun K hK => ?_) AllReadyH.nil
              go_simp
              refine (LNS x.fr _ (firstN x.nm) _ (Drew.to ⟨1, rfl⟩) hfr HC1.out L1).mono ?_
              rintro e w5 ⟨rfl, hb5⟩
              refine hK.out _ _ (HMW.out _ _ hH hb5) (fun hHb => ?_)
              clear hK K hH
              try simp only [List.getElem_toArray, List.getElem_cons_succ, List.getElem_cons_zero, Act.put, List.setIfInBounds_toArray, List.set_cons_zero, List.set_cons_succ]
              refine wpAnyH_ready (rs := [15]) (by kernel_rfl) (by simp) ?_
              refine AllReadyH.cons rfl (fun K hK => ?_) AllReadyH.nil
              go_simp
              refine (LNS x.up _ (lastN x.nm) _ (below_then (Drew.to ⟨1, rfl⟩ : Below W.heap.size W W.drew) hb5) hup HC2.out L2).mono ?_
              rintro e w6 ⟨rfl, hb6⟩
              refine hK.out _ _ (HMW.out _ _ hHb hb6) (fun hHc => ?_)
              clear hK K hHb
              try simp only [List.getElem_toArray, List.getElem_cons_succ, List.getElem_cons_zero, Act.put, List.setIfInBounds_toArray, List.set_cons_zero, List.set_cons_succ]
              refine wpAnyH_take (i := 16) (v := .string (mk8 (lineL x.fr (firstN x.nm) x) ++ mk8 (lineL x.up (lastN x.nm) x))) rfl (by kernel_rfl) (by kernel_rfl) (by kernel_rfl) (fun _ _ _ h => h) (Or.inl ⟨by kernel_rfl, ?_⟩) hHc ?_
              · intro w hSw
                (try dsimp only at hSw)
                go_simp
                try with_reducible rfl
              simp only [List.getElem_toArray, List.getElem_cons_succ, List.getElem_cons_zero, Act.put, List.setIfInBounds_toArray, List.set_cons_zero, List.set_cons_succ]
              refine wpAnyH_ready (rs := [17]) (by kernel_rfl) (by simp) ?_
              refine AllReadyH.cons rfl (fun K hK => ?_) AllReadyH.nil
              go_simp
              refine (WS _ (rowL x) _ HC3.out hc4 (bld_below hblW (below_then (below_then (Drew.to ⟨1, rfl⟩ : Below W.heap.size W W.drew) hb5) hb6)) (by have := (below_then (below_then (Drew.to ⟨1, rfl⟩ : Below W.heap.size W W.drew) hb5) hb6).size; omega)).mono ?_
              rintro e w7 ⟨rfl, hbl4, hb4, hok7⟩
              refine hK.out _ _ (HMO.out _ _ hHc hok7) (fun hH => ?_)
              clear hK K hHc
              try simp only [List.getElem_toArray, List.getElem_cons_succ, List.getElem_cons_zero, Act.put, List.setIfInBounds_toArray, List.set_cons_zero, List.set_cons_succ]
              refine wpAnyH_done (by kernel_rfl) ?_ _
              have hbq : Below p wr w6 := HBN2.out.trans ((below_then (below_then (Drew.to ⟨1, rfl⟩ : Below W.heap.size W W.drew) hb5) hb6).mono hzW)
              clear HMK HMW HMO LNS WS hbx hH
              have hz6 : p ≤ w6.heap.size := by have := hbq.size; have := HGP.out; omega
              rw [← HGP.out] at hbq
              have hz3 := hbq.size
              have hz4 := hb4.size
              have hfin := (below_then hb hbq).trans (hb4.mono HSZ.out)
              go_wp2
              go_roundw
              case rel => exact ⟨0 + 1, acc ++ rowL x, x.up, by omega, by go_num, HD2, HUP.out, (fun h => by omega), by rw [List.length_append]; omega, hbl4, by omega, hfin⟩
              case measure => simp [intOf]; omega
          · obtain ⟨⟨y, Ay, cy⟩, hy⟩ : ∃ z, os[k - 1]? = some z := ⟨_, List.getElem?_eq_getElem (by rw [HOL.out]; omega)⟩
            have hRy := HG.out (k - 1) y Ay cy hy
            have hwas : was = y.up := HW1.out (k - 1) y (by omega) hRy
            obtain ⟨y0, y1, y2, y3, y4, y5, y6⟩ := row_cells hy hcx
            have hw1 : IntKind.i64.wrap ((k : Int) - 1) = ((k - 1 : Nat) : Int) := by rw [IntWalk.i64_in _ (by omega)]; omega
            have hlt2 : ((k - 1 : Nat) : Int) < (n : Int) := by omega
            have hki : (0 : Int) < (k : Int) := by omega
            by_cases hge : x.fr ≤ was
            · rw [if_pos hge] at hstep
              have hP : printS R = ([], 12) := by rw [HP0.out, HD.out, hstep]
              have HP := Lib.hid hP
              have hge2 : x.fr ≤ y.up := by omega
              clear HD hP hstep hge hwas hRx hRy hx hy hcx HW0 HW1 hA hxo LN
              go_wp2
              go_quiet (fail)
              go_wp2
              go_returns
              exact ⟨by rw [HP.out]; rfl, below_then hb (below_drew' ((Below.refl wr.heap.size wr).alloc (Nat.le_refl _) _) _)⟩
            · rw [if_neg hge] at hstep
              have HD2 : Hid (printW [] (-1) R = printW (acc ++ rowL x) x.up (R.drop (k + 1))) := by show _ = _; rw [HD.out, hstep]
              have HUP : Hid (∀ j y, k + 1 = j + 1 → R[j]? = some y → x.up = y.up) := by
                show ∀ j y, k + 1 = j + 1 → R[j]? = some y → x.up = y.up
                intro j y h hy
                rw [show j = k by omega, hRx] at hy
                injection hy with hy
                rw [hy]
              have hge2 : y.up < x.fr := by omega
              clear HD hstep hge hwas hRx hRy hx hy hcx HW0 HW1
              by_cases he : x.fr = x.up
              · have hrw : rowL x = lineL x.fr x.nm x := by unfold rowL; rw [if_pos he]
                have e1 : (x.fr == x.up) = true := by simp [he]
                have HRW := Lib.hid hrw
                have hll : (lineL x.fr x.nm x).length ≤ 4000 := by rw [← hrw]; exact hrl
                have LN1 := fun W' hb' => LN x.fr x.nm W' hb' hxo.fr (by omega)
                clear hrw he hxo LN hA hpn
                go_wp2
                go_quiet (fail)
                go_wp2_with fail
                refine (LN1 _ (below_drew' ((Below.refl _ _).alloc (Nat.le_refl _) _) _)).mono ?_
                rintro e w3 ⟨rfl, hb3⟩
                have hbq := below_then (below_drew' ((Below.refl wr.heap.size wr).alloc (Nat.le_refl _) _) _) hb3
                clear hb3 LN1
                go_wp2_with fail
                refine (wstrF_any B acc (lineL x.fr x.nm x) w3 (bld_below hbl hbq) (by omega) (by have := hbq.size; omega)).mono ?_
                rintro e w4 ⟨rfl, hbl4, hb4, -⟩
                have hz3 := hbq.size
                have hz4 := hb4.size
                have hfin := (below_then hb hbq).trans (hb4.mono HSZ.out)
                go_wp2
                go_roundw
                case rel => exact ⟨k + 1, acc ++ rowL x, x.up, by omega, by go_num, HD2, HUP.out, (fun h => by omega), by rw [List.length_append]; omega, by rw [HRW.out]; exact hbl4, by omega, hfin⟩
                case measure => simp [intOf]; omega
              · have hrw : rowL x = lineL x.fr (firstN x.nm) x ++ lineL x.up (lastN x.nm) x := by unfold rowL; rw [if_neg he]
                have e1 : (x.fr == x.up) = false := by simp [he]
                have hll : (lineL x.fr (firstN x.nm) x).length + (lineL x.up (lastN x.nm) x).length ≤ 4000 := by rw [← List.length_append, ← hrw]; exact hrl
                have hc1 : bs (⟨#[60]⟩ ++ mk8 x.nm ++ ⟨#[44, 32, 70, 105, 114, 115, 116, 62]⟩) = firstN x.nm := by rw [bs_append, bs_append]; rfl
                have hc2 : bs (⟨#[60]⟩ ++ mk8 x.nm ++ ⟨#[44, 32, 76, 97, 115, 116, 62]⟩) = lastN x.nm := by rw [bs_append, bs_append]; rfl
                have hc3 : bs (mk8 (lineL x.fr (firstN x.nm) x) ++ mk8 (lineL x.up (lastN x.nm) x)) = rowL x := by rw [bs_append, bs_mk8, bs_mk8, hrw]
                have hc4 : (mk8 (lineL x.fr (firstN x.nm) x) ++ mk8 (lineL x.up (lastN x.nm) x)).size ≤ 4000 := by rw [ByteArray.size_append, mk8_size, mk8_size]; exact hll
                have hpl := hpn.1
                have LNS : ∀ (r : Int) (s : ByteArray) (nm : List UInt8) W', Below wr.heap.size wr W' → -2147483648 ≤ r ∧ r ≤ 2147483647 → bs s = nm → nm.length ≤ 110 → Calls Tryz.prog 23 #[.agg #[.int .i32 x.fr, .int .i32 x.up, .string (mk8 x.nm), .string (mk8 x.ct), .int .i64 x.cl, .string (mk8 x.kd), .slice Ax x.il.length cx], .int .i32 r, .string s] W' fun e w' => e = .returned (.string (mk8 (lineL r nm x))) ∧ Below W'.heap.size W' w' := fun r s nm W' hb' hr hs hn => by
                  subst hs
                  have := LN r (bs s) W' hb' hr hn
                  rwa [mk8_bs] at this
                have L1 : (firstN x.nm).length ≤ 110 := (name_facts hg.nm (en := FSTB) (.inl rfl)).2.2
                have L2 : (lastN x.nm).length ≤ 110 := (name_facts hg.nm (en := LSTB) (.inr rfl)).2.2
                have WS : ∀ (s : ByteArray) (l : List UInt8) w, bs s = l → s.size ≤ 4000 → BldF B acc w → B ≤ w.heap.size → Calls Tryz.prog 22 #[.pointer (some ⟨B, 0, none⟩), .string s] w fun e w' => e = .returned (.tuple #[.int .i64 l.length, .nilIface]) ∧ BldF B (acc ++ l) w' ∧ Below B w w' ∧ Lib.OthersKept 5 (some B) w w' := fun s l w hs hz h hB => by
                  subst hs
                  have := wstrF_any B acc (bs s) w h (by rw [bs_length]; omega) hB
                  rwa [mk8_bs] at this
                have q0 : (⟨#[60]⟩ : ByteArray).size = 1 := rfl
                have q1 : (⟨#[44, 32, 70, 105, 114, 115, 116, 62]⟩ : ByteArray).size = 8 := rfl
                have q2 : (⟨#[44, 32, 76, 97, 115, 116, 62]⟩ : ByteArray).size = 7 := rfl
                have q3 := mk8_size x.nm
                have q4 := mk8_size (lineL x.fr (firstN x.nm) x)
                have q5 := mk8_size (lineL x.up (lastN x.nm) x)
                have hs1 : ¬ (9223372036854775807 < (⟨#[60]⟩ : ByteArray).size + (mk8 x.nm).size) := by omega
                have hs2 : ¬ (9223372036854775807 < ((⟨#[60]⟩ : ByteArray) ++ mk8 x.nm).size + (⟨#[44, 32, 70, 105, 114, 115, 116, 62]⟩ : ByteArray).size) := by rw [ByteArray.size_append]; omega
                have hs3 : ¬ (9223372036854775807 < ((⟨#[60]⟩ : ByteArray) ++ mk8 x.nm).size + (⟨#[44, 32, 76, 97, 115, 116, 62]⟩ : ByteArray).size) := by rw [ByteArray.size_append]; omega
                have hs4 : ¬ (9223372036854775807 < (mk8 (lineL x.fr (firstN x.nm) x)).size + (mk8 (lineL x.up (lastN x.nm) x)).size) := by omega
                have hs5 : ¬ (9223372036854775807 < 1 + (mk8 x.nm).size) := by omega
                have hs6 : ¬ (9223372036854775807 < 1 + (mk8 x.nm).size + 8) := by omega
                have hs7 : ¬ (9223372036854775807 < 1 + (mk8 x.nm).size + 7) := by omega
                have hfr := hxo.fr
                have hup := hxo.up
                clear he hxo LN hA hpn q0 q1 q2 q3 q4 q5 hrw
                go_wp2
                go_quiet (fail)
                go_upto_region 12 with fail
                have hpB : B < wr.heap.size := hBw
                have hbn : Below wr.heap.size wr ((wr.alloc (.cells #[.int .i32 x.fr, .int .i32 x.up, .string (mk8 x.nm), .string (mk8 x.ct), .int .i64 x.cl, .string (mk8 x.kd), .slice Ax x.il.length cx] 27)).drewN nq) := below_drew' ((Below.refl wr.heap.size wr).alloc (Nat.le_refl _) _) _
                have hbx : ((wr.alloc (.cells #[.int .i32 x.fr, .int .i32 x.up, .string (mk8 x.nm), .string (mk8 x.ct), .int .i64 x.cl, .string (mk8 x.kd), .slice Ax x.il.length cx] 27)).drewN nq).heap[wr.heap.size]? = some (.cells #[.int .i32 x.fr, .int .i32 x.up, .string (mk8 x.nm), .string (mk8 x.ct), .int .i64 x.cl, .string (mk8 x.kd), .slice Ax x.il.length cx] 27 (0, 0)) := box_new _ _ _
                generalize hWQ : (wr.alloc (.cells #[.int .i32 x.fr, .int .i32 x.up, .string (mk8 x.nm), .string (mk8 x.ct), .int .i64 x.cl, .string (mk8 x.kd), .slice Ax x.il.length cx] 27)).drewN nq = W at *
                have hblW := bld_below hbl hbn
                replace LNS := fun r s nm W' (hb' : Below W.heap.size W W') => LNS r s nm W' (below_then hbn hb')
                have HBN2 := Lib.hid hbn
                have hzW := hbn.size
                generalize hgp : wr.heap.size = p at *
                have HGP := Lib.hid hgp
                have hpne : p ≠ B := by omega
                have MK : ∀ w' : World, w'.heap[p]? = some (.cells #[.int .i32 x.fr, .int .i32 x.up, .string (mk8 x.nm), .string (mk8 x.ct), .int .i64 x.cl, .string (mk8 x.kd), .slice Ax x.il.length cx] 27 (0, 0)) → (w'.cell? ⟨p, 0, none⟩ = some (.int .i32 x.fr) ∧ w'.cell? ⟨p, 1, none⟩ = some (.int .i32 x.up) ∧ w'.cell? ⟨p, 2, none⟩ = some (.string (mk8 x.nm)) ∧ w'.cell? ⟨p, 3, none⟩ = some (.string (mk8 x.ct)) ∧ w'.cell? ⟨p, 4, none⟩ = some (.int .i64 x.cl) ∧ w'.cell? ⟨p, 5, none⟩ = some (.string (mk8 x.kd)) ∧ w'.cell? ⟨p, 6, none⟩ = some (.slice Ax x.il.length cx)) ∧ Hid (w'.heap[p]? = some (.cells #[.int .i32 x.fr, .int .i32 x.up, .string (mk8 x.nm), .string (mk8 x.ct), .int .i64 x.cl, .string (mk8 x.kd), .slice Ax x.il.length cx] 27 (0, 0))) := fun w' hx' => ⟨⟨box_cell hx' 0 rfl, box_cell hx' 1 rfl, box_cell hx' 2 rfl, box_cell hx' 3 rfl, box_cell hx' 4 rfl, box_cell hx' 5 rfl, box_cell hx' 6 rfl⟩, hx'⟩
                have MW : ∀ w' w'' : World, ((w'.cell? ⟨p, 0, none⟩ = some (.int .i32 x.fr) ∧ w'.cell? ⟨p, 1, none⟩ = some (.int .i32 x.up) ∧ w'.cell? ⟨p, 2, none⟩ = some (.string (mk8 x.nm)) ∧ w'.cell? ⟨p, 3, none⟩ = some (.string (mk8 x.ct)) ∧ w'.cell? ⟨p, 4, none⟩ = some (.int .i64 x.cl) ∧ w'.cell? ⟨p, 5, none⟩ = some (.string (mk8 x.kd)) ∧ w'.cell? ⟨p, 6, none⟩ = some (.slice Ax x.il.length cx)) ∧ Hid (w'.heap[p]? = some (.cells #[.int .i32 x.fr, .int .i32 x.up, .string (mk8 x.nm), .string (mk8 x.ct), .int .i64 x.cl, .string (mk8 x.kd), .slice Ax x.il.length cx] 27 (0, 0)))) → Below w'.heap.size w' w'' → ((w''.cell? ⟨p, 0, none⟩ = some (.int .i32 x.fr) ∧ w''.cell? ⟨p, 1, none⟩ = some (.int .i32 x.up) ∧ w''.cell? ⟨p, 2, none⟩ = some (.string (mk8 x.nm)) ∧ w''.cell? ⟨p, 3, none⟩ = some (.string (mk8 x.ct)) ∧ w''.cell? ⟨p, 4, none⟩ = some (.int .i64 x.cl) ∧ w''.cell? ⟨p, 5, none⟩ = some (.string (mk8 x.kd)) ∧ w''.cell? ⟨p, 6, none⟩ = some (.slice Ax x.il.length cx)) ∧ Hid (w''.heap[p]? = some (.cells #[.int .i32 x.fr, .int .i32 x.up, .string (mk8 x.nm), .string (mk8 x.ct), .int .i64 x.cl, .string (mk8 x.kd), .slice Ax x.il.length cx] 27 (0, 0)))) := fun w' w'' h hb' => MK _ (box_below h.2.out hb')
                have MO : ∀ w' w'' : World, ((w'.cell? ⟨p, 0, none⟩ = some (.int .i32 x.fr) ∧ w'.cell? ⟨p, 1, none⟩ = some (.int .i32 x.up) ∧ w'.cell? ⟨p, 2, none⟩ = some (.string (mk8 x.nm)) ∧ w'.cell? ⟨p, 3, none⟩ = some (.string (mk8 x.ct)) ∧ w'.cell? ⟨p, 4, none⟩ = some (.int .i64 x.cl) ∧ w'.cell? ⟨p, 5, none⟩ = some (.string (mk8 x.kd)) ∧ w'.cell? ⟨p, 6, none⟩ = some (.slice Ax x.il.length cx)) ∧ Hid (w'.heap[p]? = some (.cells #[.int .i32 x.fr, .int .i32 x.up, .string (mk8 x.nm), .string (mk8 x.ct), .int .i64 x.cl, .string (mk8 x.kd), .slice Ax x.il.length cx] 27 (0, 0)))) → Lib.OthersKept 5 (some B) w' w'' → ((w''.cell? ⟨p, 0, none⟩ = some (.int .i32 x.fr) ∧ w''.cell? ⟨p, 1, none⟩ = some (.int .i32 x.up) ∧ w''.cell? ⟨p, 2, none⟩ = some (.string (mk8 x.nm)) ∧ w''.cell? ⟨p, 3, none⟩ = some (.string (mk8 x.ct)) ∧ w''.cell? ⟨p, 4, none⟩ = some (.int .i64 x.cl) ∧ w''.cell? ⟨p, 5, none⟩ = some (.string (mk8 x.kd)) ∧ w''.cell? ⟨p, 6, none⟩ = some (.slice Ax x.il.length cx)) ∧ Hid (w''.heap[p]? = some (.cells #[.int .i32 x.fr, .int .i32 x.up, .string (mk8 x.nm), .string (mk8 x.ct), .int .i64 x.cl, .string (mk8 x.kd), .slice Ax x.il.length cx] 27 (0, 0)))) := fun w' w'' h ho => MK _ (ho p _ h.2.out (by intro h; injection h with h; exact hpne h) (by intro c fz h; injection h with _ h _; exact absurd h (by decide)))
                have HMK := Lib.hid MK
                have HMW := Lib.hid MW
                have HMO := Lib.hid MO
                have HC1 := Lib.hid hc1
                have HC2 := Lib.hid hc2
                have HC3 := Lib.hid hc3
                clear MK MW MO hc1 hc2 hc3 hWQ hgp hbn x0 x1 x2 x3 x4 x5 x6
                refine wp_region_held_drew (S := fun w' => (w'.cell? ⟨p, 0, none⟩ = some (.int .i32 x.fr) ∧ w'.cell? ⟨p, 1, none⟩ = some (.int .i32 x.up) ∧ w'.cell? ⟨p, 2, none⟩ = some (.string (mk8 x.nm)) ∧ w'.cell? ⟨p, 3, none⟩ = some (.string (mk8 x.ct)) ∧ w'.cell? ⟨p, 4, none⟩ = some (.int .i64 x.cl) ∧ w'.cell? ⟨p, 5, none⟩ = some (.string (mk8 x.kd)) ∧ w'.cell? ⟨p, 6, none⟩ = some (.slice Ax x.il.length cx)) ∧ Hid (w'.heap[p]? = some (.cells #[.int .i32 x.fr, .int .i32 x.up, .string (mk8 x.nm), .string (mk8 x.ct), .int .i64 x.cl, .string (mk8 x.kd), .slice Ax x.il.length cx] 27 (0, 0)))) (by kernel_rfl) (HMK.out _ hbx) (fun hH => ?_)
                refine wpAnyH_take (i := 0) (v := .agg #[.int .i32 x.fr, .int .i32 x.up, .string (mk8 x.nm), .string (mk8 x.ct), .int .i64 x.cl, .string (mk8 x.kd), .slice Ax x.il.length cx]) rfl (by kernel_rfl) (by kernel_rfl) (by kernel_rfl) (fun _ _ _ h => h) (Or.inl ⟨by kernel_rfl, ?_⟩) hH ?_
                · intro w hSw
                  (try dsimp only at hSw)
                  go_simp
                  try with_reducible rfl
                simp only [List.getElem_toArray, List.getElem_cons_succ, List.getElem_cons_zero, Act.put, List.setIfInBounds_toArray, List.set_cons_zero, List.set_cons_succ]
                refine wpAnyH_take (i := 1) (v := .pointer (some ⟨p, 0, none⟩)) rfl (by kernel_rfl) (by kernel_rfl) (by kernel_rfl) (fun _ _ _ h => h) (Or.inl ⟨by kernel_rfl, ?_⟩) hH ?_
                · intro w hSw
                  (try dsimp only at hSw)
                  go_simp
                  try with_reducible rfl
                simp only [List.getElem_toArray, List.getElem_cons_succ, List.getElem_cons_zero, Act.put, List.setIfInBounds_toArray, List.set_cons_zero, List.set_cons_succ]
                refine wpAnyH_take (i := 2) (v := .int .i32 x.fr) rfl (by kernel_rfl) (by kernel_rfl) (by kernel_rfl) (fun _ _ _ h => h) (Or.inl ⟨by kernel_rfl, ?_⟩) hH ?_
                · intro w hSw
                  (try dsimp only at hSw)
                  go_simp
                  try with_reducible rfl
                simp only [List.getElem_toArray, List.getElem_cons_succ, List.getElem_cons_zero, Act.put, List.setIfInBounds_toArray, List.set_cons_zero, List.set_cons_succ]
                refine wpAnyH_take (i := 3) (v := .pointer (some ⟨p, 2, none⟩)) rfl (by kernel_rfl) (by kernel_rfl) (by kernel_rfl) (fun _ _ _ h => h) (Or.inl ⟨by kernel_rfl, ?_⟩) hH ?_
                · intro w hSw
                  (try dsimp only at hSw)
                  go_simp
                  try with_reducible rfl
                simp only [List.getElem_toArray, List.getElem_cons_succ, List.getElem_cons_zero, Act.put, List.setIfInBounds_toArray, List.set_cons_zero, List.set_cons_succ]
                refine wpAnyH_take (i := 4) (v := .string (mk8 x.nm)) rfl (by kernel_rfl) (by kernel_rfl) (by kernel_rfl) (fun _ _ _ h => h) (Or.inl ⟨by kernel_rfl, ?_⟩) hH ?_
                · intro w hSw
                  (try dsimp only at hSw)
                  go_simp
                  try with_reducible rfl
                simp only [List.getElem_toArray, List.getElem_cons_succ, List.getElem_cons_zero, Act.put, List.setIfInBounds_toArray, List.set_cons_zero, List.set_cons_succ]
                refine wpAnyH_take (i := 5) (v := .string (⟨#[60]⟩ ++ mk8 x.nm)) rfl (by kernel_rfl) (by kernel_rfl) (by kernel_rfl) (fun _ _ _ h => h) (Or.inl ⟨by kernel_rfl, ?_⟩) hH ?_
                · intro w hSw
                  (try dsimp only at hSw)
                  go_simp
                  try with_reducible rfl
                simp only [List.getElem_toArray, List.getElem_cons_succ, List.getElem_cons_zero, Act.put, List.setIfInBounds_toArray, List.set_cons_zero, List.set_cons_succ]
                refine wpAnyH_take (i := 6) (v := .string (⟨#[60]⟩ ++ mk8 x.nm ++ ⟨#[44, 32, 70, 105, 114, 115, 116, 62]⟩)) rfl (by kernel_rfl) (by kernel_rfl) (by kernel_rfl) (fun _ _ _ h => h) (Or.inl ⟨by kernel_rfl, ?_⟩) hH ?_
                · intro w hSw
                  (try dsimp only at hSw)
                  go_simp
                  try with_reducible rfl
                simp only [List.getElem_toArray, List.getElem_cons_succ, List.getElem_cons_zero, Act.put, List.setIfInBounds_toArray, List.set_cons_zero, List.set_cons_succ]
                refine wpAnyH_take (i := 8) (v := .agg #[.int .i32 x.fr, .int .i32 x.up, .string (mk8 x.nm), .string (mk8 x.ct), .int .i64 x.cl, .string (mk8 x.kd), .slice Ax x.il.length cx]) rfl (by kernel_rfl) (by kernel_rfl) (by kernel_rfl) (fun _ _ _ h => h) (Or.inl ⟨by kernel_rfl, ?_⟩) hH ?_
                · intro w hSw
                  (try dsimp only at hSw)
                  go_simp
                  try with_reducible rfl
                simp only [List.getElem_toArray, List.getElem_cons_succ, List.getElem_cons_zero, Act.put, List.setIfInBounds_toArray, List.set_cons_zero, List.set_cons_succ]
                refine wpAnyH_take (i := 9) (v := .pointer (some ⟨p, 1, none⟩)) rfl (by kernel_rfl) (by kernel_rfl) (by kernel_rfl) (fun _ _ _ h => h) (Or.inl ⟨by kernel_rfl, ?_⟩) hH ?_
                · intro w hSw
                  (try dsimp only at hSw)
                  go_simp
                  try with_reducible rfl
                simp only [List.getElem_toArray, List.getElem_cons_succ, List.getElem_cons_zero, Act.put, List.setIfInBounds_toArray, List.set_cons_zero, List.set_cons_succ]
                refine wpAnyH_take (i := 10) (v := .int .i32 x.up) rfl (by kernel_rfl) (by kernel_rfl) (by kernel_rfl) (fun _ _ _ h => h) (Or.inl ⟨by kernel_rfl, ?_⟩) hH ?_
                · intro w hSw
                  (try dsimp only at hSw)
                  go_simp
                  try with_reducible rfl
                simp only [List.getElem_toArray, List.getElem_cons_succ, List.getElem_cons_zero, Act.put, List.setIfInBounds_toArray, List.set_cons_zero, List.set_cons_succ]
                refine wpAnyH_take (i := 11) (v := .pointer (some ⟨p, 2, none⟩)) rfl (by kernel_rfl) (by kernel_rfl) (by kernel_rfl) (fun _ _ _ h => h) (Or.inl ⟨by kernel_rfl, ?_⟩) hH ?_
                · intro w hSw
                  (try dsimp only at hSw)
                  go_simp
                  try with_reducible rfl
                simp only [List.getElem_toArray, List.getElem_cons_succ, List.getElem_cons_zero, Act.put, List.setIfInBounds_toArray, List.set_cons_zero, List.set_cons_succ]
                refine wpAnyH_take (i := 12) (v := .string (mk8 x.nm)) rfl (by kernel_rfl) (by kernel_rfl) (by kernel_rfl) (fun _ _ _ h => h) (Or.inl ⟨by kernel_rfl, ?_⟩) hH ?_
                · intro w hSw
                  (try dsimp only at hSw)
                  go_simp
                  try with_reducible rfl
                simp only [List.getElem_toArray, List.getElem_cons_succ, List.getElem_cons_zero, Act.put, List.setIfInBounds_toArray, List.set_cons_zero, List.set_cons_succ]
                refine wpAnyH_take (i := 13) (v := .string (⟨#[60]⟩ ++ mk8 x.nm)) rfl (by kernel_rfl) (by kernel_rfl) (by kernel_rfl) (fun _ _ _ h => h) (Or.inl ⟨by kernel_rfl, ?_⟩) hH ?_
                · intro w hSw
                  (try dsimp only at hSw)
                  go_simp
                  try with_reducible rfl
                simp only [List.getElem_toArray, List.getElem_cons_succ, List.getElem_cons_zero, Act.put, List.setIfInBounds_toArray, List.set_cons_zero, List.set_cons_succ]
                refine wpAnyH_take (i := 14) (v := .string (⟨#[60]⟩ ++ mk8 x.nm ++ ⟨#[44, 32, 76, 97, 115, 116, 62]⟩)) rfl (by kernel_rfl) (by kernel_rfl) (by kernel_rfl) (fun _ _ _ h => h) (Or.inl ⟨by kernel_rfl, ?_⟩) hH ?_
                · intro w hSw
                  (try dsimp only at hSw)
                  go_simp
                  try with_reducible rfl
                simp only [List.getElem_toArray, List.getElem_cons_succ, List.getElem_cons_zero, Act.put, List.setIfInBounds_toArray, List.set_cons_zero, List.set_cons_succ]
                refine wpAnyH_ready (rs := [7]) (by kernel_rfl) (by simp) ?_
                refine AllReadyH.cons rfl (fun K hK => ?_) AllReadyH.nil
                go_simp
                refine (LNS x.fr _ (firstN x.nm) _ (Drew.to ⟨1, rfl⟩) hfr HC1.out L1).mono ?_
                rintro e w5 ⟨rfl, hb5⟩
                refine hK.out _ _ (HMW.out _ _ hH hb5) (fun hHb => ?_)
                clear hK K hH
                try simp only [List.getElem_toArray, List.getElem_cons_succ, List.getElem_cons_zero, Act.put, List.setIfInBounds_toArray, List.set_cons_zero, List.set_cons_succ]
                refine wpAnyH_ready (rs := [15]) (by kernel_rfl) (by simp) ?_
                refine AllReadyH.cons rfl (fun K hK => ?_) AllReadyH.nil
                go_simp
                refine (LNS x.up _ (lastN x.nm) _ (below_then (Drew.to ⟨1, rfl⟩ : Below W.heap.size W W.drew) hb5) hup HC2.out L2).mono ?_
                rintro e w6 ⟨rfl, hb6⟩
                refine hK.out _ _ (HMW.out _ _ hHb hb6) (fun hHc => ?_)
                clear hK K hHb
                try simp only [List.getElem_toArray, List.getElem_cons_succ, List.getElem_cons_zero, Act.put, List.setIfInBounds_toArray, List.set_cons_zero, List.set_cons_succ]
                refine wpAnyH_take (i := 16) (v := .string (mk8 (lineL x.fr (firstN x.nm) x) ++ mk8 (lineL x.up (lastN x.nm) x))) rfl (by kernel_rfl) (by kernel_rfl) (by kernel_rfl) (fun _ _ _ h => h) (Or.inl ⟨by kernel_rfl, ?_⟩) hHc ?_
                · intro w hSw
                  (try dsimp only at hSw)
                  go_simp
                  try with_reducible rfl
                simp only [List.getElem_toArray, List.getElem_cons_succ, List.getElem_cons_zero, Act.put, List.setIfInBounds_toArray, List.set_cons_zero, List.set_cons_succ]
                refine wpAnyH_ready (rs := [17]) (by kernel_rfl) (by simp) ?_
                refine AllReadyH.cons rfl (fun K hK => ?_) AllReadyH.nil
                go_simp
                refine (WS _ (rowL x) _ HC3.out hc4 (bld_below hblW (below_then (below_then (Drew.to ⟨1, rfl⟩ : Below W.heap.size W W.drew) hb5) hb6)) (by have := (below_then (below_then (Drew.to ⟨1, rfl⟩ : Below W.heap.size W W.drew) hb5) hb6).size; omega)).mono ?_
                rintro e w7 ⟨rfl, hbl4, hb4, hok7⟩
                refine hK.out _ _ (HMO.out _ _ hHc hok7) (fun hH => ?_)
                clear hK K hHc
                try simp only [List.getElem_toArray, List.getElem_cons_succ, List.getElem_cons_zero, Act.put, List.setIfInBounds_toArray, List.set_cons_zero, List.set_cons_succ]
                refine wpAnyH_done (by kernel_rfl) ?_ _
                have hbq : Below p wr w6 := HBN2.out.trans ((below_then (below_then (Drew.to ⟨1, rfl⟩ : Below W.heap.size W W.drew) hb5) hb6).mono hzW)
                clear HMK HMW HMO LNS WS hbx hH
                have hz6 : p ≤ w6.heap.size := by have := hbq.size; have := HGP.out; omega
                rw [← HGP.out] at hbq
                have hz3 := hbq.size
                have hz4 := hb4.size
                have hfin := (below_then hb hbq).trans (hb4.mono HSZ.out)
                go_wp2
                go_roundw
                case rel => exact ⟨k + 1, acc ++ rowL x, x.up, by omega, by go_num, HD2, HUP.out, (fun h => by omega), by rw [List.length_append]; omega, hbl4, by omega, hfin⟩
                case measure => simp [intOf]; omega
        · have hi : (n : Int) ≤ (k : Int) := by omega
          have hkn : k = n := by omega
          have hP : printS R = (acc, 0) := by
            rw [HP0.out, HD.out, List.drop_eq_nil_of_le (by rw [HRL.out]; omega)]
            rfl
          have HP := Lib.hid hP
          clear HD hP hkn
          go_wp2_with fail
          refine (string_any B acc _ hbl (Nat.le_of_lt hBw)).mono ?_
          rintro e w1 ⟨rfl, hb1⟩
          have hb2 := hb.trans (hb1.mono HSZ.out)
          go_wp2
          go_returns
          exact ⟨by rw [HP.out]; rfl, hb2⟩
end Go.Proofs.YtagncjnbabdbmaaGreatDoor
