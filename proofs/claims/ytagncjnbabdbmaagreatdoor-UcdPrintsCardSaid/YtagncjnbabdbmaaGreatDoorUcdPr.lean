/- A row's line, and rows as lines: the code. -/
import Derived.Test.YtagncjnbabdbmaaGreatDoorUcdKK
import Derived.Test.YtagncjnbabdbmaaGreatDoorUcdBP
import Derived.Test.YtagncjnbabdbmaaGreatDoorFldT3
import Derived.Shelf.Strconv.Itoa3
import Derived.Lib.SmallJoins
import Derived.Lib.AppendIntMem
set_option linter.unusedSimpArgs false
set_option linter.unusedVariables false
namespace Go.Proofs.YtagncjnbabdbmaaGreatDoor
open Go.RowKit Go.Shelf

theorem wstr_any (B b : Nat) (bs : List Value) (s : ByteArray) (w : World) (h : Lib.IsBuilder 49 5 B b bs w) (hlen : bs.length + s.size ≤ 140737488355328) (hBw : B ≤ w.heap.size) :
    Calls Tryz.prog 22 #[.pointer (some ⟨b, 0, none⟩), .string s] w fun e w' => e = .returned (.tuple #[.int .i64 s.size, .nilIface]) ∧ (Lib.BuilderAt 49 5 B b (.pointer (some ⟨b, 0, none⟩)) (bs ++ Lib.strCells s) w' ∧ Below B w w') :=
  Any.Builder_WriteString (ρ := Tryz.lays156_ren) { Tryz.lays156 with } Tryz.Builder_Extra_156 B b bs s w h hlen hBw

/-- Go's table of powers of ten. -/
def TabP (w : World) : Prop := Lib.TabIs Tryz.prog w "internal/strconv.uint64pow10" .u64 Lib.pow10Tab
theorem dec_itoa : ∀ n : Nat, n < 255 → Lib.itoa (Int.ofNat n) = decT n := by decide +kernel
theorem itoa_any (n : Nat) (hn : n < 255) (w : World) (hT : TabP w) :
    Calls Tryz.prog 41 #[.int .i64 n] w fun e w' => e = .returned (.string (mk8 (decT n))) ∧ Below w.heap.size w w' := by
  refine (Tryz.strconv_Itoa n (by omega) (by omega) w hT).mono ?_
  rintro e w' ⟨rfl, k, os, rfl⟩
  exact ⟨by rw [show ((n : Nat) : Int) = Int.ofNat n from rfl, dec_itoa n hn]; rfl, Lib.below_grow _ _ (Nat.le_refl _) k os⟩

theorem tabP_below {w w' : World} (h : TabP w) (hb : Below w.heap.size w w') : TabP w' := by
  exact Joins.tab_stays (show Tryz.prog.globalNamed "internal/strconv.uint64pow10" = some 3 by kernel_rfl) h hb (Nat.le_refl _)
theorem join_rd (g n c : Nat) (xs : List (List UInt8)) (sep : ByteArray) (w : World) (h : Rd w (some ⟨g, 0, none⟩) n (Ss xs)) (hn : 0 < n) (hnc : n ≤ c) (hc : n ≤ 1000) (hlen : (Lib.join xs (bs sep)).length ≤ 1000000000) :
    Calls Tryz.prog 40 #[.slice (some ⟨g, 0, none⟩) n c, .string sep] w fun e w' => e = .returned (.string (mk8 (Lib.join xs (bs sep)))) ∧ Below w.heap.size w w' := by
  have hl : xs.length = n := by have := h.1; simpa using this
  obtain ⟨b, off, hA, hlt, hcell⟩ := h.at_ hn
  injection hA with hA
  injection hA with h1 h2 _
  subst h1 h2
  have hxl : (xs.map mk8).length = n := by simp [hl]
  have hdat : (xs.map mk8).map (·.data.toList) = xs := by
    rw [List.map_map]
    exact (List.map_congr_left (fun x _ => rfl)).trans (List.map_id _)
  have := Tryz.strings_Join g 0 c (xs.map mk8) sep w (fun j x hx => by
    refine hcell j (.string x) ?_
    have : Ss xs = (xs.map mk8).map Value.string := by simp [List.map_map]
    rw [this, List.getElem?_map, hx]
    rfl) hlt (by omega) (by omega) (by
      rw [hdat]
      show (Lib.join xs (bs sep)).length ≤ _
      omega)
  rw [hxl, hdat] at this
  exact this
theorem texts1_any (r : Int) (A : Option Addr) (c : Nat) (w : World) (h : Rd w A 1 (Rs [r])) (hr : -2147483648 ≤ r ∧ r ≤ 2147483647) :
    Calls Tryz.prog 39 #[.slice A 1 c] w fun e w' => e = .returned (.string (mk8 (digS r))) ∧ Below w.heap.size w w' := by
  have := text04_any A 1 c [r] w h (fun z hz => by rw [List.mem_singleton] at hz; subst hz; exact hr) (by omega)
  rwa [show textS [r] = digS r from Lib.join_one _ _] at this
section
variable {w0 w w' : World} {p q : Addr} {u v : Value}
theorem keepL_first (h : w.cell? p = some u) (h2 : w.cell? q = some v) : (w.drew.cell? p = some u ∧ w.drew.cell? q = some v) ∧ Below w.heap.size w w.drew := ⟨⟨h, h2⟩, (show Drew w w.drew from ⟨1, rfl⟩).to⟩
theorem keepL_alloc (o : Obj) (h : (w.cell? p = some u ∧ w.cell? q = some v) ∧ Below w0.heap.size w0 w) : ((w.alloc o).cell? p = some u ∧ (w.alloc o).cell? q = some v) ∧ Below w0.heap.size w0 (w.alloc o) := ⟨⟨cell_allocU h.1.1 o, cell_allocU h.1.2 o⟩, h.2.alloc h.2.size o⟩
theorem keepL_drew (o : Obj) (h : (w.drew.cell? p = some u ∧ w.drew.cell? q = some v) ∧ Below w0.heap.size w0 w.drew) : ((w.alloc o).drew.cell? p = some u ∧ (w.alloc o).drew.cell? q = some v) ∧ Below w0.heap.size w0 (w.alloc o).drew := ⟨⟨cell_allocU (w := w.drew) h.1.1 o, cell_allocU (w := w.drew) h.1.2 o⟩, h.2.alloc h.2.size o⟩
theorem keepL_call (h : (w.cell? p = some u ∧ w.cell? q = some v) ∧ Below w0.heap.size w0 w) (hb : Below w.heap.size w w') : (w'.cell? p = some u ∧ w'.cell? q = some v) ∧ Below w0.heap.size w0 w' := ⟨⟨cell_belowU h.1.1 hb, cell_belowU h.1.2 hb⟩, below_then h.2 hb⟩
theorem tabL {b : Nat} {ct : ByteArray} {cl : Int} (hT : TabP w0) (h : (w.cell? ⟨b, 3, none⟩ = some (.string ct) ∧ w.cell? ⟨b, 4, none⟩ = some (.int .i64 cl)) ∧ Below w0.heap.size w0 w) : TabP w := tabP_below hT h.2
end
set_option maxRecDepth 20000 in
set_option maxHeartbeats 4000000 in
theorem line_any (x : RowS) (A : Option Addr) (c : Nat) (r : Int) (nm : List UInt8) (w : World) (hT : TabP w) (hA : Rd w A x.il.length (Rs x.il)) (hi : ∀ z ∈ x.il, -2147483648 ≤ z ∧ z ≤ 2147483647) (hr : -2147483648 ≤ r ∧ r ≤ 2147483647)
    (hl : x.il.length ≤ 18) (hc : 0 ≤ x.cl ∧ x.cl ≤ 254) (hn : nm.length ≤ 1000000) (hct : x.ct.length ≤ 1000000) (hk : x.kd.length ≤ 1000000) :
    Calls Tryz.prog 23 #[rowV x A c, .int .i32 r, .string (mk8 nm)] w fun e w' => e = .returned (.string (mk8 (lineL r nm x))) ∧ Below w.heap.size w w' := by
  obtain ⟨xf, xu, xn, xct, xcl, xk, xil⟩ := x
  simp only [] at hA hi hl hc hct hk
  obtain ⟨cl, rfl⟩ : ∃ n : Nat, xcl = n := ⟨xcl.toNat, by omega⟩
  have IT := fun w h => itoa_any cl (by omega) w h
  have TX := fun w h => text04_any A xil.length c xil w h hi (by omega)
  have T1 := fun A c w h => texts1_any r A c w h hr
  have htl := textS_le xil
  obtain ⟨pt, hpt⟩ : ∃ pt, pt = partL ⟨xf, xu, xn, xct, cl, xk, xil⟩ := ⟨_, rfl⟩
  obtain ⟨L, hL⟩ : ∃ L, L = Lib.join [digS r, nm, xct, decT cl, [], pt] [59] := ⟨_, rfl⟩
  have hLL : lineL r nm ⟨xf, xu, xn, xct, cl, xk, xil⟩ = L ++ [10] := by
    rw [hL, hpt]
    unfold lineL lineB
    simp [Lib.join_cons, Lib.joinTail]
  have hdl : (decT cl).length ≤ 3 := (dec_facts cl (by omega)).2.2.2
  have hdg := digS_len r
  have hpl : pt.length ≤ 1000200 := by
    rw [hpt]
    unfold partL
    split
    · simp only []; omega
    · simp only [List.length_append, List.length_cons, List.length_nil]; omega
  have hlen : (Lib.join [digS r, nm, xct, decT cl, [], pt] [59]).length ≤ 10000000 := by
    simp only [Lib.join_cons, Lib.joinTail, List.map_cons, List.map_nil, List.flatten_cons, List.flatten_nil, List.length_append, List.length_cons, List.length_nil]
    omega
  have JN := fun g w h => join_rd g 6 6 [digS r, nm, xct, decT cl, [], pt] ⟨#[59]⟩ w h (by omega) (by omega) (by omega) (by rw [show bs ⟨#[59]⟩ = [59] from rfl]; omega)
  rw [show bs ⟨#[59]⟩ = [59] from rfl, ← hL] at JN
  rw [hLL]
  have HLEN : (mk8 L).size ≤ 10000000 := by rw [mk8_size, hL]; exact hlen
  have hLe : mk8 L ++ ⟨#[10]⟩ = mk8 (L ++ [10]) := bs_inj (by rw [bs_append]; rfl)
  have HLE := Lib.hid hLe
  have hs9 : ¬ (9223372036854775807 < (mk8 L).size + (⟨#[10]⟩ : ByteArray).size) := by
    have : (⟨#[10]⟩ : ByteArray).size = 1 := rfl
    omega
  have hs8 : ¬ (9223372036854775807 < (mk8 L).size + 1) := by omega
  simp only [rowV]
  have HBOX : ∀ o, Below w.heap.size w (w.alloc o) := fun o => (Below.refl _ _).alloc (Nat.le_refl _) _
  clear hLL hlen hL hLe
  by_cases hke : xk = []
  · subst hke
    have hp2 : textS xil = pt := by rw [hpt]; rfl
    rw [hp2] at TX
    clear hpt hp2 hk htl
    go_enter Tryz.func23, Tryz.ntmps23
    go_wp2_with fail
    generalize hWW : w.alloc _ = W at *
    have hbW : Below w.heap.size w W := by rw [← hWW]; exact HBOX _
    have hx : W.heap[w.heap.size]? = some (.cells #[.int .i32 xf, .int .i32 xu, .string (mk8 xn), .string (mk8 xct), .int .i64 cl, .string (mk8 []), .slice A xil.length c] 27 (0, 0)) := by rw [← hWW]; exact box_new _ _ _
    clear hWW HBOX
    refine (TX _ (hA.below hbW)).mono ?_
    rintro e w2 ⟨rfl, hb2⟩
    have hbx := below_then hbW hb2
    have hzx := box_below hx hb2
    have hz5 : w2.cell? ⟨w.heap.size, 5, none⟩ = some (.string (mk8 [])) := box_cell hzx 5 rfl
    have hz3 : w2.cell? ⟨w.heap.size, 3, none⟩ = some (.string (mk8 xct)) := box_cell hzx 3 rfl
    have hz4 : w2.cell? ⟨w.heap.size, 4, none⟩ = some (.int .i64 cl) := box_cell hzx 4 rfl
    have he5 := mk8_empty []
    replace hT := tabP_below hT hbx
    clear hx hbW hb2 hA hzx
    go_upto_region 4 with fail
    have hpz := hbx.size
    generalize hgp : w.heap.size = p at *
    have HGP := Lib.hid hgp
    have HBX := Lib.hid hbx
    have HPZ := Lib.hid hpz
    clear hgp hbx hpz TX hi hz5 he5 hc
    go_region_held3 (fun w' => (w'.cell? ⟨p, 3, none⟩ = some (.string (mk8 xct)) ∧ w'.cell? ⟨p, 4, none⟩ = some (.int .i64 cl)) ∧ Below w2.heap.size w2 w') (first | exact keepL_first hz3 hz4 | assumption | (refine keepL_alloc _ ?_; assumption) | (refine keepL_drew _ ?_; assumption) | (refine keepL_call ?_ hb5; assumption) | (refine keepL_call ?_ hb6; assumption) | (refine keepL_call ?_ hb7; assumption))
      (first
        | (go_at_call 39; refine (T1 _ _ _ ?_).mono ?_; (first | exact Rd.drew (Rd.new1 _ _ _) | exact Rd.new1 _ _ _ | exact Rd.drew (Rd.alloc (Rd.new1 _ _ _) _)); rintro e w5 ⟨rfl, hb5⟩)
        | (go_at_call 41; refine (IT _ ?_).mono ?_; (refine tabL (b := p) (ct := mk8 xct) (cl := cl) hT ?_; assumption); rintro e w6 ⟨rfl, hb6⟩)
        | (go_at_call 40; refine (JN _ _ ?_).mono ?_; (first | exact Rd.new _ _ (Ss [digS r, nm, xct, decT cl, [], pt]) | exact Rd.drew (Rd.new _ _ (Ss [digS r, nm, xct, decT cl, [], pt]))); rintro e w7 ⟨rfl, hb7⟩))
    all_goals
      have hk7 : (w7.cell? ⟨p, 3, none⟩ = some (.string (mk8 xct)) ∧ w7.cell? ⟨p, 4, none⟩ = some (.int .i64 cl)) ∧ Below w2.heap.size w2 w7 := by assumption
      have hb9 := hk7.2
      clear hk7 IT T1 JN
      go_wp2
      go_returns
      exact ⟨ret_str HLE.out, by rw [HGP.out]; exact HBX.out.trans (hb9.mono HPZ.out)⟩
  · have hp2 : ⟨#[60]⟩ ++ mk8 xk ++ ⟨#[62, 32]⟩ ++ mk8 (textS xil) = mk8 pt := bs_inj (by rw [hpt]; unfold partL; simp only []; rw [if_neg hke, bs_append, bs_append, bs_append]; rfl)
    have HP2 := Lib.hid hp2
    have hk1 := mk8_size xk
    have hk2 := mk8_size (textS xil)
    have hs1 : ¬ (9223372036854775807 < (⟨#[60]⟩ : ByteArray).size + (mk8 xk).size) := by
      have : (⟨#[60]⟩ : ByteArray).size = 1 := rfl
      omega
    have hs2 : ¬ (9223372036854775807 < ((⟨#[60]⟩ : ByteArray) ++ mk8 xk).size + (⟨#[62, 32]⟩ : ByteArray).size) := by
      have h1 : (⟨#[60]⟩ : ByteArray).size = 1 := rfl
      have h2 : (⟨#[62, 32]⟩ : ByteArray).size = 2 := rfl
      rw [ByteArray.size_append]; omega
    have hs3 : ¬ (9223372036854775807 < ((⟨#[60]⟩ : ByteArray) ++ mk8 xk ++ ⟨#[62, 32]⟩).size + (mk8 (textS xil)).size) := by
      have h1 : (⟨#[60]⟩ : ByteArray).size = 1 := rfl
      have h2 : (⟨#[62, 32]⟩ : ByteArray).size = 2 := rfl
      rw [ByteArray.size_append, ByteArray.size_append]; omega
    have he5 : ¬ ((mk8 xk).toList = (⟨#[]⟩ : ByteArray).toList) := fun h => hke (by rw [toList_bs, toList_bs, bs_mk8] at h; exact h)
    have he6 := mk8_empty xk
    rw [show decide (xk = []) = false from by simp [hke]] at he6
    clear hpt hp2 hk htl hke hk1 hk2
    go_enter Tryz.func23, Tryz.ntmps23
    go_wp2_with fail
    generalize hWW : w.alloc _ = W at *
    have hbW : Below w.heap.size w W := by rw [← hWW]; exact HBOX _
    have hx : W.heap[w.heap.size]? = some (.cells #[.int .i32 xf, .int .i32 xu, .string (mk8 xn), .string (mk8 xct), .int .i64 cl, .string (mk8 xk), .slice A xil.length c] 27 (0, 0)) := by rw [← hWW]; exact box_new _ _ _
    clear hWW HBOX
    refine (TX _ (hA.below hbW)).mono ?_
    rintro e w2 ⟨rfl, hb2⟩
    have hbx := below_then hbW hb2
    have hzx := box_below hx hb2
    have hz5 : w2.cell? ⟨w.heap.size, 5, none⟩ = some (.string (mk8 xk)) := box_cell hzx 5 rfl
    have hz3 : w2.cell? ⟨w.heap.size, 3, none⟩ = some (.string (mk8 xct)) := box_cell hzx 3 rfl
    have hz4 : w2.cell? ⟨w.heap.size, 4, none⟩ = some (.int .i64 cl) := box_cell hzx 4 rfl
    replace hT := tabP_below hT hbx
    clear hx hbW hb2 hA hzx
    go_upto_region 4 with fail
    rw [HP2.out]
    have hpz := hbx.size
    generalize hgp : w.heap.size = p at *
    have HGP := Lib.hid hgp
    have HBX := Lib.hid hbx
    have HPZ := Lib.hid hpz
    clear hgp hbx hpz TX hi hz5 he5 he6 hc hs1 hs2 hs3
    go_region_held3 (fun w' => (w'.cell? ⟨p, 3, none⟩ = some (.string (mk8 xct)) ∧ w'.cell? ⟨p, 4, none⟩ = some (.int .i64 cl)) ∧ Below w2.heap.size w2 w') (first | exact keepL_first hz3 hz4 | assumption | (refine keepL_alloc _ ?_; assumption) | (refine keepL_drew _ ?_; assumption) | (refine keepL_call ?_ hb5; assumption) | (refine keepL_call ?_ hb6; assumption) | (refine keepL_call ?_ hb7; assumption))
      (first
        | (go_at_call 39; refine (T1 _ _ _ ?_).mono ?_; (first | exact Rd.drew (Rd.new1 _ _ _) | exact Rd.new1 _ _ _ | exact Rd.drew (Rd.alloc (Rd.new1 _ _ _) _)); rintro e w5 ⟨rfl, hb5⟩)
        | (go_at_call 41; refine (IT _ ?_).mono ?_; (refine tabL (b := p) (ct := mk8 xct) (cl := cl) hT ?_; assumption); rintro e w6 ⟨rfl, hb6⟩)
        | (go_at_call 40; refine (JN _ _ ?_).mono ?_; (first | exact Rd.new _ _ (Ss [digS r, nm, xct, decT cl, [], pt]) | exact Rd.drew (Rd.new _ _ (Ss [digS r, nm, xct, decT cl, [], pt]))); rintro e w7 ⟨rfl, hb7⟩))
    all_goals
      have hk7 : (w7.cell? ⟨p, 3, none⟩ = some (.string (mk8 xct)) ∧ w7.cell? ⟨p, 4, none⟩ = some (.int .i64 cl)) ∧ Below w2.heap.size w2 w7 := by assumption
      have hb9 := hk7.2
      clear hk7 IT T1 JN
      go_wp2
      go_returns
      exact ⟨ret_str HLE.out, by rw [HGP.out]; exact HBX.out.trans (hb9.mono HPZ.out)⟩
end Go.Proofs.YtagncjnbabdbmaaGreatDoor
