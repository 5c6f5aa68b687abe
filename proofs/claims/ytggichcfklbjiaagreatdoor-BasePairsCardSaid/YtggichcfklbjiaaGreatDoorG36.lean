/- makes: the code. Rows of a file: plain laws. Rows of two texts, one behind the other: plain laws. -/
import Derived.Test.YtggichcfklbjiaaGreatDoorG35
import Derived.IntWalk
import Derived.Test.YtggichcfklbjiaaGreatDoorG22
section
set_option linter.unusedSimpArgs false
set_option linter.unusedVariables false
namespace Go.Proofs.YtggichcfklbjiaaGreatDoor
open Go.RowKit Go.Lib Go.Maps
section
variable {W0 : World} {bp n : Nat} {a : BAddr} {cls : Int → Int} {prt : Int → Option (List UInt8 × List Int)}
set_option maxRecDepth 100000 in
set_option maxHeartbeats 4000000 in
theorem makes_any {w : World} (h : BaseM w bp a n cls prt (fun _ => none) (fun _ => none) (fun _ => none)) (ap : a.Apart) (hn : n ≤ 100000) (A : Option Addr) (c : Nat) (out : List Int) (hr : Rd w A out.length (Rs out)) (hR : Rises out) (hol : out.length ≤ 1000000) (hk : Kinds w) (hI : ∀ r q, prt r = some q → ∀ y ∈ q.2, R32 y) :
    Calls Tryz.prog 28 #[.pointer (some ⟨bp, 0, none⟩), .slice A out.length c] w (MakesP bp n a cls prt out w) := by
  have c1 := box_cell h.box 1 rfl
  obtain ⟨f, hC⟩ := h.cOf
  have hV := h.vOf
  have hnc := hV.notCells
  have hm := hC.map
  have hbl : a.m1 < w.heap.size ∧ a.m2 < w.heap.size ∧ a.m3 < w.heap.size ∧ a.m4 < w.heap.size := ⟨hm.lt, hV.pr.lt, hV.md.lt, hV.sc.lt⟩
  have HNC := Lib.hid hnc
  have HCC := Lib.hid hC
  have HR := Lib.hid hr
  have HRI := Lib.hid hR
  have HK := Lib.hid hk
  have HAP := Lib.hid ap
  clear h hnc hC hr hR hk ap
  go_enter Tryz.func28, Tryz.ntmps28
  go_wp2_with (first | (refine wpList_rangeF rfl _ rfl rune_keyed partsT hm rfl ?_; intro w1 cnt hrg hcn hg1 hs1) | go_in)
  have hI0 : MkR a cls prt f out n w.heap.size w w1 false cnt := by
    have hb1 : Below w.heap.size w w1 := (Below.refl _ _).grown hg1 (Nat.le_refl _) (fun k e => by cases e)
    exact ⟨_, [], _, _, _, hrg, Came.start, MkI.start, by simpa using hV.below hb1, by simpa using hcn, .of_below hb1⟩
  clear hm hrg hV
  go_frame
  go_loopw [5] (fun e wr => ∃ (bad : Bool) (ev : Int) (cnt : Nat), e = .int .i64 ev ∧ Hid (ev = if bad = true then 12 else 0) ∧ MkR a cls prt f out n w.heap.size w wr bad cnt) (fun _ wr => wr.rangeLeft a.m1 w.heap.size)
  case atStart => exact ⟨false, 0, cnt, rfl, (by show _ = _; rfl), hI0⟩
  case round =>
    obtain ⟨bad, ev, cnt2, rfl, HEV, left, ss, pr, md, sc, hrg, hCm, hM, hVr, hle, hW⟩ := hrel
    have HCM := Lib.hid hCm
    have HM := Lib.hid hM
    clear hCm hM
    go_wp2_with (first | (refine wpList_nextF rfl _ rfl rune_keyed rfl hrg (fun hl0 => ?_) (fun x p w2 cnt3 hx hlk hf hrg2 hlt hg2 hs2 hen => ?_)))
    rotate_left
    · have HL := Lib.hid (And.intro hrg.left_eq hlt)
      have hW2 := hW.grown_new hg2 (Nat.le_refl _)
      have hV2 := hVr.kept hg2 (by omega) (by omega) (by omega)
      have hC2 := HCC.out.wrote HAP.out HNC.out hW2
      have HCAME := Lib.hid (HCM.out.step hx hlk hf)
      have HNI : Hid (x ∉ ss) := fun hm => by have := ((HCM.out.2 x).1 hm).2.2; rw [hlk] at this; cases this
      have HXR := Lib.hid hx
      have HRG := Lib.hid hrg2
      have HLE : Hid (ss.length + cnt2 ≤ n) := hle
      obtain ⟨pk, pA, pn, pc⟩ := p
      obtain ⟨kd, il, hpr, e1, e2, hrd, hpl⟩ : ∃ kd il, prt x = some (kd, il) ∧ pk = kd ∧ pn = il.length ∧ Rd w2 pA il.length (Rs il) ∧ il.length ≤ 18 := by
        have := hC2.parts x hx
        rw [hf] at this
        cases hq : prt x with
        | none => rw [hq] at this; exact this.elim
        | some q => rw [hq] at this; exact ⟨q.1, q.2, rfl, this.1, this.2.1, this.2.2.2.1, this.2.2.1⟩
      subst e1 e2
      have hB2 := hC2.toM hV2 (Nat.le_add_right n ss.length)
      have HPR := Lib.hid hpr
      have HVV := Lib.hid hV2
      have HHW := Lib.hid hW2
      have hba : Below w2.heap.size w2 (w2.alloc (.cells #[.string (mk8 pk), .slice pA il.length pc] 73)) := (Below.refl _ _).alloc (Nat.le_refl _) _
      have hbx : (w2.alloc (.cells #[.string (mk8 pk), .slice pA il.length pc] 73)).heap[wr.heap.size]? = some (.cells #[.string (mk8 pk), .slice pA il.length pc] 73 (0, 0)) := by rw [← hs2]; exact box_new _ _ _
      have hrdA : Rd w2 A out.length (Rs out) := HR.out.wrote HHW.out fun h0 ad had hm => by
        obtain ⟨b, off, e, _, hc⟩ := HR.out.at_ h0
        rw [had] at e; injection e with e; subst e
        obtain ⟨cs, t, fr, hb⟩ := cell_is_cells (hc 0 _ (List.getElem?_eq_getElem (by have := HR.out.1; omega)))
        exact HNC.out _ hm _ _ _ hb
      have hkw : Kinds w2 := HK.out.keep fun o => HHW.out.cell (p := ⟨0, o, none⟩) HK.out.lt fun hm => by
        obtain ⟨cs, t, fr, hb⟩ := cell_is_cells HK.out.c0
        exact HNC.out _ hm _ _ _ hb
      generalize (w2.alloc (.cells #[.string (mk8 pk), .slice pA il.length pc] 73)) = W at *
      obtain ⟨q, hq⟩ : ∃ q, q = wr.heap.size := ⟨_, rfl⟩
      rw [← hq] at hbx
      simp only [← hq]
      have HQ := Lib.hid hq
      have hrdW := hrd.below hba
      have hrdAW := hrdA.below hba
      have hBW := hB2.below hba
      have hkW := hkw.below' hba
      have HCE : Hid (∀ w', Below W.heap.size W w' → w'.cell? ⟨q, 0, none⟩ = some (.string (mk8 pk)) ∧ w'.cell? ⟨q, 1, none⟩ = some (.slice pA il.length pc)) := fun w' h => ⟨box_cell (box_below hbx h) 0 rfl, box_cell (box_below hbx h) 1 rfl⟩
      have HBA := Lib.hid hba
      -- a character that is not made
      have HSK : Hid (∀ w', Below W.heap.size W w' → madeQ cls prt out x = false → MkR a cls prt f out n w.heap.size w w' bad cnt3 ∧ w'.rangeLeft a.m1 w.heap.size = cnt3) := fun w' hbw hq => by
        have hb := below_then HBA.out hbw
        have hrgW := hrg2.at (hb.block _ hrg2.owns.lt) (hb.block _ hrg2.lt)
        refine ⟨⟨_, ss ++ [x], pr, md, sc, hrgW, HCAME.out, HM.out.skip hq, ?_, ?_, HHW.out.then_below hb⟩, hrgW.left_eq⟩
        · have := (HVV.out.below hb).mono (k := n + (ss ++ [x]).length) (by simp)
          exact this
        · have := HL.out.2
          rw [List.length_append, List.length_singleton]
          omega
      obtain ⟨bo, hbo⟩ : ∃ b : Bool, b = decide (x ∈ out) := ⟨_, rfl⟩
      have BS := bsearch_any A out.length c out x W hrdAW hol HRI.out
      rw [← hbo] at BS
      have HBS := Lib.hid BS
      have HBO := Lib.hid hbo
      obtain ⟨cx, hcx⟩ : ∃ z, z = cls x := ⟨_, rfl⟩
      have CX := class_any hBW x hx
      rw [← hcx] at CX
      have HCX := Lib.hid hcx
      have HCXC := Lib.hid CX
      obtain ⟨d0, d1⟩ := HCE.out W (Below.refl _ _)
      clear BS CX hbo hcx hpr hV2 hW2 hC2 hf hlk hg2 hs2 hlt hrg hrg2 hVr hW hx hle HCM hcn hg1 hs1 hI0 hba c1 hq hbx hrdA hrd hB2 hkw
      by_cases hk0 : pk = []
      rotate_left
      · have hte : (mk8 pk).toList.isEmpty = false := by
          rw [toList_bs, bs_mk8]
          cases pk with
          | nil => exact absurd rfl hk0
          | cons c t => rfl
        have hq : madeQ cls prt out x = false := by
          unfold madeQ
          rw [HPR.out]
          cases pk with
          | nil => exact absurd rfl hk0
          | cons c t => rfl
        have HQF := Lib.hid hq
        clear hq hk0 HCXC HCX hrdW hrdAW hBW
        go_wp2_with (first | (go_at_call 56; refine HBS.out.mono ?_; rintro e w' ⟨⟨i, rfl⟩, rfl⟩) | go_in)
        obtain ⟨hfin, hms⟩ := HSK.out _ (Below.refl _ _) HQF.out
        go_roundw
        case rel => exact ⟨bad, ev, cnt3, rfl, HEV, hfin⟩
        case measure => rw [hms, HL.out.1]; exact HL.out.2
      · subst hk0
        have hte : (mk8 ([] : List UInt8)).toList.isEmpty = true := by rw [toList_bs, bs_mk8]; rfl
        by_cases hl2 : il.length = 2
        rotate_left
        · have hq : madeQ cls prt out x = false := by
            unfold madeQ
            rw [HPR.out]
            match il, hl2 with
            | [], _ => rfl
            | [_], _ => rfl
            | [_, _], h => exact absurd rfl h
            | _ :: _ :: _ :: _, _ => rfl
          have HQF := Lib.hid hq
          obtain ⟨m, hm⟩ : ∃ m, m = il.length := ⟨_, rfl⟩
          rw [← hm] at d1 hl2
          have hl3 : ((m : Int) == 2) = false := by simpa using fun e : (m : Int) = 2 => hl2 (by omega)
          have hl4 : ((m : Int) != 2) = true := by simpa using fun e : (m : Int) = 2 => hl2 (by omega)
          clear hq HCXC HCX hrdW hrdAW hBW hm hl2
          go_wp2_with (first | (go_at_call 56; refine HBS.out.mono ?_; rintro e w' ⟨⟨i, rfl⟩, rfl⟩) | go_in)
          obtain ⟨hfin, hms⟩ := HSK.out _ (Below.refl _ _) HQF.out
          go_roundw
          case rel => exact ⟨bad, ev, cnt3, rfl, HEV, hfin⟩
          case measure => rw [hms, HL.out.1]; exact HL.out.2
        · obtain ⟨u, v, rfl⟩ : ∃ u v, il = [u, v] := by
            match il, hl2 with
            | [u, v], _ => exact ⟨u, v, rfl⟩
          clear hl2
          rw [show ([u, v] : List Int).length = 2 from rfl] at d1 hrdW HCE
          cases bo with
          | true =>
            have HQF : Hid (madeQ cls prt out x = false) := by
              show _ = _
              unfold madeQ
              rw [HPR.out, ← HBO.out]
              rfl
            clear HCXC HCX hrdW hrdAW hBW
            go_wp2_with (first | (go_at_call 56; refine HBS.out.mono ?_; rintro e w' ⟨⟨i, rfl⟩, rfl⟩) | go_in)
            obtain ⟨hfin, hms⟩ := HSK.out _ (Below.refl _ _) HQF.out
            go_roundw
            case rel => exact ⟨bad, ev, cnt3, rfl, HEV, hfin⟩
            case measure => rw [hms, HL.out.1]; exact HL.out.2
          | false =>
            by_cases hcp : 0 < cx
            · have HQF : Hid (madeQ cls prt out x = false) := by
                show _ = _
                unfold madeQ
                rw [HPR.out, ← HCX.out]
                simp [hcp]
              clear hrdW hrdAW hBW
              go_wp2_with (first | (go_at_call 56; refine HBS.out.mono ?_; rintro e w' ⟨⟨i, rfl⟩, rfl⟩) | (go_at_call 16; refine HCXC.out.mono ?_; rintro e w3 ⟨rfl, hb3⟩) | go_in)
              obtain ⟨hfin, hms⟩ := HSK.out _ hb3 HQF.out
              go_roundw
              case rel => exact ⟨bad, ev, cnt3, rfl, HEV, hfin⟩
              case measure => rw [hms, HL.out.1]; exact HL.out.2
            · obtain ⟨cu, hcu⟩ : ∃ z, z = cls u := ⟨_, rfl⟩
              have hcp' : cx ≤ 0 := by omega
              obtain ⟨b, off, rfl, hbl2, hcel⟩ := hrdW.at_ (by omega)
              have hu0 : W.cell? ⟨b, off, none⟩ = some (.int .i32 u) := by have := hcel 0 (.int .i32 u) (by simp [Rs]); simpa using this
              have hu1 : W.cell? ⟨b, off + 1, none⟩ = some (.int .i32 v) := hcel 1 (.int .i32 v) (by simp [Rs])
              have hRu : R32 u := hI x _ HPR.out u (by simp)
              have hRv : R32 v := hI x _ HPR.out v (by simp)
              have HCE2 : Hid (∀ w', Below W.heap.size W w' → w'.cell? ⟨q, 0, none⟩ = some (.string (mk8 [])) ∧ w'.cell? ⟨q, 1, none⟩ = some (.slice (some ⟨b, off, none⟩) 2 pc) ∧ w'.cell? ⟨b, off, none⟩ = some (.int .i32 u) ∧ w'.cell? ⟨b, off + 1, none⟩ = some (.int .i32 v)) := fun w' h => ⟨(HCE.out w' h).1, (HCE.out w' h).2, (h.cell (p := ⟨b, off, none⟩) hbl2).trans hu0, (h.cell (p := ⟨b, off + 1, none⟩) hbl2).trans hu1⟩
              have CU := fun w' (hb : Below W.heap.size W w') => class_any (hBW.below hb) u hRu
              rw [← hcu] at CU
              have HCU := Lib.hid hcu
              have HCUC := Lib.hid CU
              clear hcu CU hcel hu0 hu1 d0 d1 HCE hrdW hrdAW
              by_cases hup : 0 < cu
              · have HQF : Hid (madeQ cls prt out x = false) := by
                  show _ = _
                  rw [madeQ_two HPR.out, ← HCU.out]
                  simp [hup]
                obtain ⟨d0, d1, d2, d3⟩ := HCE2.out W (Below.refl _ _)
                clear hBW
                go_wp2_with (first | (go_at_call 56; refine HBS.out.mono ?_; rintro e w' ⟨⟨i, rfl⟩, rfl⟩) | (go_at_call 16; refine HCXC.out.mono ?_; rintro e w3 ⟨rfl, hb3⟩; obtain ⟨d4, d5, d6, d7⟩ := HCE2.out w3 hb3; clear d0 d1 d2 d3 HCXC) | (go_at_call 16; refine (HCUC.out _ hb3).mono ?_; rintro e w4 ⟨rfl, hb4⟩) | go_in)
                obtain ⟨hfin, hms⟩ := HSK.out _ (below_then hb3 hb4) HQF.out
                go_roundw
                case rel => exact ⟨bad, ev, cnt3, rfl, HEV, hfin⟩
                case measure => rw [hms, HL.out.1]; exact HL.out.2
              · have hup' : cu ≤ 0 := by omega
                obtain ⟨d0, d1, d2, d3⟩ := HCE2.out W (Below.refl _ _)
                have HBW := Lib.hid hBW
                clear hBW
                go_wp2_with (first | (go_at_call 56; refine HBS.out.mono ?_; rintro e w' ⟨⟨i, rfl⟩, rfl⟩) | (go_at_call 16; refine HCXC.out.mono ?_; rintro e w3 ⟨rfl, hb3⟩; obtain ⟨d4, d5, d6, d7⟩ := HCE2.out w3 hb3; clear d0 d1 d2 d3 HCXC) | (go_at_call 16; refine (HCUC.out _ hb3).mono ?_; rintro e w4 ⟨rfl, hb4⟩; have hb34 := below_then hb3 hb4; clear d4 d5 d6 d7 hb3 hb4) | go_in)
                --REGIONS
                have HM7 : Hid (∀ w', Below w4.heap.size w4 w' → (w'.cell? ⟨q, 1, none⟩ = some (.slice (some ⟨b, off, none⟩) 2 pc) ∧ w'.cell? ⟨b, off, none⟩ = some (.int .i32 u) ∧ w'.cell? ⟨b, off + 1, none⟩ = some (.int .i32 v)) ∧ Below w4.heap.size w4 w') := fun w' h => ⟨(HCE2.out w' (below_then hb34 h)).2, h⟩
                have HBD : Hid (∀ o, Below w4.heap.size w4 (w4.alloc o).drew) := fun o => below_then ((Below.refl _ _).alloc (Nat.le_refl _) o) (Drew.to ⟨1, rfl⟩)
                refine wp_region_held_drew (S := fun w' => (w'.cell? ⟨q, 1, none⟩ = some (.slice (some ⟨b, off, none⟩) 2 pc) ∧ w'.cell? ⟨b, off, none⟩ = some (.int .i32 u) ∧ w'.cell? ⟨b, off + 1, none⟩ = some (.int .i32 v)) ∧ Below w4.heap.size w4 w') (by kernel_rfl) (HM7.out _ (Drew.to ⟨1, rfl⟩)) (fun hH0 => ?_)
                refine wpAnyH_take (i := 0) (v := .pointer (some ⟨q, 1, none⟩)) rfl (by kernel_rfl) (by kernel_rfl) (by kernel_rfl) (fun _ _ _ h => h) (Or.inl ⟨by kernel_rfl, ?_⟩) hH0 ?_
                · intro w hSw
                  (try dsimp only at hSw)
                  go_simp
                  all_goals try with_reducible rfl
                try simp only [List.getElem_toArray, List.getElem_cons_succ, List.getElem_cons_zero, Act.put, List.setIfInBounds_toArray, List.set_cons_zero, List.set_cons_succ]
                refine wpAnyH_take (i := 1) (v := .slice (some ⟨b, off, none⟩) 2 pc) rfl (by kernel_rfl) (by kernel_rfl) (by kernel_rfl) (fun _ _ _ h => h) (Or.inl ⟨by kernel_rfl, ?_⟩) hH0 ?_
                · intro w hSw
                  (try dsimp only at hSw)
                  go_simp
                  all_goals try with_reducible rfl
                try simp only [List.getElem_toArray, List.getElem_cons_succ, List.getElem_cons_zero, Act.put, List.setIfInBounds_toArray, List.set_cons_zero, List.set_cons_succ]
                refine wpAnyH_take (i := 2) (v := .pointer (some ⟨b, off, none⟩)) rfl (by kernel_rfl) (by kernel_rfl) (by kernel_rfl) (fun _ _ _ h => h) (Or.inl ⟨by kernel_rfl, ?_⟩) hH0 ?_
                · intro w hSw
                  (try dsimp only at hSw)
                  go_simp
                  all_goals try with_reducible rfl
                try simp only [List.getElem_toArray, List.getElem_cons_succ, List.getElem_cons_zero, Act.put, List.setIfInBounds_toArray, List.set_cons_zero, List.set_cons_succ]
                refine wpAnyH_take (i := 3) (v := .int .i32 u) rfl (by kernel_rfl) (by kernel_rfl) (by kernel_rfl) (fun _ _ _ h => h) (Or.inl ⟨by kernel_rfl, ?_⟩) hH0 ?_
                · intro w hSw
                  (try dsimp only at hSw)
                  go_simp
                  all_goals try with_reducible rfl
                try simp only [List.getElem_toArray, List.getElem_cons_succ, List.getElem_cons_zero, Act.put, List.setIfInBounds_toArray, List.set_cons_zero, List.set_cons_succ]
                refine wpAnyH_take (i := 4) (v := .pointer (some ⟨q, 1, none⟩)) rfl (by kernel_rfl) (by kernel_rfl) (by kernel_rfl) (fun _ _ _ h => h) (Or.inl ⟨by kernel_rfl, ?_⟩) hH0 ?_
                · intro w hSw
                  (try dsimp only at hSw)
                  go_simp
                  all_goals try with_reducible rfl
                try simp only [List.getElem_toArray, List.getElem_cons_succ, List.getElem_cons_zero, Act.put, List.setIfInBounds_toArray, List.set_cons_zero, List.set_cons_succ]
                refine wpAnyH_take (i := 5) (v := .slice (some ⟨b, off, none⟩) 2 pc) rfl (by kernel_rfl) (by kernel_rfl) (by kernel_rfl) (fun _ _ _ h => h) (Or.inl ⟨by kernel_rfl, ?_⟩) hH0 ?_
                · intro w hSw
                  (try dsimp only at hSw)
                  go_simp
                  all_goals try with_reducible rfl
                try simp only [List.getElem_toArray, List.getElem_cons_succ, List.getElem_cons_zero, Act.put, List.setIfInBounds_toArray, List.set_cons_zero, List.set_cons_succ]
                refine wpAnyH_take (i := 6) (v := .pointer (some ⟨b, off + 1, none⟩)) rfl (by kernel_rfl) (by kernel_rfl) (by kernel_rfl) (fun _ _ _ h => h) (Or.inl ⟨by kernel_rfl, ?_⟩) hH0 ?_
                · intro w hSw
                  (try dsimp only at hSw)
                  go_simp
                  all_goals try with_reducible rfl
                try simp only [List.getElem_toArray, List.getElem_cons_succ, List.getElem_cons_zero, Act.put, List.setIfInBounds_toArray, List.set_cons_zero, List.set_cons_succ]
                refine wpAnyH_take (i := 7) (v := .int .i32 v) rfl (by kernel_rfl) (by kernel_rfl) (by kernel_rfl) (fun _ _ _ h => h) (Or.inl ⟨by kernel_rfl, ?_⟩) hH0 ?_
                · intro w hSw
                  (try dsimp only at hSw)
                  go_simp
                  all_goals try with_reducible rfl
                try simp only [List.getElem_toArray, List.getElem_cons_succ, List.getElem_cons_zero, Act.put, List.setIfInBounds_toArray, List.set_cons_zero, List.set_cons_succ]
                refine wpAnyH_take (i := 8) (v := pairV (u, v)) rfl (by kernel_rfl) (by kernel_rfl) (by kernel_rfl) (fun _ _ _ h => h) (Or.inl ⟨by kernel_rfl, ?_⟩) hH0 ?_
                · intro w hSw
                  (try dsimp only at hSw)
                  go_simp
                  all_goals try with_reducible rfl
                try simp only [List.getElem_toArray, List.getElem_cons_succ, List.getElem_cons_zero, Act.put, List.setIfInBounds_toArray, List.set_cons_zero, List.set_cons_succ]
                refine wpAnyH_ready (rs := [9]) (by kernel_rfl) (by simp) ?_
                refine AllReadyH.cons rfl (fun K hK => ?_) AllReadyH.nil
                go_simp
                refine hK.out _ _ (HM7.out _ (HBD.out _)) (fun hH1 => ?_)
                clear hK K hH0
                try simp only [List.getElem_toArray, List.getElem_cons_succ, List.getElem_cons_zero, Act.put, List.setIfInBounds_toArray, List.set_cons_zero, List.set_cons_succ]
                refine wpAnyH_ready (rs := [10]) (by kernel_rfl) (by simp) ?_
                refine AllReadyH.cons rfl (fun K hK => ?_) AllReadyH.nil
                go_simp
                refine hK.out _ _ (HM7.out _ (HBD.out _)) (fun hH2 => ?_)
                clear hK K hH1
                try simp only [List.getElem_toArray, List.getElem_cons_succ, List.getElem_cons_zero, Act.put, List.setIfInBounds_toArray, List.set_cons_zero, List.set_cons_succ]
                refine wpAnyH_done (by kernel_rfl) ?_ _
                have hbx5 : (w4.alloc (.cells #[.int .i32 u, .int .i32 v] 46)).drew.heap[w4.heap.size]? = some (.cells #[.int .i32 u, .int .i32 v] 46 (0, 0)) := box_new w4 _ _
                have hb5 := HBD.out (.cells #[.int .i32 u, .int .i32 v] 46)
                have hsz5 : (w4.alloc (.cells #[.int .i32 u, .int .i32 v] 46)).drew.heap.size = w4.heap.size + 1 := World.size_alloc _ _
                clear hH2
                generalize (w4.alloc (.cells #[.int .i32 u, .int .i32 v] 46)).drew = W5 at *
                obtain ⟨q2, hq2⟩ : ∃ q2, q2 = w4.heap.size := ⟨_, rfl⟩
                rw [← hq2] at hbx5
                simp only [← hq2]
                have HQ2 := Lib.hid hq2
                have HB5 := Lib.hid (below_then hb34 hb5)
                have HBX5 := Lib.hid hbx5
                have e0 := box_cell hbx5 0 rfl
                have e1 := box_cell hbx5 1 rfl
                obtain ⟨pz, ps, hpz⟩ : ∃ (pz : Int) (ps : Bool), pairOf (pairH pr u v) = .tuple #[.int .i32 pz, .bool ps] ∧ (pairH pr u v).isSome = ps := ⟨_, _, rfl, rfl⟩
                have PRC := pair_any (HBW.out.below HB5.out) u v hRu hRv (hkW.below' HB5.out)
                rw [hpz.1] at PRC
                have HPS := Lib.hid hpz.2
                clear hpz hq2 hbx5 hb5 hsz5
                cases ps
                all_goals
                  go_wp2_with (first | (go_at_call 17; refine PRC.mono ?_; rintro e w6 ⟨rfl, hb6⟩) | go_in)
                  clear PRC
                  have hWP := HHW.out.then_below (below_then HBA.out (below_then HB5.out hb6))
                  have hbp := (HCC.out.box)
                  have hTw : Two bp q2 a u v w6 := ⟨(HCC.out.wrote HAP.out HNC.out hWP).box, box_below HBX5.out hb6⟩
                  have hV6 := HVV.out.below (below_then HBA.out (below_then HB5.out hb6))
                  have HB26 := Lib.hid (below_then HBA.out (below_then HB5.out hb6))
                  have hq2m : w.heap.size ≤ q2 := by have := HHW.out.size; have := HBA.out.size; have := hb34.size; have := HQ2.out; omega
                  have hNE : bp ≠ a.m2 ∧ bp ≠ a.m3 ∧ bp ≠ a.m4 := ⟨fun e => HNC.out _ (.inl rfl) _ _ _ (e ▸ hbp), fun e => HNC.out _ (.inr (.inl rfl)) _ _ _ (e ▸ hbp), fun e => HNC.out _ (.inr (.inr rfl)) _ _ _ (e ▸ hbp)⟩
                  have hQE : q2 ≠ a.m2 ∧ q2 ≠ a.m3 ∧ q2 ≠ a.m4 := ⟨by omega, by omega, by omega⟩
                  have hmx : n + ss.length < maxLen := by have := HLE.out; unfold maxLen; omega
                  have hmd6 : MkV w6.drew a (n + ss.length) pr md sc := ⟨hV6.pr.at rfl, hV6.md.at rfl, hV6.sc.at rfl⟩
                  have HV6 := Lib.hid hmd6
                  have HNE := Lib.hid (And.intro hNE hQE)
                  have HTW := Lib.hid (hTw.below (Drew.to ⟨1, rfl⟩))
                  have HMZ := Lib.hid (HM.out.sc1 v)
                  have HQT : Hid (madeQ cls prt out x = true) := by
                    show _ = _
                    rw [madeQ_two HPR.out, ← HBO.out, ← HCX.out, ← HCU.out]
                    simp [hcp, hup]
                  clear hWP hbp hV6 hNE hQE hmd6 e0 e1 hq2m hTw HBX5
                  refine wp_region_held_drew (S := fun w' => Two bp q2 a u v w') (by kernel_rfl) (HTW.out) (fun hH0 => ?_)
                  refine wpAnyH_take (i := 0) (v := .pointer (some ⟨bp, 0, none⟩)) rfl (by kernel_rfl) (by kernel_rfl) (by kernel_rfl) (fun _ _ _ h => h) (Or.inl ⟨by kernel_rfl, ?_⟩) hH0 ?_
                  · intro w hSw
                    obtain ⟨hS1, hS2⟩ := hSw
                    have s2 := box_cell hS1 2 rfl
                    have s3 := box_cell hS1 3 rfl
                    have t0 := box_cell hS2 0 rfl
                    have t1 := box_cell hS2 1 rfl
                    go_simp
                    all_goals try with_reducible rfl
                  try simp only [List.getElem_toArray, List.getElem_cons_succ, List.getElem_cons_zero, Act.put, List.setIfInBounds_toArray, List.set_cons_zero, List.set_cons_succ]
                  refine wpAnyH_take (i := 1) (v := .pointer (some ⟨bp, 0, none⟩)) rfl (by kernel_rfl) (by kernel_rfl) (by kernel_rfl) (fun _ _ _ h => h) (Or.inl ⟨by kernel_rfl, ?_⟩) hH0 ?_
                  · intro w hSw
                    obtain ⟨hS1, hS2⟩ := hSw
                    have s2 := box_cell hS1 2 rfl
                    have s3 := box_cell hS1 3 rfl
                    have t0 := box_cell hS2 0 rfl
                    have t1 := box_cell hS2 1 rfl
                    go_simp
                    all_goals try with_reducible rfl
                  try simp only [List.getElem_toArray, List.getElem_cons_succ, List.getElem_cons_zero, Act.put, List.setIfInBounds_toArray, List.set_cons_zero, List.set_cons_succ]
                  refine wpAnyH_take (i := 2) (v := .pointer (some ⟨bp, 2, none⟩)) rfl (by kernel_rfl) (by kernel_rfl) (by kernel_rfl) (fun _ _ _ h => h) (Or.inl ⟨by kernel_rfl, ?_⟩) hH0 ?_
                  · intro w hSw
                    obtain ⟨hS1, hS2⟩ := hSw
                    have s2 := box_cell hS1 2 rfl
                    have s3 := box_cell hS1 3 rfl
                    have t0 := box_cell hS2 0 rfl
                    have t1 := box_cell hS2 1 rfl
                    go_simp
                    all_goals try with_reducible rfl
                  try simp only [List.getElem_toArray, List.getElem_cons_succ, List.getElem_cons_zero, Act.put, List.setIfInBounds_toArray, List.set_cons_zero, List.set_cons_succ]
                  refine wpAnyH_take (i := 3) (v := .map (some a.m2)) rfl (by kernel_rfl) (by kernel_rfl) (by kernel_rfl) (fun _ _ _ h => h) (Or.inl ⟨by kernel_rfl, ?_⟩) hH0 ?_
                  · intro w hSw
                    obtain ⟨hS1, hS2⟩ := hSw
                    have s2 := box_cell hS1 2 rfl
                    have s3 := box_cell hS1 3 rfl
                    have t0 := box_cell hS2 0 rfl
                    have t1 := box_cell hS2 1 rfl
                    go_simp
                    all_goals try with_reducible rfl
                  try simp only [List.getElem_toArray, List.getElem_cons_succ, List.getElem_cons_zero, Act.put, List.setIfInBounds_toArray, List.set_cons_zero, List.set_cons_succ]
                  refine wpAnyH_take (i := 4) (v := pairV (u, v)) rfl (by kernel_rfl) (by kernel_rfl) (by kernel_rfl) (fun _ _ _ h => h) (Or.inl ⟨by kernel_rfl, ?_⟩) hH0 ?_
                  · intro w hSw
                    obtain ⟨hS1, hS2⟩ := hSw
                    have s2 := box_cell hS1 2 rfl
                    have s3 := box_cell hS1 3 rfl
                    have t0 := box_cell hS2 0 rfl
                    have t1 := box_cell hS2 1 rfl
                    go_simp
                    all_goals try with_reducible rfl
                  try simp only [List.getElem_toArray, List.getElem_cons_succ, List.getElem_cons_zero, Act.put, List.setIfInBounds_toArray, List.set_cons_zero, List.set_cons_succ]
                  refine wpAnyH_take (i := 5) (v := .pointer (some ⟨bp, 0, none⟩)) rfl (by kernel_rfl) (by kernel_rfl) (by kernel_rfl) (fun _ _ _ h => h) (Or.inl ⟨by kernel_rfl, ?_⟩) hH0 ?_
                  · intro w hSw
                    obtain ⟨hS1, hS2⟩ := hSw
                    have s2 := box_cell hS1 2 rfl
                    have s3 := box_cell hS1 3 rfl
                    have t0 := box_cell hS2 0 rfl
                    have t1 := box_cell hS2 1 rfl
                    go_simp
                    all_goals try with_reducible rfl
                  try simp only [List.getElem_toArray, List.getElem_cons_succ, List.getElem_cons_zero, Act.put, List.setIfInBounds_toArray, List.set_cons_zero, List.set_cons_succ]
                  refine wpAnyH_take (i := 6) (v := .pointer (some ⟨bp, 0, none⟩)) rfl (by kernel_rfl) (by kernel_rfl) (by kernel_rfl) (fun _ _ _ h => h) (Or.inl ⟨by kernel_rfl, ?_⟩) hH0 ?_
                  · intro w hSw
                    obtain ⟨hS1, hS2⟩ := hSw
                    have s2 := box_cell hS1 2 rfl
                    have s3 := box_cell hS1 3 rfl
                    have t0 := box_cell hS2 0 rfl
                    have t1 := box_cell hS2 1 rfl
                    go_simp
                    all_goals try with_reducible rfl
                  try simp only [List.getElem_toArray, List.getElem_cons_succ, List.getElem_cons_zero, Act.put, List.setIfInBounds_toArray, List.set_cons_zero, List.set_cons_succ]
                  refine wpAnyH_take (i := 7) (v := .pointer (some ⟨bp, 3, none⟩)) rfl (by kernel_rfl) (by kernel_rfl) (by kernel_rfl) (fun _ _ _ h => h) (Or.inl ⟨by kernel_rfl, ?_⟩) hH0 ?_
                  · intro w hSw
                    obtain ⟨hS1, hS2⟩ := hSw
                    have s2 := box_cell hS1 2 rfl
                    have s3 := box_cell hS1 3 rfl
                    have t0 := box_cell hS2 0 rfl
                    have t1 := box_cell hS2 1 rfl
                    go_simp
                    all_goals try with_reducible rfl
                  try simp only [List.getElem_toArray, List.getElem_cons_succ, List.getElem_cons_zero, Act.put, List.setIfInBounds_toArray, List.set_cons_zero, List.set_cons_succ]
                  refine wpAnyH_take (i := 8) (v := .map (some a.m3)) rfl (by kernel_rfl) (by kernel_rfl) (by kernel_rfl) (fun _ _ _ h => h) (Or.inl ⟨by kernel_rfl, ?_⟩) hH0 ?_
                  · intro w hSw
                    obtain ⟨hS1, hS2⟩ := hSw
                    have s2 := box_cell hS1 2 rfl
                    have s3 := box_cell hS1 3 rfl
                    have t0 := box_cell hS2 0 rfl
                    have t1 := box_cell hS2 1 rfl
                    go_simp
                    all_goals try with_reducible rfl
                  try simp only [List.getElem_toArray, List.getElem_cons_succ, List.getElem_cons_zero, Act.put, List.setIfInBounds_toArray, List.set_cons_zero, List.set_cons_succ]
                  refine wpAnyH_take (i := 9) (v := runeV x) rfl (by kernel_rfl) (by kernel_rfl) (by kernel_rfl) (fun _ _ _ h => h) (Or.inl ⟨by kernel_rfl, ?_⟩) hH0 ?_
                  · intro w hSw
                    obtain ⟨hS1, hS2⟩ := hSw
                    have s2 := box_cell hS1 2 rfl
                    have s3 := box_cell hS1 3 rfl
                    have t0 := box_cell hS2 0 rfl
                    have t1 := box_cell hS2 1 rfl
                    go_simp
                    all_goals try with_reducible rfl
                  try simp only [List.getElem_toArray, List.getElem_cons_succ, List.getElem_cons_zero, Act.put, List.setIfInBounds_toArray, List.set_cons_zero, List.set_cons_succ]
                  refine wpAnyH_take (i := 10) (v := runeV x) rfl (by kernel_rfl) (by kernel_rfl) (by kernel_rfl) (fun _ _ _ h => h) (Or.inl ⟨by kernel_rfl, ?_⟩) hH0 ?_
                  · intro w hSw
                    obtain ⟨hS1, hS2⟩ := hSw
                    have s2 := box_cell hS1 2 rfl
                    have s3 := box_cell hS1 3 rfl
                    have t0 := box_cell hS2 0 rfl
                    have t1 := box_cell hS2 1 rfl
                    go_simp
                    all_goals try with_reducible rfl
                  try simp only [List.getElem_toArray, List.getElem_cons_succ, List.getElem_cons_zero, Act.put, List.setIfInBounds_toArray, List.set_cons_zero, List.set_cons_succ]
                  refine wpAnyH_take (i := 11) (v := pairV (u, v)) rfl (by kernel_rfl) (by kernel_rfl) (by kernel_rfl) (fun _ _ _ h => h) (Or.inl ⟨by kernel_rfl, ?_⟩) hH0 ?_
                  · intro w hSw
                    obtain ⟨hS1, hS2⟩ := hSw
                    have s2 := box_cell hS1 2 rfl
                    have s3 := box_cell hS1 3 rfl
                    have t0 := box_cell hS2 0 rfl
                    have t1 := box_cell hS2 1 rfl
                    go_simp
                    all_goals try with_reducible rfl
                  try simp only [List.getElem_toArray, List.getElem_cons_succ, List.getElem_cons_zero, Act.put, List.setIfInBounds_toArray, List.set_cons_zero, List.set_cons_succ]
                  refine wpAnyH_ready (rs := [12]) (by kernel_rfl) (by simp) ?_
                  refine AllReadyH.cons rfl (fun K hK => ?_) AllReadyH.nil
                  refine step_entryF rfl _ _ rfl pair_keyed pairsT zero_rune hmx HV6.out.pr (k := (u, v)) ⟨hRu, hRv⟩ rfl rfl ?_
                  intro v0 st w7 hH7 hg7 hs7
                  refine hK.out _ _ (HTW.out.grown hg7 HNE.out.1.1 HNE.out.2.1) (fun hH1 => ?_)
                  clear hK K hH0
                  try simp only [List.getElem_toArray, List.getElem_cons_succ, List.getElem_cons_zero, Act.put, List.setIfInBounds_toArray, List.set_cons_zero, List.set_cons_succ]
                  refine wpAnyH_take (i := 13) (v := st) rfl (by kernel_rfl) (by kernel_rfl) (by kernel_rfl) (fun _ _ _ h => h) (Or.inl ⟨by kernel_rfl, ?_⟩) hH1 ?_
                  · intro w hSw
                    obtain ⟨hS1, hS2⟩ := hSw
                    have s2 := box_cell hS1 2 rfl
                    have s3 := box_cell hS1 3 rfl
                    have t0 := box_cell hS2 0 rfl
                    have t1 := box_cell hS2 1 rfl
                    go_simp
                    all_goals try with_reducible rfl
                  try simp only [List.getElem_toArray, List.getElem_cons_succ, List.getElem_cons_zero, Act.put, List.setIfInBounds_toArray, List.set_cons_zero, List.set_cons_succ]
                  refine wpAnyH_ready (rs := [14]) (by kernel_rfl) (by simp) ?_
                  refine AllReadyH.cons rfl (fun K hK => ?_) AllReadyH.nil
                  refine step_entryStoreF rfl _ _ _ rfl hH7 rfl x rfl rfl rfl ?_
                  intro w8 hm8 hg8 hs8
                  refine hK.out _ _ (hH1.grown hg8 HNE.out.1.1 HNE.out.2.1) (fun hH2 => ?_)
                  clear hK K hH1
                  try simp only [List.getElem_toArray, List.getElem_cons_succ, List.getElem_cons_zero, Act.put, List.setIfInBounds_toArray, List.set_cons_zero, List.set_cons_succ]
                  refine wpAnyH_ready (rs := [15]) (by kernel_rfl) (by simp) ?_
                  refine AllReadyH.cons rfl (fun K hK => ?_) AllReadyH.nil
                  refine step_entryF rfl _ _ rfl rune_keyed madeT zero_two hmx ((HV6.out.md.kept hg7 (by simpa using fun e => HAP.out.t23 e.symm)).kept hg8 (by simpa using fun e => HAP.out.t23 e.symm)) (k := x) HXR.out rfl rfl ?_
                  intro v1 st1 w9 hH9 hg9 hs9
                  refine hK.out _ _ (hH2.grown hg9 HNE.out.1.2.1 HNE.out.2.2.1) (fun hH3 => ?_)
                  clear hK K hH2
                  try simp only [List.getElem_toArray, List.getElem_cons_succ, List.getElem_cons_zero, Act.put, List.setIfInBounds_toArray, List.set_cons_zero, List.set_cons_succ]
                  refine wpAnyH_take (i := 16) (v := st1) rfl (by kernel_rfl) (by kernel_rfl) (by kernel_rfl) (fun _ _ _ h => h) (Or.inl ⟨by kernel_rfl, ?_⟩) hH3 ?_
                  · intro w hSw
                    obtain ⟨hS1, hS2⟩ := hSw
                    have s2 := box_cell hS1 2 rfl
                    have s3 := box_cell hS1 3 rfl
                    have t0 := box_cell hS2 0 rfl
                    have t1 := box_cell hS2 1 rfl
                    go_simp
                    all_goals try with_reducible rfl
                  try simp only [List.getElem_toArray, List.getElem_cons_succ, List.getElem_cons_zero, Act.put, List.setIfInBounds_toArray, List.set_cons_zero, List.set_cons_succ]
                  refine wpAnyH_ready (rs := [17]) (by kernel_rfl) (by simp) ?_
                  refine AllReadyH.cons rfl (fun K hK => ?_) AllReadyH.nil
                  refine step_entryStoreF rfl _ _ _ rfl hH9 rfl (u, v) rfl rfl rfl ?_
                  intro w10 hm10 hg10 hs10
                  refine hK.out _ _ (hH3.grown hg10 HNE.out.1.2.1 HNE.out.2.2.1) (fun hH4 => ?_)
                  clear hK K hH3
                  try simp only [List.getElem_toArray, List.getElem_cons_succ, List.getElem_cons_zero, Act.put, List.setIfInBounds_toArray, List.set_cons_zero, List.set_cons_succ]
                  refine wpAnyH_done (by kernel_rfl) ?_ _
                  have HTW2 := Lib.hid ((hH4).below (Drew.to ⟨1, rfl⟩))
                  have hsc10 := (((HV6.out.sc.kept hg7 (by simpa using fun e => HAP.out.t24 e.symm)).kept hg8 (by simpa using fun e => HAP.out.t24 e.symm)).kept hg9 (by simpa using fun e => HAP.out.t34 e.symm)).kept hg10 (by simpa using fun e => HAP.out.t34 e.symm)
                  have hsc11 : MapF w10.drew Tryz.prog 21 runeLit R32 intV a.m4 (n + ss.length) sc := hsc10.at rfl
                  have HM8 := Lib.hid ((hm8.kept hg9 (by simpa using HAP.out.t23)).kept hg10 (by simpa using HAP.out.t23))
                  have HM10 := Lib.hid hm10
                  have HWR := Lib.hid ((((Wrote.grown (S := M234 a) hg7 (fun k e => .inl (by injection e with e; exact e.symm))).trans (Wrote.grown hg8 fun k e => .inl (by injection e with e; exact e.symm))).trans (Wrote.grown hg9 fun k e => .inr (.inl (by injection e with e; exact e.symm)))).trans (Wrote.grown hg10 fun k e => .inr (.inl (by injection e with e; exact e.symm))))
                  obtain ⟨z, hz⟩ : ∃ z, z = gd sc v := ⟨_, rfl⟩
                  have hz1 := HMZ.out.1
                  have hz2 := HMZ.out.2
                  rw [← hz] at hz1 hz2
                  have hz3 := HLE.out
                  have HZ := Lib.hid hz
                  have hzw : IntKind.i64.wrap (z + 1) = z + 1 := IntWalk.i64_in _ (by omega)
                  clear hH4 hg7 hg8 hg9 hg10 hs7 hs8 hs9 hs10 hm8 hm10 hH7 hH9 hsc10 hz hz1 hz2 hz3
                  go_upto_region 12 with fail
                  refine wp_region_held_drew (S := fun w' => Two bp q2 a u v w') (by kernel_rfl) (HTW2.out) (fun hH0 => ?_)
                  refine wpAnyH_take (i := 0) (v := .pointer (some ⟨bp, 0, none⟩)) rfl (by kernel_rfl) (by kernel_rfl) (by kernel_rfl) (fun _ _ _ h => h) (Or.inl ⟨by kernel_rfl, ?_⟩) hH0 ?_
                  · intro w hSw
                    obtain ⟨hS1, hS2⟩ := hSw
                    have s4 := box_cell hS1 4 rfl
                    have t1 := box_cell hS2 1 rfl
                    go_simp
                    all_goals try with_reducible rfl
                  try simp only [List.getElem_toArray, List.getElem_cons_succ, List.getElem_cons_zero, Act.put, List.setIfInBounds_toArray, List.set_cons_zero, List.set_cons_succ]
                  refine wpAnyH_take (i := 1) (v := .pointer (some ⟨bp, 0, none⟩)) rfl (by kernel_rfl) (by kernel_rfl) (by kernel_rfl) (fun _ _ _ h => h) (Or.inl ⟨by kernel_rfl, ?_⟩) hH0 ?_
                  · intro w hSw
                    obtain ⟨hS1, hS2⟩ := hSw
                    have s4 := box_cell hS1 4 rfl
                    have t1 := box_cell hS2 1 rfl
                    go_simp
                    all_goals try with_reducible rfl
                  try simp only [List.getElem_toArray, List.getElem_cons_succ, List.getElem_cons_zero, Act.put, List.setIfInBounds_toArray, List.set_cons_zero, List.set_cons_succ]
                  refine wpAnyH_take (i := 2) (v := .pointer (some ⟨bp, 4, none⟩)) rfl (by kernel_rfl) (by kernel_rfl) (by kernel_rfl) (fun _ _ _ h => h) (Or.inl ⟨by kernel_rfl, ?_⟩) hH0 ?_
                  · intro w hSw
                    obtain ⟨hS1, hS2⟩ := hSw
                    have s4 := box_cell hS1 4 rfl
                    have t1 := box_cell hS2 1 rfl
                    go_simp
                    all_goals try with_reducible rfl
                  try simp only [List.getElem_toArray, List.getElem_cons_succ, List.getElem_cons_zero, Act.put, List.setIfInBounds_toArray, List.set_cons_zero, List.set_cons_succ]
                  refine wpAnyH_take (i := 3) (v := .map (some a.m4)) rfl (by kernel_rfl) (by kernel_rfl) (by kernel_rfl) (fun _ _ _ h => h) (Or.inl ⟨by kernel_rfl, ?_⟩) hH0 ?_
                  · intro w hSw
                    obtain ⟨hS1, hS2⟩ := hSw
                    have s4 := box_cell hS1 4 rfl
                    have t1 := box_cell hS2 1 rfl
                    go_simp
                    all_goals try with_reducible rfl
                  try simp only [List.getElem_toArray, List.getElem_cons_succ, List.getElem_cons_zero, Act.put, List.setIfInBounds_toArray, List.set_cons_zero, List.set_cons_succ]
                  refine wpAnyH_take (i := 4) (v := .pointer (some ⟨q2, 1, none⟩)) rfl (by kernel_rfl) (by kernel_rfl) (by kernel_rfl) (fun _ _ _ h => h) (Or.inl ⟨by kernel_rfl, ?_⟩) hH0 ?_
                  · intro w hSw
                    obtain ⟨hS1, hS2⟩ := hSw
                    have s4 := box_cell hS1 4 rfl
                    have t1 := box_cell hS2 1 rfl
                    go_simp
                    all_goals try with_reducible rfl
                  try simp only [List.getElem_toArray, List.getElem_cons_succ, List.getElem_cons_zero, Act.put, List.setIfInBounds_toArray, List.set_cons_zero, List.set_cons_succ]
                  refine wpAnyH_take (i := 5) (v := runeV v) rfl (by kernel_rfl) (by kernel_rfl) (by kernel_rfl) (fun _ _ _ h => h) (Or.inl ⟨by kernel_rfl, ?_⟩) hH0 ?_
                  · intro w hSw
                    obtain ⟨hS1, hS2⟩ := hSw
                    have s4 := box_cell hS1 4 rfl
                    have t1 := box_cell hS2 1 rfl
                    go_simp
                    all_goals try with_reducible rfl
                  try simp only [List.getElem_toArray, List.getElem_cons_succ, List.getElem_cons_zero, Act.put, List.setIfInBounds_toArray, List.set_cons_zero, List.set_cons_succ]
                  refine wpAnyH_ready (rs := [6]) (by kernel_rfl) (by simp) ?_
                  refine AllReadyH.cons rfl (fun K hK => ?_) AllReadyH.nil
                  refine step_lookF rfl _ _ rfl rune_keyed secsT (zero_int _) hsc11 (k := v) hRv rfl rfl (z := z) HZ.out ?_
                  refine hK.out _ _ (hH0) (fun hH1 => ?_)
                  clear hK K hH0
                  try simp only [List.getElem_toArray, List.getElem_cons_succ, List.getElem_cons_zero, Act.put, List.setIfInBounds_toArray, List.set_cons_zero, List.set_cons_succ]
                  refine wpAnyH_take (i := 7) (v := .int .i64 (z + 1)) rfl (by kernel_rfl) (by kernel_rfl) (by kernel_rfl) (fun _ _ _ h => h) (Or.inl ⟨by kernel_rfl, ?_⟩) hH1 ?_
                  · intro w hSw
                    obtain ⟨hS1, hS2⟩ := hSw
                    have s4 := box_cell hS1 4 rfl
                    have t1 := box_cell hS2 1 rfl
                    go_simp
                    all_goals try with_reducible rfl
                  try simp only [List.getElem_toArray, List.getElem_cons_succ, List.getElem_cons_zero, Act.put, List.setIfInBounds_toArray, List.set_cons_zero, List.set_cons_succ]
                  refine wpAnyH_ready (rs := [8]) (by kernel_rfl) (by simp) ?_
                  refine AllReadyH.cons rfl (fun K hK => ?_) AllReadyH.nil
                  refine step_putF rfl _ _ _ rfl rune_keyed secsT hmx hsc11 (k := v) hRv (z + 1) rfl rfl rfl ?_
                  intro w11 hm11 hg11 hs11
                  refine hK.out _ _ (hH1.grown hg11 HNE.out.1.2.2 HNE.out.2.2.2) (fun hH2 => ?_)
                  clear hK K hH1
                  try simp only [List.getElem_toArray, List.getElem_cons_succ, List.getElem_cons_zero, Act.put, List.setIfInBounds_toArray, List.set_cons_zero, List.set_cons_succ]
                  refine wpAnyH_done (by kernel_rfl) ?_ _
                  have HFIN := MkR.made HRG.out HCAME.out HM.out HNI.out HQT.out (madeT_two HPR.out) (by have := HLE.out; have := HL.out.2; omega) HHW.out (below_then HB26.out (Drew.to ⟨1, rfl⟩)) ((HWR.out.trans (.of_below (Drew.to ⟨1, rfl⟩))).trans (Wrote.grown hg11 fun k e => .inr (.inr (by injection e with e; exact e.symm)))) ((HM8.out.at (w' := w10.drew) rfl).kept hg11 (by simpa using HAP.out.t24)) ((HM10.out.at (w' := w10.drew) rfl).kept hg11 (by simpa using HAP.out.t34)) (by rw [← HZ.out]; exact hm11) (by rintro (e | e | e) <;> omega) (fun e => e.elim HAP.out.p2 (fun e => e.elim HAP.out.p3 HAP.out.p4)) HPS.out
                  have EV1 : Hid ((12 : Int) = if (bad || true) = true then 12 else 0) := by show _ = _; simp
                  have EV2 : Hid (ev = if (bad || false) = true then 12 else 0) := by show _ = _; rw [Bool.or_false]; exact HEV.out
                  clear hH2 hm11 hg11 hs11 hsc11
                  obtain ⟨hfin, hms⟩ := HFIN
                  go_wp2
                  go_roundw
                  case rel => first | exact ⟨_, _, cnt3, rfl, EV2, hfin⟩ | exact ⟨_, _, cnt3, rfl, EV1, hfin⟩
                  case measure => rw [hms, HL.out.1]; exact HL.out.2
    · have HD := Lib.hid (MkR.done HCC.out HAP.out HNC.out hl0 HCM.out HM.out hVr (by omega) hW)
      clear hrg hVr hW hle hl0
      go_wp2
      go_returns
      have := HD.out
      rw [← HEV.out] at this
      exact this
end
end Go.Proofs.YtggichcfklbjiaaGreatDoor
end

section
section
set_option linter.unusedSimpArgs false
set_option linter.unusedVariables false
namespace Go.Proofs.YtggichcfklbjiaaGreatDoor
open Go.RowKit

/-- What holds of what a line tells, and of the range of two, holds of all rows. -/
theorem rowsW_all {P : RowS → Prop} (hp : ∀ l, (parseS l).2 = 0 → P (parseS l).1) (hc : ∀ f x, P f → P x → ¬ closeB f x → P (rangeR f x)) :
    ∀ (ls : List (Int × List UInt8)) (st : StU), (∀ x ∈ st.out, P x) → (∀ f, st.op = some f → P f) → ∀ x ∈ (rowsW st ls).1.out, P x
  | [], st, ho, hf => ho
  | p :: ls, st, ho, hf => by
    have key : (∀ x ∈ (takeS st p.2).1.out, P x) ∧ ∀ f, (takeS st p.2).1.op = some f → P f := by
      unfold takeS
      split
      · exact ⟨ho, hf⟩
      · have hx := hp p.2 (by simpa using ‹¬ (parseS p.2).2 ≠ 0›)
        generalize (parseS p.2).1 = x at *
        unfold takeR closeS freeS
        split
        · rename_i f hst
          split
          · exact ⟨ho, hf⟩
          · split
            · exact ⟨ho, hf⟩
            · refine ⟨fun y hy => ?_, fun f h => absurd h (by simp)⟩
              rcases List.mem_append.1 hy with hy | hy
              · exact ho y hy
              · rw [List.mem_singleton] at hy
                subst hy
                exact hc f x (hf f hst) hx (by assumption)
        · split
          · exact ⟨ho, hf⟩
          · split
            · exact ⟨ho, hf⟩
            · split
              · exact ⟨ho, fun f h => by injection h with h; subst h; exact hx⟩
              · refine ⟨fun y hy => ?_, fun f h => absurd h (by simp)⟩
                rcases List.mem_append.1 hy with hy | hy
                · exact ho y hy
                · rw [List.mem_singleton] at hy
                  subst hy
                  exact hx
    by_cases he : (takeS st p.2).2 = 0
    · rw [rowsW_good he]
      exact rowsW_all hp hc ls _ key.1 key.2
    · rw [rowsW_bad he]
      exact ho
theorem rowsS_all {P : RowS → Prop} (hp : ∀ l, (parseS l).2 = 0 → P (parseS l).1) (hc : ∀ f x, P f → P x → ¬ closeB f x → P (rangeR f x)) (s : List UInt8) : ∀ x ∈ (rowsS s).1, P x := by
  unfold rowsS endU
  split
  · intro x hx; simp at hx
  · split
    · intro x hx; simp at hx
    · split
      · intro x hx; simp at hx
      · exact rowsW_all hp hc _ _ (fun x hx => by simp at hx) (fun f h => by simp at h)
theorem rows_il (s : List UInt8) : ∀ x ∈ (rowsS s).1, x.il.length ≤ 18 :=
  rowsS_all (fun l _ => (parse_ok l).2) (fun f x _ _ _ => Nat.zero_le _) s
theorem takeS_len (st : StU) (l : List UInt8) : (takeS st l).1.out.length ≤ st.out.length + 1 := by
  unfold takeS
  split
  · exact Nat.le_succ _
  · generalize (parseS l).1 = x
    unfold takeR closeS freeS
    repeat' split
    all_goals simp
theorem rowsW_len : ∀ (ls : List (Int × List UInt8)) (st : StU), (rowsW st ls).1.out.length ≤ st.out.length + ls.length
  | [], st => by simp [rowsW]
  | p :: ls, st => by
    have h1 := takeS_len st p.2
    by_cases he : (takeS st p.2).2 = 0
    · rw [rowsW_good he]
      have := rowsW_len ls (takeS st p.2).1
      simp only [List.length_cons]
      omega
    · rw [rowsW_bad he]
      simp only []
      omega
theorem rowsS_len (s : List UInt8) : (rowsS s).1.length ≤ 4096 := by
  have hl := (linesS_ok s).2
  unfold rowsS endU
  split
  · simp
  · split
    · simp
    · split
      · simp
      · have := rowsW_len (linesS s).1 ⟨[], none, -1⟩
        simp only [List.length_nil] at this
        show (rowsW ⟨[], none, -1⟩ (linesS s).1).1.out.length ≤ 4096
        omega
end Go.Proofs.YtggichcfklbjiaaGreatDoor
end

section
set_option linter.unusedSimpArgs false
set_option linter.unusedVariables false
namespace Go.Proofs.YtggichcfklbjiaaGreatDoor
open Go.RowKit

theorem cutR_join (c : UInt8) (b : List UInt8) : ∀ (a cur : List UInt8), cutR c cur (a ++ c :: b) = cutR c cur a ++ cutR c [] b
  | [], cur => by simp [cutR]
  | x :: a, cur => by
    by_cases hx : x = c
    · subst hx
      simp [cutR, cutR_join x b a []]
    · simp [cutR, hx, cutR_join c b a (cur ++ [x])]
theorem cutL_join (c : UInt8) (a b : List UInt8) : cutL c (a ++ c :: b) = cutL c a ++ cutL c b := by
  rw [cutL_R, cutL_R, cutL_R, cutR_join]
/-- What lines tell, each with its number. -/
def tellsK : Nat → List (List UInt8) → List (Int × List UInt8)
  | _, [] => []
  | k, l :: ls => (if tellL l = [] then [] else [((k : Int) + 1, tellL l)]) ++ tellsK (k + 1) ls
theorem linesW_tells : ∀ (ls : List (List UInt8)) (out : List (Int × List UInt8)) (k : Nat), linesW out k ls = if ∀ l ∈ ls, l.length ≤ 512 then (out ++ tellsK k ls, 0) else ([], 10)
  | [], out, k => by simp [linesW, tellsK]
  | l :: ls, out, k => by
    by_cases hl : 512 < l.length
    · rw [linesW_long hl, if_neg]
      intro h
      have := h l (by simp)
      omega
    · have hiff : (∀ x ∈ l :: ls, x.length ≤ 512) ↔ ∀ x ∈ ls, x.length ≤ 512 :=
        ⟨fun h x hx => h x (by simp [hx]), fun h x hx => by
          rcases List.mem_cons.1 hx with rfl | hx
          · omega
          · exact h x hx⟩
      simp only [hiff]
      by_cases ht : tellL l = []
      · rw [linesW_none hl ht, linesW_tells ls out (k + 1)]
        simp [tellsK, ht]
      · rw [linesW_some hl ht, linesW_tells ls _ (k + 1)]
        simp [tellsK, ht]
theorem tellsK_app : ∀ (ls ms : List (List UInt8)) (k : Nat), tellsK k (ls ++ ms) = tellsK k ls ++ tellsK (k + ls.length) ms
  | [], ms, k => by simp [tellsK]
  | l :: ls, ms, k => by
    show (if tellL l = [] then [] else [((k : Int) + 1, tellL l)]) ++ tellsK (k + 1) (ls ++ ms) = ((if tellL l = [] then [] else [((k : Int) + 1, tellL l)]) ++ tellsK (k + 1) ls) ++ tellsK (k + (ls.length + 1)) ms
    rw [tellsK_app ls ms (k + 1), List.append_assoc, show k + 1 + ls.length = k + (ls.length + 1) by omega]
theorem tellsK_snd : ∀ (ls : List (List UInt8)) (k j : Nat), (tellsK k ls).map (·.2) = (tellsK j ls).map (·.2)
  | [], k, j => rfl
  | l :: ls, k, j => by
    simp only [tellsK, List.map_append, tellsK_snd ls (k + 1) (j + 1)]
    split <;> simp
theorem tellsK_pos : ∀ (ls : List (List UInt8)) (k : Nat), ∀ p ∈ tellsK k ls, 0 < p.1
  | [], k, p, h => by simp [tellsK] at h
  | l :: ls, k, p, h => by
    simp only [tellsK, List.mem_append] at h
    rcases h with h | h
    · split at h
      · simp at h
      · rw [List.mem_singleton] at h
        subst h
        show (0 : Int) < (k : Int) + 1
        omega
    · exact tellsK_pos ls (k + 1) p h
/-- A text's lines, if there is nothing wrong with them. -/
theorem linesS_good {s : List UInt8} (h : (linesS s).2 = 0) : (cutL 10 s).length ≤ 4096 ∧ (∀ l ∈ cutL 10 s, l.length ≤ 512) ∧ (linesS s).1 = tellsK 0 (cutL 10 s) := by
  unfold linesS at *
  split at h
  · simp at h
  · rename_i hl
    rw [if_neg hl]
    rw [linesW_tells] at *
    split at h
    · rename_i ha
      rw [if_pos ha]
      exact ⟨by omega, ha, by simp⟩
    · simp at h
theorem linesS_join {s t : List UInt8} (hs : (linesS s).2 = 0) (ht : (linesS t).2 = 0) (hl : s.length + t.length ≤ 4000) :
    (linesS (s ++ 10 :: t)).2 = 0 ∧ (linesS (s ++ 10 :: t)).1 = (linesS s).1 ++ tellsK (cutL 10 s).length (cutL 10 t) := by
  obtain ⟨h1, h2, h3⟩ := linesS_good hs
  obtain ⟨k1, k2, k3⟩ := linesS_good ht
  have l1 := cutL_len 10 s
  have l2 := cutL_len 10 t
  have hall : ∀ l ∈ cutL 10 s ++ cutL 10 t, l.length ≤ 512 := fun l hm => by
    rcases List.mem_append.1 hm with hm | hm
    · exact h2 l hm
    · exact k2 l hm
  rw [h3]
  unfold linesS
  rw [cutL_join, if_neg (by rw [List.length_append]; omega), linesW_tells, if_pos hall, tellsK_app]
  simp
theorem rowsW_zero : ∀ (L : List (Int × List UInt8)) (st : StU), (rowsW st L).2.2 = 0 → rowsW st L = ((rowsW st L).1, 0, 0)
  | [], st, h => rfl
  | p :: L, st, h => by
    by_cases he : (takeS st p.2).2 = 0
    · rw [rowsW_good he] at h ⊢
      exact rowsW_zero L _ h
    · rw [rowsW_bad he] at h
      exact absurd h he
theorem rowsW_app : ∀ (L M : List (Int × List UInt8)) (st : StU), (rowsW st L).2.2 = 0 → rowsW st (L ++ M) = rowsW (rowsW st L).1 M
  | [], M, st, h => rfl
  | p :: L, M, st, h => by
    by_cases he : (takeS st p.2).2 = 0
    · rw [rowsW_good he] at h ⊢
      rw [List.cons_append, rowsW_good he]
      exact rowsW_app L M _ h
    · rw [rowsW_bad he] at h
      exact absurd h he
theorem rowsW_num : ∀ (L M : List (Int × List UInt8)) (st : StU), L.map (·.2) = M.map (·.2) → (rowsW st L).1 = (rowsW st M).1 ∧ (rowsW st L).2.2 = (rowsW st M).2.2
  | [], [], st, h => ⟨rfl, rfl⟩
  | [], q :: M, st, h => by simp at h
  | p :: L, [], st, h => by simp at h
  | p :: L, q :: M, st, h => by
    simp only [List.map_cons, List.cons.injEq] at h
    obtain ⟨h1, h2⟩ := h
    by_cases he : (takeS st p.2).2 = 0
    · rw [rowsW_good he, rowsW_good (by rw [← h1]; exact he), ← h1]
      exact rowsW_num L M _ h2
    · rw [rowsW_bad he, rowsW_bad (by rw [← h1]; exact he), ← h1]
      exact ⟨rfl, rfl⟩
/-- The greatest character of rows. -/
def lastUp (l : List RowS) : Int := match l.getLast? with | some x => x.up | none => -1
theorem lastUp_snoc (l : List RowS) (x : RowS) : lastUp (l ++ [x]) = x.up := by simp [lastUp]
theorem lastUp_nil : lastUp [] = -1 := rfl
theorem parse_up (l : List UInt8) : (parseS l).1.up = (parseS l).1.fr := by
  unfold parseS parseF
  repeat' split
  all_goals rfl
/-- One line that is taken. -/
theorem take_cases {st : StU} {l : List UInt8} (h : (takeS st l).2 = 0) :
    (∃ f, st.op = some f ∧ ¬ closeB f (parseS l).1 ∧ (takeS st l).1 = ⟨st.out ++ [rangeR f (parseS l).1], none, (parseS l).1.fr⟩) ∨
    (st.op = none ∧ st.was < (parseS l).1.fr ∧ ((takeS st l).1 = ⟨st.out, some (parseS l).1, st.was⟩ ∨ (takeS st l).1 = ⟨st.out ++ [(parseS l).1], none, (parseS l).1.fr⟩)) := by
  have hp : (parseS l).2 = 0 := by
    by_cases hp : (parseS l).2 = 0
    · exact hp
    · exfalso
      unfold takeS at h
      rw [if_pos hp] at h
      exact hp h
  have ht : takeS st l = takeR st (parseS l).1 := by unfold takeS; rw [if_neg (by rw [hp]; simp)]
  rw [ht] at h ⊢
  generalize (parseS l).1 = x at *
  unfold takeR at *
  cases hst : st.op with
  | some f =>
    simp only [hst] at h ⊢
    refine .inl ⟨f, rfl, ?_⟩
    split at h
    · simp at h
    · rename_i hi
      rw [if_neg hi]
      unfold closeS at *
      split at h
      · simp at h
      · rename_i hc
        rw [if_neg hc]
        exact ⟨hc, rfl⟩
  | none =>
    simp only [hst] at h ⊢
    refine .inr ⟨by trivial, ?_⟩
    split at h
    · simp at h
    · rename_i hi
      rw [if_neg hi]
      unfold freeS at *
      split at h
      · simp at h
      · rename_i hw
        rw [if_neg hw]
        refine ⟨by omega, ?_⟩
        split
        · exact .inl rfl
        · exact .inr rfl
/-- 'was' is the greatest character. -/
theorem rowsW_was : ∀ (L : List (Int × List UInt8)) (st : StU), st.was = lastUp st.out → (rowsW st L).1.was = lastUp (rowsW st L).1.out
  | [], st, h => h
  | p :: L, st, h => by
    by_cases he : (takeS st p.2).2 = 0
    · rw [rowsW_good he]
      refine rowsW_was L _ ?_
      rcases take_cases he with ⟨f, _, _, hh⟩ | ⟨_, _, hh | hh⟩
      · rw [hh, lastUp_snoc]; rfl
      · rw [hh]; exact h
      · rw [hh, lastUp_snoc, parse_up]
    · rw [rowsW_bad he]
      exact h
/-- Rows are only put to the end. -/
theorem rowsW_pre : ∀ (L : List (Int × List UInt8)) (st : StU), ∃ m, (rowsW st L).1.out = st.out ++ m
  | [], st => ⟨[], by simp [rowsW]⟩
  | p :: L, st => by
    by_cases he : (takeS st p.2).2 = 0
    · rw [rowsW_good he]
      obtain ⟨m, hm⟩ := rowsW_pre L (takeS st p.2).1
      rcases take_cases he with ⟨f, _, _, hh⟩ | ⟨_, _, hh | hh⟩
      · exact ⟨[rangeR f (parseS p.2).1] ++ m, by rw [hm, hh]; simp⟩
      · exact ⟨m, by rw [hm, hh]⟩
      · exact ⟨[(parseS p.2).1] ++ m, by rw [hm, hh]; simp⟩
    · rw [rowsW_bad he]
      exact ⟨[], by simp⟩
/-- The same, behind other rows. -/
def Sim (a : List RowS) (u : Int) (st1 st2 : StU) : Prop :=
  st1.out = a ++ st2.out ∧ st1.op = st2.op ∧ (st1.was = st2.was ∨ (st1.was = u ∧ st2.op.isSome = true))
theorem take_some {st : StU} {f : RowS} {l : List UInt8} (hs : st.op = some f) : (takeS st l).2 = (takeS ⟨[], some f, 0⟩ l).2 := by
  unfold takeS takeR closeS
  rw [hs]
  split
  · rfl
  · simp only []
    split
    · rfl
    · split <;> rfl
theorem take_none {st : StU} {l : List UInt8} (hs : st.op = none) : takeS st l = if (parseS l).2 ≠ 0 then (st, (parseS l).2) else if (innerS (parseS l).1.nm LSTB).2 = true then (st, 10) else freeS st (parseS l).1 := by
  unfold takeS takeR
  rw [hs]
theorem take_none_good {st : StU} {l : List UInt8} (hs : st.op = none) (h : (takeS st l).2 = 0) : takeS st l = freeS st (parseS l).1 ∧ (parseS l).2 = 0 ∧ (innerS (parseS l).1.nm LSTB).2 = false := by
  rw [take_none hs] at h ⊢
  by_cases hp : (parseS l).2 = 0
  · rw [if_neg (by rw [hp]; simp)] at h ⊢
    cases hi : (innerS (parseS l).1.nm LSTB).2
    · rw [hi] at h; simp at h ⊢; exact hp
    · rw [hi] at h; simp at h
  · rw [if_pos hp] at h
    exact absurd h hp
theorem sim_step {a : List RowS} {u : Int} {st1 st2 : StU} {l : List UInt8} (hS : Sim a u st1 st2) (h : (takeS st2 l).2 = 0) : (takeS st1 l).2 = 0 ∧ Sim a u (takeS st1 l).1 (takeS st2 l).1 := by
  obtain ⟨h1, h2, h3⟩ := hS
  cases hst : st2.op with
  | some f =>
    rw [hst] at h2
    have e1 : (takeS st1 l).2 = 0 := by rw [take_some h2, ← take_some hst]; exact h
    refine ⟨e1, ?_⟩
    rcases take_cases h with ⟨f2, hf2, _, hh2⟩ | ⟨hn, _⟩
    · rcases take_cases e1 with ⟨f1, hf1, _, hh1⟩ | ⟨hn, _⟩
      · rw [hh1, hh2]
        rw [hst] at hf2
        rw [h2] at hf1
        injection hf1 with hf1
        injection hf2 with hf2
        subst hf1
        subst hf2
        exact ⟨by simp [h1], rfl, .inl rfl⟩
      · rw [h2] at hn; cases hn
    · rw [hst] at hn; cases hn
  | none =>
    rw [hst] at h2
    have hw : st1.was = st2.was := by
      rcases h3 with h3 | ⟨_, h3⟩
      · exact h3
      · rw [hst] at h3; cases h3
    obtain ⟨e2, hp, hi⟩ := take_none_good hst h
    have e1 : takeS st1 l = freeS st1 (parseS l).1 := by rw [take_none h2, if_neg (by rw [hp]; simp), if_neg (by rw [hi]; simp)]
    rw [e1]
    rw [e2] at h ⊢
    unfold freeS at *
    rw [hw]
    split at h
    · simp at h
    · rename_i hg
      rw [if_neg hg, if_neg hg]
      split
      · exact ⟨rfl, h1, rfl, .inl rfl⟩
      · exact ⟨rfl, by simp [h1], rfl, .inl rfl⟩
theorem sim_all : ∀ (M : List (Int × List UInt8)) {a : List RowS} {u : Int} {st1 st2 : StU}, Sim a u st1 st2 → (rowsW st2 M).2.2 = 0 → (rowsW st1 M).2.2 = 0 ∧ Sim a u (rowsW st1 M).1 (rowsW st2 M).1
  | [], a, u, st1, st2, hS, h => ⟨rfl, hS⟩
  | p :: M, a, u, st1, st2, hS, h => by
    by_cases he : (takeS st2 p.2).2 = 0
    · obtain ⟨e1, hS2⟩ := sim_step hS he
      rw [rowsW_good he] at h ⊢
      rw [rowsW_good e1]
      exact sim_all M hS2 h
    · rw [rowsW_bad he] at h
      exact absurd h he
/-- The first row begins where the first line does. -/
theorem first_fr {p : Int × List UInt8} {M : List (Int × List UInt8)} {b : List RowS} {wa : Int} (h : rowsW ⟨[], none, -1⟩ (p :: M) = (⟨b, none, wa⟩, 0, 0)) : ∃ x m, b = x :: m ∧ x.fr = (parseS p.2).1.fr := by
  by_cases he : (takeS ⟨[], none, -1⟩ p.2).2 = 0
  · rw [rowsW_good he] at h
    rcases take_cases he with ⟨f, hf, _⟩ | ⟨_, _, hh | hh⟩
    · cases hf
    · rw [hh] at h
      cases M with
      | nil => simp [rowsW] at h
      | cons q M =>
        by_cases hq : (takeS ⟨[], some (parseS p.2).1, -1⟩ q.2).2 = 0
        · rw [rowsW_good hq] at h
          rcases take_cases hq with ⟨f, hf, _, hh2⟩ | ⟨hn, _⟩
          · injection hf with hf
            rw [hh2, ← hf] at h
            obtain ⟨m, hm⟩ := rowsW_pre M ⟨[] ++ [rangeR (parseS p.2).1 (parseS q.2).1], none, (parseS q.2).1.fr⟩
            rw [h] at hm
            exact ⟨_, m, hm, rfl⟩
          · cases hn
        · rw [rowsW_bad hq] at h
          have := congrArg (fun z => z.2.2) h
          exact absurd this hq
    · rw [hh] at h
      obtain ⟨m, hm⟩ := rowsW_pre M ⟨[] ++ [(parseS p.2).1], none, (parseS p.2).1.fr⟩
      rw [h] at hm
      exact ⟨_, m, hm, rfl⟩
  · rw [rowsW_bad he] at h
    have := congrArg (fun z => z.2.2) h
    exact absurd this he
/-- Lines behind other ones. -/
theorem rowsW_behind {M : List (Int × List UInt8)} {a b : List RowS} {wa : Int} (h : rowsW ⟨[], none, -1⟩ M = (⟨b, none, wa⟩, 0, 0)) :
    (M = [] ∧ b = []) ∨ (∃ p M' x m, M = p :: M' ∧ b = x :: m ∧ ((x.fr ≤ lastUp a ∧ rowsW ⟨a, none, lastUp a⟩ M = (⟨a, none, lastUp a⟩, p.1, 12)) ∨ (lastUp a < x.fr ∧ (rowsW ⟨a, none, lastUp a⟩ M).2.2 = 0 ∧ (rowsW ⟨a, none, lastUp a⟩ M).1.out = a ++ b ∧ (rowsW ⟨a, none, lastUp a⟩ M).1.op = none))) := by
  cases M with
  | nil =>
    left
    simp only [rowsW, Prod.mk.injEq, StU.mk.injEq] at h
    exact ⟨rfl, h.1.1.symm⟩
  | cons p M =>
    right
    obtain ⟨x, m, hb, hx⟩ := first_fr h
    refine ⟨p, M, x, m, rfl, hb, ?_⟩
    have he : (takeS ⟨[], none, -1⟩ p.2).2 = 0 := by
      by_cases he : (takeS ⟨[], none, -1⟩ p.2).2 = 0
      · exact he
      · rw [rowsW_bad he] at h
        have := congrArg (fun z => z.2.2) h
        exact absurd this he
    obtain ⟨e2, hp, hi⟩ := take_none_good rfl he
    have e1 : takeS ⟨a, none, lastUp a⟩ p.2 = freeS ⟨a, none, lastUp a⟩ (parseS p.2).1 := by rw [take_none rfl, if_neg (by rw [hp]; simp), if_neg (by rw [hi]; simp)]
    rw [rowsW_good he] at h
    by_cases hw : x.fr ≤ lastUp a
    · left
      refine ⟨hw, ?_⟩
      have e3 : takeS ⟨a, none, lastUp a⟩ p.2 = (⟨a, none, lastUp a⟩, 12) := by rw [e1]; unfold freeS; rw [if_pos (by rw [← hx]; exact hw)]
      rw [rowsW_bad (by rw [e3]; simp), e3]
    · right
      refine ⟨by omega, ?_⟩
      have hS : Sim a (lastUp a) (takeS ⟨a, none, lastUp a⟩ p.2).1 (takeS ⟨[], none, -1⟩ p.2).1 ∧ (takeS ⟨a, none, lastUp a⟩ p.2).2 = 0 := by
        rw [e1]
        rw [e2] at he ⊢
        unfold freeS at *
        split at he
        · simp at he
        · rename_i hg
          rw [if_neg hg, if_neg (by rw [← hx]; exact hw)]
          split
          · exact ⟨⟨by simp, rfl, .inr ⟨rfl, rfl⟩⟩, rfl⟩
          · exact ⟨⟨by simp, rfl, .inl rfl⟩, rfl⟩
      rw [rowsW_good hS.2]
      obtain ⟨r1, r2, r3, _⟩ := sim_all M hS.1 (by rw [h])
      rw [h] at r2 r3
      exact ⟨r1, r2, r3⟩
/-- THE LAW: the rows of two texts. -/
theorem rows_join {s t : List UInt8} {a b : List RowS} {n1 n2 : Int} (hs : rowsS s = (a, n1, 0)) (ht : rowsS t = (b, n2, 0)) (hl : s.length + t.length ≤ 4000) :
    (∃ x m n, a ≠ [] ∧ b = x :: m ∧ x.fr ≤ lastUp a ∧ 0 < n ∧ rowsS (s ++ 10 :: t) = ([], n, 12)) ∨ ((a = [] ∨ b = [] ∨ ∃ x m, b = x :: m ∧ lastUp a < x.fr) ∧ rowsS (s ++ 10 :: t) = (a ++ b, 0, 0)) := by
  have good : ∀ {u : List UInt8} {r : List RowS} {n : Int}, rowsS u = (r, n, 0) → (linesS u).2 = 0 ∧ ∃ wa, rowsW ⟨[], none, -1⟩ (linesS u).1 = (⟨r, none, wa⟩, 0, 0) := by
    intro u r n h
    unfold rowsS endU at h
    split at h
    · rename_i hh; exact absurd (congrArg (fun z => z.2.2) h) hh
    · rename_i hh
      refine ⟨by simpa using hh, ?_⟩
      split at h
      · rename_i h2; exact absurd (congrArg (fun z => z.2.2) h) h2
      · rename_i h2
        split at h
        · simp at h
        · rename_i h3
          have hz := rowsW_zero (linesS u).1 ⟨[], none, -1⟩ (by simpa using h2)
          obtain ⟨⟨⟨o, op, wa⟩, rest⟩, hq⟩ : ∃ z, z = rowsW ⟨[], none, -1⟩ (linesS u).1 := ⟨_, rfl⟩
          rw [← hq] at hz h3 h ⊢
          have hop : op = none := by cases op with | none => rfl | some f => simp at h3
          subst hop
          refine ⟨wa, ?_⟩
          rw [hz]
          have := congrArg (fun z => z.1) h
          simp only [] at this
          rw [this]
  obtain ⟨ls, wa, hA⟩ := good hs
  obtain ⟨lt, wb, hB⟩ := good ht
  obtain ⟨lj, hj⟩ := linesS_join ls lt hl
  have hA2 : wa = lastUp a := by
    have := rowsW_was (linesS s).1 ⟨[], none, -1⟩ rfl
    rw [hA] at this
    exact this
  subst hA2
  have hnum := rowsW_num (linesS t).1 (tellsK (cutL 10 s).length (cutL 10 t)) ⟨[], none, -1⟩ (by rw [(linesS_good lt).2.2]; exact tellsK_snd _ _ _)
  have hB2 : rowsW ⟨[], none, -1⟩ (tellsK (cutL 10 s).length (cutL 10 t)) = (⟨b, none, wb⟩, 0, 0) := by
    rw [hB] at hnum
    rw [rowsW_zero _ _ hnum.2.symm, ← hnum.1]
  have hpos := tellsK_pos (cutL 10 t) (cutL 10 s).length
  have hall : rowsW ⟨[], none, -1⟩ (linesS (s ++ 10 :: t)).1 = rowsW ⟨a, none, lastUp a⟩ (tellsK (cutL 10 s).length (cutL 10 t)) := by
    rw [hj, rowsW_app _ _ _ (by rw [hA]), hA]
  have hR : rowsS (s ++ 10 :: t) = endU (linesS (s ++ 10 :: t)).1 (rowsW ⟨a, none, lastUp a⟩ (tellsK (cutL 10 s).length (cutL 10 t))) := by
    unfold rowsS
    rw [if_neg (by rw [lj]; simp), hall]
  rw [hR]
  generalize tellsK (cutL 10 s).length (cutL 10 t) = M at *
  rcases rowsW_behind (a := a) hB2 with ⟨h1, h2⟩ | ⟨p, M', x, m, h1, h2, ⟨h3, h4⟩ | ⟨h3, h4, h5, h6⟩⟩
  · right
    refine ⟨.inr (.inl h2), ?_⟩
    rw [h1, h2]
    simp [rowsW, endU]
  · left
    have hx0 : -1 < x.fr := by
      have hf := first_fr (h1 ▸ hB2)
      obtain ⟨x', m', hx', hfr⟩ := hf
      rw [h2] at hx'
      injection hx' with hx' _
      subst hx'
      rw [hfr]
      have he : (takeS ⟨[], none, -1⟩ p.2).2 = 0 := by
        by_cases he : (takeS ⟨[], none, -1⟩ p.2).2 = 0
        · exact he
        · rw [h1, rowsW_bad he] at hB2
          have := congrArg (fun z => z.2.2) hB2
          exact absurd this he
      rcases take_cases he with ⟨f, hf, _⟩ | ⟨_, hw, _⟩
      · cases hf
      · exact hw
    refine ⟨x, m, p.1, ?_, h2, h3, hpos p (by rw [h1]; simp), ?_⟩
    · intro ha
      rw [ha, lastUp_nil] at h3
      omega
    · rw [h4]
      unfold endU
      rw [if_pos (by simp)]
  · right
    refine ⟨.inr (.inr ⟨x, m, h2, h3⟩), ?_⟩
    unfold endU
    rw [if_neg (by rw [h4]; simp), if_neg (by rw [h6]; simp), h5]
end Go.Proofs.YtggichcfklbjiaaGreatDoor
end
end
