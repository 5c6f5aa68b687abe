/- The law on rows as lines: true. -/
import Derived.Test.YtagncjnbabdbmaaGreatDoorUcdRQ
set_option linter.unusedSimpArgs false
set_option linter.unusedVariables false
namespace Go.Proofs.YtagncjnbabdbmaaGreatDoor
open Go.RowKit Go.Shelf

set_option maxRecDepth 20000 in
theorem plain5P_any (x : RowS) (A : Option Addr) (c : Nat) (w : World) :
    Calls Tryz.prog 5 #[rowV x A c] w fun e w' => e = .returned (rowV x A c) ∧ Below w.heap.size w w' := by
  obtain ⟨xf, xu, xn, xct, xcl, xk, xil⟩ := x
  simp only [rowV]
  go_enter Tryz.func5, Tryz.ntmps5
  go_wp2
  go_returns
  refine ⟨rfl, ?_⟩
  exact ((Below.refl _ _).alloc (Nat.le_refl _) _).alloc (by simp) _
/-- What a row of an argument has. -/
structure RowJ (x : RowS) : Prop where
  fr : -2147483648 ≤ x.fr ∧ x.fr ≤ 2147483647
  up : -2147483648 ≤ x.up ∧ x.up ≤ 2147483647
  cl : -9223372036854775808 ≤ x.cl ∧ x.cl ≤ 9223372036854775807
  nm : x.nm.length ≤ 9223372036854775807
  ct : x.ct.length ≤ 9223372036854775807
  kd : x.kd.length ≤ 9223372036854775807
  len : x.il.length ≤ 9223372036854775807
  il : ∀ z ∈ x.il, -2147483648 ≤ z ∧ z ≤ 2147483647
theorem take_rows {os : List RA} {k : Nat} {x : RA} {P : RA → Prop} (h : ∀ y ∈ os.take k, P y) (hx : os[k]? = some x) (hp : P x) : ∀ y ∈ os.take (k + 1), P y := by
  intro y hy
  rw [List.take_add_one, hx] at hy
  rcases List.mem_append.1 hy with hy | hy
  · exact h y hy
  · simp at hy
    subst hy
    exact hp
/-- What is asked of a row ahead. -/
def SmallR (x : RowS) : Prop := x.nm.length ≤ 300 ∧ x.ct.length ≤ 300 ∧ x.kd.length ≤ 300 ∧ x.il.length ≤ 60
theorem take_own {w : World} {A : Option Addr} {os : List RA} {k : Nat} {B c2 : Nat} {A2 : Option Addr} (hr : RowsRd w A os) (hk : k ≤ os.length) (hown : w.ownsRow B 28 7 (.slice A2 k c2) k (Vs (os.take k))) : RowsRd w A2 (os.take k) := by
  have hl : (os.take k).length = k := by rw [List.length_take]; omega
  obtain ⟨A', c', hv, _, _, hrd⟩ := RdK.of_own hown
  injection hv with h1 _ _
  subst h1
  refine ⟨by rw [hl]; exact hrd, fun x hx => hr.into x (List.mem_of_mem_take hx)⟩
set_option maxRecDepth 20000 in
set_option maxHeartbeats 8000000 in
theorem ucdprints_yes (A : Option Addr) (n c : Nat) (os : List RA) (w : World) (hE : Env w) (hT : TabP w) (hr : RowsRd w A os) (hn : os.length = n) (ho : ∀ x ∈ os, RowJ x.1) :
    Calls Tryz.prog 3 #[.slice A n c] w fun e w' => e = .returned (.bool true) ∧ Below w.heap.size w w' := by
  have HOL := Lib.hid hn
  have HO := Lib.hid ho
  clear hn ho
  by_cases hbig : 40 < n
  · have hb : (40 : Int) < (n : Int) := by omega
    go_enter Tryz.func3, Tryz.ntmps3
    go_wp2_with fail
    refine (awake5_any _ hE).mono ?_
    rintro e w1 ⟨rfl, hb1⟩
    go_wp2
    go_returns
    exact ⟨rfl, hb1⟩
  · have hni : (n : Int) ≤ 40 := by omega
    have hn40 : n ≤ 40 := by omega
    clear hbig
    go_enter Tryz.func3, Tryz.ntmps3
    go_wp2
    go_loopw [3, 4] (fun s i wr => ∃ (k : Nat) (A2 : Option Addr) (c2 : Nat), k ≤ n ∧ i = .int .i64 k ∧ s = .slice A2 k c2 ∧ Hid (∀ x ∈ os.take k, SmallR x.1) ∧ wr.ownsRow w.heap.size 28 7 (.slice A2 k c2) k (Vs (os.take k)) ∧ Below w.heap.size w wr) (fun _ i _ => n - (intOf i).toNat)
    case atStart => exact ⟨0, none, 0, Nat.zero_le _, rfl, rfl, (by show ∀ x ∈ os.take 0, _; simp), World.ownsRow_nil _ _ _ _, Below.refl _ _⟩
    case round =>
      obtain ⟨k, A2, c2, hk, rfl, rfl, HS, hown, hb⟩ := hrel
      have hsz := hb.size
      by_cases hlt : k < n
      · have hi : (k : Int) < (n : Int) := by omega
        obtain ⟨⟨x, Ax, cx⟩, hx⟩ : ∃ z, os[k]? = some z := ⟨_, List.getElem?_eq_getElem (by rw [HOL.out]; exact hlt)⟩
        obtain ⟨b, off, rfl, hbl, hcw⟩ := hr.at_ (by rw [HOL.out]; omega)
        have hcx : ∀ j u, (Vs os)[j]? = some u → wr.cell? ⟨b, off + j, none⟩ = some u := fun j u hu => cell_belowU (hcw j u hu) hb
        obtain ⟨x0, x1, x2, x3, x4, x5, x6⟩ := row_cells hx hcx
        have hm1 := mk8_size x.nm
        have hm2 := mk8_size x.ct
        have hm3 := mk8_size x.kd
        by_cases h1 : 300 < x.nm.length
        · have hki : (300 : Int) < ((mk8 x.nm).size : Int) := by omega
          clear hcx hcw hx hm1 hm2 hm3 h1 x0 x1 x4 HS hown
          go_wp2_with fail
          refine (awake5_any _ (hE.below hb)).mono ?_
          rintro e w21 ⟨rfl, hbn⟩
          go_wp2
          go_returns
          exact ⟨rfl, below_then hb hbn⟩
        have h1i : ((mk8 x.nm).size : Int) ≤ 300 := by omega
        by_cases h2 : 300 < x.ct.length
        · have hki : (300 : Int) < ((mk8 x.ct).size : Int) := by omega
          clear hcx hcw hx hm1 hm2 hm3 h1 h2 x0 x1 x4 HS hown
          go_wp2_with fail
          refine (awake5_any _ (hE.below hb)).mono ?_
          rintro e w21 ⟨rfl, hbn⟩
          go_wp2
          go_returns
          exact ⟨rfl, below_then hb hbn⟩
        have h2i : ((mk8 x.ct).size : Int) ≤ 300 := by omega
        by_cases h3 : 300 < x.kd.length
        · have hki : (300 : Int) < ((mk8 x.kd).size : Int) := by omega
          clear hcx hcw hx hm1 hm2 hm3 h1 h2 h3 x0 x1 x4 HS hown
          go_wp2_with fail
          refine (awake5_any _ (hE.below hb)).mono ?_
          rintro e w21 ⟨rfl, hbn⟩
          go_wp2
          go_returns
          exact ⟨rfl, below_then hb hbn⟩
        have h3i : ((mk8 x.kd).size : Int) ≤ 300 := by omega
        by_cases h4 : 60 < x.il.length
        · have hki : (60 : Int) < (x.il.length : Int) := by omega
          clear hcx hcw hx hm1 hm2 hm3 h1 h2 h3 h4 x0 x1 x4 HS hown
          go_wp2_with fail
          refine (awake5_any _ (hE.below hb)).mono ?_
          rintro e w21 ⟨rfl, hbn⟩
          go_wp2
          go_returns
          exact ⟨rfl, below_then hb hbn⟩
        have h4i : (x.il.length : Int) ≤ 60 := by omega
        have HS2 : Hid (∀ x ∈ os.take (k + 1), SmallR x.1) := take_rows (P := fun x => SmallR x.1) HS.out hx ⟨by show x.nm.length ≤ 300; omega, by show x.ct.length ≤ 300; omega, by show x.kd.length ≤ 300; omega, by show x.il.length ≤ 60; omega⟩
        have HP := fun w' => plain5P_any x Ax cx w'
        have hA := hr.into _ (List.mem_of_getElem? hx)
        have hxo : RowJ x := HO.out _ (List.mem_of_getElem? hx)
        have hkl : x.nm.length ≤ 300 ∧ x.ct.length ≤ 300 ∧ x.kd.length ≤ 300 ∧ x.il.length ≤ 60 := ⟨by omega, by omega, by omega, by omega⟩
        have HC1 := fun W' (hb' : Below w.heap.size w W') => check_any x Ax cx W' (hA.below hb') hxo.len hxo.nm hxo.ct
        have HC2 := fun W' (hb' : Below w.heap.size w W') => rcheck_any x Ax cx W' (hA.below hb') (by omega) (by omega) (by omega) (by omega)
        simp only [rowV] at HP HC1 HC2
        have HX := Lib.hid hx
        have HCX := Lib.hid hcw
        clear hx hcx hcw hm1 hm2 hm3 h1 h2 h3 h4 HS hA hxo hkl
        go_wp2_with fail
        refine (HP _).mono ?_
        rintro e w2 ⟨rfl, hb2⟩
        clear HP
        have hrow : rowC (x, Ax, cx) = [.int .i32 x.fr, .int .i32 x.up, .string (mk8 x.nm), .string (mk8 x.ct), .int .i64 x.cl, .string (mk8 x.kd), .slice Ax x.il.length cx] := rfl
        have hbA : Below w2.heap.size w2 (w2.alloc (.cells (rowC (x, Ax, cx)).toArray 28)) := (Below.refl _ _).alloc (Nat.le_refl _) _
        have hownA := own_belowK (own_belowK hown hb2) hbA
        have hrdA := RdK.new (k := 7) w2 28 1 (rowC (x, Ax, cx)) rfl
        have honeA := rowC_one (x, Ax, cx)
        have h63A : k + 1 ≤ 1099511627776 := by omega
        have hbyA : 88 ≤ 128 := by omega
        have hbsA : w.heap.size ≤ (w2.alloc (.cells (rowC (x, Ax, cx)).toArray 28)).heap.size := by have := hbA.size; have := hb2.size; omega
        have hbw2 := below_then hb2 hbA
        rw [hrow] at hownA hrdA honeA hbsA hbw2
        clear hbA hrow hb2
        go_wp2_with (at_builtin; refine wpList_appR rrowElem _ rfl _ _ rfl w.heap.size rfl hownA rfl hrdA honeA h63A hbyA hbsA ?_)
        intro A4 c4 W4 hown4 hg4
        have hbg : Below w.heap.size w W4 := below_appK (hb.trans (hbw2.mono hsz)) hbsA (Nat.le_refl _) hownA hg4
        have hown5 : W4.ownsRow w.heap.size 28 7 (.slice A4 (k + 1) c4) (k + 1) (Vs (os.take (k + 1))) := by rw [take_snoc' HX.out, Vs_snoc]; exact hown4
        have hrm := take_own (hr.below hbg) (by rw [HOL.out]; omega) hown5
        have hxk : (os.take (k + 1))[k]? = some (x, Ax, cx) := by rw [List.getElem?_take, if_pos (by omega)]; exact HX.out
        obtain ⟨b2, o2, hA4, hbl4, hcm⟩ := hrm.at_ (by rw [List.length_take, HOL.out]; omega)
        subst hA4
        have hcb : ∀ j u, (Vs os)[j]? = some u → W4.cell? ⟨b, off + j, none⟩ = some u := fun j u hu => cell_belowU (HCX.out j u hu) hbg
        obtain ⟨y0, y1, y2, y3, y4, y5, y6⟩ := row_cells HX.out hcb
        obtain ⟨z0, z1, z2, z3, z4, z5, z6⟩ := row_cells hxk hcm
        have MK : ∀ w' : World, Below W4.heap.size W4 w' → (w'.cell? ⟨b, off + k * 7, none⟩ = some (.int .i32 x.fr) ∧ w'.cell? ⟨b, off + k * 7 + 1, none⟩ = some (.int .i32 x.up) ∧ w'.cell? ⟨b, off + k * 7 + 2, none⟩ = some (.string (mk8 x.nm)) ∧ w'.cell? ⟨b, off + k * 7 + 3, none⟩ = some (.string (mk8 x.ct)) ∧ w'.cell? ⟨b, off + k * 7 + 4, none⟩ = some (.int .i64 x.cl) ∧ w'.cell? ⟨b, off + k * 7 + 5, none⟩ = some (.string (mk8 x.kd)) ∧ w'.cell? ⟨b, off + k * 7 + 6, none⟩ = some (.slice Ax x.il.length cx)) ∧ (w'.cell? ⟨b2, o2 + k * 7, none⟩ = some (.int .i32 x.fr) ∧ w'.cell? ⟨b2, o2 + k * 7 + 1, none⟩ = some (.int .i32 x.up) ∧ w'.cell? ⟨b2, o2 + k * 7 + 2, none⟩ = some (.string (mk8 x.nm)) ∧ w'.cell? ⟨b2, o2 + k * 7 + 3, none⟩ = some (.string (mk8 x.ct)) ∧ w'.cell? ⟨b2, o2 + k * 7 + 4, none⟩ = some (.int .i64 x.cl) ∧ w'.cell? ⟨b2, o2 + k * 7 + 5, none⟩ = some (.string (mk8 x.kd)) ∧ w'.cell? ⟨b2, o2 + k * 7 + 6, none⟩ = some (.slice Ax x.il.length cx)) ∧ Below W4.heap.size W4 w' := fun w' hb' =>
          ⟨⟨cell_belowU y0 hb', cell_belowU y1 hb', cell_belowU y2 hb', cell_belowU y3 hb', cell_belowU y4 hb', cell_belowU y5 hb', cell_belowU y6 hb'⟩,
           ⟨cell_belowU z0 hb', cell_belowU z1 hb', cell_belowU z2 hb', cell_belowU z3 hb', cell_belowU z4 hb', cell_belowU z5 hb', cell_belowU z6 hb'⟩, hb'⟩
        have HMK := Lib.hid MK
        replace HC1 := fun W' (hb' : Below W4.heap.size W4 W') => HC1 W' (below_then hbg hb')
        replace HC2 := fun W' (hb' : Below W4.heap.size W4 W') => HC2 W' (below_then hbg hb')
        have HBG := Lib.hid hbg
        have hcc : (checkS x != checkS x) = false := by simp
        have hik : (k : Int) < ((k + 1 : Nat) : Int) := by omega
        clear MK y0 y1 y2 y3 y4 y5 y6 z0 z1 z2 z3 z4 z5 z6 hcb hcm hrm hxk hown4 hg4 hownA hrdA honeA h63A hbyA hbsA hbw2 x0 x1 x2 x3 x4 x5 x6 hb hbg
        go_upto_region 10 with fail
        refine wp_region_held_drew (S := fun w' => (w'.cell? ⟨b, off + k * 7, none⟩ = some (.int .i32 x.fr) ∧ w'.cell? ⟨b, off + k * 7 + 1, none⟩ = some (.int .i32 x.up) ∧ w'.cell? ⟨b, off + k * 7 + 2, none⟩ = some (.string (mk8 x.nm)) ∧ w'.cell? ⟨b, off + k * 7 + 3, none⟩ = some (.string (mk8 x.ct)) ∧ w'.cell? ⟨b, off + k * 7 + 4, none⟩ = some (.int .i64 x.cl) ∧ w'.cell? ⟨b, off + k * 7 + 5, none⟩ = some (.string (mk8 x.kd)) ∧ w'.cell? ⟨b, off + k * 7 + 6, none⟩ = some (.slice Ax x.il.length cx)) ∧ (w'.cell? ⟨b2, o2 + k * 7, none⟩ = some (.int .i32 x.fr) ∧ w'.cell? ⟨b2, o2 + k * 7 + 1, none⟩ = some (.int .i32 x.up) ∧ w'.cell? ⟨b2, o2 + k * 7 + 2, none⟩ = some (.string (mk8 x.nm)) ∧ w'.cell? ⟨b2, o2 + k * 7 + 3, none⟩ = some (.string (mk8 x.ct)) ∧ w'.cell? ⟨b2, o2 + k * 7 + 4, none⟩ = some (.int .i64 x.cl) ∧ w'.cell? ⟨b2, o2 + k * 7 + 5, none⟩ = some (.string (mk8 x.kd)) ∧ w'.cell? ⟨b2, o2 + k * 7 + 6, none⟩ = some (.slice Ax x.il.length cx)) ∧ Below W4.heap.size W4 w') (by kernel_rfl) (HMK.out _ (Drew.to ⟨1, rfl⟩)) (fun hH => ?_)
        refine wpAnyH_take (i := 0) (v := .slice (some ⟨b, off, none⟩) n c) rfl (by kernel_rfl) (by kernel_rfl) (by kernel_rfl) (fun _ _ _ h => h) (Or.inl ⟨by kernel_rfl, ?_⟩) hH ?_
        · intro w hSw
          (try dsimp only at hSw)
          go_simp
          try with_reducible rfl
        simp only [List.getElem_toArray, List.getElem_cons_succ, List.getElem_cons_zero, Act.put, List.setIfInBounds_toArray, List.set_cons_zero, List.set_cons_succ]
        refine wpAnyH_take (i := 1) (v := .int .i64 k) rfl (by kernel_rfl) (by kernel_rfl) (by kernel_rfl) (fun _ _ _ h => h) (Or.inl ⟨by kernel_rfl, ?_⟩) hH ?_
        · intro w hSw
          (try dsimp only at hSw)
          go_simp
          try with_reducible rfl
        simp only [List.getElem_toArray, List.getElem_cons_succ, List.getElem_cons_zero, Act.put, List.setIfInBounds_toArray, List.set_cons_zero, List.set_cons_succ]
        refine wpAnyH_take (i := 2) (v := .pointer (some ⟨b, off + k * 7, none⟩)) rfl (by kernel_rfl) (by kernel_rfl) (by kernel_rfl) (fun _ _ _ h => h) (Or.inl ⟨by kernel_rfl, ?_⟩) hH ?_
        · intro w hSw
          (try dsimp only at hSw)
          go_simp
          try with_reducible rfl
        simp only [List.getElem_toArray, List.getElem_cons_succ, List.getElem_cons_zero, Act.put, List.setIfInBounds_toArray, List.set_cons_zero, List.set_cons_succ]
        refine wpAnyH_take (i := 3) (v := .agg #[.int .i32 x.fr, .int .i32 x.up, .string (mk8 x.nm), .string (mk8 x.ct), .int .i64 x.cl, .string (mk8 x.kd), .slice Ax x.il.length cx]) rfl (by kernel_rfl) (by kernel_rfl) (by kernel_rfl) (fun _ _ _ h => h) (Or.inl ⟨by kernel_rfl, ?_⟩) hH ?_
        · intro w hSw
          (try dsimp only at hSw)
          go_simp
          try with_reducible rfl
        simp only [List.getElem_toArray, List.getElem_cons_succ, List.getElem_cons_zero, Act.put, List.setIfInBounds_toArray, List.set_cons_zero, List.set_cons_succ]
        refine wpAnyH_take (i := 5) (v := .slice (some ⟨b2, o2, none⟩) (k + 1 : Nat) c4) rfl (by kernel_rfl) (by kernel_rfl) (by kernel_rfl) (fun _ _ _ h => h) (Or.inl ⟨by kernel_rfl, ?_⟩) hH ?_
        · intro w hSw
          (try dsimp only at hSw)
          go_simp
          try with_reducible rfl
        simp only [List.getElem_toArray, List.getElem_cons_succ, List.getElem_cons_zero, Act.put, List.setIfInBounds_toArray, List.set_cons_zero, List.set_cons_succ]
        refine wpAnyH_take (i := 6) (v := .int .i64 k) rfl (by kernel_rfl) (by kernel_rfl) (by kernel_rfl) (fun _ _ _ h => h) (Or.inl ⟨by kernel_rfl, ?_⟩) hH ?_
        · intro w hSw
          (try dsimp only at hSw)
          go_simp
          try with_reducible rfl
        simp only [List.getElem_toArray, List.getElem_cons_succ, List.getElem_cons_zero, Act.put, List.setIfInBounds_toArray, List.set_cons_zero, List.set_cons_succ]
        refine wpAnyH_take (i := 7) (v := .pointer (some ⟨b2, o2 + k * 7, none⟩)) rfl (by kernel_rfl) (by kernel_rfl) (by kernel_rfl) (fun _ _ _ h => h) (Or.inl ⟨by kernel_rfl, ?_⟩) hH ?_
        · intro w hSw
          (try dsimp only at hSw)
          go_simp
          all_goals try (intro hh; exfalso; omega)
          all_goals try with_reducible rfl
        simp only [List.getElem_toArray, List.getElem_cons_succ, List.getElem_cons_zero, Act.put, List.setIfInBounds_toArray, List.set_cons_zero, List.set_cons_succ]
        refine wpAnyH_take (i := 8) (v := .agg #[.int .i32 x.fr, .int .i32 x.up, .string (mk8 x.nm), .string (mk8 x.ct), .int .i64 x.cl, .string (mk8 x.kd), .slice Ax x.il.length cx]) rfl (by kernel_rfl) (by kernel_rfl) (by kernel_rfl) (fun _ _ _ h => h) (Or.inl ⟨by kernel_rfl, ?_⟩) hH ?_
        · intro w hSw
          (try dsimp only at hSw)
          go_simp
          try with_reducible rfl
        simp only [List.getElem_toArray, List.getElem_cons_succ, List.getElem_cons_zero, Act.put, List.setIfInBounds_toArray, List.set_cons_zero, List.set_cons_succ]
        refine wpAnyH_ready (rs := [4]) (by kernel_rfl) (by simp) ?_
        refine AllReadyH.cons rfl (fun K hK => ?_) AllReadyH.nil
        go_simp
        refine (HC1 _ hH.2.2).mono ?_
        rintro e w5 ⟨rfl, hb5⟩
        refine hK.out _ _ (HMK.out _ (below_then hH.2.2 hb5)) (fun hHb => ?_)
        clear hK K hH
        try simp only [List.getElem_toArray, List.getElem_cons_succ, List.getElem_cons_zero, Act.put, List.setIfInBounds_toArray, List.set_cons_zero, List.set_cons_succ]
        refine wpAnyH_ready (rs := [9]) (by kernel_rfl) (by simp) ?_
        refine AllReadyH.cons rfl (fun K hK => ?_) AllReadyH.nil
        go_simp
        refine (HC2 _ hHb.2.2).mono ?_
        rintro e w6 ⟨rfl, hb6⟩
        refine hK.out _ _ (HMK.out _ (below_then hHb.2.2 hb6)) (fun hHc => ?_)
        clear hK K hHb
        try simp only [List.getElem_toArray, List.getElem_cons_succ, List.getElem_cons_zero, Act.put, List.setIfInBounds_toArray, List.set_cons_zero, List.set_cons_succ]
        refine wpAnyH_take (i := 10) (v := .bool false) rfl (by kernel_rfl) (by kernel_rfl) (by kernel_rfl) (fun _ _ _ h => h) (Or.inl ⟨by kernel_rfl, ?_⟩) hHc ?_
        · intro w hSw
          (try dsimp only at hSw)
          go_simp
          try with_reducible rfl
        simp only [List.getElem_toArray, List.getElem_cons_succ, List.getElem_cons_zero, Act.put, List.setIfInBounds_toArray, List.set_cons_zero, List.set_cons_succ]
        refine wpAnyH_done (by kernel_rfl) ?_ _
        have hfin := HBG.out.trans (hHc.2.2.mono HBG.out.size)
        have hown6 := own_belowK hown5 hHc.2.2
        clear HMK HC1 HC2 hHc hown5
        go_wp2
        go_roundw
        case rel => exact ⟨k + 1, _, c4, by omega, by go_num, rfl, HS2, hown6, hfin⟩
        case measure => simp [intOf]; omega
      · have hi : (n : Int) ≤ (k : Int) := by omega
        have hkn : k = n := by omega
        subst hkn
        have hall : os.take k = os := List.take_of_length_le (by rw [HOL.out]; exact Nat.le_refl _)
        have hsm : ∀ x ∈ os, SmallR x.1 := by
          have := HS.out
          rwa [hall] at this
        have PR := print_any A k c os wr (tabP_below hT hb) (hr.below hb) HOL.out (fun x hx => ⟨(HO.out x hx).fr, (HO.out x hx).up, (HO.out x hx).cl, (HO.out x hx).nm, (HO.out x hx).ct, by have := (hsm x hx).2.2.1; omega, (HO.out x hx).len, (HO.out x hx).il⟩) (by omega)
        have hrm := take_own (hr.below hb) (by rw [HOL.out]; exact Nat.le_refl _) hown
        rw [hall] at hrm
        have RP := fun w' (hb' : Below wr.heap.size wr w') => rprint_any A2 k c2 os w' (hrm.below hb') HOL.out (fun x hx => ⟨(HO.out x hx).fr, (HO.out x hx).up, (HO.out x hx).cl, (hsm x hx).1, (hsm x hx).2.1, (hsm x hx).2.2.1, (hsm x hx).2.2.2, (HO.out x hx).il⟩) (by omega)
        obtain ⟨⟨s, e⟩, hse⟩ : ∃ z, z = printS (os.map (·.1)) := ⟨_, rfl⟩
        rw [← hse] at PR RP
        have hs1 := str_eq_self (mk8 s)
        have he1 : (e == e) = true := by simp
        clear hse hall hsm hrm HS hown
        go_wp2_with fail
        refine PR.mono ?_
        rintro q w1 ⟨rfl, hb1⟩
        go_wp2_with fail
        refine (RP _ hb1).mono ?_
        rintro q w2 ⟨rfl, hb2⟩
        have hb3 := below_then hb (below_then hb1 hb2)
        clear PR RP
        go_wp2_with fail
        refine (awake5_any _ (hE.below hb3)).mono ?_
        rintro q w3 ⟨rfl, hb4⟩
        go_wp2
        go_returns
        exact ⟨rfl, below_then hb3 hb4⟩
end Go.Proofs.YtagncjnbabdbmaaGreatDoor
