/- A thing is added: the code. -/
import Derived.Test.YthfakejhkbelhaaDoorNmsE
import Derived.Deep.RegionHeld3
set_option linter.unusedSimpArgs false
set_option linter.unusedVariables false
namespace Go.Proofs.YthfakejhkbelhaaDoor
open Go.RowKit

section
variable {B r : Nat} {w : World} {os : List TA} {A : Option Addr} {c : Nat}
/-- Behind the store: what Add leaves. -/
theorem add_fin {wD w6 W w7 : World} {A6 A7 : Option Addr} {c6 c7 n2 : Nat} {x : Int} {nm : List UInt8} {ls : List (List UInt8)} (h : RegAt B r w os A c) (hbD : Below w.heap.size w wD) (hb6 : Below wD.heap.size wD w6) (hbA : Below w6.heap.size w6 W)
    (hown6 : w6.ownsRow wD.heap.size 9 1 (.slice A6 n2 c6) n2 (Ss ls)) (hot : ∀ y ∈ os, ∀ g, (otV y).ownBlock = some g → g < w.heap.size) (h7 : RegAt B r W os A c) (hx7 : W.ownsRow wD.heap.size 9 1 (.slice A6 n2 c6) n2 (Ss ls)) (hlen : os.length < 256) (hll : ls.length = n2) (hn2 : n2 ≤ 1000)
    (hown7 : w7.ownsRow B 71 3 (.slice A7 (os.length + 1) c7) (os.length + 1) (Ts os ++ tC (⟨x, nm, ls⟩, A6, c6))) (hg7 : W.grownBy w7 (Value.slice A os.length c).ownBlock)
    (hat7 : (Value.slice A7 (os.length + 1) c7).ownBlock = (Value.slice A os.length c).ownBlock ∨ (Value.slice A7 (os.length + 1) c7).ownBlock = some W.heap.size) :
    RegPost B r w os A c (os.map (·.1) ++ [⟨x, nm, ls⟩]) (w7.setCell ⟨r, 0, none⟩ (.slice A7 (os.length + 1) c7)) := by
  subst hll
  have hzD := hbD.size
  have hz6 := hb6.size
  have hzA := hbA.size
  have hz7 := hg7.size
  have hB := h.base
  have hbW : Below w.heap.size w W := below_then (below_then hbD hb6) hbA
  have hxB : W.ownsRow B 9 1 (otV (⟨x, nm, ls⟩, A6, c6)) ls.length (Ss ls) := own_base hx7 (by omega)
  have hR := reg_app h7 (⟨x, nm, ls⟩, A6, c6) hxB (H := w.heap.size) (fun g hg => by have := (own_blk hx7 hg).1; omega) hot hlen (by show ls.length ≤ 1000000; omega) hown7 hg7
  refine ⟨os ++ [(⟨x, nm, ls⟩, A6, c6)], A7, c7, by simp, hR, ?_, ?_, ?_⟩
  · have h1 : Below B W w7 := (Below.refl B W).grown hg7 h7.base (fun g hg => (own_blk h7.own hg).1)
    exact ((hbW.mono hB).trans h1).setCell (p := ⟨r, 0, none⟩) h.rb _
  · intro g hg hn
    have hr : g ≠ r := fun e => hn (.inl e)
    rw [Below.heap_setCell w7 ⟨r, 0, none⟩ _ g hr, hg7.block g (by omega) (fun e => hn (.inr (.inl e.symm)))]
    exact hbW.block g hg
  · intro g hg
    rcases hg with hg | hg | ⟨y, hy, hg⟩
    · exact .inl (.inl hg)
    · rw [List.length_append, List.length_singleton] at hg
      rcases hat7 with h1 | h1
      · exact .inl (.inr (.inl (h1 ▸ hg)))
      · rw [h1] at hg
        injection hg with hg
        exact .inr (by omega)
    · rcases List.mem_append.1 hy with hy | hy
      · exact .inl (.inr (.inr ⟨y, hy, hg⟩))
      · rw [List.mem_singleton] at hy
        subst hy
        have := (own_blk hx7 hg).1
        exact .inr (by omega)
set_option maxRecDepth 20000 in
set_option maxHeartbeats 4000000 in
theorem Add_any (h : RegAt B r w os A c) (hE : EnvN w) (x : Int) (nm : List UInt8) (A2 : Option Addr) (n2 c2 : Nat) (ls : List (List UInt8)) (hr2 : Rd w A2 n2 (Ss ls)) (hnil2 : A2 = none → n2 = 0 ∧ c2 = 0) (hn2 : n2 ≤ 1000) :
    Calls Tryd.prog 25 #[.pointer (some ⟨r, 0, none⟩), .int .i64 x, .string (mk8 nm), .slice A2 n2 c2] w fun e w' => e = .returned (.int .i64 (addN (os.map (·.1)) x nm ls).2) ∧ RegPost B r w os A c (addN (os.map (·.1)) x nm ls).1 w' := by
  have hll : ls.length = n2 := by have := hr2.1; simpa [Ss] using this
  have hLl : (os.map (·.1)).length = os.length := List.length_map _
  have hb1 : Below w.heap.size w (w.alloc (.cells #[.string (mk8 nm)] 9)) := (Below.refl _ _).alloc (Nat.le_refl _) _
  have own1 := own_new w 9 [.string (mk8 nm)] (show 1 ≤ maxLen by decide)
  have hrb := hr2.below hb1
  have hone := Ss_one ls
  obtain ⟨fe, hfe⟩ : ∃ fe, fe = freshN (os.map (·.1)) (nm :: ls) := ⟨_, rfl⟩
  have FR0 : ∀ W, Below w.heap.size w W → ∀ A3 c3, Rd W A3 (1 + n2) (Ss (nm :: ls)) → 1 + n2 ≤ c3 → Calls Tryd.prog 43 #[.pointer (some ⟨r, 0, none⟩), .slice A3 (1 + n2) c3] W fun e w' => e = .returned (.int .i64 fe) ∧ Below W.heap.size W w' := fun W hb A3 c3 hrd hnc => by
    rw [hfe]
    exact freshN_any (h.below hb) (hE.below hb) A3 (1 + n2) c3 (nm :: ls) hrd (by omega) hnc
  obtain ⟨ad, had⟩ : ∃ ad, ad = addN (os.map (·.1)) x nm ls := ⟨_, rfl⟩
  rw [← had]
  go_enter Tryd.func25, Tryd.ntmps25
  go_wp2_with (at_builtin; refine wpList_app strElem _ rfl _ _ rfl w.heap.size rfl own1 rfl hrb hone (by simp; omega) (by omega) (by simp) ?_)
  intro A3 c3 w3 hown3 hg3 hat3
  have hb3 := below_app hb1 (by simp) own1 hg3
  have hown4 : w3.ownsRow w.heap.size 9 1 (.slice A3 (1 + n2) c3) (1 + n2) (Ss (nm :: ls)) := by simpa [Ss] using hown3
  obtain ⟨A', c', hv, hnc, _, hrd⟩ := Rd.of_own hown4
  injection hv with hv1 _ hv2
  subst hv1 hv2
  have FR := FR0 w3 hb3 A3 c3 hrd hnc
  clear hown3 hown4 hg3 hat3 own1 hrb hone FR0 hrd hnc hb1
  go_wp2_with fail
  refine FR.mono ?_
  rintro e w4 ⟨rfl, hb4⟩
  have hb5 := below_then hb3 hb4
  clear FR hb4 hb3
  by_cases hf0 : fe = 0
  · have h4 := h.below hb5
    have hc := box_cell h4.cell 0 rfl
    by_cases hl : os.length = 256
    · have hA : Hid (ad = (os.map (·.1), 14)) := by
        show _ = _
        rw [had]
        unfold addN
        rw [← hfe, if_neg (by simp [hf0]), if_pos (by rw [hLl]; exact hl)]
      subst hf0
      have hli : ((os.length : Int) == 256) = true := by simp [hl]
      have hli2 : (os.length : Int) = 256 := by omega
      have HP := Lib.hid (RegPost.same h hb5)
      clear hfe had h4 hl hb5
      go_wp2
      go_returns
      exact ⟨by rw [hA.out] <;> rfl, by rw [hA.out]; exact HP.out⟩
    · have hA : Hid (ad = (os.map (·.1) ++ [⟨x, nm, ls⟩], 0)) := by
        show _ = _
        rw [had]
        unfold addN
        rw [← hfe, if_neg (by simp [hf0]), if_neg (by rw [hLl]; exact hl)]
      subst hf0
      have hli : ((os.length : Int) == 256) = false := by simp; omega
      have CL := fun w' (hb' : Below w.heap.size w w') => sclone_any A2 n2 c2 ls w' (hr2.below hb') hnil2 (by omega)
      have HOT : Hid (∀ y ∈ os, ∀ g, (otV y).ownBlock = some g → g < w.heap.size) := fun y hy g hg => box_lt (own_blk (h.ot y hy) hg).2.choose_spec
      have HLEN : Hid (os.length < 256) := by have := h.len; show _ < _; omega
      have h4d := h4.below (Drew.to ⟨1, rfl⟩ : Below w4.heap.size w4 w4.drew)
      have hbD := below_then hb5 (Drew.to ⟨1, rfl⟩ : Below w4.heap.size w4 w4.drew)
      have hBw := h4d.base
      clear hfe had hl
      go_upto_region 8 with fail
      have hrow : ∀ A6 c6, tC (⟨x, nm, ls⟩, A6, c6) = [.int .i64 x, .string (mk8 nm), .slice A6 n2 c6] := fun A6 c6 => by simp only [tC]; rw [hll]
      refine wp_region_held_drew (S := fun _ => True) (by kernel_rfl) trivial (fun _ => ?_)
      refine wpAnyH_take (i := 0) (v := .pointer (some ⟨r, 0, none⟩)) rfl (by kernel_rfl) (by kernel_rfl) (by kernel_rfl) (fun _ _ _ h => h) (Or.inl ⟨by kernel_rfl, ?_⟩) trivial ?_
      · intro w hSw
        go_simp
        all_goals try with_reducible rfl
      try simp only [List.getElem_toArray, List.getElem_cons_succ, List.getElem_cons_zero, Act.put, List.setIfInBounds_toArray, List.set_cons_zero, List.set_cons_succ]
      refine wpAnyH_take (i := 1) (v := .pointer (some ⟨r, 0, none⟩)) rfl (by kernel_rfl) (by kernel_rfl) (by kernel_rfl) (fun _ _ _ h => h) (Or.inl ⟨by kernel_rfl, ?_⟩) trivial ?_
      · intro w hSw
        go_simp
        all_goals try with_reducible rfl
      try simp only [List.getElem_toArray, List.getElem_cons_succ, List.getElem_cons_zero, Act.put, List.setIfInBounds_toArray, List.set_cons_zero, List.set_cons_succ]
      refine wpAnyH_take (i := 2) (v := .pointer (some ⟨r, 0, none⟩)) rfl (by kernel_rfl) (by kernel_rfl) (by kernel_rfl) (fun _ _ _ h => h) (Or.inl ⟨by kernel_rfl, ?_⟩) trivial ?_
      · intro w hSw
        go_simp
        all_goals try with_reducible rfl
      try simp only [List.getElem_toArray, List.getElem_cons_succ, List.getElem_cons_zero, Act.put, List.setIfInBounds_toArray, List.set_cons_zero, List.set_cons_succ]
      refine wpAnyH_take (i := 3) (v := .pointer (some ⟨r, 0, none⟩)) rfl (by kernel_rfl) (by kernel_rfl) (by kernel_rfl) (fun _ _ _ h => h) (Or.inl ⟨by kernel_rfl, ?_⟩) trivial ?_
      · intro w hSw
        go_simp
        all_goals try with_reducible rfl
      try simp only [List.getElem_toArray, List.getElem_cons_succ, List.getElem_cons_zero, Act.put, List.setIfInBounds_toArray, List.set_cons_zero, List.set_cons_succ]
      refine wpAnyH_take (i := 4) (v := .pointer (some ⟨r, 0, none⟩)) rfl (by kernel_rfl) (by kernel_rfl) (by kernel_rfl) (fun _ _ _ h => h) (Or.inl ⟨by kernel_rfl, ?_⟩) trivial ?_
      · intro w hSw
        go_simp
        all_goals try with_reducible rfl
      try simp only [List.getElem_toArray, List.getElem_cons_succ, List.getElem_cons_zero, Act.put, List.setIfInBounds_toArray, List.set_cons_zero, List.set_cons_succ]
      refine wpAnyH_take (i := 6) (v := .int .i64 x) rfl (by kernel_rfl) (by kernel_rfl) (by kernel_rfl) (fun _ _ _ h => h) (Or.inl ⟨by kernel_rfl, ?_⟩) trivial ?_
      · intro w hSw
        go_simp
        all_goals try with_reducible rfl
      try simp only [List.getElem_toArray, List.getElem_cons_succ, List.getElem_cons_zero, Act.put, List.setIfInBounds_toArray, List.set_cons_zero, List.set_cons_succ]
      refine wpAnyH_take (i := 7) (v := .string (mk8 nm)) rfl (by kernel_rfl) (by kernel_rfl) (by kernel_rfl) (fun _ _ _ h => h) (Or.inl ⟨by kernel_rfl, ?_⟩) trivial ?_
      · intro w hSw
        go_simp
        all_goals try with_reducible rfl
      try simp only [List.getElem_toArray, List.getElem_cons_succ, List.getElem_cons_zero, Act.put, List.setIfInBounds_toArray, List.set_cons_zero, List.set_cons_succ]
      refine wpAnyH_take (i := 8) (v := .slice A2 n2 c2) rfl (by kernel_rfl) (by kernel_rfl) (by kernel_rfl) (fun _ _ _ h => h) (Or.inl ⟨by kernel_rfl, ?_⟩) trivial ?_
      · intro w hSw
        go_simp
        all_goals try with_reducible rfl
      try simp only [List.getElem_toArray, List.getElem_cons_succ, List.getElem_cons_zero, Act.put, List.setIfInBounds_toArray, List.set_cons_zero, List.set_cons_succ]
      refine wpAnyH_ready (rs := [5, 9]) (by kernel_rfl) (by simp) ?_
      refine AllReadyH.cons rfl (fun K hK => ?_) (AllReadyH.cons rfl (fun K hK => ?_) AllReadyH.nil)
      · go_simp
        refine hK.out _ _ trivial (fun _ => ?_)
        clear hK K
        try simp only [List.getElem_toArray, List.getElem_cons_succ, List.getElem_cons_zero, Act.put, List.setIfInBounds_toArray, List.set_cons_zero, List.set_cons_succ]
        refine wpAnyH_ready (rs := [9]) (by kernel_rfl) (by simp) ?_
        refine AllReadyH.cons rfl (fun K hK => ?_) AllReadyH.nil
        go_simp
        refine (CL _ hbD).mono ?_
        rintro e w6 ⟨A6, c6, rfl, hown6, hb6⟩
        have h6 := h4d.below hb6
        have hc6 := box_cell h6.cell 0 rfl
        refine hK.out _ _ trivial (fun _ => ?_)
        clear hK K
        try simp only [List.getElem_toArray, List.getElem_cons_succ, List.getElem_cons_zero, Act.put, List.setIfInBounds_toArray, List.set_cons_zero, List.set_cons_succ]
        refine wpAnyH_take (i := 10) (v := .agg #[.int .i64 x, .string (mk8 nm), .slice A6 n2 c6]) rfl (by kernel_rfl) (by kernel_rfl) (by kernel_rfl) (fun _ _ _ h => h) (Or.inl ⟨by kernel_rfl, ?_⟩) trivial ?_
        · intro w hSw
          go_simp
          all_goals try with_reducible rfl
        try simp only [List.getElem_toArray, List.getElem_cons_succ, List.getElem_cons_zero, Act.put, List.setIfInBounds_toArray, List.set_cons_zero, List.set_cons_succ]
        refine wpAnyH_ready (rs := [11]) (by kernel_rfl) (by simp) ?_
        refine AllReadyH.cons rfl (fun K hK => ?_) AllReadyH.nil
        go_simp
        have hbA : Below w6.heap.size w6 (w6.alloc (.cells #[.int .i64 x, .string (mk8 nm), .slice A6 n2 c6] 71)) := (Below.refl _ _).alloc (Nat.le_refl _) _
        have hrdA := RdK.new (k := 3) w6 71 1 [.int .i64 x, .string (mk8 nm), .slice A6 n2 c6] rfl
        have hnA : (⟨w6.heap.size, 0, none⟩ : Addr).block < (w6.alloc (.cells #[.int .i64 x, .string (mk8 nm), .slice A6 n2 c6] 71)).heap.size := by simp
        have h7 := h6.below hbA
        have hx7 := own_belowK hown6 hbA
        have hc7 := box_cell h7.cell 0 rfl
        refine hK.out _ _ trivial (fun _ => ?_)
        clear hK K
        try simp only [List.getElem_toArray, List.getElem_cons_succ, List.getElem_cons_zero, Act.put, List.setIfInBounds_toArray, List.set_cons_zero, List.set_cons_succ]
        refine wpAnyH_ready (rs := [12]) (by kernel_rfl) (by simp) ?_
        refine AllReadyH.cons rfl (fun K hK => ?_) AllReadyH.nil
        refine step_appK entElem _ rfl (.tmp 33) (.tmp 39) rfl B rfl h7.own rfl hrdA (hrow A6 c6 ▸ tC_one (⟨x, nm, ls⟩, A6, c6)) (by have := HLEN.out; omega) (by omega) h7.base ?_
        intro A7 c7 w7 hown7 hg7 hat7
        refine hK.out _ _ trivial (fun _ => ?_)
        clear hK K
        try simp only [List.getElem_toArray, List.getElem_cons_succ, List.getElem_cons_zero, Act.put, List.setIfInBounds_toArray, List.set_cons_zero, List.set_cons_succ]
        refine wpAnyH_take (i := 13) (v := .pointer (some ⟨r, 0, none⟩)) rfl (by kernel_rfl) (by kernel_rfl) (by kernel_rfl) (fun _ _ _ h => h) (Or.inl ⟨by kernel_rfl, ?_⟩) trivial ?_
        · intro w hSw
          go_simp
          all_goals try with_reducible rfl
        try simp only [List.getElem_toArray, List.getElem_cons_succ, List.getElem_cons_zero, Act.put, List.setIfInBounds_toArray, List.set_cons_zero, List.set_cons_succ]
        refine wpAnyH_take (i := 14) (v := .pointer (some ⟨r, 0, none⟩)) rfl (by kernel_rfl) (by kernel_rfl) (by kernel_rfl) (fun _ _ _ h => h) (Or.inl ⟨by kernel_rfl, ?_⟩) trivial ?_
        · intro w hSw
          go_simp
          all_goals try with_reducible rfl
        try simp only [List.getElem_toArray, List.getElem_cons_succ, List.getElem_cons_zero, Act.put, List.setIfInBounds_toArray, List.set_cons_zero, List.set_cons_succ]
        refine wpAnyH_take (i := 15) (v := .pointer (some ⟨r, 0, none⟩)) rfl (by kernel_rfl) (by kernel_rfl) (by kernel_rfl) (fun _ _ _ h => h) (Or.inl ⟨by kernel_rfl, ?_⟩) trivial ?_
        · intro w hSw
          go_simp
          all_goals try with_reducible rfl
        try simp only [List.getElem_toArray, List.getElem_cons_succ, List.getElem_cons_zero, Act.put, List.setIfInBounds_toArray, List.set_cons_zero, List.set_cons_succ]
        refine wpAnyH_ready (rs := [16]) (by kernel_rfl) (by simp) ?_
        refine AllReadyH.cons rfl (fun K hK => ?_) AllReadyH.nil
        have q7 : w7.heap[r]? = some (.cells #[.slice A os.length c] 62 (0, 0)) := (hg7.block r (box_lt h7.cell) (fun e => own_ne h7.own h7.cell er_ne e.symm)).trans h7.cell
        have q8 := box_cell q7 0 rfl
        have q9 := box_frozen q7 0
        go_simp
        refine hK.out _ _ trivial (fun _ => ?_)
        clear hK K
        try simp only [List.getElem_toArray, List.getElem_cons_succ, List.getElem_cons_zero, Act.put, List.setIfInBounds_toArray, List.set_cons_zero, List.set_cons_succ]
        refine wpAnyH_done (by kernel_rfl) ?_ _
        have HFIN := Lib.hid (add_fin h hbD hb6 hbA hown6 HOT.out h7 hx7 HLEN.out hll hn2 (x := x) (nm := nm) (by rw [hrow A6 c6]; exact hown7) hg7 hat7)
        go_wp2
        go_returns
        exact ⟨by rw [hA.out] <;> rfl, by rw [hA.out]; exact HFIN.out⟩
      · go_simp
        refine (CL _ hbD).mono ?_
        rintro e w6 ⟨A6, c6, rfl, hown6, hb6⟩
        have h6 := h4d.below hb6
        have hc6 := box_cell h6.cell 0 rfl
        refine hK.out _ _ trivial (fun _ => ?_)
        clear hK K
        try simp only [List.getElem_toArray, List.getElem_cons_succ, List.getElem_cons_zero, Act.put, List.setIfInBounds_toArray, List.set_cons_zero, List.set_cons_succ]
        refine wpAnyH_take (i := 10) (v := .agg #[.int .i64 x, .string (mk8 nm), .slice A6 n2 c6]) rfl (by kernel_rfl) (by kernel_rfl) (by kernel_rfl) (fun _ _ _ h => h) (Or.inl ⟨by kernel_rfl, ?_⟩) trivial ?_
        · intro w hSw
          go_simp
          all_goals try with_reducible rfl
        try simp only [List.getElem_toArray, List.getElem_cons_succ, List.getElem_cons_zero, Act.put, List.setIfInBounds_toArray, List.set_cons_zero, List.set_cons_succ]
        refine wpAnyH_ready (rs := [5, 11]) (by kernel_rfl) (by simp) ?_
        refine AllReadyH.cons rfl (fun K hK => ?_) (AllReadyH.cons rfl (fun K hK => ?_) AllReadyH.nil)
        · go_simp
          refine hK.out _ _ trivial (fun _ => ?_)
          clear hK K
          try simp only [List.getElem_toArray, List.getElem_cons_succ, List.getElem_cons_zero, Act.put, List.setIfInBounds_toArray, List.set_cons_zero, List.set_cons_succ]
          refine wpAnyH_ready (rs := [11]) (by kernel_rfl) (by simp) ?_
          refine AllReadyH.cons rfl (fun K hK => ?_) AllReadyH.nil
          go_simp
          have hbA : Below w6.heap.size w6 (w6.alloc (.cells #[.int .i64 x, .string (mk8 nm), .slice A6 n2 c6] 71)) := (Below.refl _ _).alloc (Nat.le_refl _) _
          have hrdA := RdK.new (k := 3) w6 71 1 [.int .i64 x, .string (mk8 nm), .slice A6 n2 c6] rfl
          have hnA : (⟨w6.heap.size, 0, none⟩ : Addr).block < (w6.alloc (.cells #[.int .i64 x, .string (mk8 nm), .slice A6 n2 c6] 71)).heap.size := by simp
          have h7 := h6.below hbA
          have hx7 := own_belowK hown6 hbA
          have hc7 := box_cell h7.cell 0 rfl
          refine hK.out _ _ trivial (fun _ => ?_)
          clear hK K
          try simp only [List.getElem_toArray, List.getElem_cons_succ, List.getElem_cons_zero, Act.put, List.setIfInBounds_toArray, List.set_cons_zero, List.set_cons_succ]
          refine wpAnyH_ready (rs := [12]) (by kernel_rfl) (by simp) ?_
          refine AllReadyH.cons rfl (fun K hK => ?_) AllReadyH.nil
          refine step_appK entElem _ rfl (.tmp 33) (.tmp 39) rfl B rfl h7.own rfl hrdA (hrow A6 c6 ▸ tC_one (⟨x, nm, ls⟩, A6, c6)) (by have := HLEN.out; omega) (by omega) h7.base ?_
          intro A7 c7 w7 hown7 hg7 hat7
          refine hK.out _ _ trivial (fun _ => ?_)
          clear hK K
          try simp only [List.getElem_toArray, List.getElem_cons_succ, List.getElem_cons_zero, Act.put, List.setIfInBounds_toArray, List.set_cons_zero, List.set_cons_succ]
          refine wpAnyH_take (i := 13) (v := .pointer (some ⟨r, 0, none⟩)) rfl (by kernel_rfl) (by kernel_rfl) (by kernel_rfl) (fun _ _ _ h => h) (Or.inl ⟨by kernel_rfl, ?_⟩) trivial ?_
          · intro w hSw
            go_simp
            all_goals try with_reducible rfl
          try simp only [List.getElem_toArray, List.getElem_cons_succ, List.getElem_cons_zero, Act.put, List.setIfInBounds_toArray, List.set_cons_zero, List.set_cons_succ]
          refine wpAnyH_take (i := 14) (v := .pointer (some ⟨r, 0, none⟩)) rfl (by kernel_rfl) (by kernel_rfl) (by kernel_rfl) (fun _ _ _ h => h) (Or.inl ⟨by kernel_rfl, ?_⟩) trivial ?_
          · intro w hSw
            go_simp
            all_goals try with_reducible rfl
          try simp only [List.getElem_toArray, List.getElem_cons_succ, List.getElem_cons_zero, Act.put, List.setIfInBounds_toArray, List.set_cons_zero, List.set_cons_succ]
          refine wpAnyH_take (i := 15) (v := .pointer (some ⟨r, 0, none⟩)) rfl (by kernel_rfl) (by kernel_rfl) (by kernel_rfl) (fun _ _ _ h => h) (Or.inl ⟨by kernel_rfl, ?_⟩) trivial ?_
          · intro w hSw
            go_simp
            all_goals try with_reducible rfl
          try simp only [List.getElem_toArray, List.getElem_cons_succ, List.getElem_cons_zero, Act.put, List.setIfInBounds_toArray, List.set_cons_zero, List.set_cons_succ]
          refine wpAnyH_ready (rs := [16]) (by kernel_rfl) (by simp) ?_
          refine AllReadyH.cons rfl (fun K hK => ?_) AllReadyH.nil
          have q7 : w7.heap[r]? = some (.cells #[.slice A os.length c] 62 (0, 0)) := (hg7.block r (box_lt h7.cell) (fun e => own_ne h7.own h7.cell er_ne e.symm)).trans h7.cell
          have q8 := box_cell q7 0 rfl
          have q9 := box_frozen q7 0
          go_simp
          refine hK.out _ _ trivial (fun _ => ?_)
          clear hK K
          try simp only [List.getElem_toArray, List.getElem_cons_succ, List.getElem_cons_zero, Act.put, List.setIfInBounds_toArray, List.set_cons_zero, List.set_cons_succ]
          refine wpAnyH_done (by kernel_rfl) ?_ _
          have HFIN := Lib.hid (add_fin h hbD hb6 hbA hown6 HOT.out h7 hx7 HLEN.out hll hn2 (x := x) (nm := nm) (by rw [hrow A6 c6]; exact hown7) hg7 hat7)
          go_wp2
          go_returns
          exact ⟨by rw [hA.out] <;> rfl, by rw [hA.out]; exact HFIN.out⟩
        · go_simp
          have hbA : Below w6.heap.size w6 (w6.alloc (.cells #[.int .i64 x, .string (mk8 nm), .slice A6 n2 c6] 71)) := (Below.refl _ _).alloc (Nat.le_refl _) _
          have hrdA := RdK.new (k := 3) w6 71 1 [.int .i64 x, .string (mk8 nm), .slice A6 n2 c6] rfl
          have hnA : (⟨w6.heap.size, 0, none⟩ : Addr).block < (w6.alloc (.cells #[.int .i64 x, .string (mk8 nm), .slice A6 n2 c6] 71)).heap.size := by simp
          have h7 := h6.below hbA
          have hx7 := own_belowK hown6 hbA
          have hc7 := box_cell h7.cell 0 rfl
          refine hK.out _ _ trivial (fun _ => ?_)
          clear hK K
          try simp only [List.getElem_toArray, List.getElem_cons_succ, List.getElem_cons_zero, Act.put, List.setIfInBounds_toArray, List.set_cons_zero, List.set_cons_succ]
          refine wpAnyH_ready (rs := [5]) (by kernel_rfl) (by simp) ?_
          refine AllReadyH.cons rfl (fun K hK => ?_) AllReadyH.nil
          go_simp
          refine hK.out _ _ trivial (fun _ => ?_)
          clear hK K
          try simp only [List.getElem_toArray, List.getElem_cons_succ, List.getElem_cons_zero, Act.put, List.setIfInBounds_toArray, List.set_cons_zero, List.set_cons_succ]
          refine wpAnyH_ready (rs := [12]) (by kernel_rfl) (by simp) ?_
          refine AllReadyH.cons rfl (fun K hK => ?_) AllReadyH.nil
          refine step_appK entElem _ rfl (.tmp 33) (.tmp 39) rfl B rfl h7.own rfl hrdA (hrow A6 c6 ▸ tC_one (⟨x, nm, ls⟩, A6, c6)) (by have := HLEN.out; omega) (by omega) h7.base ?_
          intro A7 c7 w7 hown7 hg7 hat7
          refine hK.out _ _ trivial (fun _ => ?_)
          clear hK K
          try simp only [List.getElem_toArray, List.getElem_cons_succ, List.getElem_cons_zero, Act.put, List.setIfInBounds_toArray, List.set_cons_zero, List.set_cons_succ]
          refine wpAnyH_take (i := 13) (v := .pointer (some ⟨r, 0, none⟩)) rfl (by kernel_rfl) (by kernel_rfl) (by kernel_rfl) (fun _ _ _ h => h) (Or.inl ⟨by kernel_rfl, ?_⟩) trivial ?_
          · intro w hSw
            go_simp
            all_goals try with_reducible rfl
          try simp only [List.getElem_toArray, List.getElem_cons_succ, List.getElem_cons_zero, Act.put, List.setIfInBounds_toArray, List.set_cons_zero, List.set_cons_succ]
          refine wpAnyH_take (i := 14) (v := .pointer (some ⟨r, 0, none⟩)) rfl (by kernel_rfl) (by kernel_rfl) (by kernel_rfl) (fun _ _ _ h => h) (Or.inl ⟨by kernel_rfl, ?_⟩) trivial ?_
          · intro w hSw
            go_simp
            all_goals try with_reducible rfl
          try simp only [List.getElem_toArray, List.getElem_cons_succ, List.getElem_cons_zero, Act.put, List.setIfInBounds_toArray, List.set_cons_zero, List.set_cons_succ]
          refine wpAnyH_take (i := 15) (v := .pointer (some ⟨r, 0, none⟩)) rfl (by kernel_rfl) (by kernel_rfl) (by kernel_rfl) (fun _ _ _ h => h) (Or.inl ⟨by kernel_rfl, ?_⟩) trivial ?_
          · intro w hSw
            go_simp
            all_goals try with_reducible rfl
          try simp only [List.getElem_toArray, List.getElem_cons_succ, List.getElem_cons_zero, Act.put, List.setIfInBounds_toArray, List.set_cons_zero, List.set_cons_succ]
          refine wpAnyH_ready (rs := [16]) (by kernel_rfl) (by simp) ?_
          refine AllReadyH.cons rfl (fun K hK => ?_) AllReadyH.nil
          have q7 : w7.heap[r]? = some (.cells #[.slice A os.length c] 62 (0, 0)) := (hg7.block r (box_lt h7.cell) (fun e => own_ne h7.own h7.cell er_ne e.symm)).trans h7.cell
          have q8 := box_cell q7 0 rfl
          have q9 := box_frozen q7 0
          go_simp
          refine hK.out _ _ trivial (fun _ => ?_)
          clear hK K
          try simp only [List.getElem_toArray, List.getElem_cons_succ, List.getElem_cons_zero, Act.put, List.setIfInBounds_toArray, List.set_cons_zero, List.set_cons_succ]
          refine wpAnyH_done (by kernel_rfl) ?_ _
          have HFIN := Lib.hid (add_fin h hbD hb6 hbA hown6 HOT.out h7 hx7 HLEN.out hll hn2 (x := x) (nm := nm) (by rw [hrow A6 c6]; exact hown7) hg7 hat7)
          go_wp2
          go_returns
          exact ⟨by rw [hA.out] <;> rfl, by rw [hA.out]; exact HFIN.out⟩
  · have hA : Hid (ad = (os.map (·.1), fe)) := by
      show _ = _
      rw [had]
      unfold addN
      rw [← hfe, if_pos hf0]
    have hn1 : (fe == 0) = false := by simpa using hf0
    have hn2' : (fe != 0) = true := by simpa using hf0
    have HP := Lib.hid (RegPost.same h hb5)
    clear hfe had hb5
    go_wp2
    go_returns
    exact ⟨by rw [hA.out] <;> rfl, by rw [hA.out]; exact HP.out⟩
end
end Go.Proofs.YthfakejhkbelhaaDoor
