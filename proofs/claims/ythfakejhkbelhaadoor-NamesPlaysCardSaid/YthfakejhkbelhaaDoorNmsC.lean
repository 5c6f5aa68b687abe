/- What is wrong with new names, and lists of names copied: the code. -/
import Derived.Test.YthfakejhkbelhaaDoorNmsB
set_option linter.unusedSimpArgs false
set_option linter.unusedVariables false
namespace Go.Proofs.YthfakejhkbelhaaDoor
open Go.RowKit

theorem mayAll_step {ns : List (List UInt8)} {k : Nat} {s : List UInt8} (h : ns[k]? = some s) : mayAll (ns.drop k) = if mayS s ≠ 0 then mayS s else mayAll (ns.drop (k + 1)) := by
  rw [drop_someN h]; rfl
theorem thereF_step {L : List Thg} {ns : List (List UInt8)} {k : Nat} {s : List UInt8} (h : ns[k]? = some s) : thereF L (ns.take k) (ns.drop k) = if (atF s L).isSome = true ∨ ((ns.take k).any fun p => sameS s p) = true then true else thereF L (ns.take (k + 1)) (ns.drop (k + 1)) := by
  rw [drop_someN h, List.take_add_one, h]; rfl
set_option maxRecDepth 20000 in
set_option maxHeartbeats 8000000 in
theorem freshN_any {B r : Nat} {w : World} {os : List TA} {A0 : Option Addr} {c0 : Nat} (h : RegAt B r w os A0 c0) (hE : EnvN w) (A : Option Addr) (n c : Nat) (ns : List (List UInt8)) (hr : Rd w A n (Ss ns)) (hn : n ≤ 1000000) (hnc : n ≤ c) :
    Calls Tryd.prog 43 #[.pointer (some ⟨r, 0, none⟩), .slice A n c] w fun e w' => e = .returned (.int .i64 (freshN (os.map (·.1)) ns)) ∧ Below w.heap.size w w' := by
  have hmf : ∀ (fn : Fn) (first cap : Array Value) (w : World), (Instr.makeFunc fn first cap).run Tryd.prog w = .ok (.func fn first cap) w := fun _ _ _ _ => rfl
  have hnl : ns.length = n := by have := hr.1; simpa [Ss] using this
  have HNL := Lib.hid hnl
  obtain ⟨L, hL⟩ : ∃ L, L = os.map (·.1) := ⟨_, rfl⟩
  have AT0 := fun s w' (hb' : Below w.heap.size w w') => reg_at (h.below hb') s (hE.below hb')
  simp only [← hL] at AT0
  rw [← hL]
  have AT := Lib.hid AT0
  clear hL hnl AT0
  go_enter Tryd.func43, Tryd.ntmps43
  go_wp2
  go_loopw [12] (fun i wr => ∃ k : Nat, k ≤ n ∧ i = .int .i64 k ∧ Hid (mayAll ns = mayAll (ns.drop k)) ∧ Below w.heap.size w wr) (fun i _ => n - (intOf i).toNat)
  case atStart => exact ⟨0, Nat.zero_le _, rfl, rfl, Below.refl _ _⟩
  case round =>
    obtain ⟨k, hk, rfl, HM, hb⟩ := hrel
    by_cases hlt : k < n
    · obtain ⟨s, hs⟩ : ∃ x, ns[k]? = some x := ⟨_, List.getElem?_eq_getElem (by rw [HNL.out]; exact hlt)⟩
      obtain ⟨b, off, rfl, hbl, hc⟩ := (hr.below hb).at_ (by omega)
      have cx : wr.cell? ⟨b, off + k, none⟩ = some (.string (mk8 s)) := hc k _ (by simp [Ss, hs])
      have hi : (k : Int) < (n : Int) := by omega
      have MY := may_any (mk8 s) wr (hE.below hb)
      rw [bs_mk8] at MY
      have hst := mayAll_step hs
      obtain ⟨m, hm⟩ : ∃ m, m = mayS s := ⟨_, rfl⟩
      rw [← hm] at MY hst
      clear hc hs hm hr
      by_cases hm0 : m = 0
      · subst hm0
        have HT : Hid (mayAll ns = mayAll (ns.drop (k + 1))) := by show _ = _; rw [HM.out, hst, if_neg (by simp)]
        clear hst HM
        go_wp2_with fail
        refine MY.mono ?_
        rintro e w1 ⟨rfl, hb1⟩
        have hb2 := below_then hb hb1
        go_wp2
        go_roundw
        case rel => exact ⟨k + 1, by omega, by go_num, HT, hb2⟩
        case measure => simp [intOf]; omega
      · rw [if_pos hm0] at hst
        have hF : freshN L ns = m := by
          have hma : mayAll ns = m := by rw [HM.out, hst]
          unfold freshN
          rw [hma, if_pos hm0]
        have HF := Lib.hid hF
        have hn1 : (m == 0) = false := by simpa using hm0
        have hn2 : (m != 0) = true := by simpa using hm0
        clear hst HM hF
        go_wp2_with fail
        refine MY.mono ?_
        rintro e w1 ⟨rfl, hb1⟩
        have hb2 := below_then hb hb1
        go_wp2
        go_returns
        exact ⟨by rw [HF.out] <;> rfl, hb2⟩
    · have hi : (n : Int) ≤ (k : Int) := by omega
      have hma : mayAll ns = 0 := by
        rw [HM.out, List.drop_eq_nil_of_le (by rw [HNL.out]; omega)]
        rfl
      have hF : freshN L ns = if thereF L [] ns = true then 12 else 0 := by unfold freshN; rw [hma, if_neg (by simp)]
      have HF := Lib.hid hF
      have HB0 := Lib.hid hb
      clear hma hF HM
      go_wp2
      go_loopw [24] (fun i wr => ∃ k : Nat, k ≤ n ∧ i = .int .i64 k ∧ Hid (thereF L [] ns = thereF L (ns.take k) (ns.drop k)) ∧ Below w.heap.size w wr) (fun i _ => n - (intOf i).toNat)
      case atStart => exact ⟨0, Nat.zero_le _, rfl, rfl, hb⟩
      case round =>
        obtain ⟨k, hk, rfl, HM, hb⟩ := hrel
        by_cases hlt : k < n
        · obtain ⟨s, hs⟩ : ∃ x, ns[k]? = some x := ⟨_, List.getElem?_eq_getElem (by rw [HNL.out]; exact hlt)⟩
          obtain ⟨b, off, hAe, hbl, hc⟩ := (hr.below hb).at_ (by omega)
          subst hAe
          have cx : wr.cell? ⟨b, off + k, none⟩ = some (.string (mk8 s)) := hc k _ (by simp [Ss, hs])
          have hi : (k : Int) < (n : Int) := by omega
          have hst := thereF_step (L := L) hs
          have hbn : Below wr.heap.size wr (wr.alloc (.cells #[.string (mk8 s)] 9)) := (Below.refl _ _).alloc (Nat.le_refl _) _
          have hbx := box_new wr #[.string (mk8 s)] 9
          have hrk : Rd wr (some ⟨b, off, none⟩) k (Ss (ns.take k)) := by
            refine ⟨by simp [Ss, HNL.out]; omega, fun _ => ⟨b, off, rfl, fun j u hu => hc j u ?_⟩⟩
            unfold Ss at hu ⊢
            rw [List.getElem?_map, List.getElem?_take] at hu
            rw [List.getElem?_map]
            split at hu
            · exact hu
            · cases hu
          have hkc : k ≤ c := by omega
          clear hc hs
          go_upto_region 11 with fail
          generalize hWW : wr.alloc _ = W at *
          generalize hgq : wr.heap.size = q at *
          have hq : W.cell? ⟨q, 0, none⟩ = some (.string (mk8 s)) := box_cell hbx 0 rfl
          have hbW : Below w.heap.size w W := hb.trans (hbn.mono (by have := hb.size; omega))
          have ATW := fun w' (hb' : Below W.heap.size W w') => AT.out s w' (below_then hbW hb')
          have hrW : Rd W (some ⟨b, off, none⟩) k (Ss (ns.take k)) := hrk.below (show Below wr.heap.size wr W by rw [hgq]; exact hbn)
          clear hWW hbx cx hrk hbn
          have MK : ∀ w' : World, Below W.heap.size W w' → (w'.cell? ⟨q, 0, none⟩ = some (.string (mk8 s))) ∧ Below W.heap.size W w' := fun w' hb' => ⟨cell_belowU hq hb', hb'⟩
          have HMK := Lib.hid MK
          have HBW := Lib.hid hbW
          clear MK hgq hbW hb
          obtain ⟨o, ho⟩ : ∃ o, o = atF s L := ⟨_, rfl⟩
          rw [← ho] at ATW hst
          clear ho
          cases o with
          | some i =>
            have hF2 : freshN L ns = 12 := by rw [HF.out, HM.out, hst]; simp
            have HF2 := Lib.hid hF2
            have AT2 : ∀ w', Below W.heap.size W w' → Calls Tryd.prog 57 #[.pointer (some ⟨r, 0, none⟩), .string (mk8 s)] w' fun e w'' => e = .returned (.int .i64 (i : Int)) ∧ Below w'.heap.size w' w'' := ATW
            have hi0 : (0 : Int) ≤ (i : Int) := by omega
            clear hF2 hst HM ATW
            refine wp_region_held_drew (S := fun w' => (w'.cell? ⟨q, 0, none⟩ = some (.string (mk8 s))) ∧ Below W.heap.size W w') (by kernel_rfl) (HMK.out _ (Drew.to ⟨1, rfl⟩)) (fun hH => ?_)
            refine wpAnyH_take (i := 0) (v := .pointer (some ⟨r, 0, none⟩)) rfl (by kernel_rfl) (by kernel_rfl) (by kernel_rfl) (fun _ _ _ h => h) (Or.inl ⟨by kernel_rfl, ?_⟩) hH ?_
            · intro w hSw
              (try dsimp only at hSw)
              go_simp
              all_goals try with_reducible rfl
            simp only [List.getElem_toArray, List.getElem_cons_succ, List.getElem_cons_zero, Act.put, List.setIfInBounds_toArray, List.set_cons_zero, List.set_cons_succ]
            refine wpAnyH_take (i := 1) (v := .pointer (some ⟨r, 0, none⟩)) rfl (by kernel_rfl) (by kernel_rfl) (by kernel_rfl) (fun _ _ _ h => h) (Or.inl ⟨by kernel_rfl, ?_⟩) hH ?_
            · intro w hSw
              (try dsimp only at hSw)
              go_simp
              all_goals try with_reducible rfl
            simp only [List.getElem_toArray, List.getElem_cons_succ, List.getElem_cons_zero, Act.put, List.setIfInBounds_toArray, List.set_cons_zero, List.set_cons_succ]
            refine wpAnyH_take (i := 2) (v := .pointer (some ⟨r, 0, none⟩)) rfl (by kernel_rfl) (by kernel_rfl) (by kernel_rfl) (fun _ _ _ h => h) (Or.inl ⟨by kernel_rfl, ?_⟩) hH ?_
            · intro w hSw
              (try dsimp only at hSw)
              go_simp
              all_goals try with_reducible rfl
            simp only [List.getElem_toArray, List.getElem_cons_succ, List.getElem_cons_zero, Act.put, List.setIfInBounds_toArray, List.set_cons_zero, List.set_cons_succ]
            refine wpAnyH_take (i := 3) (v := .string (mk8 s)) rfl (by kernel_rfl) (by kernel_rfl) (by kernel_rfl) (fun _ _ _ h => h) (Or.inl ⟨by kernel_rfl, ?_⟩) hH ?_
            · intro w hSw
              (try dsimp only at hSw)
              go_simp
              all_goals try with_reducible rfl
            simp only [List.getElem_toArray, List.getElem_cons_succ, List.getElem_cons_zero, Act.put, List.setIfInBounds_toArray, List.set_cons_zero, List.set_cons_succ]
            refine wpAnyH_ready (rs := [4]) (by kernel_rfl) (by simp) ?_
            refine AllReadyH.cons rfl (fun K hK => ?_) AllReadyH.nil
            go_simp
            refine (AT2 _ hH.2).mono ?_
            rintro e w5 ⟨rfl, hb5⟩
            refine hK.out _ _ (HMK.out _ (below_then hH.2 hb5)) (fun hHb => ?_)
            clear hK K hH
            try simp only [List.getElem_toArray, List.getElem_cons_succ, List.getElem_cons_zero, Act.put, List.setIfInBounds_toArray, List.set_cons_zero, List.set_cons_succ]
            refine wpAnyH_take (i := 5) (v := .bool true) rfl (by kernel_rfl) (by kernel_rfl) (by kernel_rfl) (fun _ _ _ h => h) (Or.inl ⟨by kernel_rfl, ?_⟩) hHb ?_
            · intro w hSw
              (try dsimp only at hSw)
              go_simp
              all_goals try with_reducible rfl
            simp only [List.getElem_toArray, List.getElem_cons_succ, List.getElem_cons_zero, Act.put, List.setIfInBounds_toArray, List.set_cons_zero, List.set_cons_succ]
            refine wpAnyH_take (i := 6) (v := .bool true) rfl (by kernel_rfl) (by kernel_rfl) (by kernel_rfl) (fun _ _ _ h => h) (Or.inl ⟨by kernel_rfl, ?_⟩) hHb ?_
            · intro w hSw
              (try dsimp only at hSw)
              go_simp
              all_goals try with_reducible rfl
            simp only [List.getElem_toArray, List.getElem_cons_succ, List.getElem_cons_zero, Act.put, List.setIfInBounds_toArray, List.set_cons_zero, List.set_cons_succ]
            refine wpAnyH_take (i := 7) (v := undef) rfl (by kernel_rfl) (by kernel_rfl) (by kernel_rfl) (fun _ _ _ h => h) (Or.inr ⟨by kernel_rfl, rfl⟩) hHb ?_
            simp only [List.getElem_toArray, List.getElem_cons_succ, List.getElem_cons_zero, Act.put, List.setIfInBounds_toArray, List.set_cons_zero, List.set_cons_succ]
            refine wpAnyH_take (i := 8) (v := undef) rfl (by kernel_rfl) (by kernel_rfl) (by kernel_rfl) (fun _ _ _ h => h) (Or.inr ⟨by kernel_rfl, rfl⟩) hHb ?_
            simp only [List.getElem_toArray, List.getElem_cons_succ, List.getElem_cons_zero, Act.put, List.setIfInBounds_toArray, List.set_cons_zero, List.set_cons_succ]
            refine wpAnyH_take (i := 9) (v := undef) rfl (by kernel_rfl) (by kernel_rfl) (by kernel_rfl) (fun _ _ _ h => h) (Or.inr ⟨by kernel_rfl, rfl⟩) hHb ?_
            simp only [List.getElem_toArray, List.getElem_cons_succ, List.getElem_cons_zero, Act.put, List.setIfInBounds_toArray, List.set_cons_zero, List.set_cons_succ]
            refine wpAnyH_take (i := 10) (v := undef) rfl (by kernel_rfl) (by kernel_rfl) (by kernel_rfl) (fun _ _ _ h => h) (Or.inr ⟨by kernel_rfl, rfl⟩) hHb ?_
            simp only [List.getElem_toArray, List.getElem_cons_succ, List.getElem_cons_zero, Act.put, List.setIfInBounds_toArray, List.set_cons_zero, List.set_cons_succ]
            refine wpAnyH_take (i := 11) (v := undef) rfl (by kernel_rfl) (by kernel_rfl) (by kernel_rfl) (fun _ _ _ h => h) (Or.inr ⟨by kernel_rfl, rfl⟩) hHb ?_
            simp only [List.getElem_toArray, List.getElem_cons_succ, List.getElem_cons_zero, Act.put, List.setIfInBounds_toArray, List.set_cons_zero, List.set_cons_succ]
            refine wpAnyH_take (i := 12) (v := .bool true) rfl (by kernel_rfl) (by kernel_rfl) (by kernel_rfl) (fun _ _ _ h => h) (Or.inl ⟨by kernel_rfl, ?_⟩) hHb ?_
            · intro w hSw
              (try dsimp only at hSw)
              go_simp
              all_goals try with_reducible rfl
            simp only [List.getElem_toArray, List.getElem_cons_succ, List.getElem_cons_zero, Act.put, List.setIfInBounds_toArray, List.set_cons_zero, List.set_cons_succ]
            refine wpAnyH_done (by kernel_rfl) ?_ _
            have hfin := HBW.out.trans (hHb.2.mono HBW.out.size)
            clear HMK AT2 hHb
            go_wp2
            go_returns
            exact ⟨by rw [HF2.out] <;> rfl, hfin⟩
          | none =>
            have AT2 : ∀ w', Below W.heap.size W w' → Calls Tryd.prog 57 #[.pointer (some ⟨r, 0, none⟩), .string (mk8 s)] w' fun e w'' => e = .returned (.int .i64 (-1)) ∧ Below w'.heap.size w' w'' := ATW
            obtain ⟨dup, hdup⟩ : ∃ d, d = (ns.take k).any fun p => sameS s p := ⟨_, rfl⟩
            have SC : ∀ w', Below W.heap.size W w' → w'.cell? ⟨q, 0, none⟩ = some (.string (mk8 s)) → Calls Tryd.prog 58 #[.slice (some ⟨b, off, none⟩) k c, .func (.func 59) #[] #[.pointer (some ⟨q, 0, none⟩)]] w' fun e w'' => e = .returned (.bool dup) ∧ Below w'.heap.size w' w'' := fun w' hb' hq' => by
              rw [hdup]
              exact scont_any 59 #[.pointer (some ⟨q, 0, none⟩)] (enters_of Tryd.func59 (by kernel_rfl) rfl) (fun p => sameS s p) (some ⟨b, off, none⟩) k c (ns.take k) w' (hrW.below hb') (by omega)
                (fun x W' hb2 => fresh1_any x s _ W' ((hE.below (below_then HBW.out hb')).below hb2) (cell_belowU hq' hb2))
            rw [← hdup] at hst
            clear ATW hdup
            refine wp_region_held_drew (S := fun w' => (w'.cell? ⟨q, 0, none⟩ = some (.string (mk8 s))) ∧ Below W.heap.size W w') (by kernel_rfl) (HMK.out _ (Drew.to ⟨1, rfl⟩)) (fun hH => ?_)
            refine wpAnyH_take (i := 0) (v := .pointer (some ⟨r, 0, none⟩)) rfl (by kernel_rfl) (by kernel_rfl) (by kernel_rfl) (fun _ _ _ h => h) (Or.inl ⟨by kernel_rfl, ?_⟩) hH ?_
            · intro w hSw
              (try dsimp only at hSw)
              go_simp
              all_goals try with_reducible rfl
            simp only [List.getElem_toArray, List.getElem_cons_succ, List.getElem_cons_zero, Act.put, List.setIfInBounds_toArray, List.set_cons_zero, List.set_cons_succ]
            refine wpAnyH_take (i := 1) (v := .pointer (some ⟨r, 0, none⟩)) rfl (by kernel_rfl) (by kernel_rfl) (by kernel_rfl) (fun _ _ _ h => h) (Or.inl ⟨by kernel_rfl, ?_⟩) hH ?_
            · intro w hSw
              (try dsimp only at hSw)
              go_simp
              all_goals try with_reducible rfl
            simp only [List.getElem_toArray, List.getElem_cons_succ, List.getElem_cons_zero, Act.put, List.setIfInBounds_toArray, List.set_cons_zero, List.set_cons_succ]
            refine wpAnyH_take (i := 2) (v := .pointer (some ⟨r, 0, none⟩)) rfl (by kernel_rfl) (by kernel_rfl) (by kernel_rfl) (fun _ _ _ h => h) (Or.inl ⟨by kernel_rfl, ?_⟩) hH ?_
            · intro w hSw
              (try dsimp only at hSw)
              go_simp
              all_goals try with_reducible rfl
            simp only [List.getElem_toArray, List.getElem_cons_succ, List.getElem_cons_zero, Act.put, List.setIfInBounds_toArray, List.set_cons_zero, List.set_cons_succ]
            refine wpAnyH_take (i := 3) (v := .string (mk8 s)) rfl (by kernel_rfl) (by kernel_rfl) (by kernel_rfl) (fun _ _ _ h => h) (Or.inl ⟨by kernel_rfl, ?_⟩) hH ?_
            · intro w hSw
              (try dsimp only at hSw)
              go_simp
              all_goals try with_reducible rfl
            simp only [List.getElem_toArray, List.getElem_cons_succ, List.getElem_cons_zero, Act.put, List.setIfInBounds_toArray, List.set_cons_zero, List.set_cons_succ]
            refine wpAnyH_ready (rs := [4]) (by kernel_rfl) (by simp) ?_
            refine AllReadyH.cons rfl (fun K hK => ?_) AllReadyH.nil
            go_simp
            refine (AT2 _ hH.2).mono ?_
            rintro e w5 ⟨rfl, hb5⟩
            refine hK.out _ _ (HMK.out _ (below_then hH.2 hb5)) (fun hHb => ?_)
            clear hK K hH
            try simp only [List.getElem_toArray, List.getElem_cons_succ, List.getElem_cons_zero, Act.put, List.setIfInBounds_toArray, List.set_cons_zero, List.set_cons_succ]
            refine wpAnyH_take (i := 5) (v := .bool false) rfl (by kernel_rfl) (by kernel_rfl) (by kernel_rfl) (fun _ _ _ h => h) (Or.inl ⟨by kernel_rfl, ?_⟩) hHb ?_
            · intro w hSw
              (try dsimp only at hSw)
              go_simp
              all_goals try with_reducible rfl
            simp only [List.getElem_toArray, List.getElem_cons_succ, List.getElem_cons_zero, Act.put, List.setIfInBounds_toArray, List.set_cons_zero, List.set_cons_succ]
            refine wpAnyH_take (i := 6) (v := .bool false) rfl (by kernel_rfl) (by kernel_rfl) (by kernel_rfl) (fun _ _ _ h => h) (Or.inl ⟨by kernel_rfl, ?_⟩) hHb ?_
            · intro w hSw
              (try dsimp only at hSw)
              go_simp
              all_goals try with_reducible rfl
            simp only [List.getElem_toArray, List.getElem_cons_succ, List.getElem_cons_zero, Act.put, List.setIfInBounds_toArray, List.set_cons_zero, List.set_cons_succ]
            refine wpAnyH_take (i := 7) (v := .slice (some ⟨b, off, none⟩) n c) rfl (by kernel_rfl) (by kernel_rfl) (by kernel_rfl) (fun _ _ _ h => h) (Or.inl ⟨by kernel_rfl, ?_⟩) hHb ?_
            · intro w hSw
              (try dsimp only at hSw)
              go_simp
              all_goals try with_reducible rfl
            simp only [List.getElem_toArray, List.getElem_cons_succ, List.getElem_cons_zero, Act.put, List.setIfInBounds_toArray, List.set_cons_zero, List.set_cons_succ]
            refine wpAnyH_take (i := 8) (v := .int .i64 k) rfl (by kernel_rfl) (by kernel_rfl) (by kernel_rfl) (fun _ _ _ h => h) (Or.inl ⟨by kernel_rfl, ?_⟩) hHb ?_
            · intro w hSw
              (try dsimp only at hSw)
              go_simp
              all_goals try with_reducible rfl
            simp only [List.getElem_toArray, List.getElem_cons_succ, List.getElem_cons_zero, Act.put, List.setIfInBounds_toArray, List.set_cons_zero, List.set_cons_succ]
            refine wpAnyH_take (i := 9) (v := .slice (some ⟨b, off, none⟩) k c) rfl (by kernel_rfl) (by kernel_rfl) (by kernel_rfl) (fun _ _ _ h => h) (Or.inl ⟨by kernel_rfl, ?_⟩) hHb ?_
            · intro w hSw
              (try dsimp only at hSw)
              go_simp
              all_goals try with_reducible rfl
            simp only [List.getElem_toArray, List.getElem_cons_succ, List.getElem_cons_zero, Act.put, List.setIfInBounds_toArray, List.set_cons_zero, List.set_cons_succ]
            refine wpAnyH_take (i := 10) (v := .func (.func 59) #[] #[.pointer (some ⟨q, 0, none⟩)]) rfl (by kernel_rfl) (by kernel_rfl) (by kernel_rfl) (fun _ _ _ h => h) (Or.inl ⟨by kernel_rfl, ?_⟩) hHb ?_
            · intro w hSw
              (try dsimp only at hSw)
              go_simp
              all_goals try with_reducible rfl
            simp only [List.getElem_toArray, List.getElem_cons_succ, List.getElem_cons_zero, Act.put, List.setIfInBounds_toArray, List.set_cons_zero, List.set_cons_succ]
            refine wpAnyH_ready (rs := [11]) (by kernel_rfl) (by simp) ?_
            refine AllReadyH.cons rfl (fun K hK => ?_) AllReadyH.nil
            go_simp
            refine (SC _ hHb.2 hHb.1).mono ?_
            rintro e w6 ⟨rfl, hb6⟩
            refine hK.out _ _ (HMK.out _ (below_then hHb.2 hb6)) (fun hHc => ?_)
            clear hK K hHb
            try simp only [List.getElem_toArray, List.getElem_cons_succ, List.getElem_cons_zero, Act.put, List.setIfInBounds_toArray, List.set_cons_zero, List.set_cons_succ]
            refine wpAnyH_take (i := 12) (v := .bool dup) rfl (by kernel_rfl) (by kernel_rfl) (by kernel_rfl) (fun _ _ _ h => h) (Or.inl ⟨by kernel_rfl, ?_⟩) hHc ?_
            · intro w hSw
              (try dsimp only at hSw)
              go_simp
              all_goals try with_reducible rfl
            simp only [List.getElem_toArray, List.getElem_cons_succ, List.getElem_cons_zero, Act.put, List.setIfInBounds_toArray, List.set_cons_zero, List.set_cons_succ]
            refine wpAnyH_done (by kernel_rfl) ?_ _
            have hfin := HBW.out.trans (hHc.2.mono HBW.out.size)
            clear HMK AT2 SC hHc
            cases dup
            · have HT : Hid (thereF L [] ns = thereF L (ns.take (k + 1)) (ns.drop (k + 1))) := by show _ = _; rw [HM.out, hst, if_neg (by simp)]
              clear hst HM
              go_wp2
              go_roundw
              case rel => exact ⟨k + 1, by omega, by go_num, HT, hfin⟩
              case measure => simp [intOf]; omega
            · have hF2 : freshN L ns = 12 := by rw [HF.out, HM.out, hst]; simp
              have HF2 := Lib.hid hF2
              clear hF2 hst HM
              go_wp2
              go_returns
              exact ⟨by rw [HF2.out] <;> rfl, hfin⟩
        · have hi : (n : Int) ≤ (k : Int) := by omega
          have hF2 : freshN L ns = 0 := by
            rw [HF.out, HM.out, List.drop_eq_nil_of_le (by rw [HNL.out]; omega)]
            rfl
          have HF2 := Lib.hid hF2
          clear hF2 HM
          go_wp2
          go_returns
          exact ⟨by rw [HF2.out] <;> rfl, hb⟩
end Go.Proofs.YthfakejhkbelhaaDoor
