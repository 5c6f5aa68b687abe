/- Whether a registry is the document's answer's: the code. -/
import Derived.Test.YthfakejhkbelhaaDoorNmsY
import Derived.Sort.QuietIn
import Derived.Sort.QuietTacIn
set_option linter.unusedSimpArgs false
set_option linter.unusedVariables false
namespace Go.Proofs.YthfakejhkbelhaaDoor
open Go.RowKit Go.Lib Go.Shelf
attribute [local go_sem] Oper.semAt_some

section
variable {B r : Nat} {w : World} {os : List TA} {A : Option Addr} {c : Nat}
set_option maxRecDepth 100000 in
set_option maxHeartbeats 4000000 in
theorem same_yes (h : RegAt B r w os A c) {xs : List TA} {Ax : Option Addr} (cx : Nat) (hx : ThRd w Ax xs) (hL : xs.map (·.1) = os.map (·.1)) : Calls Tryd.prog 23 #[.pointer (some ⟨r, 0, none⟩), .slice Ax xs.length cx] w fun e w' => e = .returned (.bool true) ∧ Below w.heap.size w w' := by
  have hxl : xs.length = os.length := by rw [← List.length_map (f := (·.1)), hL, List.length_map]
  have HXL := Lib.hid hxl
  clear hxl
  refine (callsIn_wide (n := 5)).1 ?_
  have hro : Fence.wide.round = none := rfl
  have h1 : 1 ≤ 5 := by omega
  refine callsIn_of_wp_marks Tryd.func23 rfl trivial ?_ hro
  simp only [Tryd.ntmps23, List.size_toArray, List.length_cons, List.length_nil, Nat.reduceAdd, Nat.reduceSub, Array.replicate_succ, Array.replicate_zero, List.push_toArray, List.append_toArray, List.nil_append, List.cons_append]
  have hnf : ∀ (f : Fn) (a c : Array Value) (w : World), Sem.run Tryd.prog (binOp BinOp.eql 65 (Value.func f a c) Value.nilFunc) w = .ok (.bool false) w := fun f a c w => by kernel_rfl
  obtain ⟨W0, hW0⟩ : ∃ W0, (w.alloc (.cells #[.slice Ax xs.length cx] 45)).alloc (.cells #[.bool false] 4) = W0 := ⟨_, rfl⟩
  have hsz : W0.heap.size = w.heap.size + 2 := by rw [← hW0]; simp
  have hB0 : Below w.heap.size w W0 := by
    rw [← hW0]
    exact ((Below.refl _ w).alloc (Nat.le_refl _) _).alloc (by simp) _
  have bx1 : Boxed W0 w.heap.size 45 (.slice Ax xs.length cx) := by rw [← hW0]; exact (Boxed.new w _ _).alloc _
  have bx2 : Boxed W0 (w.heap.size + 1) 4 (.bool false) := by
    rw [← hW0]
    have := Boxed.new (w.alloc (.cells #[.slice Ax xs.length cx] 45)) 4 (.bool false)
    rwa [World.size_alloc] at this
  have AL := All_any (h.below hB0)
  gi_wp2_with (refine ⟨trivial, ?_⟩; gi_at_call 37; refine (callsIn_wide.2 AL).mono ?_; rintro e w' ⟨A', c', rfl, hca, hoa, hba⟩)
  have hBw := below_then hB0 hba
  have hR := h.below hBw
  have LN : ∀ n, Calls Tryd.prog 21 #[.pointer (some ⟨r, 0, none⟩)] (w'.drewN n) fun e w'' => e = .returned (.int .i64 xs.length) ∧ w'' = w'.drewN n := fun n => (len_any (hR.below (Drew.to ⟨n, rfl⟩))).mono fun e w'' ⟨h1, h2⟩ => ⟨by rw [HXL.out]; exact h1, h2.symm⟩
  have by1 := boxed_below bx1 hba
  have by2 := boxed_below bx2 hba
  have cx1 := by1.cell
  refine wpIn_region_quiet_lit rfl (by kernel_rfl) (by kernel_rfl) ?_
  repeat (refine wpQuietIn_step (fun _ _ _ _ => trivial) (fun K hK => ?_); go_simp; first | (refine hK _ ?_; clear hK K) | (apply Exists.intro; refine ⟨fun _ => ?_, hK _ ?_⟩; (gi_at_call 21; exact CallsIn.quiet_of_same (callsIn_wide.2 (LN _))); clear hK K))
  refine wpQuietIn_nil ?_
  rintro _ ⟨nq, rfl⟩
  have hbD : Below w'.heap.size w' (w'.drewN nq) := Drew.to ⟨nq, rfl⟩
  have hca0 : w'.cell? ⟨w.heap.size + 2, 0, none⟩ = some (.slice A' os.length c') := by rw [← hsz]; exact hca
  have hlw : w.heap.size + 3 ≤ w'.heap.size := by have := World.block_lt_of_cell? _ _ hca0; show w.heap.size + 2 + 1 ≤ _; exact this
  clear LN
  generalize w'.drewN nq = Wd at *
  have hcaD := cell_below hca0 hbD
  have hoaD := own_belowK hoa hbD
  have bd1 := boxed_below by1 hbD
  have bd2 := boxed_below by2 hbD
  have hBD := below_then hBw hbD
  have hlD : w.heap.size + 3 ≤ Wd.heap.size := by have := hbD.size; omega
  have hxD := hx.below hBD
  have hlen := h.len
  clear hca hca0 hoa by1 by2 cx1 hba hbD hBw hR bx1 bx2 AL hW0 hB0 hsz
  have bN := Boxed.new Wd 3 (.int .i64 0)
  have hBN : Below Wd.heap.size Wd (Wd.alloc (.cells #[.int .i64 0] 3)) := (Below.refl _ _).alloc (Nat.le_refl _) _
  gi_wp2
  refine wpIn_rangeFunc_ownG hro h1 (gf := 56) (lb := #[.pointer (some ⟨w.heap.size + 2, 0, none⟩)]) rfl trivial (enters_of Tryd.func56 (by kernel_rfl) rfl)
    (all_stops Fence.wide (5 - 1) trivial hro (by omega) (w.heap.size + 2) Wd.heap.size A' c' os (by omega) Wd rfl hcaD hoaD) belowK_t (belowK_b (by simp)) hBN (fun _ => rfl)
    (fun pre W => (W.cell? ⟨Wd.heap.size, 0, none⟩ = some (.int .i64 pre.length) ∧ W.frozen? ⟨Wd.heap.size, 0, none⟩ = false) ∧ Below Wd.heap.size Wd W)
    (fun _ (pre : List Thg) _ => ¬ pre <+: os.map (fun x : TA => x.1))
    (OwnFrom.and (Own.from (fun s A B row hs hg hr => ⟨cell_kept hs.1 hg hr, (frozen_kept hs.1 hg hr).trans hs.2⟩) _) (ownFrom_below (Nat.le_refl _) (by simp)))
    (fun _ _ _ _ _ hs _ _ => hs)
    ⟨⟨bN.cell, bN.frozen⟩, hBN⟩
    (fun x => { tmps := #[.pointer (some ⟨r, 0, none⟩), .slice Ax xs.length cx, undef, .pointer (some ⟨w.heap.size, 0, none⟩), .pointer (some ⟨w.heap.size + 1, 0, none⟩), .func (.func 56) #[] #[.pointer (some ⟨w.heap.size + 2, 0, none⟩)], .pointer (some ⟨Wd.heap.size, 0, none⟩), .string (mk8 x.nm), .int .i64 x.x, .pointer (some ⟨r, 0, none⟩), .func (.func 56) #[] #[.pointer (some ⟨w.heap.size + 2, 0, none⟩)], .func (.func 56) #[] #[.pointer (some ⟨w.heap.size + 2, 0, none⟩)], .bool false, .bool false, .pointer (some ⟨r, 0, none⟩), .int .i64 xs.length, .slice Ax xs.length cx, .int .i64 xs.length, .bool false, .bool false, .func (.func 56) #[] #[.pointer (some ⟨w.heap.size + 2, 0, none⟩)], .string (mk8 x.nm), .int .i64 x.x, undef, undef, undef, undef, undef, undef, undef, undef, undef, undef, undef, undef, undef, undef, undef, undef, undef, undef, undef, undef, undef, undef, undef, undef, undef, undef, undef, undef], defers := [] }) ?assign ?body ?done ?stop
  case assign =>
    intro l x W K hK
    gi_wp2
    exact hK
  case body =>
    rintro l pre x W ⟨⟨hc, hf⟩, hB⟩ hlt
    have hd : 1 ≤ 5 - 1 - 1 := by omega
    have c1 := (boxed_below bd1 hB).cell
    have c2 := (boxed_below bd2 hB).cell
    have f2 := (boxed_below bd2 hB).frozen
    have hxs : pre.length < xs.length := by rw [HXL.out]; exact hlt
    obtain ⟨⟨t, At, ct⟩, hxk⟩ : ∃ x, xs[pre.length]? = some x := ⟨_, List.getElem?_eq_getElem hxs⟩
    obtain ⟨b, off, rfl, _, hcx⟩ := (hxD.below hB).at_ (by omega)
    obtain ⟨t0, t1, t2⟩ := th_cells hxk hcx
    have hLk : (os.map (·.1))[pre.length]? = some t := by rw [← hL, List.getElem?_map, hxk]; rfl
    have HBAD : Hid (x ≠ t → ¬ (pre ++ [x]) <+: os.map (·.1)) := fun hne hp => by
      obtain ⟨u, hu⟩ := hp
      rw [← hu, List.append_assoc, List.getElem?_append_right (Nat.le_refl _), Nat.sub_self] at hLk
      injection hLk with hLk
      exact hne hLk
    have hi : (pre.length : Int) < (xs.length : Int) := by omega
    have hi0 : (0 : Int) ≤ (pre.length : Int) := by omega
    have hpl : pre.length ≤ 256 := by omega
    clear hcx hLk hxk hL h hx hxD hlt hxs hcaD hoaD
    by_cases hnm : x.nm = t.nm
    · by_cases hxx : x.x = t.x
      · rw [← hnm] at t1
        rw [← hxx] at t0
        have hse := str_eq_self (mk8 x.nm)
        have hB2 : Below Wd.heap.size Wd (W.setCell ⟨Wd.heap.size, 0, none⟩ (.int .i64 ((pre.length : Int) + 1))) := hB.setCell (p := ⟨Wd.heap.size, 0, none⟩) (Nat.le_refl _) _
        have hc2 := World.cell?_setCell_same' W ⟨Wd.heap.size, 0, none⟩ (.int .i64 ((pre.length : Int) + 1)) (by rw [hc]; rfl)
        have hw64 : wrap64 ((pre.length : Int) + 1) = (pre.length : Int) + 1 := by unfold wrap64; omega
        have hfz : (W.setCell ⟨Wd.heap.size, 0, none⟩ (.int .i64 ((pre.length : Int) + 1))).frozen? ⟨Wd.heap.size, 0, none⟩ = false := by rw [World.frozen?_setCell]; exact hf
        clear HBAD hnm hxx
        gi_wp2
        exact ⟨(KeepsOthers.setCell W ⟨Wd.heap.size, 0, none⟩ _).from _, (Below.refl _ _).setCell (p := ⟨Wd.heap.size, 0, none⟩) (Nat.le_refl _) _, ⟨by rw [hc2]; simp, hfz⟩, hB2⟩
      · have hbx := Lib.hid (HBAD.out fun e => hxx (by rw [e]))
        rw [← hnm] at t1
        have hse := str_eq_self (mk8 x.nm)
        have hq : (x.x == t.x) = false := by simpa using hxx
        have hq2 : (x.x != t.x) = true := by simp [hxx]
        clear HBAD hnm hxx
        gi_wp2
        exact ⟨(KeepsOthers.setCell _ ⟨w.heap.size + 1, 0, none⟩ _).from _, hbx.out⟩
    · have hbx := Lib.hid (HBAD.out fun e => hnm (by rw [e]))
      have hne : ¬ ((mk8 x.nm).toList = (mk8 t.nm).toList) := fun h => hnm (by rw [toList_bs, toList_bs, bs_mk8, bs_mk8] at h; exact h)
      have hbq : ((mk8 x.nm).toList == (mk8 t.nm).toList) = false := beq_eq_false_iff_ne.2 hne
      clear HBAD hnm
      gi_wp2
      exact ⟨(KeepsOthers.setCell _ ⟨w.heap.size + 1, 0, none⟩ _).from _, hbx.out⟩
  case done =>
    rintro D ys W hD rfl ⟨⟨hc, hf⟩, hB⟩ hK
    rw [List.length_map, ← HXL.out] at hc
    have c1 := (boxed_below bd1 hB).cell
    have c2 := (boxed_below bd2 hB).cell
    have f2 := (boxed_below bd2 hB).frozen
    gi_wp2
    have hK' := (KeepsOthers.setCell W ⟨w.heap.size + 1, 0, none⟩ (.bool true)).same D _ hK rfl
    refine ⟨by simp, .inl ⟨_, _, rfl, run_takeDeferred hK', ?_⟩⟩
    have hb5 := cell_kept (World.cell?_setCell_same' W ⟨w.heap.size + 1, 0, none⟩ (.bool true) (by rw [c2]; rfl)) (grownBy_putObj' _ D (.deferred none)) (fun r e => by cases e; exact ⟨_, hK', rfl⟩)
    refine ⟨.bool true, ?_, rfl, ?_⟩
    · simp [results, Tryd.f23, go_sem, hb5]
    · have hB2 := (below_then hBD hB).setCell (p := ⟨w.heap.size + 1, 0, none⟩) (by simp) (.bool true)
      exact hB2.trans (belowK_b (w := w) (Nat.le_refl _) _ D _ _ (by simp at hD; omega) hK' rfl rfl)
  case stop =>
    rintro D c pre W _ hpre h _
    exact (h hpre).elim
end
end Go.Proofs.YthfakejhkbelhaaDoor
