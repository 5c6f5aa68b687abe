/- The contracts of the package of syllables that hand back lists. -/
import Derived.Test.YtcfnncapdkjlnaaDoorHang
import Derived.Test.YtcfnncapdkjlnaaDoorRunes
namespace Go.Proofs.YtcfnncapdkjlnaaDoor
open Go.RowKit

theorem fullH_yes {r : Int} (h : 44032 ≤ r ∧ r < 55204) : fullH r = if 0 < (r - 44032) % 28 then [4352 + (r - 44032) / 588, 4449 + (r - 44032) / 28 % 21, 4519 + (r - 44032) % 28] else [4352 + (r - 44032) / 588, 4449 + (r - 44032) / 28 % 21] := by simp [fullH, h]

theorem full_no (r : Int) (w : World) (hk : Kinds w) (h : isH r = false) :
    Calls Tryd.prog 13 #[.int .i32 r] w (FreshR w (fullH r)) := by
  have he : fullH r = [] := by unfold fullH; rw [if_neg (isH_false h)]
  rw [he]
  go_enter Tryd.func13, Tryd.ntmps13
  go_wp2_with (go_at_call 11; refine (is_any _ _ hk).mono ?_; rintro e w' ⟨rfl, rfl⟩)
  go_returns
  exact ⟨none, 0, rfl, World.ownsRow_nil _ _ _ _, Below.refl _ _⟩

theorem full_yes (r : Int) (w : World) (hk : Kinds w) (h : isH r = true) :
    Calls Tryd.prog 13 #[.int .i32 r] w (FreshR w (fullH r)) := by
  obtain ⟨h1, h2⟩ := isH_true h
  have hf := fullH_yes ⟨h1, h2⟩
  have i0 : ∀ (x0 x1 x2 : Value) (w : World), (Instr.index 36 (.agg #[x0, x1, x2]) (.int .i64 0)).run Tryd.prog w = .ok x0 w := fun _ _ _ _ => by kernel_rfl
  have i1 : ∀ (x0 x1 x2 : Value) (w : World), (Instr.index 36 (.agg #[x0, x1, x2]) (.int .i64 1)).run Tryd.prog w = .ok x1 w := fun _ _ _ _ => by kernel_rfl
  have i2 : ∀ (x0 x1 x2 : Value) (w : World), (Instr.index 36 (.agg #[x0, x1, x2]) (.int .i64 2)).run Tryd.prog w = .ok x2 w := fun _ _ _ _ => by kernel_rfl
  have HF := Lib.hid hf; clear hf
  go_enter Tryd.func13, Tryd.ntmps13
  go_wp2_with (go_at_call 11; refine (is_any _ _ hk).mono ?_; rintro e w' ⟨rfl, rfl⟩)
  refine (parts_any r _ hk h1 h2).mono ?_
  rintro e w1 ⟨rfl, hb1⟩
  have hk1 := hk.below' hb1
  have hl1 := hk1.lt
  have hk1' := hk1
  obtain ⟨k0, k1, k2, k3, k4, k5⟩ := hk1'
  have hz1 := hb1.size
  go_wp2
  refine wp_loop_rounds 4 ?_
  rw [rounds_succ]
  go_wp2_with (at_builtin; refine wpList_app runeElem _ rfl _ _ rfl w.heap.size rfl (World.ownsRow_nil _ _ _ _) rfl (Rd.new1 _ _ _) (one_of rfl) (by omega) (by omega) (by simp; omega) ?_)
  intro A2 c2 w2 hown2 hg2 hat2
  have hb2 := below_app (hb1.alloc hz1 _) (by simp; omega) (World.ownsRow_nil _ w.heap.size 21 1) hg2
  have hz2 := hb2.size
  have hk2 := hk.below' hb2
  have hl2 := hk2.lt
  obtain ⟨m0, m1, m2, m3, m4, m5⟩ := hk2
  clear k0 k1 k2 k3 k4 k5 hg2 hat2
  go_wp2
  rw [rounds_succ]
  go_wp2_with (at_builtin; refine wpList_app runeElem _ rfl _ _ rfl w.heap.size rfl (hown2.alloc _) rfl (Rd.new1 _ _ _) (one_of rfl) (by omega) (by omega) (by simp; omega) ?_)
  intro A3 c3 w3 hown3 hg3 hat3
  have hb3 := below_app (hb2.alloc hz2 _) (by simp; omega) (hown2.alloc _) hg3
  have hz3 := hb3.size
  have hk3 := hk.below' hb3
  have hl3 := hk3.lt
  obtain ⟨n0, n1, n2, n3, n4, n5⟩ := hk3
  clear m0 m1 m2 m3 m4 m5 hg3 hat3 hown2
  go_wp2
  rw [rounds_succ]
  by_cases ht : 0 < (r - 44032) % 28
  · have hd : decide (0 < (r - 44032) % 28) = true := by simp; omega
    go_wp2_with (at_builtin; refine wpList_app runeElem _ rfl _ _ rfl w.heap.size rfl (hown3.alloc _) rfl (Rd.new1 _ _ _) (one_of rfl) (by omega) (by omega) (by simp; omega) ?_)
    intro A4 c4 w4 hown4 hg4 hat4
    have hb4 := below_app (hb3.alloc hz3 _) (by simp; omega) (hown3.alloc _) hg4
    clear n0 n1 n2 n3 n4 n5 hg4 hat4 hown3
    go_wp2
    rw [rounds_succ]
    go_wp2
    go_returns
    have e : fullH r = [4352 + (r - 44032) / 28 / 21, 4449 + (r - 44032) / 28 % 21, 4519 + (r - 44032) % 28] := by rw [HF.out, if_pos ht, show (r - 44032) / 28 / 21 = (r - 44032) / 588 by omega]
    rw [e]
    exact ⟨A4, c4, rfl, by simpa using hown4, hb4⟩
  · have hd : decide (0 < (r - 44032) % 28) = false := by simp; omega
    go_wp2
    rw [rounds_succ]
    go_wp2
    go_returns
    have e : fullH r = [4352 + (r - 44032) / 28 / 21, 4449 + (r - 44032) / 28 % 21] := by rw [HF.out, if_neg (by omega), show (r - 44032) / 28 / 21 = (r - 44032) / 588 by omega]
    rw [e]
    exact ⟨A3, c3, rfl, by simpa using hown3, hb3⟩

theorem full_any (r : Int) (w : World) (hk : Kinds w) : Calls Tryd.prog 13 #[.int .i32 r] w (FreshR w (fullH r)) := by
  rcases Bool.eq_false_or_eq_true (isH r) with h | h
  · exact full_yes r w hk h
  · exact full_no r w hk h

theorem partsL_any (A : Option Addr) (n c : Nat) (xs : List Int) (w : World) (hk : Kinds w) (hx : Rd w A n (Rs xs)) (hn : n ≤ 1073741824) :
    Calls Tryd.prog 19 #[.slice A n c] w (FreshR w (partsH xs)) := by
  have hxl : xs.length = n := by have := hx.1; simpa using this
  have HXL := Lib.hid hxl; clear hxl
  go_enter Tryd.func19, Tryd.ntmps19
  go_wp2
  go_loopw [3, 8] (fun v i wr => ∃ (k : Nat) (ps : List Int) (A' : Option Addr) (c' : Nat), k ≤ n ∧ i = .int .i64 k ∧ Hid (ps = partsH (xs.take k)) ∧ v = .slice A' ps.length c' ∧ wr.ownsRow w.heap.size 21 1 (.slice A' ps.length c') ps.length (Rs ps) ∧ Below w.heap.size w wr) (fun _ i _ => n - (intOf i).toNat)
  case atStart => exact ⟨0, [], none, 0, Nat.zero_le _, rfl, rfl, rfl, World.ownsRow_nil _ _ _ _, Below.refl _ _⟩
  case round =>
    obtain ⟨k, ps, A', c', hkn, rfl, HP, rfl, hown, hb⟩ := hrel
    have hz := hb.size
    by_cases hlt : k < n
    · have hkw := hk.below' hb
      obtain ⟨b, off, rfl, hbl, hcx⟩ := (hx.below hb).at_ (by omega)
      have hlx : k < xs.length := by rw [HXL.out]; exact hlt
      obtain ⟨z, hxz⟩ : ∃ z, xs[k]? = some z := ⟨_, List.getElem?_eq_getElem hlx⟩
      have cx : wr.cell? ⟨b, off + k, none⟩ = some (.int .i32 z) := hcx k _ (by simp [hxz])
      have hpl : ps.length ≤ 3 * k := by
        rw [HP.out]
        exact Nat.le_trans (partsH_len _) (by have := List.length_take_le k xs; omega)
      have HXZ := Lib.hid hxz; clear hxz hcx hx
      have hi : (k : Int) < (n : Int) := by omega
      rcases Bool.eq_false_or_eq_true (isH z) with hzh | hzh
      · have hpo : partOne z = fullH z := by unfold partOne; rw [if_pos (isH_true hzh)]
        have HPO := Lib.hid hpo; clear hpo
        go_wp2_with (go_at_call 11; refine (is_any _ _ hkw).mono ?_; rintro e w' ⟨rfl, rfl⟩)
        refine (full_any z _ hkw).mono ?_
        rintro e w2 ⟨A2, c2, rfl, hown2, hb2⟩
        have hz2 := hb2.size
        obtain ⟨A2', c2', e2, _, _, hr2⟩ := Rd.of_own hown2
        injection e2 with e2a e2b e2c
        subst e2a e2c
        have hf3 : (fullH z).length ≤ 3 := by rw [← HPO.out]; exact partOne_len z
        have hown' : w2.ownsRow w.heap.size 21 1 (.slice A' ps.length c') ps.length (Rs ps) := own_below hown hb2
        go_wp2_with (at_builtin; refine wpList_app runeElem _ rfl _ _ rfl w.heap.size rfl hown' rfl hr2 (runes_one _ _) (by omega) (by omega) (by omega) ?_)
        intro A3 c3 w3 hown3 hg3 hat3
        have hb3 := below_app (hb.trans (hb2.mono hz)) (by omega) hown' hg3
        go_wp2
        go_roundw
        case rel => exact ⟨k + 1, ps ++ fullH z, A3, c3, by omega, by go_num, by show ps ++ fullH z = _; rw [partsH_take HXZ.out, HPO.out, ← HP.out], by simp, by simpa using hown3, hb3⟩
        case measure => simp [intOf]; omega
      · have hpo : partOne z = [z] := by unfold partOne; rw [if_neg (isH_false hzh)]
        have hfo : fullH z = [] := by unfold fullH; rw [if_neg (isH_false hzh)]
        have HPO := Lib.hid hpo; clear hpo
        have HFO := Lib.hid hfo; clear hfo
        go_wp2_with (first | (go_at_call 11; refine (is_any _ _ hkw).mono ?_; rintro e w' ⟨rfl, rfl⟩) | (at_builtin; refine wpList_app runeElem _ rfl _ _ rfl w.heap.size rfl (hown.alloc _) rfl (Rd.new1 _ _ _) (one_of rfl) (by omega) (by omega) (by simp; omega) ?_))
        intro A1 c1 w1 hown1 hg1 hat1
        have hb1 := below_app (hb.alloc hz _) (by simp; omega) (hown.alloc _) hg1
        have hz1 := hb1.size
        have hk1 := hk.below' hb1
        go_wp2_with fail
        refine (full_any z _ hk1).mono ?_
        rw [HFO.out]
        rintro e w2 ⟨A2, c2, rfl, hown2, hb2⟩
        have hz2 := hb2.size
        obtain ⟨A2', c2', e2, _, _, hr2⟩ := Rd.of_own hown2
        injection e2 with e2a e2b e2c
        subst e2a e2c
        have hown' := own_below hown1 hb2
        go_wp2_with (at_builtin; refine wpList_app runeElem _ rfl _ _ rfl w.heap.size rfl hown' rfl hr2 (runes_one _ _) (by simp; omega) (by omega) (by omega) ?_)
        intro A3 c3 w3 hown3 hg3 hat3
        have hb3 := below_app (hb1.trans (hb2.mono hz1)) (by omega) hown' hg3
        go_wp2
        go_roundw
        case rel => exact ⟨k + 1, ps ++ [z], A3, c3, by omega, by go_num, by show ps ++ [z] = _; rw [partsH_take HXZ.out, HPO.out, ← HP.out], by simp, by simpa using hown3, hb3⟩
        case measure => simp [intOf]; omega
    · have hkn' : k = n := by omega
      subst hkn'
      go_wp2
      go_returns
      have e : ps = partsH xs := by rw [HP.out, List.take_of_length_le (by rw [HXL.out]; exact Nat.le_refl _)]
      rw [← e]
      exact ⟨A', c', rfl, hown, hb⟩

theorem syllL_any (A : Option Addr) (n c : Nat) (xs : List Int) (w : World) (hk : Kinds w) (hx : Rd w A n (Rs xs)) (hn : n ≤ 1073741824) (h32 : I32 xs) :
    Calls Tryd.prog 18 #[.slice A n c] w (FreshR w (syllH xs)) := by
  have hxl : xs.length = n := by have := hx.1; simpa using this
  have HXL := Lib.hid hxl; clear hxl
  have H32 := Lib.hid h32; clear h32
  go_enter Tryd.func18, Tryd.ntmps18
  go_wp2
  go_loopw [3, 11] (fun v i wr => ∃ (k : Nat) (ps : List Int) (A' : Option Addr) (c' : Nat), k ≤ n ∧ i = .int .i64 k ∧ Hid (ps = syllH (xs.take k)) ∧ Hid (I32 ps) ∧ ps.length ≤ k ∧ v = .slice A' ps.length c' ∧ wr.ownsRow w.heap.size 21 1 (.slice A' ps.length c') ps.length (Rs ps) ∧ Below w.heap.size w wr) (fun _ i _ => n - (intOf i).toNat)
  case atStart => exact ⟨0, [], none, 0, Nat.zero_le _, rfl, rfl, fun z hz => by simp at hz, Nat.zero_le _, rfl, World.ownsRow_nil _ _ _ _, Below.refl _ _⟩
  case round =>
    obtain ⟨k, ps, A', c', hkn, rfl, HP, HP32, hpl, rfl, hown, hb⟩ := hrel
    have hz := hb.size
    by_cases hlt : k < n
    · have hkw := hk.below' hb
      obtain ⟨b, off, rfl, hbl, hcx⟩ := (hx.below hb).at_ (by omega)
      have hlx : k < xs.length := by rw [HXL.out]; exact hlt
      obtain ⟨z, hxz⟩ : ∃ z, xs[k]? = some z := ⟨_, List.getElem?_eq_getElem hlx⟩
      have cx : wr.cell? ⟨b, off + k, none⟩ = some (.int .i32 z) := hcx k _ (by simp [hxz])
      have hz32 := H32.out z (List.mem_of_getElem? hxz)
      obtain ⟨hz1, hz2⟩ := hz32
      have HST : Hid (syllH (xs.take (k + 1)) = syllStep ps z) := by show _ = _; rw [syllH_take hxz, ← HP.out]
      clear hxz hcx hx
      have hi : (k : Int) < (n : Int) := by omega
      rcases List.eq_nil_or_concat ps with rfl | ⟨q, x, rfl⟩
      · have hst : syllStep [] z = [z] := rfl
        have HSZ := Lib.hid hst; clear hst
        go_wp2_with (at_builtin; refine wpList_app runeElem _ rfl _ _ rfl w.heap.size rfl (hown.alloc _) rfl (Rd.new1 _ _ _) (one_of rfl) (by simp) (by omega) (by simp; omega) ?_)
        intro A1 c1 w1 hown1 hg1 hat1
        have hb1 := below_app (hb.alloc hz _) (by simp; omega) (hown.alloc _) hg1
        go_wp2
        go_roundw
        case rel => exact ⟨k + 1, [z], A1, c1, by omega, by go_num, by show [z] = _; rw [HST.out, HSZ.out], by show I32 _; rw [← HSZ.out]; exact syllStep_i32 HP32.out ⟨hz1, hz2⟩, by simp, by simp, by simpa using hown1, hb1⟩
        case measure => simp [intOf]; omega
      · rw [List.concat_eq_append] at *
        have hql : q.length + 1 ≤ k := by simpa using hpl
        have hlen : (q ++ [x]).length = q.length + 1 := by simp
        rw [hlen] at hown ⊢
        obtain ⟨g, cap, hform, hg0, hgl⟩ := hown.form (by omega)
        injection hform with hA _ hc
        subst hA hc
        have cq : wr.cell? ⟨g, q.length, none⟩ = some (.int .i32 x) := by rw [hown.cellAt q.length (by omega)]; simp
        have fq : wr.frozen? ⟨g, q.length, none⟩ = false := hown.frozenAt _
        obtain ⟨hx1, hx2⟩ := HP32.out x (by simp)
        have hq0 : (0 : Int) < (q.length : Int) + 1 := by omega
        clear hlen
        go_wp2_with fail
        refine (join_any x z _ hkw hx1 hx2 hz1 hz2).mono ?_
        rintro e w1 ⟨rfl, hb1⟩
        have hstp := syllStep_snoc q x z
        have hown1 := own_below hown hb1
        have hzz := hb1.size
        have hbb := hb.trans (hb1.mono hz)
        have cq1 : w1.cell? ⟨g, q.length, none⟩ = some (.int .i32 x) := (hb1.cell (p := ⟨g, q.length, none⟩) hgl).trans cq
        have fq1 : w1.frozen? ⟨g, q.length, none⟩ = false := (hb1.frozen (p := ⟨g, q.length, none⟩) hgl).trans fq
        clear cq fq
        rcases Bool.eq_false_or_eq_true (joinH x z).2 with hj | hj
        · rw [if_pos hj] at hstp
          have HSZ := Lib.hid hstp; clear hstp
          obtain ⟨y, hy⟩ : ∃ y, y = (joinH x z).1 := ⟨_, rfl⟩
          rw [← hy] at HSZ ⊢
          clear hy
          have hst := hown1.stored q.length (.int .i32 y)
          have hbs : Below w.heap.size w (w1.setCell ⟨g, q.length, none⟩ (.int .i32 y)) := hbb.setCell hg0 _
          go_wp2
          go_roundw
          case rel => exact ⟨k + 1, q ++ [y], some ⟨g, 0, none⟩, c', by omega, by go_num, by show q ++ [y] = _; rw [HST.out, HSZ.out], by show I32 _; rw [← HSZ.out]; exact syllStep_i32 HP32.out ⟨hz1, hz2⟩, by simp; omega, by simp, by simpa using hst.1, hbs⟩
          case measure => simp [intOf]; omega
        · rw [if_neg (by rw [hj]; simp)] at hstp
          have HSZ := Lib.hid hstp; clear hstp
          go_wp2_with (at_builtin; refine wpList_app runeElem _ rfl _ _ rfl w.heap.size rfl (hown1.alloc _) rfl (Rd.new1 _ _ _) (one_of rfl) (by omega) (by omega) (by simp; omega) ?_)
          intro A1 c1 w2 hown2 hg2 hat2
          have hb2 := below_app (hbb.alloc (by omega) _) (by simp; omega) (hown1.alloc _) hg2
          go_wp2
          go_roundw
          case rel => exact ⟨k + 1, q ++ [x] ++ [z], A1, c1, by omega, by go_num, by show q ++ [x] ++ [z] = _; rw [HST.out, HSZ.out], by show I32 _; rw [← HSZ.out]; exact syllStep_i32 HP32.out ⟨hz1, hz2⟩, by simp; omega, by simp, by simpa using hown2, hb2⟩
          case measure => simp [intOf]; omega
    · have hkn' : k = n := by omega
      subst hkn'
      go_wp2
      go_returns
      have e : ps = syllH xs := by rw [HP.out, List.take_of_length_le (by rw [HXL.out]; exact Nat.le_refl _)]
      rw [← e]
      exact ⟨A', c', rfl, hown, hb⟩
end Go.Proofs.YtcfnncapdkjlnaaDoor
