/- The contracts of the document's answer for lists of syllables. -/
import Derived.Test.YtcfnncapdkjlnaaDoorHangR
namespace Go.Proofs.YtcfnncapdkjlnaaDoor
open Go.RowKit

theorem rpartsL_any (A : Option Addr) (n c : Nat) (xs : List Int) (w : World) (hx : Rd w A n (Rs xs)) (hn : n ≤ 1073741824) (h32 : I32 xs) :
    Calls Tryd.prog 20 #[.slice A n c] w (FreshR w (partsH xs)) := by
  have hxl : xs.length = n := by have := hx.1; simpa using this
  have HXL := Lib.hid hxl; clear hxl
  have H32 := Lib.hid h32; clear h32
  go_enter Tryd.func20, Tryd.ntmps20
  go_wp2
  go_loopw [3, 4] (fun v i wr => ∃ (k : Nat) (ps : List Int) (A' : Option Addr) (c' : Nat), k ≤ n ∧ i = .int .i64 k ∧ Hid (ps = partsH (xs.take k)) ∧ v = .slice A' ps.length c' ∧ wr.ownsRow w.heap.size 21 1 (.slice A' ps.length c') ps.length (Rs ps) ∧ Below w.heap.size w wr) (fun _ i _ => n - (intOf i).toNat)
  case atStart => exact ⟨0, [], none, 0, Nat.zero_le _, rfl, rfl, rfl, World.ownsRow_nil _ _ _ _, Below.refl _ _⟩
  case round =>
    obtain ⟨k, ps, A', c', hkn, rfl, HP, rfl, hown, hb⟩ := hrel
    have hz := hb.size
    by_cases hlt : k < n
    · have hxw := hx.below hb
      obtain ⟨b, off, rfl, hbl, hcx⟩ := hxw.at_ (by omega)
      have hlx : k < xs.length := by rw [HXL.out]; exact hlt
      obtain ⟨z, hxz⟩ : ∃ z, xs[k]? = some z := ⟨_, List.getElem?_eq_getElem hlx⟩
      have cx : wr.cell? ⟨b, off + k, none⟩ = some (.int .i32 z) := hcx k _ (by simp [hxz])
      have hpl : ps.length ≤ 3 * k := by
        rw [HP.out]
        exact Nat.le_trans (partsH_len _) (by have := List.length_take_le k xs; omega)
      obtain ⟨hz1, hz2⟩ := H32.out z (List.mem_of_getElem? hxz)
      have HXZ := Lib.hid hxz; clear hxz hcx hx
      have hi : (k : Int) < (n : Int) := by omega
      rcases Bool.eq_false_or_eq_true (isH z) with hzh | hzh
      · have hpo : partOne z = fullH z := by unfold partOne; rw [if_pos (isH_true hzh)]
        have hfl : 0 < (fullH z).length := by unfold fullH; rw [if_pos (isH_true hzh)]; split <;> simp
        have HPO := Lib.hid hpo; clear hpo hxw
        go_wp2_with fail
        refine (rfull_any z _ hz1 hz2).mono ?_
        rintro e w2 ⟨A2, c2, rfl, hown2, hb2⟩
        have hz3 := hb2.size
        obtain ⟨A2', c2', e2, _, _, hr2⟩ := Rd.of_own hown2
        injection e2 with e2a e2b e2c
        subst e2a e2c
        have hf3 : (fullH z).length ≤ 3 := by rw [← HPO.out]; exact partOne_len z
        have hne : (((fullH z).length : Int) == 0) = false := by rw [beq_eq_false_iff_ne]; omega
        have hown' := own_below hown hb2
        go_wp2_with (at_builtin; refine wpList_app runeElem _ rfl _ _ rfl w.heap.size rfl hown' rfl hr2 (runes_one _ _) (by omega) (by omega) (by omega) ?_)
        intro A3 c3 w3 hown3 hg3 hat3
        have hb3 := below_app (hb.trans (hb2.mono hz)) (by omega) hown' hg3
        go_wp2
        go_roundw
        case rel => exact ⟨k + 1, ps ++ fullH z, A3, c3, by omega, by go_num, by show ps ++ fullH z = _; rw [partsH_take HXZ.out, HPO.out, ← HP.out], by simp, by simpa using hown3, hb3⟩
        case measure => simp [intOf]; omega
      · have hpo : partOne z = [z] := by unfold partOne; rw [if_neg (isH_false hzh)]
        have hfo : fullH z = [] := by unfold fullH; rw [if_neg (isH_false hzh)]
        have HPO := Lib.hid hpo; clear hpo
        have HFO := Lib.hid hfo; clear hfo
        go_wp2_with fail
        refine (rfull_any z _ hz1 hz2).mono ?_
        rw [HFO.out]
        rintro e w1 ⟨A2, c2, rfl, hown2, hb1⟩
        have hz3 := hb1.size
        obtain ⟨A2', c2', e2, _, _, hr2⟩ := Rd.of_own hown2
        injection e2 with e2a e2b e2c
        subst e2a e2c
        have hown' := own_below hown hb1
        have cx1 : w1.cell? ⟨b, off + k, none⟩ = some (.int .i32 z) := (hb1.cell (p := ⟨b, off + k, none⟩) hbl).trans cx
        have hbb := hb.trans (hb1.mono hz)
        go_wp2_with (at_builtin; refine wpList_app runeElem _ rfl _ _ rfl w.heap.size rfl (hown'.alloc _) rfl (Rd.new1 _ _ _) (one_of rfl) (by omega) (by omega) (by simp; omega) ?_)
        intro A1 c1 w3 hown3 hg3 hat3
        have hr3 : Rd w3 A2 0 (Rs []) := Rd.nil _ _
        have hb3 := below_app (hbb.alloc (by omega) _) (by simp; omega) (hown'.alloc _) hg3
        have hz4 := hb3.size
        go_wp2_with (at_builtin; refine wpList_app runeElem _ rfl _ _ rfl w.heap.size rfl hown3 rfl hr3 (runes_one _ _) (by omega) (by omega) (by omega) ?_)
        intro A4 c4 w4 hown4 hg4 hat4
        have hb4 := below_app hb3 (by omega) hown3 hg4
        go_wp2
        go_roundw
        case rel => exact ⟨k + 1, ps ++ [z], A4, c4, by omega, by go_num, by show ps ++ [z] = _; rw [partsH_take HXZ.out, HPO.out, ← HP.out], by simp, by simpa using hown4, hb4⟩
        case measure => simp [intOf]; omega
    · have hkn' : k = n := by omega
      subst hkn'
      go_wp2
      go_returns
      have e : ps = partsH xs := by rw [HP.out, List.take_of_length_le (by rw [HXL.out]; exact Nat.le_refl _)]
      rw [← e]
      exact ⟨A', c', rfl, hown, hb⟩

theorem rsyllL_any (A : Option Addr) (n c : Nat) (xs : List Int) (w : World) (hx : Rd w A n (Rs xs)) (hn : n ≤ 1073741824) (h32 : I32 xs) :
    Calls Tryd.prog 21 #[.slice A n c] w (FreshR w (syllH xs)) := by
  have hxl : xs.length = n := by have := hx.1; simpa using this
  have HXL := Lib.hid hxl; clear hxl
  have H32 := Lib.hid h32; clear h32
  go_enter Tryd.func21, Tryd.ntmps21
  go_wp2
  go_loopw [3, 4] (fun v i wr => ∃ (k : Nat) (ps : List Int) (A' : Option Addr) (c' : Nat), k ≤ n ∧ i = .int .i64 k ∧ Hid (ps = syllH (xs.take k)) ∧ Hid (I32 ps) ∧ ps.length ≤ k ∧ v = .slice A' ps.length c' ∧ wr.ownsRow w.heap.size 21 1 (.slice A' ps.length c') ps.length (Rs ps) ∧ Below w.heap.size w wr) (fun _ i _ => n - (intOf i).toNat)
  case atStart => exact ⟨0, [], none, 0, Nat.zero_le _, rfl, rfl, fun z hz => by simp at hz, Nat.zero_le _, rfl, World.ownsRow_nil _ _ _ _, Below.refl _ _⟩
  case round =>
    obtain ⟨k, ps, A', c', hkn, rfl, HP, HP32, hpl, rfl, hown, hb⟩ := hrel
    have hz := hb.size
    by_cases hlt : k < n
    · obtain ⟨b, off, rfl, hbl, hcx⟩ := (hx.below hb).at_ (by omega)
      have hlx : k < xs.length := by rw [HXL.out]; exact hlt
      obtain ⟨z, hxz⟩ : ∃ z, xs[k]? = some z := ⟨_, List.getElem?_eq_getElem hlx⟩
      have cx : wr.cell? ⟨b, off + k, none⟩ = some (.int .i32 z) := hcx k _ (by simp [hxz])
      obtain ⟨hz1, hz2⟩ := H32.out z (List.mem_of_getElem? hxz)
      have HST : Hid (syllH (xs.take (k + 1)) = syllStep ps z) := by show _ = _; rw [syllH_take hxz, ← HP.out]
      clear hxz hcx hx
      have hi : (k : Int) < (n : Int) := by omega
      rcases List.eq_nil_or_concat ps with rfl | ⟨q, x, rfl⟩
      · have hst : syllStep [] z = [z] := rfl
        have HSZ := Lib.hid hst; clear hst
        go_wp2_with (at_builtin; refine wpList_app runeElem _ rfl _ _ rfl w.heap.size rfl (hown.alloc _) rfl (Rd.new1 _ _ _) (one_of rfl) (by simp) (by omega) (by simp; omega) ?_)
        intro A1 c1 w1 hown1 hg1 hat1
        have hb1 := below_app (hb.alloc hz _) (by simp; omega) (hown.alloc _) hg1
        go_wp2
        go_roundw
        case rel => exact ⟨k + 1, [z], A1, c1, by omega, by go_num, by show [z] = _; rw [HST.out, HSZ.out], by show I32 _; rw [← HSZ.out]; exact syllStep_i32 HP32.out ⟨hz1, hz2⟩, by simp, by simp, by simpa using hown1, hb1⟩
        case measure => simp [intOf]; omega
      · rw [List.concat_eq_append] at *
        have hql : q.length + 1 ≤ k := by simpa using hpl
        have hlen : (q ++ [x]).length = q.length + 1 := by simp
        rw [hlen] at hown ⊢
        obtain ⟨g, cap, hform, hg0, hgl⟩ := hown.form (by omega)
        injection hform with hA _ hc
        subst hA hc
        have cq1 : wr.cell? ⟨g, q.length, none⟩ = some (.int .i32 x) := by rw [hown.cellAt q.length (by omega)]; simp
        have fq1 : wr.frozen? ⟨g, q.length, none⟩ = false := hown.frozenAt _
        obtain ⟨hx1, hx2⟩ := HP32.out x (by simp)
        have hq0 : (0 : Int) < (q.length : Int) + 1 := by omega
        clear hlen
        have hstp := syllStep_snoc q x z
        rcases Bool.eq_false_or_eq_true (joinH x z).2 with hj | hj
        · rw [if_pos hj] at hstp
          have HSZ := Lib.hid hstp; clear hstp
          have hst := fun (nq : Nat) (y : Int) => (show (wr.drewN nq).ownsRow w.heap.size 21 1 (.slice (some ⟨g, 0, none⟩) (q.length + 1) c') (q.length + 1) (Rs (q ++ [x])) from own_below hown (below_drewN _ _ _)).stored q.length (.int .i32 y)
          have HSTO := Lib.hid hst; clear hst
          have hbs := fun (nq : Nat) (y : Int) => (below_drew' hb nq).setCell (p := ⟨g, q.length, none⟩) hg0 (.int .i32 y)
          have HBS := Lib.hid hbs; clear hbs
          go_wp2
          go_quiet ((go_at_call 17; exact quiet_left (rjoin_any _ _ _ (by omega) (by omega) (by omega) (by omega))))
          go_wp2
          go_roundw
          case rel => exact ⟨k + 1, q ++ [(joinH x z).1], some ⟨g, 0, none⟩, c', by omega, by go_num, by show q ++ [_] = _; rw [HST.out, HSZ.out], by show I32 _; rw [← HSZ.out]; exact syllStep_i32 HP32.out ⟨hz1, hz2⟩, by simp; omega, by simp, by simpa using (HSTO.out _ _).1, HBS.out _ _⟩
          case measure => simp [intOf]; omega
        · rw [if_neg (by rw [hj]; simp)] at hstp
          have HSZ := Lib.hid hstp; clear hstp
          go_wp2
          go_quiet ((go_at_call 17; exact quiet_left (rjoin_any _ _ _ (by omega) (by omega) (by omega) (by omega))))
          have hownd := own_below hown (below_drewN wr wr.heap.size nq)
          have hbd := below_drew' hb nq
          go_wp2_with (at_builtin; refine wpList_app runeElem _ rfl _ _ rfl w.heap.size rfl (hownd.alloc _) rfl (Rd.new1 _ _ _) (one_of rfl) (by omega) (by omega) (by simp; omega) ?_)
          intro A1 c1 w2 hown2 hg2 hat2
          have hb2 := below_app (hbd.alloc (by simp; omega) _) (by simp; omega) (hownd.alloc _) hg2
          go_wp2
          go_roundw
          case rel => exact ⟨k + 1, q ++ [x] ++ [z], A1, c1, by omega, by go_num, by show q ++ [x] ++ [z] = _; rw [HST.out, HSZ.out], by show I32 _; rw [← HSZ.out]; exact syllStep_i32 HP32.out ⟨hz1, hz2⟩, by simp; omega, by simp, by simpa using hown2, hb2⟩
          case measure => simp [intOf]; omega
    · have hkn' : k = n := by omega
      subst hkn'
      go_wp2
      go_returns
      have e : ps = syllH xs := by rw [HP.out, List.take_of_length_le (by rw [HXL.out]; exact Nat.le_refl _)]
      rw [← e]
      exact ⟨A', c', rfl, hown, hb⟩
end Go.Proofs.YtcfnncapdkjlnaaDoor
