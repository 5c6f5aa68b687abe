/- The contracts of the document's answer for fields: blanks, and what stands between bytes. -/
import Derived.Test.YtagncjnbabdbmaaDoorRows
import Derived.Test.YtagncjnbabdbmaaDoorFldSpec
import Derived.Test.YtagncjnbabdbmaaDoorFldA
import Derived.Test.YtagncjnbabdbmaaDoorStrs
set_option linter.unusedSimpArgs false
set_option linter.unusedVariables false
namespace Go.Proofs.YtagncjnbabdbmaaDoor
open Go.RowKit

theorem ret_str {a b : ByteArray} (h : a = b) : Ending.returned (.string a) = .returned (.string b) := by rw [h]
theorem rblank_any (b : Int) (w : World) : Calls Tryd.prog 55 #[.int .u8 b] w fun e w' => e = .returned (.bool (blankI b)) ∧ w = w' := by
  rcases (show b = 9 ∨ b = 13 ∨ b = 32 ∨ (b ≠ 9 ∧ b ≠ 13 ∧ b ≠ 32) by omega) with rfl | rfl | rfl | ⟨h1, h2, h3⟩
  · go_enter Tryd.func55, Tryd.ntmps55
    go_wp2
    go_returns
    exact ⟨ret_bool (by decide), rfl⟩
  · go_enter Tryd.func55, Tryd.ntmps55
    go_wp2
    go_returns
    exact ⟨ret_bool (by decide), rfl⟩
  · go_enter Tryd.func55, Tryd.ntmps55
    go_wp2
    go_returns
    exact ⟨ret_bool (by decide), rfl⟩
  · have e1 : (b == 9) = false := by simpa using h1
    have e2 : (b == 13) = false := by simpa using h2
    have e3 : (b == 32) = false := by simpa using h3
    go_enter Tryd.func55, Tryd.ntmps55
    go_wp2
    go_returns
    exact ⟨ret_bool (by unfold blankI; symm; rw [decide_eq_false_iff_not]; omega), rfl⟩

theorem rbare_any (s : ByteArray) (w : World) (hs : s.size ≤ 4611686018427387904) :
    Calls Tryd.prog 48 #[.string s] w fun e w' => e = .returned (.string (mk8 (bareL (bs s)))) ∧ w = w' := by
  go_enter Tryd.func48, Tryd.ntmps48
  go_wp2_with fail
  go_loop [0] (fun v => ∃ t : ByteArray, v = .string t ∧ t.size ≤ s.size ∧ Hid (lstrip (bs t) = lstrip (bs s))) (fun v => strLen v)
  case atStart => exact ⟨s, rfl, Nat.le_refl _, rfl⟩
  case round =>
    obtain ⟨t, rfl, hts, HT⟩ := hrel
    by_cases hyes : ∃ h : 0 < t.size, blankB (t[0]'h) = true
    · obtain ⟨h0, hb⟩ := hyes
      have hne : t.toList.isEmpty = false := str_ne (by omega)
      have hne2 : (!t.toList.isEmpty) = true := by rw [hne]; rfl
      have hb' : blankI ((t[0]'h0).toNat : Int) = true := hb
      have hd := bs_drop t 0 h0
      rw [List.drop_zero] at hd
      have HL : Hid (lstrip (bs (t.extract 1 t.size)) = lstrip (bs s)) := by
        show _ = _
        rw [← HT.out, hd, lstrip_yes hb, bs_extract, List.take_of_length_le (by rw [bs_length]; exact Nat.le_refl _)]
      have h1s : (t.extract 1 t.size).size = t.size - 1 := by simp
      clear hd hb
      go_wp2_with (go_at_call 55; refine (rblank_any _ _).mono ?_; rintro e w' ⟨rfl, rfl⟩)
      go_round
      case rel => exact ⟨_, rfl, by rw [h1s]; omega, HL⟩
      case measure => simp [strLen]; omega
    · have HU : Hid (bs t = lstrip (bs s)) := by
        show _ = _
        rw [← HT.out]
        by_cases h0 : 0 < t.size
        · have hd := bs_drop t 0 h0
          rw [List.drop_zero] at hd
          rw [hd, lstrip_no]
          rcases Bool.eq_false_or_eq_true (blankB (t[0]'h0)) with h | h
          · exact absurd ⟨h0, h⟩ hyes
          · exact h
        · rw [bs_nil (by omega)]; rfl
      have hway : (t.size = 0 ∧ t.toList = [] ∧ t.toList.isEmpty = true) ∨ ∃ h0 : 0 < t.size, t.toList.isEmpty = false ∧ (!t.toList.isEmpty) = true ∧ blankI ((t[0]'h0).toNat : Int) = false := by
        by_cases h0 : 0 < t.size
        · refine .inr ⟨h0, str_ne (by omega), by rw [str_ne (by omega)]; rfl, ?_⟩
          rcases Bool.eq_false_or_eq_true (blankB (t[0]'h0)) with h | h
          · exact absurd ⟨h0, h⟩ hyes
          · exact h
        · have hz : t.size = 0 := by omega
          exact .inl ⟨hz, by rw [toList_bs, bs_nil hz], by rw [toList_bs, bs_nil hz]; rfl⟩
      clear hyes HT
      rcases hway with ⟨hz, hne, hne2⟩ | ⟨h0, hne, hne2, hbn⟩
      all_goals
        go_wp2_with (go_at_call 55; refine (rblank_any _ _).mono ?_; rintro e w' ⟨rfl, rfl⟩)
        go_loop [0] (fun v => ∃ u : ByteArray, v = .string u ∧ u.size ≤ s.size ∧ Hid (rstrip (bs u) = bareL (bs s))) (fun v => strLen v)
        case atStart => exact ⟨t, rfl, hts, by show rstrip _ = rstrip _; rw [HU.out]⟩
        case round =>
          obtain ⟨u, rfl, hus, HR⟩ := hrel
          by_cases hyes : ∃ h : 0 < u.size, blankB (u[u.size - 1]'(by omega)) = true
          · obtain ⟨h0, hb⟩ := hyes
            have hne' : u.toList.isEmpty = false := str_ne (by omega)
            have hne2' : (!u.toList.isEmpty) = true := by rw [hne']; rfl
            have hb' : blankI ((u[u.size - 1]'(by omega)).toNat : Int) = true := hb
            have hlt : u.size - 1 < u.size := by omega
            have hd := take_snocB (s := u) (k := u.size - 1) hlt
            rw [show u.size - 1 + 1 = u.size by omega, List.take_of_length_le (by rw [bs_length]; exact Nat.le_refl _)] at hd
            have HL : Hid (rstrip (bs (u.extract 0 (u.size - 1))) = bareL (bs s)) := by
              show _ = _
              rw [← HR.out, hd, rstrip_yes hb, bs_extract, List.drop_zero]
            have h1s : (u.extract 0 (u.size - 1)).size = u.size - 1 := by simp
            clear hd hb
            go_wp2_with (go_at_call 55; refine (rblank_any _ _).mono ?_; rintro e w' ⟨rfl, rfl⟩)
            go_round
            case rel => exact ⟨_, rfl, by simp; omega, HL⟩
            case measure => simp [strLen]; omega
          · have HE : Hid (bs u = bareL (bs s)) := by
              show _ = _
              rw [← HR.out]
              by_cases h0 : 0 < u.size
              · have hlt : u.size - 1 < u.size := by omega
                have hd := take_snocB (s := u) (k := u.size - 1) hlt
                rw [show u.size - 1 + 1 = u.size by omega, List.take_of_length_le (by rw [bs_length]; exact Nat.le_refl _)] at hd
                rw [hd, rstrip_no]
                rcases Bool.eq_false_or_eq_true (blankB (u[u.size - 1]'hlt)) with h | h
                · exact absurd ⟨h0, h⟩ hyes
                · exact h
              · rw [bs_nil (by omega)]; rfl
            have hway : (u.size = 0 ∧ u.toList = [] ∧ u.toList.isEmpty = true) ∨ ∃ h0 : u.size - 1 < u.size, 0 < u.size ∧ u.toList.isEmpty = false ∧ (!u.toList.isEmpty) = true ∧ blankI ((u[u.size - 1]'h0).toNat : Int) = false := by
              by_cases h0 : 0 < u.size
              · refine .inr ⟨by omega, h0, str_ne (by omega), by rw [str_ne (by omega)]; rfl, ?_⟩
                rcases Bool.eq_false_or_eq_true (blankB (u[u.size - 1]'(by omega))) with h | h
                · exact absurd ⟨h0, h⟩ hyes
                · exact h
              · have hz : u.size = 0 := by omega
                exact .inl ⟨hz, by rw [toList_bs, bs_nil hz], by rw [toList_bs, bs_nil hz]; rfl⟩
            clear hyes HR
            rcases hway with ⟨hz', hne', hne2'⟩ | ⟨h0', h1', hne', hne2', hbn'⟩
            all_goals
              go_wp2_with (go_at_call 55; refine (rblank_any _ _).mono ?_; rintro e w' ⟨rfl, rfl⟩)
              go_returns
              exact ⟨ret_str (mk8_eq HE.out), rfl⟩

theorem take_snoc' {α : Type} {l : List α} {k : Nat} {z : α} (h : l[k]? = some z) : l.take (k + 1) = l.take k ++ [z] := by
  rw [List.take_add_one, h]; rfl
theorem rcut_any (s : ByteArray) (sep : UInt8) (w : World) (hs : s.size ≤ 1073741824) :
    Calls Tryd.prog 47 #[.string s, .int .u8 sep.toNat] w (FreshS w (cutL sep (bs s))) := by
  go_enter Tryd.func47, Tryd.ntmps47
  go_wp2
  go_loopw [5, 6, 7] (fun v n i wr => ∃ (k : Nat) (os : List (List UInt8)) (t : ByteArray) (A' : Option Addr) (c' : Nat), k ≤ s.size ∧ i = .int .i64 k ∧ Hid (os = (cutF sep ((bs s).take k)).1) ∧ n = .string t ∧ Hid (bs t = (cutF sep ((bs s).take k)).2) ∧ v = .slice A' os.length c' ∧ wr.ownsRow w.heap.size 9 1 (.slice A' os.length c') os.length (Ss os) ∧ Below w.heap.size w wr) (fun _ _ i _ => s.size - (intOf i).toNat)
  case atStart => exact ⟨0, [], ⟨#[]⟩, none, 0, Nat.zero_le _, rfl, rfl, rfl, rfl, rfl, World.ownsRow_nil _ _ _ _, Below.refl _ _⟩
  case round =>
    obtain ⟨k, os, t, A', c', hk, rfl, HO, rfl, HT, rfl, hown, hb⟩ := hrel
    have hz := hb.size
    have hlen := cutF_len sep ((bs s).take k)
    rw [← HO.out, ← HT.out, bs_length] at hlen
    have hlt' : os.length + t.size ≤ k := by have := List.length_take_le k (bs s); omega
    clear hlen
    by_cases hp : k < s.size
    · have hst := cutF_take (sep := sep) hp
      obtain ⟨b, hbb⟩ : ∃ b, b = s[k]'hp := ⟨_, rfl⟩
      rw [← hbb] at hst
      have hi : (k : Int) < (s.size : Int) := by omega
      by_cases he : b = sep
      · have heb : (((s[k]'hp).toNat : Int) == (sep.toNat : Int)) = true := by rw [← hbb, he]; simp
        have h1 : (cutF sep ((bs s).take (k + 1))).1 = os ++ [bs t] := by rw [hst]; unfold cutStep; rw [if_pos he, ← HO.out, ← HT.out]
        have h2 : (cutF sep ((bs s).take (k + 1))).2 = [] := by rw [hst]; unfold cutStep; rw [if_pos he]
        have H1 := Lib.hid h1; have H2 := Lib.hid h2
        clear h1 h2 hst hbb he
        go_wp2_with (at_builtin; refine wpList_app strElem _ rfl _ _ rfl w.heap.size rfl (hown.alloc _) rfl (Rd.new1 _ _ _) (one_of rfl) (by omega) (by omega) (by simp; omega) ?_)
        intro A1 c1 w1 hown1 hg1 hat1
        have hb1 := below_app (hb.alloc hz _) (by simp; omega) (hown.alloc _) hg1
        go_wp2
        go_roundw
        case rel => exact ⟨k + 1, os ++ [bs t], ⟨#[]⟩, A1, c1, by omega, by go_num, H1.out.symm, rfl, by show _ = _; rw [H2.out]; rfl, by simp, by simpa [mk8_bs] using hown1, hb1⟩
        case measure => simp [intOf]; omega
      · have heb : (((s[k]'hp).toNat : Int) == (sep.toNat : Int)) = false := by
          rw [← hbb, beq_eq_false_iff_ne]
          intro hh
          exact he (UInt8.toNat_inj.1 (by omega))
        have h1 : (cutF sep ((bs s).take (k + 1))).1 = os := by rw [hst]; unfold cutStep; rw [if_neg he, ← HO.out]
        have h2 : (cutF sep ((bs s).take (k + 1))).2 = bs (t ++ s.extract k (k + 1)) := by
          rw [hst]; unfold cutStep
          rw [if_neg he, ← HT.out, bs_append, bs_extract, take_snocB hp, List.drop_append, List.drop_of_length_le (List.length_take_le _ _), hbb]
          have hlk : ((bs s).take k).length = k := by rw [List.length_take, bs_length]; omega
          rw [hlk]
          simp
        have H1 := Lib.hid h1; have H2 := Lib.hid h2
        clear h1 h2 hst hbb he
        go_wp2
        go_roundw
        case rel => exact ⟨k + 1, os, t ++ s.extract k (k + 1), A', c', by omega, by go_num, H1.out.symm, rfl, H2.out.symm, rfl, hown, hb⟩
        case measure => simp [intOf]; omega
    · have hkn : k = s.size := by omega
      subst hkn
      rw [List.take_of_length_le (by rw [bs_length]; exact Nat.le_refl _)] at HO HT
      go_wp2_with (at_builtin; refine wpList_app strElem _ rfl _ _ rfl w.heap.size rfl (hown.alloc _) rfl (Rd.new1 _ _ _) (one_of rfl) (by omega) (by omega) (by simp; omega) ?_)
      intro A1 c1 w1 hown1 hg1 hat1
      have hb1 := below_app (hb.alloc hz _) (by simp; omega) (hown.alloc _) hg1
      go_wp2
      go_returns
      have e : cutL sep (bs s) = os ++ [bs t] := by unfold cutL; rw [← HO.out, ← HT.out]
      rw [e]
      exact ⟨A1, c1, by simp, by simpa [mk8_bs] using hown1, hb1⟩

theorem rsplit_str (s : ByteArray) (sep : UInt8) (w : World) (hs : s.size ≤ 1073741824) :
    Calls Tryd.prog 19 #[.string s, .int .u8 sep.toNat] w (FreshS w ((cutL sep (bs s)).map bareL)) := by
  have hlen := cutL_len sep (bs s)
  have hpart := cutL_part sep (bs s)
  rw [bs_length] at hlen hpart
  obtain ⟨ls, hls⟩ : ∃ ls, ls = cutL sep (bs s) := ⟨_, rfl⟩
  rw [← hls] at hlen hpart
  have HLS := Lib.hid hls
  have HPT := Lib.hid hpart
  clear hpart hls
  go_enter Tryd.func19, Tryd.ntmps19
  go_wp2_with fail
  refine (rcut_any s sep _ hs).mono ?_
  rw [← HLS.out]
  rintro e w1 ⟨A, c, rfl, hown, hb⟩
  go_wp2
  go_loopw [6] (fun i wr => ∃ (k : Nat), k ≤ ls.length ∧ i = .int .i64 k ∧ wr.ownsRow w.heap.size 9 1 (.slice A ls.length c) ls.length (Ss ((ls.take k).map bareL ++ ls.drop k)) ∧ Below w.heap.size w wr) (fun i _ => ls.length - (intOf i).toNat)
  case atStart => exact ⟨0, Nat.zero_le _, rfl, by simpa using hown, hb⟩
  case round =>
    obtain ⟨k, hk, rfl, hownr, hbr⟩ := hrel
    by_cases hlt : k < ls.length
    · obtain ⟨l, hl⟩ : ∃ l, ls[k]? = some l := ⟨_, List.getElem?_eq_getElem hlt⟩
      have hll := HPT.out l (List.mem_of_getElem? hl)
      obtain ⟨g, cap, hform, hg0, hgl⟩ := hownr.form (by omega)
      injection hform with hA _ hc
      subst hA hc
      have hget : ((ls.take k).map bareL ++ ls.drop k)[k]? = some l := by
        rw [List.getElem?_append_right (by simp; omega)]
        simp [hl]
        rw [Nat.min_eq_left (by omega), Nat.sub_self, Nat.add_zero, hl]
      have hci : wr.cell? ⟨g, k, none⟩ = some (.string (mk8 l)) := by rw [hownr.cellAt k (by omega)]; exact Ss_get hget
      have hfi : wr.frozen? ⟨g, k, none⟩ = false := hownr.frozenAt k
      have hst := hownr.stored k (.string (mk8 (bareL l)))
      have hset : (Ss ((ls.take k).map bareL ++ ls.drop k)).set k (.string (mk8 (bareL l))) = Ss ((ls.take (k + 1)).map bareL ++ ls.drop (k + 1)) := by
        rw [take_snoc' hl, List.drop_eq_getElem_cons hlt]
        simp only [Ss, List.map_append, List.map_cons, List.map_nil]
        rw [List.set_append_right _ _ (by simp; omega)]
        simp
        rw [Nat.min_eq_left (by omega), Nat.sub_self]
        simp
      rw [hset] at hst
      have HST := Lib.hid hst.1
      have hbs := hbr.setCell (p := ⟨g, k, none⟩) hg0 (.string (mk8 (bareL l)))
      have HBS := Lib.hid hbs
      have hsz : (mk8 l).size ≤ 4611686018427387904 := by rw [mk8_size]; omega
      have HL := Lib.hid hl
      clear hst hset hget hl hown hb hbs
      have hi : (k : Int) < (ls.length : Int) := by omega
      go_wp2_with (go_at_call 48; refine (rbare_any _ _ hsz).mono ?_; rw [bs_mk8]; rintro e w' ⟨rfl, rfl⟩)
      go_roundw
      case rel => exact ⟨k + 1, by omega, by go_num, HST.out, HBS.out⟩
      case measure => simp [intOf]; omega
    · have hkn : k = ls.length := by omega
      subst hkn
      go_wp2
      go_returns
      rw [← HLS.out]
      refine ⟨A, c, by simp, ?_, hbr⟩
      simpa using hownr
end Go.Proofs.YtagncjnbabdbmaaDoor
