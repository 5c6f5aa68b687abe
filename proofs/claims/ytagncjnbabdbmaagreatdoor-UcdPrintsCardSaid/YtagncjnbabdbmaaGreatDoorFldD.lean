/- The contracts of the code's Split. -/
import Derived.Test.YtagncjnbabdbmaaGreatDoorFldC
import Derived.Laws.IdiomStrings
set_option linter.unusedSimpArgs false
set_option linter.unusedVariables false
namespace Go.Proofs.YtagncjnbabdbmaaGreatDoor
open Go.RowKit

theorem own_new (w : World) (e : TypeId) (l : List Value) (hl : l.length ≤ maxLen) : (w.alloc (.cells l.toArray e)).ownsRow w.heap.size e 1 (.slice (some ⟨w.heap.size, 0, none⟩) l.length l.length) l.length l := by
  refine ⟨by omega, .inr ⟨w.heap.size, l.length, l.toArray, rfl, Nat.le_refl _, by simp only [World.alloc, Array.getElem?_push_size], Nat.le_refl _, hl, by simp, by simp⟩⟩
theorem Env.alloc {w : World} (h : Env w) (o : Obj) : Env (w.alloc o) := h.below ((Below.refl _ _).alloc (Nat.le_refl _) o)
theorem fsplit_any (s : ByteArray) (c : UInt8) (w : World) (hE : Env w) (hs : s.size ≤ 1073741824) :
    Calls Tryz.prog 44 #[.string s, .string ⟨#[c]⟩] w (FreshS w (cutL c (bs s))) := by
  obtain ⟨m, hm, _⟩ := hE
  have hlen := cutL_len c (bs s)
  rw [bs_length] at hlen
  refine (Tryz.strings_Split s ⟨#[c]⟩ m w (by omega) hm (Nat.le_refl 1)).mono ?_
  rintro e w' ⟨rfl, rfl⟩
  rw [split_cut, split_len, List.map_map]
  refine ⟨some ⟨w.heap.size, 0, none⟩, (cutL c (bs s)).length, rfl, ?_, (Below.refl _ _).alloc (Nat.le_refl _) _⟩
  have := own_new w 9 (Ss (cutL c (bs s))) (by simp [maxLen]; omega)
  rw [show (Ss (cutL c (bs s))).length = (cutL c (bs s)).length from List.length_map _] at this
  exact this
theorem split04_any (s : ByteArray) (sep : UInt8) (w : World) (hE : Env w) (hs : s.size ≤ 1073741824) :
    Calls Tryz.prog 48 #[.string s, .int .u8 sep.toNat] w (FreshS w ((cutL sep (bs s)).map bareL)) := by
  have hlen := cutL_len sep (bs s)
  have hpart := cutL_part sep (bs s)
  have HF := fsplit_any s sep (w.alloc (.cells #[.int .u8 sep.toNat] 5)) (hE.alloc _) hs
  rw [bs_length] at hlen hpart
  obtain ⟨ls, hls⟩ : ∃ ls, ls = cutL sep (bs s) := ⟨_, rfl⟩
  rw [← hls] at hlen hpart HF ⊢
  have HPT := Lib.hid hpart
  clear hpart hls
  have hcv : (convert 47 9 (.slice (some ⟨w.heap.size, 0, none⟩) 1 1)).run Tryz.prog (w.alloc (.cells #[.int .u8 sep.toNat] 5)) = .ok (.string ⟨#[sep]⟩) (w.alloc (.cells #[.int .u8 sep.toNat] 5)) :=
    run_convert_bytes_back (w.alloc (.cells #[.int .u8 sep.toNat] 5)) 47 9 5 ⟨w.heap.size, 0, none⟩ 1 [sep] Tryz.underlying47 Tryz.underlying5 Tryz.underlying9 (by
      intro j hj
      have : j = 0 := by simp at hj; exact hj
      subst this
      exact World.cell?_alloc_at _ _ _ _ (by simp))
  go_enter Tryz.func48, Tryz.ntmps48
  go_wp2_with fail
  refine HF.mono ?_
  rintro e w1 ⟨A, c, rfl, hown, hb⟩
  have hb := ((Below.refl w.heap.size w).alloc (Nat.le_refl _) (.cells #[.int .u8 sep.toNat] 5)).trans (hb.mono (by simp))
  have hown := own_base hown (show w.heap.size ≤ _ by simp)
  go_wp2
  go_loopw [14] (fun i wr => ∃ (k : Nat), k ≤ ls.length ∧ i = .int .i64 k ∧ wr.ownsRow w.heap.size 9 1 (.slice A ls.length c) ls.length (Ss ((ls.take k).map bareL ++ ls.drop k)) ∧ Below w.heap.size w wr) (fun i _ => ls.length - (intOf i).toNat)
  case atStart => exact ⟨0, Nat.zero_le _, rfl, by simpa using hown, hb⟩
  case round =>
    obtain ⟨k, hk, rfl, hownr, hbr⟩ := hrel
    by_cases hlt : k < ls.length
    · obtain ⟨l, hl⟩ : ∃ l, ls[k]? = some l := ⟨_, List.getElem?_eq_getElem hlt⟩
      have hll := HPT.out l (List.mem_of_getElem? hl)
      obtain ⟨g, cap, hform, hg0, hgl⟩ := hownr.form (by omega)
      injection hform with hA _ hc
      subst hA hc
      have hget : ((ls.take k).map bareL ++ ls.drop k)[k]? = some l := by
        rw [List.getElem?_append_right (by simp; omega)]
        simp [hl]
        rw [Nat.min_eq_left (by omega), Nat.sub_self, Nat.add_zero, hl]
      have hci : wr.cell? ⟨g, k, none⟩ = some (.string (mk8 l)) := by rw [hownr.cellAt k (by omega)]; exact Ss_get hget
      have hset : (Ss ((ls.take k).map bareL ++ ls.drop k)).set k (.string (mk8 (bareL l))) = Ss ((ls.take (k + 1)).map bareL ++ ls.drop (k + 1)) := by
        rw [take_snoc' hl, List.drop_eq_getElem_cons hlt]
        simp only [Ss, List.map_append, List.map_cons, List.map_nil]
        rw [List.set_append_right _ _ (by simp; omega)]
        simp
        rw [Nat.min_eq_left (by omega), Nat.sub_self]
        simp
      have HSET := Lib.hid hset
      have hsz : (mk8 l).size ≤ 1073741824 := by rw [mk8_size]; omega
      have HL := Lib.hid hl
      clear hset hget hl hown hb
      have hi : (k : Int) < (ls.length : Int) := by omega
      go_wp2_with fail
      refine (bareM l _ hsz).mono ?_
      rintro e w2 ⟨rfl, hb2⟩
      have hown2 := own_below hownr hb2
      have hbr2 := below_then hbr hb2
      clear hownr hbr hci
      have hfi : w2.frozen? ⟨g, k, none⟩ = false := hown2.frozenAt k
      have hci2 : ∃ u, w2.cell? ⟨g, k, none⟩ = some u := ⟨_, by rw [hown2.cellAt k (by omega)]; exact List.getElem?_eq_getElem (by simp; omega)⟩
      obtain ⟨u, hci2⟩ := hci2
      have hst := hown2.stored k (.string (mk8 (bareL l)))
      rw [HSET.out] at hst
      have HST := Lib.hid hst.1
      have hbs := hbr2.setCell (p := ⟨g, k, none⟩) hg0 (.string (mk8 (bareL l)))
      have HBS := Lib.hid hbs
      clear hst hown2 hbs hb2
      go_wp2
      go_roundw
      case rel => exact ⟨k + 1, by omega, by go_num, HST.out, HBS.out⟩
      case measure => simp [intOf]; omega
    · have hkn : k = ls.length := by omega
      subst hkn
      go_wp2
      go_returns
      refine ⟨A, c, by simp, ?_, hbr⟩
      simpa using hownr
end Go.Proofs.YtagncjnbabdbmaaGreatDoor
