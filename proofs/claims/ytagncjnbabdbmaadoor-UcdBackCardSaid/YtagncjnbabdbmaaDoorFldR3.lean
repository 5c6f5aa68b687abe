/- The contract of the document's answer for characters that are told one by one. -/
import Derived.Test.YtagncjnbabdbmaaDoorFldR2
import Derived.Test.YtagncjnbabdbmaaDoorRunes
set_option linter.unusedSimpArgs false
set_option linter.unusedVariables false
namespace Go.Proofs.YtagncjnbabdbmaaDoor
open Go.RowKit

/-- The characters that words tell behind those that are there; the first word that tells none ends it. -/
def runesW : List Int → List (List UInt8) → List Int × Int
  | out, [] => (out, 0)
  | out, w :: ws => if (hexS w).2 = 0 then runesW (out ++ [(hexS w).1]) ws else ([], (hexS w).2)
def runesS (l : List UInt8) : List Int × Int := runesW [] (wordsL l)
theorem runesW_good {out : List Int} {w : List UInt8} {ws : List (List UInt8)} (h : (hexS w).2 = 0) : runesW out (w :: ws) = runesW (out ++ [(hexS w).1]) ws := by
  simp only [runesW]
  rw [if_pos h]
theorem runesW_bad {out : List Int} {w : List UInt8} {ws : List (List UInt8)} (h : ¬ (hexS w).2 = 0) : runesW out (w :: ws) = ([], (hexS w).2) := by
  simp only [runesW]
  rw [if_neg h]
theorem hexS_bd (l : List UInt8) : 0 ≤ (hexS l).1 ∧ (hexS l).1 ≤ 1114111 ∧ ((hexS l).2 = 0 ∨ (hexS l).2 = 10 ∨ (hexS l).2 = 11) := by
  unfold hexS
  split
  · simp
  · split
    · rename_i h1 h2
      simp only [scalarB, decide_eq_true_eq] at h2
      exact ⟨by simp only []; omega, by simp only []; omega, .inl rfl⟩
    · simp

theorem rrunes_any (s : ByteArray) (w : World) (hs : s.size ≤ 1073741824) :
    Calls Tryd.prog 25 #[.string s] w (FreshRE w (runesS (bs s))) := by
  go_enter Tryd.func25, Tryd.ntmps25
  go_wp2
  go_loopw [4, 5, 6] (fun v n i wr => ∃ (k : Nat) (os : List Int) (t : ByteArray) (A' : Option Addr) (c' : Nat), k ≤ s.size + 1 ∧ i = .int .i64 k ∧ n = .string t ∧ os.length ≤ k ∧ t.size ≤ k ∧ (k = s.size + 1 → t.size = 0) ∧ Hid (runesW [] (wordsL (bs s)) = runesW os (wordsFrom (bs t) ((bs s).drop k))) ∧ v = .slice A' os.length c' ∧ wr.ownsRow w.heap.size 21 1 (.slice A' os.length c') os.length (Rs os) ∧ Below w.heap.size w wr) (fun _ _ i _ => s.size + 1 - (intOf i).toNat)
  case atStart => exact ⟨0, [], ⟨#[]⟩, none, 0, Nat.zero_le _, rfl, rfl, Nat.zero_le _, Nat.zero_le _, fun _ => rfl, rfl, rfl, World.ownsRow_nil _ _ _ _, Below.refl _ _⟩
  case round =>
    obtain ⟨k, os, t, A', c', hk, rfl, rfl, hol, htl, hk1, HR, rfl, hown, hb⟩ := hrel
    have hz := hb.size
    by_cases hin : k ≤ s.size
    · have hi0 : (k : Int) ≤ (s.size : Int) := by omega
      by_cases hmore : ∃ hp : k < s.size, blankB (s[k]'hp) = false
      · obtain ⟨hp, hbl⟩ := hmore
        have hb' : blankI ((s[k]'hp).toNat : Int) = false := hbl
        have hi : (k : Int) < (s.size : Int) := by omega
        have hd := bs_drop s k hp
        have HR2 : Hid (runesW [] (wordsL (bs s)) = runesW os (wordsFrom (bs (t ++ s.extract k (k + 1))) ((bs s).drop (k + 1)))) := by
          show _ = _
          have hlk : ((bs s).take k).length = k := by rw [List.length_take, bs_length]; omega
          have he : bs (s.extract k (k + 1)) = [s[k]'hp] := by
            rw [bs_extract, take_snocB hp, List.drop_append, List.drop_of_length_le (Nat.le_of_eq hlk), hlk]
            simp
          rw [HR.out, hd, words_more _ _ hbl, bs_append, he]
        have hsz : (t ++ s.extract k (k + 1)).size = t.size + 1 := by
          rw [ByteArray.size_append, ByteArray.size_extract]; omega
        clear hd hbl hk1
        go_wp2_with (go_at_call 55; refine (rblank_any _ _).mono ?_; rintro e w' ⟨rfl, rfl⟩)
        go_roundw
        case rel => exact ⟨k + 1, os, t ++ s.extract k (k + 1), A', c', by omega, by go_num, rfl, by omega, by omega, by omega, HR2, rfl, hown, hb⟩
        case measure => simp [intOf]; omega
      · have hflush : ∀ (os' : List Int), (runesW os (wordsFrom (bs t) ((bs s).drop k)) = runesW os' (wordsFrom [] ((bs s).drop (k + 1)))) → Hid (runesW [] (wordsL (bs s)) = runesW os' (wordsFrom (bs ⟨#[]⟩) ((bs s).drop (k + 1)))) := fun os' h => by
          show _ = _
          rw [HR.out, h]
          rfl
        have hcase : (k = s.size ∧ (s.size : Int) ≤ (k : Int)) ∨ ∃ hp : k < s.size, (k : Int) < (s.size : Int) ∧ blankI ((s[k]'hp).toNat : Int) = true := by
          by_cases hp : k < s.size
          · refine .inr ⟨hp, by omega, ?_⟩
            rcases Bool.eq_false_or_eq_true (blankB (s[k]'hp)) with h | h
            · exact h
            · exact absurd ⟨hp, h⟩ hmore
          · exact .inl ⟨by omega, by omega⟩
        have hstep : wordsFrom (bs t) ((bs s).drop k) = if bs t = [] then wordsFrom [] ((bs s).drop (k + 1)) else bs t :: wordsFrom [] ((bs s).drop (k + 1)) := by
          rcases hcase with ⟨h, _⟩ | ⟨hp, _, h⟩
          · rw [bs_drop_end s k (by omega), bs_drop_end s (k + 1) (by omega)]
            simp [wordsFrom]
          · rw [bs_drop s k hp, words_blank _ _ h]
        clear hmore
        by_cases ht : t.size = 0
        · have hbt : bs t = [] := bs_nil ht
          rw [if_pos hbt] at hstep
          have HR2 := hflush os (by rw [hstep])
          have hne : t.toList.isEmpty = true := by rw [toList_bs, hbt]; rfl
          have hnl : t.toList = [] := by rw [toList_bs, hbt]
          clear hstep hflush hbt hk1
          rcases hcase with ⟨h1, h2⟩ | ⟨hp, h1, h2⟩
          all_goals
            go_wp2_with (go_at_call 55; refine (rblank_any _ _).mono ?_; rintro e w' ⟨rfl, rfl⟩)
            go_roundw
            case rel => exact ⟨k + 1, os, ⟨#[]⟩, A', c', by omega, by go_num, rfl, by omega, Nat.zero_le _, fun _ => rfl, HR2, rfl, hown, hb⟩
            case measure => simp [intOf]; omega
        · have hbt : ¬ bs t = [] := by
            intro hh
            have := bs_length t
            rw [hh] at this
            exact ht this.symm
          rw [if_neg hbt] at hstep
          have hne : t.toList.isEmpty = false := str_ne ht
          have hne2 : (!t.toList.isEmpty) = true := by rw [hne]; rfl
          by_cases hg : (hexS (bs t)).2 = 0
          · have HR2 := hflush (os ++ [(hexS (bs t)).1]) (by rw [hstep, runesW_good hg])
            have hgb : ((hexS (bs t)).2 != 0) = false := by simp [hg]
            have HG := Lib.hid hg
            clear hstep hflush hbt hk1 hg
            rcases hcase with ⟨h1, h2⟩ | ⟨hp, h1, h2⟩
            all_goals
              go_wp2_with (first | (go_at_call 55; refine (rblank_any _ _).mono ?_; rintro e w' ⟨rfl, rfl⟩) | (go_at_call 24; refine (rhex_any _ _ (by omega)).mono ?_; rintro e w' ⟨rfl, rfl⟩) | (at_builtin; refine wpList_app runeElem _ rfl _ _ rfl w.heap.size rfl (hown.alloc _) rfl (Rd.new1 _ _ _) (one_of rfl) (by omega) (by omega) (by simp; omega) ?_))
              intro A1 c1 w1 hown1 hg1 hat1
              have hb1 := below_app (hb.alloc hz _) (by simp; omega) (hown.alloc _) hg1
              go_wp2
              go_roundw
              case rel => exact ⟨k + 1, os ++ [(hexS (bs t)).1], ⟨#[]⟩, A1, c1, by omega, by go_num, rfl, by simp; omega, Nat.zero_le _, fun _ => rfl, HR2, by simp, by simpa using hown1, hb1⟩
              case measure => simp [intOf]; omega
          · have hres : runesS (bs s) = ([], (hexS (bs t)).2) := by show runesW [] _ = _; rw [HR.out, hstep, runesW_bad hg]
            have hgb : ((hexS (bs t)).2 != 0) = true := by simp [hg]
            have HRES := Lib.hid hres
            clear hstep hflush hbt hk1 hg hres
            rcases hcase with ⟨h1, h2⟩ | ⟨hp, h1, h2⟩
            all_goals
              go_wp2_with (first | (go_at_call 55; refine (rblank_any _ _).mono ?_; rintro e w' ⟨rfl, rfl⟩) | (go_at_call 24; refine (rhex_any _ _ (by omega)).mono ?_; rintro e w' ⟨rfl, rfl⟩))
              go_returns
              rw [HRES.out]
              exact ⟨none, 0, rfl, World.ownsRow_nil _ _ _ _, hb⟩
    · have hks : k = s.size + 1 := by omega
      have ht := hk1 hks
      have hi0 : (s.size : Int) < (k : Int) := by omega
      have hres : runesS (bs s) = (os, 0) := by
        show runesW [] _ = _
        rw [HR.out, bs_nil ht, bs_drop_end s k (by omega)]
        simp [wordsFrom, runesW]
      have HRES := Lib.hid hres
      clear hres hk1 hks
      go_wp2
      go_returns
      rw [HRES.out]
      exact ⟨A', c', rfl, hown, hb⟩
end Go.Proofs.YtagncjnbabdbmaaDoor
