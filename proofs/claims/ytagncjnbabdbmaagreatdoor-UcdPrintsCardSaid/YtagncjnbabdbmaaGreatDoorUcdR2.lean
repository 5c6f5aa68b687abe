/- What stands within a name: the document's answer. -/
import Derived.Test.YtagncjnbabdbmaaGreatDoorUcdR
set_option linter.unusedSimpArgs false
set_option linter.unusedVariables false
namespace Go.Proofs.YtagncjnbabdbmaaGreatDoor
open Go.RowKit

set_option maxRecDepth 20000 in
theorem ends_any (s t : ByteArray) (w : World) (hs : s.size ≤ 1073741824) (ht : t.size ≤ 1073741824) :
    Calls Tryz.prog 36 #[.string s, .string t] w fun e w' => e = .returned (.bool (Lib.hasSuffix (bs s) (bs t))) ∧ w = w' := by
  have hsi : (s.size : Int) ≤ 1073741824 := by omega
  have hti : (t.size : Int) ≤ 1073741824 := by omega
  by_cases hlen : t.size ≤ s.size
  · have hli : (t.size : Int) ≤ (s.size : Int) := by omega
    have hsl := fun w => slice_fromU s ((s.size : Int) - (t.size : Int)) (s.size - t.size) (by omega) (by omega) w
    have hbu : bs (s.extract (s.size - t.size) s.size) = (bs s).drop (s.size - t.size) := by
      rw [bs_extract, List.take_of_length_le (by rw [bs_length]; exact Nat.le_refl _)]
    have hiff : Lib.hasSuffix (bs s) (bs t) = true ↔ s.extract (s.size - t.size) s.size = t := by
      rw [suf_iff, bs_length, bs_length]
      constructor
      · intro h; exact bs_inj (by rw [hbu, h.2])
      · intro h; exact ⟨hlen, by rw [← hbu, h]⟩
    obtain ⟨u, hu⟩ : ∃ u, u = s.extract (s.size - t.size) s.size := ⟨_, rfl⟩
    rw [← hu] at hsl hiff
    clear hu hbu
    by_cases hut : u = t
    · rw [hiff.2 hut]
      have hbq : (u.toList == t.toList) = true := by rw [hut]; simp
      clear hiff hut hs ht hlen
      go_enter Tryz.func36, Tryz.ntmps36
      go_wp2
      go_returns
      first | exact ⟨rfl, rfl⟩ | exact ⟨ret_bool hbq, rfl⟩
    · have hf : Lib.hasSuffix (bs s) (bs t) = false := by
        cases h : Lib.hasSuffix (bs s) (bs t) with
        | false => rfl
        | true => exact absurd (hiff.1 h) hut
      rw [hf]
      have hne : ¬ (u.toList = t.toList) := fun h => hut (bs_inj (by rw [← toList_bs, ← toList_bs, h]))
      have hbq : (u.toList == t.toList) = false := beq_eq_false_iff_ne.2 hne
      clear hiff hut hs ht hlen hf
      go_enter Tryz.func36, Tryz.ntmps36
      go_wp2
      go_returns
      first | exact ⟨rfl, rfl⟩ | exact ⟨ret_bool hbq, rfl⟩
  · have hf : Lib.hasSuffix (bs s) (bs t) = false := by
      cases h : Lib.hasSuffix (bs s) (bs t) with
      | false => rfl
      | true => have := ((suf_iff _ _).1 h).1; rw [bs_length, bs_length] at this; omega
    rw [hf]
    have hli : (s.size : Int) < (t.size : Int) := by omega
    clear hs ht hlen hf
    go_enter Tryz.func36, Tryz.ntmps36
    go_wp2
    go_returns
    exact ⟨rfl, rfl⟩
theorem suf_tail (b : UInt8) (t en : List UInt8) (h : en.length ≤ t.length) : Lib.hasSuffix (b :: t) en = Lib.hasSuffix t en := by
  rw [Bool.eq_iff_iff, suf_iff, suf_iff]
  have e : (b :: t).length - en.length = (t.length - en.length) + 1 := by simp; omega
  rw [e, List.drop_succ_cons]
  constructor
  · intro hh; exact ⟨h, hh.2⟩
  · intro hh; exact ⟨by simp; omega, hh.2⟩
theorem rinner_none {nm en : List UInt8} (h : (innerS nm en).2 = false) : rinnerS nm en = ([], false) := by unfold rinnerS; rw [if_neg (by rw [h]; simp)]
theorem inner_short {nm en : List UInt8} (h : nm.length < 1 + en.length) : (innerS nm en).2 = false := by
  unfold innerS
  split
  · rename_i hp
    cases hh : Lib.hasSuffix (nm.drop 1) en with
    | false => rfl
    | true => have := ((suf_iff _ _).1 hh).1; rw [List.length_drop] at this; have := (pre_take _ _).1 hp; have := congrArg List.length this; simp at this; omega
  · rfl
theorem inner_other {b : UInt8} {t en : List UInt8} (h : b ≠ 60) : (innerS (b :: t) en).2 = false := by
  unfold innerS
  rw [if_neg]
  intro hp
  have := (pre_take _ _).1 hp
  simp at this
  exact h this
theorem inner_yes {t en : List UInt8} (h : en.length ≤ t.length) : innerS (60 :: t) en = (if Lib.hasSuffix (60 :: t) en = true then t.take (t.length - en.length) else t, Lib.hasSuffix (60 :: t) en) := by
  unfold innerS
  rw [if_pos (by simp [Lib.hasPrefix]), suf_tail _ _ _ h]
  unfold Lib.trimSuffix
  rfl
theorem slice_twoU (s : ByteArray) (a b : Nat) (h1 : a ≤ b) (h2 : b ≤ s.size) (i j : Int) (hi : i = (a : Int)) (hj : j = (b : Int)) (w : World) :
    (Instr.slice 9 (.string s) (some (.int .i64 i)) (some (.int .i64 j)) none).run Tryz.prog w = .ok (.string (s.extract a b)) w := slice_at s i j a b h1 h2 hi hj w
set_option maxRecDepth 20000 in
theorem rinner_any (nm en : ByteArray) (w : World) (hs : nm.size ≤ 1073741824) (ht : en.size ≤ 1073741824) :
    Calls Tryz.prog 19 #[.string nm, .string en] w fun e w' => e = .returned (.tuple #[.string (mk8 (rinnerS (bs nm) (bs en)).1), .bool (rinnerS (bs nm) (bs en)).2]) ∧ w = w' := by
  have hsi : (nm.size : Int) ≤ 1073741824 := by omega
  have hti : (en.size : Int) ≤ 1073741824 := by omega
  have EN := fun w => ends_any nm en w hs ht
  by_cases hlen : nm.size < 1 + en.size
  · rw [rinner_none (inner_short (by rw [bs_length, bs_length]; exact hlen))]
    have hli : (nm.size : Int) < 1 + (en.size : Int) := by omega
    clear hlen hs ht EN
    go_enter Tryz.func19, Tryz.ntmps19
    go_wp2
    go_returns
    exact ⟨rfl, rfl⟩
  · have hli : (1 : Int) + (en.size : Int) ≤ (nm.size : Int) := by omega
    have h0 : 0 < nm.size := by omega
    have hd := bs_drop nm 0 h0
    rw [List.drop_zero] at hd
    have hx := fun w => index_at nm 0 0 h0 rfl w
    obtain ⟨x, hxe⟩ : ∃ x, (nm[0]'h0) = x := ⟨_, rfl⟩
    rw [hxe] at hd hx
    by_cases h60 : x = 60
    · subst h60
      rw [show ((UInt8.toNat 60 : Nat) : Int) = 60 from rfl] at hx
      have hin := inner_yes (t := (bs nm).drop 1) (en := bs en) (by rw [List.length_drop, bs_length, bs_length]; omega)
      rw [← hd] at hin
      cases hsf : Lib.hasSuffix (bs nm) (bs en)
      · rw [hsf] at hin EN
        rw [rinner_none (by rw [hin])]
        clear hin hd hxe hsf hs ht hlen h0
        go_enter Tryz.func19, Tryz.ntmps19
        go_wp2_with fail
        refine (EN _).mono ?_
        rintro e w1 ⟨rfl, rfl⟩
        go_wp2
        go_returns
        exact ⟨rfl, rfl⟩
      · rw [hsf] at hin EN
        have hsl := fun w => slice_twoU nm 1 (nm.size - en.size) (by omega) (by omega) 1 ((nm.size : Int) - (en.size : Int)) rfl (by omega) w
        have hbu : bs (nm.extract 1 (nm.size - en.size)) = ((bs nm).drop 1).take (((bs nm).drop 1).length - (bs en).length) := by
          rw [bs_extract, List.drop_take, List.length_drop, bs_length, bs_length]
          congr 1
          omega
        have hres : rinnerS (bs nm) (bs en) = (bs (nm.extract 1 (nm.size - en.size)), true) := by
          unfold rinnerS
          rw [hin, if_pos rfl, hbu]; rfl
        rw [hres]
        obtain ⟨u, hu⟩ : ∃ u, u = nm.extract 1 (nm.size - en.size) := ⟨_, rfl⟩
        rw [← hu] at hsl
        rw [← hu]
        clear hin hd hxe hsf hs ht hlen h0 hbu hres hu
        go_enter Tryz.func19, Tryz.ntmps19
        go_wp2_with fail
        refine (EN _).mono ?_
        rintro e w1 ⟨rfl, rfl⟩
        go_wp2
        go_returns
        exact ⟨by simp only []; rw [mk8_bs]; rfl, rfl⟩
    · rw [hd, rinner_none (inner_other h60)]
      have hxn : (((x.toNat : Nat) : Int) != 60) = true := by
        have : ¬ (((x.toNat : Nat) : Int) = 60) := fun h => h60 (UInt8.toNat_inj.1 (by rw [show (60 : UInt8).toNat = 60 from rfl]; omega))
        simpa using this
      have hxq : (((x.toNat : Nat) : Int) == 60) = false := by
        rw [beq_eq_false_iff_ne]
        exact fun h => h60 (UInt8.toNat_inj.1 (by rw [show (60 : UInt8).toNat = 60 from rfl]; omega))
      clear hd hxe h60 hs ht hlen EN
      go_enter Tryz.func19, Tryz.ntmps19
      go_wp2
      go_returns
      exact ⟨rfl, rfl⟩
end Go.Proofs.YtagncjnbabdbmaaGreatDoor
