/- Lists of characters in memory: what a call hands back, and whether two of them are one (the law's own comparison). The contract of the document's answer for characters that are told one by one. Plain functions for rows of files: letters, what stands within a name, what a character is parted into. No program stands here. An argument that is a list of characters, opened, with all that is known of it. Letters, and what stands within a name: the document's answer. What stands within a name: the document's answer. -/
import Derived.Test.YtajkjaciooijjaaGreatDoorRows
import Derived.Test.YtajkjaciooijjaaGreatDoorH02
import Derived.Test.YtajkjaciooijjaaGreatDoorH01
import Derived.Test.YtajkjaciooijjaaGreatDoorH03
import Derived.Shelf.Strings.SlTrimAscii
import Derived.Lib.SpaceUEq
import Derived.Shelf.Small.Wraps
import Derived.Shelf.Strings.Shaped
import Derived.Shelf.GgClosure.StringsRunes
import Derived.Shelf.Strings.SplitShaped
import Derived.Shelf.Strings.Explode
import Derived.Shelf.Strings.FieldsFuncGrows
import Derived.Test.YtajkjaciooijjaaGreatDoorCards
import Derived.Test.YtajkjaciooijjaaGreatDoorTie
import Derived.Lib.SmallJoins
import Derived.Test.YtajkjaciooijjaaGreatDoorH05
import Derived.Test.YtajkjaciooijjaaGreatDoorH04
section
namespace Go.Proofs.YtajkjaciooijjaaGreatDoor
open Go.RowKit
abbrev Rs (zs : List Int) : List Value := zs.map (Value.int .i32)
theorem runeElem : Elem Tryz.prog 30 21 (.int .i32 0) 4 := ⟨Tryz.underlying30, by kernel_rfl, rfl⟩
def FreshR (w : World) (zs : List Int) (e : Ending) (w' : World) : Prop :=
 ∃ A c, e = .returned (.slice A zs.length c) ∧ w'.ownsRow w.heap.size 21 1 (.slice A zs.length c) zs.length (Rs zs) ∧ Below w.heap.size w w'
theorem FreshR.rd {w w' : World} {zs : List Int} {e : Ending} (h : FreshR w zs e w') : ∃ A c, e = .returned (.slice A zs.length c) ∧ Rd w' A zs.length (Rs zs) ∧ Below w.heap.size w w' := by
 obtain ⟨A, c, he, hown, hb⟩ := h
 obtain ⟨A', c', e2, _, _, hr⟩ := Rd.of_own hown
 injection e2 with e2a _ _
 subst e2a
 exact ⟨A, c, he, hr, hb⟩
def FreshRE (w : World) (r : List Int × Int) (e : Ending) (w' : World) : Prop :=
 ∃ A c, e = .returned (.tuple #[.slice A r.1.length c, .int .i64 r.2]) ∧ w'.ownsRow w.heap.size 21 1 (.slice A r.1.length c) r.1.length (Rs r.1) ∧ Below w.heap.size w w'
theorem FreshRE.rd {w w' : World} {r : List Int × Int} {e : Ending} (h : FreshRE w r e w') : ∃ A c, e = .returned (.tuple #[.slice A r.1.length c, .int .i64 r.2]) ∧ Rd w' A r.1.length (Rs r.1) ∧ Below w.heap.size w w' := by
 obtain ⟨A, c, he, hown, hb⟩ := h
 obtain ⟨A', c', e2, _, _, hr⟩ := Rd.of_own hown
 injection e2 with e2a _ _
 subst e2a
 exact ⟨A, c, he, hr, hb⟩
theorem Rs_get (zs : List Int) (k : Nat) (h : k < zs.length) : (Rs zs)[k]? = some (.int .i32 (zs[k]?.getD 0)) := by simp [h]
theorem take_both {xs ys : List Int} {k : Nat} (h : xs.take k = ys.take k) (he : xs[k]?.getD 0 = ys[k]?.getD 0) (hx : k < xs.length) (hy : k < ys.length) : xs.take (k + 1) = ys.take (k + 1) := by
 rw [List.take_add_one, List.take_add_one, h]
 have h1 : xs[k]? = some xs[k] := List.getElem?_eq_getElem hx
 have h2 : ys[k]? = some ys[k] := List.getElem?_eq_getElem hy
 rw [h1, h2] at he ⊢
 simp at he
 rw [he]
theorem runes_any (A B : Option Addr) (n m ca cb : Nat) (xs ys : List Int) (w : World) (hx : Rd w A n (Rs xs)) (hy : Rd w B m (Rs ys)) (hn : n ≤ 1099511627776) (hm : m ≤ 1099511627776) :
  Calls Tryz.prog 12 #[.slice A n ca, .slice B m cb] w fun e w' => e = .returned (.bool (decide (xs = ys))) ∧ Drew w w' := by
 have hxl : xs.length = n := by have := hx.1; simpa using this
 have hyl : ys.length = m := by have := hy.1; simpa using this
 by_cases hnm : n = m
 ·have hb : ((n : Int) != (m : Int)) = false := by simp [hnm]
  have HNM := Lib.hid hnm; clear hnm
  have HXL := Lib.hid hxl; clear hxl
  have HYL := Lib.hid hyl; clear hyl
  go_enter Tryz.func12, Tryz.ntmps12
  go_wp2
  go_loopw [5] (fun i wr => ∃ k : Nat, k ≤ n ∧ i = .int .i64 k ∧ xs.take k = ys.take k ∧ Drew w wr) (fun i _ => n - (intOf i).toNat)
  case atStart => exact ⟨0, Nat.zero_le _, rfl, rfl, Drew.refl _⟩
  case round =>
   obtain ⟨k, hk, rfl, htk, hd⟩ := hrel
   have HTK := Lib.hid htk; clear htk
   by_cases hlt : k < n
   ·have hltm : k < m := by rw [← HNM.out]; exact hlt
    obtain ⟨b, off, rfl, hbl, hcx⟩ := (hx.drewTo hd).at_ (by omega)
    obtain ⟨b', off', rfl, hbl', hcy⟩ := (hy.drewTo hd).at_ (by omega)
    have cx := hcx k _ (Rs_get xs k (by rw [HXL.out]; exact hlt))
    have cy := hcy k _ (Rs_get ys k (by rw [HYL.out]; exact hltm))
    clear hcx hcy hx hy
    have hi : (k : Int) < (n : Int) := by omega
    have hi' : (k : Int) < (m : Int) := by omega
    by_cases he : xs[k]?.getD 0 = ys[k]?.getD 0
    ·have heb : ((xs[k]?.getD 0) != (ys[k]?.getD 0)) = false := by simp [he]
     have HE := Lib.hid he; clear he
     go_wp2
     go_quiet (fail)
     go_wp2
     go_roundw
     case rel => exact ⟨k + 1, by omega, by go_num, take_both HTK.out HE.out (by rw [HXL.out]; exact hlt) (by rw [HYL.out]; exact hltm), hd.trans ⟨_, rfl⟩⟩
     case measure => simp [intOf]; omega
    ·have heb : ((xs[k]?.getD 0) != (ys[k]?.getD 0)) = true := by simp [he]
     have HE := Lib.hid he; clear he
     go_wp2
     go_quiet (fail)
     go_wp2
     go_returns
     exact ⟨ret_bool (by symm; rw [decide_eq_false_iff_not]; intro hh; exact HE.out (by rw [hh])), hd.trans ⟨_, rfl⟩⟩
   ·have hkn : k = n := by omega
    subst hkn
    go_wp2
    go_returns
    refine ⟨ret_bool (by symm; rw [decide_eq_true_iff]; have h := HTK.out; rw [List.take_of_length_le (by rw [HXL.out]; exact Nat.le_refl _), List.take_of_length_le (by rw [HYL.out, ← HNM.out]; exact Nat.le_refl _)] at h; exact h), hd⟩
 ·have hb : ((n : Int) != (m : Int)) = true := by rw [bne_iff_ne]; omega
  have HNM := Lib.hid hnm; clear hnm
  have HXL := Lib.hid hxl; clear hxl
  have HYL := Lib.hid hyl; clear hyl
  go_enter Tryz.func12, Tryz.ntmps12
  go_wp2
  go_returns
  exact ⟨ret_bool (by symm; rw [decide_eq_false_iff_not]; intro hh; exact HNM.out (by rw [← HXL.out, ← HYL.out, hh])), Drew.refl _⟩
end Go.Proofs.YtajkjaciooijjaaGreatDoor
end

section
set_option linter.unusedSimpArgs false
set_option linter.unusedVariables false
namespace Go.Proofs.YtajkjaciooijjaaGreatDoor
open Go.RowKit
def runesW : List Int → List (List UInt8) → List Int × Int
 | out, [] => (out, 0)
 | out, w :: ws => if (hexS w).2 = 0 then runesW (out ++ [(hexS w).1]) ws else ([], (hexS w).2)
def runesS (l : List UInt8) : List Int × Int := runesW [] (wordsL l)
theorem runesW_good {out : List Int} {w : List UInt8} {ws : List (List UInt8)} (h : (hexS w).2 = 0) : runesW out (w :: ws) = runesW (out ++ [(hexS w).1]) ws := by
 simp only [runesW]
 rw [if_pos h]
theorem runesW_bad {out : List Int} {w : List UInt8} {ws : List (List UInt8)} (h : ¬ (hexS w).2 = 0) : runesW out (w :: ws) = ([], (hexS w).2) := by
 simp only [runesW]
 rw [if_neg h]
theorem hexS_bd (l : List UInt8) : 0 ≤ (hexS l).1 ∧ (hexS l).1 ≤ 1114111 ∧ ((hexS l).2 = 0 ∨ (hexS l).2 = 10 ∨ (hexS l).2 = 11) := by
 unfold hexS
 split
 ·simp
 ·split
  ·rename_i h1 h2
   simp only [scalarB, decide_eq_true_eq] at h2
   exact ⟨by simp only []; omega, by simp only []; omega, .inl rfl⟩
  ·simp
theorem rrunes_any (s : ByteArray) (w : World) (hs : s.size ≤ 1073741824) :
  Calls Tryz.prog 112 #[.string s] w (FreshRE w (runesS (bs s))) := by
 go_enter Tryz.func112, Tryz.ntmps112
 go_wp2
 go_loopw [4, 5, 6] (fun v n i wr => ∃ (k : Nat) (os : List Int) (t : ByteArray) (A' : Option Addr) (c' : Nat), k ≤ s.size + 1 ∧ i = .int .i64 k ∧ n = .string t ∧ os.length ≤ k ∧ t.size ≤ k ∧ (k = s.size + 1 → t.size = 0) ∧ Hid (runesW [] (wordsL (bs s)) = runesW os (wordsFrom (bs t) ((bs s).drop k))) ∧ v = .slice A' os.length c' ∧ wr.ownsRow w.heap.size 21 1 (.slice A' os.length c') os.length (Rs os) ∧ Below w.heap.size w wr) (fun _ _ i _ => s.size + 1 - (intOf i).toNat)
 case atStart => exact ⟨0, [], ⟨#[]⟩, none, 0, Nat.zero_le _, rfl, rfl, Nat.zero_le _, Nat.zero_le _, fun _ => rfl, rfl, rfl, World.ownsRow_nil _ _ _ _, Below.refl _ _⟩
 case round =>
  obtain ⟨k, os, t, A', c', hk, rfl, rfl, hol, htl, hk1, HR, rfl, hown, hb⟩ := hrel
  have hz := hb.size
  by_cases hin : k ≤ s.size
  ·have hi0 : (k : Int) ≤ (s.size : Int) := by omega
   by_cases hmore : ∃ hp : k < s.size, blankB (s[k]'hp) = false
   ·obtain ⟨hp, hbl⟩ := hmore
    have hb' : blankI ((s[k]'hp).toNat : Int) = false := hbl
    have hi : (k : Int) < (s.size : Int) := by omega
    have hd := bs_drop s k hp
    have HR2 : Hid (runesW [] (wordsL (bs s)) = runesW os (wordsFrom (bs (t ++ s.extract k (k + 1))) ((bs s).drop (k + 1)))) := by
     show _ = _
     have hlk : ((bs s).take k).length = k := by rw [List.length_take, bs_length]; omega
     have he : bs (s.extract k (k + 1)) = [s[k]'hp] := by
      rw [bs_extract, take_snocB hp, List.drop_append, List.drop_of_length_le (Nat.le_of_eq hlk), hlk]
      simp
     rw [HR.out, hd, words_more _ _ hbl, bs_append, he]
    have hsz : (t ++ s.extract k (k + 1)).size = t.size + 1 := by
     rw [ByteArray.size_append, ByteArray.size_extract]; omega
    clear hd hbl hk1
    go_wp2_with (go_at_call 109; refine (rblank_any _ _).mono ?_; rintro e w' ⟨rfl, rfl⟩)
    go_roundw
    case rel => exact ⟨k + 1, os, t ++ s.extract k (k + 1), A', c', by omega, by go_num, rfl, by omega, by omega, by omega, HR2, rfl, hown, hb⟩
    case measure => simp [intOf]; omega
   ·have hflush : ∀ (os' : List Int), (runesW os (wordsFrom (bs t) ((bs s).drop k)) = runesW os' (wordsFrom [] ((bs s).drop (k + 1)))) → Hid (runesW [] (wordsL (bs s)) = runesW os' (wordsFrom (bs ⟨#[]⟩) ((bs s).drop (k + 1)))) := fun os' h => by
     show _ = _
     rw [HR.out, h]
     rfl
    have hcase : (k = s.size ∧ (s.size : Int) ≤ (k : Int)) ∨ ∃ hp : k < s.size, (k : Int) < (s.size : Int) ∧ blankI ((s[k]'hp).toNat : Int) = true := by
     by_cases hp : k < s.size
     ·refine .inr ⟨hp, by omega, ?_⟩
      rcases Bool.eq_false_or_eq_true (blankB (s[k]'hp)) with h | h
      ·exact h
      ·exact absurd ⟨hp, h⟩ hmore
     ·exact .inl ⟨by omega, by omega⟩
    have hstep : wordsFrom (bs t) ((bs s).drop k) = if bs t = [] then wordsFrom [] ((bs s).drop (k + 1)) else bs t :: wordsFrom [] ((bs s).drop (k + 1)) := by
     rcases hcase with ⟨h, _⟩ | ⟨hp, _, h⟩
     ·rw [bs_drop_end s k (by omega), bs_drop_end s (k + 1) (by omega)]
      simp [wordsFrom]
     ·rw [bs_drop s k hp, words_blank _ _ h]
    clear hmore
    by_cases ht : t.size = 0
    ·have hbt : bs t = [] := bs_nil ht
     rw [if_pos hbt] at hstep
     have HR2 := hflush os (by rw [hstep])
     have hne : t.toList.isEmpty = true := by rw [toList_bs, hbt]; rfl
     have hnl : t.toList = [] := by rw [toList_bs, hbt]
     clear hstep hflush hbt hk1
     rcases hcase with ⟨h1, h2⟩ | ⟨hp, h1, h2⟩
     all_goals
      go_wp2_with (go_at_call 109; refine (rblank_any _ _).mono ?_; rintro e w' ⟨rfl, rfl⟩)
      go_roundw
      case rel => exact ⟨k + 1, os, ⟨#[]⟩, A', c', by omega, by go_num, rfl, by omega, Nat.zero_le _, fun _ => rfl, HR2, rfl, hown, hb⟩
      case measure => simp [intOf]; omega
    ·have hbt : ¬ bs t = [] := by
      intro hh
      have := bs_length t
      rw [hh] at this
      exact ht this.symm
     rw [if_neg hbt] at hstep
     have hne : t.toList.isEmpty = false := str_ne ht
     have hne2 : (!t.toList.isEmpty) = true := by rw [hne]; rfl
     by_cases hg : (hexS (bs t)).2 = 0
     ·have HR2 := hflush (os ++ [(hexS (bs t)).1]) (by rw [hstep, runesW_good hg])
      have hgb : ((hexS (bs t)).2 != 0) = false := by simp [hg]
      have HG := Lib.hid hg
      clear hstep hflush hbt hk1 hg
      rcases hcase with ⟨h1, h2⟩ | ⟨hp, h1, h2⟩
      all_goals
       go_wp2_with (first | (go_at_call 109; refine (rblank_any _ _).mono ?_; rintro e w' ⟨rfl, rfl⟩) | (go_at_call 85; refine (rhex_any _ _ (by omega)).mono ?_; rintro e w' ⟨rfl, rfl⟩) | (at_builtin; refine wpList_app runeElem _ rfl _ _ rfl w.heap.size rfl (hown.alloc _) rfl (Rd.new1 _ _ _) (one_of rfl) (by omega) (by omega) (by simp; omega) ?_))
       intro A1 c1 w1 hown1 hg1 hat1
       have hb1 := below_app (hb.alloc hz _) (by simp; omega) (hown.alloc _) hg1
       go_wp2
       go_roundw
       case rel => exact ⟨k + 1, os ++ [(hexS (bs t)).1], ⟨#[]⟩, A1, c1, by omega, by go_num, rfl, by simp; omega, Nat.zero_le _, fun _ => rfl, HR2, by simp, by simpa using hown1, hb1⟩
       case measure => simp [intOf]; omega
     ·have hres : runesS (bs s) = ([], (hexS (bs t)).2) := by show runesW [] _ = _; rw [HR.out, hstep, runesW_bad hg]
      have hgb : ((hexS (bs t)).2 != 0) = true := by simp [hg]
      have HRES := Lib.hid hres
      clear hstep hflush hbt hk1 hg hres
      rcases hcase with ⟨h1, h2⟩ | ⟨hp, h1, h2⟩
      all_goals
       go_wp2_with (first | (go_at_call 109; refine (rblank_any _ _).mono ?_; rintro e w' ⟨rfl, rfl⟩) | (go_at_call 85; refine (rhex_any _ _ (by omega)).mono ?_; rintro e w' ⟨rfl, rfl⟩))
       go_returns
       rw [HRES.out]
       exact ⟨none, 0, rfl, World.ownsRow_nil _ _ _ _, hb⟩
  ·have hks : k = s.size + 1 := by omega
   have ht := hk1 hks
   have hi0 : (s.size : Int) < (k : Int) := by omega
   have hres : runesS (bs s) = (os, 0) := by
    show runesW [] _ = _
    rw [HR.out, bs_nil ht, bs_drop_end s k (by omega)]
    simp [wordsFrom, runesW]
   have HRES := Lib.hid hres
   clear hres hk1 hks
   go_wp2
   go_returns
   rw [HRES.out]
   exact ⟨A', c', rfl, hown, hb⟩
end Go.Proofs.YtajkjaciooijjaaGreatDoor
end

section
set_option linter.unusedSimpArgs false
set_option linter.unusedVariables false
namespace Go.Proofs.YtajkjaciooijjaaGreatDoor
open Go.RowKit
def letB (b : UInt8) : Bool := decide ((65 ≤ b.toNat ∧ b.toNat ≤ 90) ∨ (97 ≤ b.toNat ∧ b.toNat ≤ 122))
def lettersL (l : List UInt8) : Bool := l.all letB
def notLet (r : Nat) : Bool := decide ((r < 97 ∨ 122 < r) ∧ (r < 65 ∨ 90 < r))
def innerS (nm en : List UInt8) : List UInt8 × Bool := if Lib.hasPrefix nm [60] = true then (Lib.trimSuffix (nm.drop 1) en, Lib.hasSuffix (nm.drop 1) en) else ([], false)
def rinnerS (nm en : List UInt8) : List UInt8 × Bool := if (innerS nm en).2 = true then ((innerS nm en).1, true) else ([], false)
def intoR (k s : List UInt8) : List UInt8 × List Int × Int :=
 if (runesS s).2 ≠ 0 then ([], [], (runesS s).2) else if 18 < (runesS s).1.length then ([], [], 11) else (k, (runesS s).1, 0)
def intoS (s : List UInt8) : List UInt8 × List Int × Int :=
 if Lib.hasPrefix s [60] = true then
  (if (Lib.cut (s.drop 1) [62]).2.2 = false ∨ (Lib.cut (s.drop 1) [62]).1 = [] ∨ lettersL (Lib.cut (s.drop 1) [62]).1 = false ∨ bareL (Lib.cut (s.drop 1) [62]).2.1 = [] then ([], [], 10)
   else intoR (Lib.cut (s.drop 1) [62]).1 (Lib.cut (s.drop 1) [62]).2.1)
 else intoR [] s
structure RowS where
 fr : Int
 up : Int
 nm : List UInt8
 ct : List UInt8
 cl : Int
 kd : List UInt8
 il : List Int
def RowS.none : RowS := ⟨0, 0, [], [], 0, [], []⟩
def parseF (f : List (List UInt8)) : RowS × Int :=
 if f.length < 6 then (RowS.none, 10)
 else if (hexS (f.getD 0 [])).2 ≠ 0 then (RowS.none, (hexS (f.getD 0 [])).2)
 else if (decS (f.getD 3 [])).2 ≠ 0 then (RowS.none, (decS (f.getD 3 [])).2)
 else if 254 < (decS (f.getD 3 [])).1 then (RowS.none, 11)
 else if (intoS (f.getD 5 [])).2.2 ≠ 0 then (RowS.none, (intoS (f.getD 5 [])).2.2)
 else (⟨(hexS (f.getD 0 [])).1, (hexS (f.getD 0 [])).1, f.getD 1 [], f.getD 2 [], (decS (f.getD 3 [])).1, (intoS (f.getD 5 [])).1, (intoS (f.getD 5 [])).2.1⟩, 0)
def parseS (l : List UInt8) : RowS × Int := parseF ((cutL 59 l).map bareL)
theorem notLet_byte (b : UInt8) : notLet b.toNat = !letB b := by
 unfold notLet letB
 rw [Bool.eq_iff_iff]
 simp only [decide_eq_true_eq, Bool.not_eq_true', decide_eq_false_iff_not]
 omega
theorem notLet_high {x : Nat} (h : 128 ≤ x) : notLet x = true := by
 unfold notLet
 rw [decide_eq_true_eq]
 omega
theorem idx_letters (s : ByteArray) : ∀ (f pos : Nat), s.size - pos ≤ f → (decide (0 ≤ Lib.idxFuncFrom notLet true s f pos)) = !lettersL ((bs s).drop pos)
 | f, pos, hf => by
  by_cases hp : pos < s.size
  ·obtain ⟨f, rfl⟩ : ∃ g, f = g + 1 := ⟨f - 1, by omega⟩
   have hd := bs_drop s pos hp
   unfold Lib.idxFuncFrom
   rw [if_pos hp]
   by_cases ha : (s[pos]'hp).toNat < 128
   ·have hdec : Utf8.decode s pos = ((s[pos]'hp).toNat, 1) := decode_ascii s pos hp ha
    rw [hdec]
    simp only []
    rw [notLet_byte]
    by_cases hl : letB (s[pos]'hp) = true
    ·rw [if_neg (by rw [hl]; simp), idx_letters s f (pos + 1) (by omega), hd]
     simp [lettersL, hl]
    ·have hl' : letB (s[pos]'hp) = false := by simpa using hl
     rw [if_pos (by rw [hl']; rfl), hd]
     simp [lettersL, hl']
   ·have hh := (decode_high s pos hp (by omega)).1
    rw [if_pos (notLet_high hh), hd]
    have hl' : letB (s[pos]'hp) = false := by unfold letB; rw [decide_eq_false_iff_not]; omega
    simp [lettersL, hl']
  ·rw [Lib.idxFuncFrom_end _ _ _ _ _ hp, List.drop_eq_nil_of_le (by rw [bs_length]; omega)]
   rfl
theorem idx_letters0 (s : ByteArray) : (decide (0 ≤ Lib.idxFunc notLet true s)) = !lettersL (bs s) := by
 have := idx_letters s s.size 0 (by omega)
 rw [List.drop_zero] at this
 exact this
end Go.Proofs.YtajkjaciooijjaaGreatDoor
end

section
set_option linter.unusedSimpArgs false
set_option linter.unusedVariables false
namespace Go.Proofs.YtajkjaciooijjaaGreatDoor
open Go.ChangeShapes Go.WideShapes Go.ChangeAt Go.RowKit Go.Lib
structure ArgR (w : World) (A : Option Addr) (n c : Nat) (zs : List Int) : Prop where
 rd : Rd w A n (Rs zs)
 len : zs.length = n
 r : ∀ x ∈ zs, R32 x
 cap : n ≤ c
 mx : c ≤ maxLen
 nil : A = none → n = 0 ∧ c = 0
theorem ArgR.below {w w' : World} {A : Option Addr} {n c : Nat} {zs : List Int} (h : ArgR w A n c zs) (hb : Below w.heap.size w w') : ArgR w' A n c zs := ⟨h.rd.below hb, h.len, h.r, h.cap, h.mx, h.nil⟩
theorem open_list {H : Type} {enc : TypeId × Value → H} {W : World} {base : Nat} {sp : Nat → Bool} {held : Bool} {A : Option Addr} {n c : Nat} {d : DataW H} {p : List MemPlace}
  (h : DataW.Trod enc Tryz.prog W base sp held 30 (.slice A n c) d p) : ∃ zs, ArgR W A n c zs := by
 obtain ⟨fuel, hf⟩ := h
 rcases open_ints Tryz.underlying30 Tryz.underlying21 (by kernel_rfl) hf with ⟨hcs, _⟩ | ⟨x, l, cap, zs, hcs, _, hl, hm, hz, _, hcell, hwz⟩
 ·simp [Value.cells] at hcs
  obtain ⟨rfl, rfl, rfl⟩ := hcs
  exact ⟨[], Rd.nil _ _, rfl, fun z hz => by simp at hz, Nat.le_refl _, by unfold maxLen; omega, fun _ => ⟨rfl, rfl⟩⟩
 ·simp [Value.cells] at hcs
  obtain ⟨rfl, rfl, rfl⟩ := hcs
  have hlz : n ≤ zs.length := by rw [hz]; split <;> omega
  refine ⟨zs.take n, ⟨by simp; omega, fun hn => ?_⟩, by simp; omega, fun z hzm => ?_, hl, hm, fun e => by cases e⟩
  ·obtain ⟨b, off, spot⟩ := x
   have hc := hcell 0 (by omega)
   have hspot : spot = none := by simpa [Addr.add] using World.cell?_spot hc
   subst hspot
   refine ⟨b, off, rfl, fun j u hu => ?_⟩
   rw [List.getElem?_map] at hu
   obtain ⟨y, hy, rfl⟩ := Option.map_eq_some_iff.1 hu
   rw [List.getElem?_take] at hy
   split at hy
   ·have hjl : j < zs.length := (List.getElem?_eq_some_iff.1 hy).1
    have := hcell j hjl
    rw [Addr.add_lit] at this
    rw [this]
    simp [List.getD, hy]
   ·cases hy
  ·have := bounds_i32 (hwz z (List.mem_of_mem_take hzm))
   exact ⟨this.1, by omega⟩
end Go.Proofs.YtajkjaciooijjaaGreatDoor
end

section
set_option linter.unusedSimpArgs false
set_option linter.unusedVariables false
namespace Go.Proofs.YtajkjaciooijjaaGreatDoor
open Go.RowKit
theorem letB_cases (x : UInt8) : (x.toNat < 65 ∧ letB x = false) ∨ (65 ≤ x.toNat ∧ x.toNat ≤ 90 ∧ letB x = true) ∨ (90 < x.toNat ∧ x.toNat < 97 ∧ letB x = false) ∨ (97 ≤ x.toNat ∧ x.toNat ≤ 122 ∧ letB x = true) ∨ (122 < x.toNat ∧ letB x = false) := by
 unfold letB
 rcases (show x.toNat < 65 ∨ (65 ≤ x.toNat ∧ x.toNat ≤ 90) ∨ (90 < x.toNat ∧ x.toNat < 97) ∨ (97 ≤ x.toNat ∧ x.toNat ≤ 122) ∨ 122 < x.toNat by omega) with h | h | h | h | h
 ·exact .inl ⟨h, by rw [decide_eq_false_iff_not]; omega⟩
 ·exact .inr (.inl ⟨h.1, h.2, by rw [decide_eq_true_eq]; omega⟩)
 ·exact .inr (.inr (.inl ⟨h.1, h.2, by rw [decide_eq_false_iff_not]; omega⟩))
 ·exact .inr (.inr (.inr (.inl ⟨h.1, h.2, by rw [decide_eq_true_eq]; omega⟩)))
 ·exact .inr (.inr (.inr (.inr ⟨h, by rw [decide_eq_false_iff_not]; omega⟩)))
theorem letters_cons (b : UInt8) (t : List UInt8) : lettersL (b :: t) = (letB b && lettersL t) := by simp [lettersL]
set_option maxRecDepth 20000 in
theorem rletters_any (s : ByteArray) (w : World) (hs : s.size ≤ 1073741824) :
  Calls Tryz.prog 111 #[.string s] w fun e w' => e = .returned (.bool (lettersL (bs s))) ∧ w = w' := by
 have hsi : (s.size : Int) ≤ 1073741824 := by omega
 obtain ⟨res, hres⟩ : ∃ res, res = lettersL (bs s) := ⟨_, rfl⟩
 rw [← hres]
 have HRES := Lib.hid hres
 clear hres hs
 go_enter Tryz.func111, Tryz.ntmps111
 go_wp2
 go_loop [3] (fun i => ∃ k : Nat, k ≤ s.size ∧ i = .int .i64 k ∧ Hid (res = lettersL ((bs s).drop k))) (fun i => s.size - (intOf i).toNat)
 case atStart => exact ⟨0, Nat.zero_le _, rfl, (by show res = _; rw [HRES.out]; rfl)⟩
 case round =>
  obtain ⟨k, hk, rfl, HR⟩ := hrel
  by_cases hlt : k < s.size
  ·have hki : (k : Int) < (s.size : Int) := by omega
   have hd := bs_drop s k hlt
   have hx := fun w => index_at s (k : Int) k hlt rfl w
   obtain ⟨x, hxe⟩ : ∃ x, (s[k]'hlt) = x := ⟨_, rfl⟩
   rw [hxe] at hd hx
   rw [hd] at HR
   have hc := letB_cases x
   have HR1 : Hid (res = (letB x && lettersL ((bs s).drop (k + 1)))) := by show _ = _; rw [HR.out, letters_cons]
   obtain ⟨xv, hxv⟩ : ∃ xv : Nat, xv = x.toNat := ⟨_, rfl⟩
   rw [← hxv] at hx hc
   clear hd hxe HR hxv
   rcases hc with ⟨h1, e⟩ | ⟨h1, h2, e⟩ | ⟨h1, h2, e⟩ | ⟨h1, h2, e⟩ | ⟨h1, e⟩
   ·have HR2 : Hid (res = false) := by show _ = _; rw [HR1.out, e]; rfl
    have g1 : (xv : Int) < 65 := by omega
    clear h1 e HR1
    go_wp2
    go_returns
    exact ⟨ret_bool HR2.out.symm, rfl⟩
   ·have HR2 : Hid (res = lettersL ((bs s).drop (k + 1))) := by show _ = _; rw [HR1.out, e]; rfl
    have g1 : (65 : Int) ≤ (xv : Int) := by omega
    have g2 : (xv : Int) ≤ 90 := by omega
    clear h1 h2 e HR1
    go_wp2
    go_round
    case rel => exact ⟨k + 1, by omega, by go_num, HR2⟩
    case measure => simp [intOf]; omega
   ·have HR2 : Hid (res = false) := by show _ = _; rw [HR1.out, e]; rfl
    have g1 : (90 : Int) < (xv : Int) := by omega
    have g2 : (xv : Int) < 97 := by omega
    clear h1 h2 e HR1
    go_wp2
    go_returns
    exact ⟨ret_bool HR2.out.symm, rfl⟩
   ·have HR2 : Hid (res = lettersL ((bs s).drop (k + 1))) := by show _ = _; rw [HR1.out, e]; rfl
    have g1 : (97 : Int) ≤ (xv : Int) := by omega
    have g2 : (xv : Int) ≤ 122 := by omega
    clear h1 h2 e HR1
    go_wp2
    go_round
    case rel => exact ⟨k + 1, by omega, by go_num, HR2⟩
    case measure => simp [intOf]; omega
   ·have HR2 : Hid (res = false) := by show _ = _; rw [HR1.out, e]; rfl
    have g1 : (122 : Int) < (xv : Int) := by omega
    clear h1 e HR1
    go_wp2
    go_returns
    exact ⟨ret_bool HR2.out.symm, rfl⟩
  ·have hki : (s.size : Int) ≤ (k : Int) := by omega
   have HR2 : Hid (res = true) := by show _ = _; rw [HR.out, List.drop_eq_nil_of_le (by rw [bs_length]; omega)]; rfl
   clear HR
   go_wp2
   go_returns
   exact ⟨ret_bool HR2.out.symm, rfl⟩
theorem suf_iff (s p : List UInt8) : Lib.hasSuffix s p = true ↔ p.length ≤ s.length ∧ s.drop (s.length - p.length) = p := by
 unfold Lib.hasSuffix
 rw [List.isSuffixOf_iff_suffix]
 constructor
 ·rintro ⟨a, rfl⟩
  refine ⟨by simp, ?_⟩
  simp
 ·rintro ⟨h, e⟩
  exact ⟨s.take (s.length - p.length), by rw [← e]; simp [List.length_drop]; rw [show s.length - (s.length - (s.length - p.length)) = s.length - p.length by omega]; exact List.take_append_drop _ _⟩
theorem slice_fromU (s : ByteArray) (i : Int) (a : Nat) (ha : a ≤ s.size) (h : i = (a : Int)) (w : World) :
  (Instr.slice 9 (.string s) (some (.int .i64 i)) none none).run Tryz.prog w = .ok (.string (s.extract a s.size)) w := by
 subst h
 have := run_slice_string_l (P := Tryz.prog) w 9 s Tryz.underlying9 .i64 (a : Int) (by omega) (by omega)
 simpa using this
end Go.Proofs.YtajkjaciooijjaaGreatDoor
end

section
set_option linter.unusedSimpArgs false
set_option linter.unusedVariables false
namespace Go.Proofs.YtajkjaciooijjaaGreatDoor
open Go.RowKit
set_option maxRecDepth 20000 in
theorem ends_any (s t : ByteArray) (w : World) (hs : s.size ≤ 1073741824) (ht : t.size ≤ 1073741824) :
  Calls Tryz.prog 88 #[.string s, .string t] w fun e w' => e = .returned (.bool (Lib.hasSuffix (bs s) (bs t))) ∧ w = w' := by
 have hsi : (s.size : Int) ≤ 1073741824 := by omega
 have hti : (t.size : Int) ≤ 1073741824 := by omega
 by_cases hlen : t.size ≤ s.size
 ·have hli : (t.size : Int) ≤ (s.size : Int) := by omega
  have hsl := fun w => slice_fromU s ((s.size : Int) - (t.size : Int)) (s.size - t.size) (by omega) (by omega) w
  have hbu : bs (s.extract (s.size - t.size) s.size) = (bs s).drop (s.size - t.size) := by
   rw [bs_extract, List.take_of_length_le (by rw [bs_length]; exact Nat.le_refl _)]
  have hiff : Lib.hasSuffix (bs s) (bs t) = true ↔ s.extract (s.size - t.size) s.size = t := by
   rw [suf_iff, bs_length, bs_length]
   constructor
   ·intro h; exact bs_inj (by rw [hbu, h.2])
   ·intro h; exact ⟨hlen, by rw [← hbu, h]⟩
  obtain ⟨u, hu⟩ : ∃ u, u = s.extract (s.size - t.size) s.size := ⟨_, rfl⟩
  rw [← hu] at hsl hiff
  clear hu hbu
  by_cases hut : u = t
  ·rw [hiff.2 hut]
   have hbq : (u.toList == t.toList) = true := by rw [hut]; simp
   clear hiff hut hs ht hlen
   go_enter Tryz.func88, Tryz.ntmps88
   go_wp2
   go_returns
   first | exact ⟨rfl, rfl⟩ | exact ⟨ret_bool hbq, rfl⟩
  ·have hf : Lib.hasSuffix (bs s) (bs t) = false := by
    cases h : Lib.hasSuffix (bs s) (bs t) with
    | false => rfl
    | true => exact absurd (hiff.1 h) hut
   rw [hf]
   have hne : ¬ (u.toList = t.toList) := fun h => hut (bs_inj (by rw [← toList_bs, ← toList_bs, h]))
   have hbq : (u.toList == t.toList) = false := beq_eq_false_iff_ne.2 hne
   clear hiff hut hs ht hlen hf
   go_enter Tryz.func88, Tryz.ntmps88
   go_wp2
   go_returns
   first | exact ⟨rfl, rfl⟩ | exact ⟨ret_bool hbq, rfl⟩
 ·have hf : Lib.hasSuffix (bs s) (bs t) = false := by
   cases h : Lib.hasSuffix (bs s) (bs t) with
   | false => rfl
   | true => have := ((suf_iff _ _).1 h).1; rw [bs_length, bs_length] at this; omega
  rw [hf]
  have hli : (s.size : Int) < (t.size : Int) := by omega
  clear hs ht hlen hf
  go_enter Tryz.func88, Tryz.ntmps88
  go_wp2
  go_returns
  exact ⟨rfl, rfl⟩
theorem suf_tail (b : UInt8) (t en : List UInt8) (h : en.length ≤ t.length) : Lib.hasSuffix (b :: t) en = Lib.hasSuffix t en := by
 rw [Bool.eq_iff_iff, suf_iff, suf_iff]
 have e : (b :: t).length - en.length = (t.length - en.length) + 1 := by simp; omega
 rw [e, List.drop_succ_cons]
 constructor
 ·intro hh; exact ⟨h, hh.2⟩
 ·intro hh; exact ⟨by simp; omega, hh.2⟩
theorem rinner_none {nm en : List UInt8} (h : (innerS nm en).2 = false) : rinnerS nm en = ([], false) := by unfold rinnerS; rw [if_neg (by rw [h]; simp)]
theorem inner_short {nm en : List UInt8} (h : nm.length < 1 + en.length) : (innerS nm en).2 = false := by
 unfold innerS
 split
 ·rename_i hp
  cases hh : Lib.hasSuffix (nm.drop 1) en with
  | false => rfl
  | true => have := ((suf_iff _ _).1 hh).1; rw [List.length_drop] at this; have := (pre_take _ _).1 hp; have := congrArg List.length this; simp at this; omega
 ·rfl
theorem inner_other {b : UInt8} {t en : List UInt8} (h : b ≠ 60) : (innerS (b :: t) en).2 = false := by
 unfold innerS
 rw [if_neg]
 intro hp
 have := (pre_take _ _).1 hp
 simp at this
 exact h this
theorem inner_yes {t en : List UInt8} (h : en.length ≤ t.length) : innerS (60 :: t) en = (if Lib.hasSuffix (60 :: t) en = true then t.take (t.length - en.length) else t, Lib.hasSuffix (60 :: t) en) := by
 unfold innerS
 rw [if_pos (by simp [Lib.hasPrefix]), suf_tail _ _ _ h]
 unfold Lib.trimSuffix
 rfl
theorem slice_twoU (s : ByteArray) (a b : Nat) (h1 : a ≤ b) (h2 : b ≤ s.size) (i j : Int) (hi : i = (a : Int)) (hj : j = (b : Int)) (w : World) :
  (Instr.slice 9 (.string s) (some (.int .i64 i)) (some (.int .i64 j)) none).run Tryz.prog w = .ok (.string (s.extract a b)) w := slice_at s i j a b h1 h2 hi hj w
set_option maxRecDepth 20000 in
theorem rinner_any (nm en : ByteArray) (w : World) (hs : nm.size ≤ 1073741824) (ht : en.size ≤ 1073741824) :
  Calls Tryz.prog 57 #[.string nm, .string en] w fun e w' => e = .returned (.tuple #[.string (mk8 (rinnerS (bs nm) (bs en)).1), .bool (rinnerS (bs nm) (bs en)).2]) ∧ w = w' := by
 have hsi : (nm.size : Int) ≤ 1073741824 := by omega
 have hti : (en.size : Int) ≤ 1073741824 := by omega
 have EN := fun w => ends_any nm en w hs ht
 by_cases hlen : nm.size < 1 + en.size
 ·rw [rinner_none (inner_short (by rw [bs_length, bs_length]; exact hlen))]
  have hli : (nm.size : Int) < 1 + (en.size : Int) := by omega
  clear hlen hs ht EN
  go_enter Tryz.func57, Tryz.ntmps57
  go_wp2
  go_returns
  exact ⟨rfl, rfl⟩
 ·have hli : (1 : Int) + (en.size : Int) ≤ (nm.size : Int) := by omega
  have h0 : 0 < nm.size := by omega
  have hd := bs_drop nm 0 h0
  rw [List.drop_zero] at hd
  have hx := fun w => index_at nm 0 0 h0 rfl w
  obtain ⟨x, hxe⟩ : ∃ x, (nm[0]'h0) = x := ⟨_, rfl⟩
  rw [hxe] at hd hx
  by_cases h60 : x = 60
  ·subst h60
   rw [show ((UInt8.toNat 60 : Nat) : Int) = 60 from rfl] at hx
   have hin := inner_yes (t := (bs nm).drop 1) (en := bs en) (by rw [List.length_drop, bs_length, bs_length]; omega)
   rw [← hd] at hin
   cases hsf : Lib.hasSuffix (bs nm) (bs en)
   ·rw [hsf] at hin EN
    rw [rinner_none (by rw [hin])]
    clear hin hd hxe hsf hs ht hlen h0
    go_enter Tryz.func57, Tryz.ntmps57
    go_wp2_with fail
    refine (EN _).mono ?_
    rintro e w1 ⟨rfl, rfl⟩
    go_wp2
    go_returns
    exact ⟨rfl, rfl⟩
   ·rw [hsf] at hin EN
    have hsl := fun w => slice_twoU nm 1 (nm.size - en.size) (by omega) (by omega) 1 ((nm.size : Int) - (en.size : Int)) rfl (by omega) w
    have hbu : bs (nm.extract 1 (nm.size - en.size)) = ((bs nm).drop 1).take (((bs nm).drop 1).length - (bs en).length) := by
     rw [bs_extract, List.drop_take, List.length_drop, bs_length, bs_length]
     congr 1
     omega
    have hres : rinnerS (bs nm) (bs en) = (bs (nm.extract 1 (nm.size - en.size)), true) := by
     unfold rinnerS
     rw [hin, if_pos rfl, hbu]; rfl
    rw [hres]
    obtain ⟨u, hu⟩ : ∃ u, u = nm.extract 1 (nm.size - en.size) := ⟨_, rfl⟩
    rw [← hu] at hsl
    rw [← hu]
    clear hin hd hxe hsf hs ht hlen h0 hbu hres hu
    go_enter Tryz.func57, Tryz.ntmps57
    go_wp2_with fail
    refine (EN _).mono ?_
    rintro e w1 ⟨rfl, rfl⟩
    go_wp2
    go_returns
    exact ⟨by simp only []; rw [mk8_bs]; rfl, rfl⟩
  ·rw [hd, rinner_none (inner_other h60)]
   have hxn : (((x.toNat : Nat) : Int) != 60) = true := by
    have : ¬ (((x.toNat : Nat) : Int) = 60) := fun h => h60 (UInt8.toNat_inj.1 (by rw [show (60 : UInt8).toNat = 60 from rfl]; omega))
    simpa using this
   have hxq : (((x.toNat : Nat) : Int) == 60) = false := by
    rw [beq_eq_false_iff_ne]
    exact fun h => h60 (UInt8.toNat_inj.1 (by rw [show (60 : UInt8).toNat = 60 from rfl]; omega))
   clear hd hxe h60 hs ht hlen EN
   go_enter Tryz.func57, Tryz.ntmps57
   go_wp2
   go_returns
   exact ⟨rfl, rfl⟩
end Go.Proofs.YtajkjaciooijjaaGreatDoor
end
