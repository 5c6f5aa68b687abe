/- What the library's own words for texts (split, cut, trim, fields) say at blanks and single bytes: the words of FldSpec. No program stands here. The contracts of numbers that digits tell: fields.digit, number, Hex, Number, api.Scalar, and the document's Digit, Hex, Number. -/
import Derived.Test.YtggichcfklbjiaaGreatDoorG05
import Derived.Lib.SplitLaws
import Derived.Lib.SlTrimSet
import Derived.Lib.FieldsP
import Derived.Lib.SpaceUEq
import Derived.Test.YtggichcfklbjiaaGreatDoorRows
import Derived.Test.YtggichcfklbjiaaGreatDoorG03
import Derived.WalkSpells
section
set_option linter.unusedSimpArgs false
set_option linter.unusedVariables false
namespace Go.Proofs.YtggichcfklbjiaaGreatDoor
open Go.RowKit

/-- What stands between bytes, from the front. -/
def cutR (c : UInt8) : List UInt8 → List UInt8 → List (List UInt8)
  | cur, [] => [cur]
  | cur, b :: t => if b = c then cur :: cutR c [] t else cutR c (cur ++ [b]) t
theorem cutR_foldl (c : UInt8) : ∀ (l cur : List UInt8) (acc : List (List UInt8)), (l.foldl (cutStep c) (acc, cur)).1 ++ [(l.foldl (cutStep c) (acc, cur)).2] = acc ++ cutR c cur l
  | [], cur, acc => rfl
  | b :: t, cur, acc => by
    rw [List.foldl_cons]
    simp only [cutR, cutStep]
    split
    · rw [cutR_foldl c t [] (acc ++ [cur])]; simp
    · rw [cutR_foldl c t (cur ++ [b]) acc]
theorem cutL_R (c : UInt8) (l : List UInt8) : cutL c l = cutR c [] l := by
  have := cutR_foldl c l [] []
  simpa [cutL, cutF] using this
theorem pre_one (c b : UInt8) (t : List UInt8) : [c].isPrefixOf (b :: t) = (c == b) := by simp [List.isPrefixOf]
theorem cutR_miss (c : UInt8) : ∀ (l cur : List UInt8), Lib.index l [c] = -1 → cutR c cur l = [cur ++ l]
  | [], cur, _ => by simp [cutR]
  | b :: t, cur, h => by
    simp only [Lib.index] at h
    rw [pre_one] at h
    by_cases hb : c = b
    · rw [if_pos (by simp [hb])] at h; omega
    · rw [if_neg (by simp [hb])] at h
      have ht : Lib.index t [c] = -1 := by
        by_cases hx : Lib.index t [c] = -1
        · exact hx
        · rw [if_neg (by simp [hx])] at h
          have := Lib.index_ge t [c]
          omega
      simp only [cutR]
      rw [if_neg (fun e => hb e.symm), cutR_miss c t (cur ++ [b]) ht]
      simp
theorem cutR_hit (c : UInt8) : ∀ (l cur : List UInt8) (i : Nat), Lib.index l [c] = i → cutR c cur l = (cur ++ l.take i) :: cutR c [] (l.drop (i + 1))
  | [], cur, i, h => by
    simp only [Lib.index] at h
    simp at h
  | b :: t, cur, i, h => by
    simp only [Lib.index] at h
    rw [pre_one] at h
    by_cases hb : c = b
    · rw [if_pos (by simp [hb])] at h
      have : i = 0 := by omega
      subst this
      simp only [cutR]
      rw [if_pos hb.symm]
      simp
    · rw [if_neg (by simp [hb])] at h
      by_cases hx : Lib.index t [c] = -1
      · rw [if_pos (by simp [hx])] at h; omega
      · rw [if_neg (by simp [hx])] at h
        obtain ⟨j, hj⟩ : ∃ j : Nat, Lib.index t [c] = j := ⟨(Lib.index t [c]).toNat, by have := Lib.index_ge t [c]; omega⟩
        have : i = j + 1 := by omega
        subst this
        simp only [cutR]
        rw [if_neg (fun e => hb e.symm), cutR_hit c t (cur ++ [b]) j hj]
        simp
theorem split_R (c : UInt8) : ∀ (k : Nat) (l : List UInt8), Lib.count l [c] = k → Lib.splitK [c] 0 k l = cutR c [] l := by
  intro k
  induction k with
  | zero =>
    intro l h
    by_cases hx : Lib.index l [c] = -1
    · rw [cutR_miss c l [] hx]; rfl
    · exfalso
      obtain ⟨j, hj⟩ : ∃ j : Nat, Lib.index l [c] = j := ⟨(Lib.index l [c]).toNat, by have := Lib.index_ge l [c]; omega⟩
      rw [Lib.count_hit (by simp) hj] at h
      omega
  | succ k ih =>
    intro l h
    by_cases hx : Lib.index l [c] = -1
    · rw [Lib.count_miss hx] at h; omega
    · obtain ⟨j, hj⟩ : ∃ j : Nat, Lib.index l [c] = j := ⟨(Lib.index l [c]).toNat, by have := Lib.index_ge l [c]; omega⟩
      rw [Lib.count_hit (by simp) hj] at h
      simp only [Lib.splitK]
      rw [if_neg (by simp [hx]), cutR_hit c l [] j hj, hj]
      simp only [Int.toNat_natCast, List.length_singleton, Nat.add_zero, List.nil_append] at h ⊢
      rw [ih _ (by omega)]
/-- strings.Split at one byte is what stands between bytes. -/
theorem split_cut (s : ByteArray) (c : UInt8) : Lib.splitB ⟨#[c]⟩ 0 (Lib.countB s ⟨#[c]⟩) s = (cutL c (bs s)).map mk8 := by
  have h := Lib.splitB_data ⟨#[c]⟩ 0 (Lib.countB s ⟨#[c]⟩) s
  have h2 : Lib.splitK [c] 0 (Lib.countB s ⟨#[c]⟩) (bs s) = cutL c (bs s) := by rw [cutL_R]; exact split_R c _ _ rfl
  have h3 : (Lib.splitB ⟨#[c]⟩ 0 (Lib.countB s ⟨#[c]⟩) s).map bs = cutL c (bs s) := h.trans h2
  rw [← h3, List.map_map]
  conv => lhs; rw [← List.map_id (Lib.splitB ⟨#[c]⟩ 0 (Lib.countB s ⟨#[c]⟩) s)]
  exact List.map_congr_left fun x _ => (mk8_bs x).symm
theorem split_len (s : ByteArray) (c : UInt8) : Lib.countB s ⟨#[c]⟩ + 1 = (cutL c (bs s)).length := by
  have h := Lib.splitB_all ⟨#[c]⟩ (Nat.le_refl 1) 0 (Lib.countB s ⟨#[c]⟩) s rfl
  rw [← h, split_cut, List.length_map]
/-- The first of these: what strings.Cut gives. -/
theorem cut_first (c : UInt8) (l : List UInt8) : (cutL c l)[0]? = some (Lib.cut l [c]).1 := by
  rw [cutL_R]
  unfold Lib.cut
  by_cases hx : Lib.index l [c] = -1
  · rw [if_neg (by omega), cutR_miss c l [] hx]; rfl
  · obtain ⟨j, hj⟩ : ∃ j : Nat, Lib.index l [c] = j := ⟨(Lib.index l [c]).toNat, by have := Lib.index_ge l [c]; omega⟩
    rw [if_pos (by omega), cutR_hit c l [] j hj, hj]
    simp

theorem blank_has (b : UInt8) : ([9, 13, 32] : List UInt8).contains b = blankB b := by
  have h9 : (b = 9) ↔ b.toNat = 9 := ⟨fun h => by rw [h]; rfl, fun h => UInt8.toNat.inj h⟩
  have h13 : (b = 13) ↔ b.toNat = 13 := ⟨fun h => by rw [h]; rfl, fun h => UInt8.toNat.inj h⟩
  have h32 : (b = 32) ↔ b.toNat = 32 := ⟨fun h => by rw [h]; rfl, fun h => UInt8.toNat.inj h⟩
  have e : blankB b = decide (b = 9 ∨ b = 13 ∨ b = 32) := by
    unfold blankB blankI
    refine decide_eq_decide.2 ⟨fun h => ?_, fun h => ?_⟩
    · rcases h with h | h | h
      · exact .inl (h9.2 (by omega))
      · exact .inr (.inl (h13.2 (by omega)))
      · exact .inr (.inr (h32.2 (by omega)))
    · rcases h with h | h | h
      · have := h9.1 h; omega
      · have := h13.1 h; omega
      · have := h32.1 h; omega
  rw [e]
  simp only [List.contains_cons, List.contains_nil, Bool.or_false]
  by_cases a : b = 9 <;> by_cases c : b = 13 <;> by_cases d : b = 32 <;> simp [a, c, d]
theorem lstrip_S (l : List UInt8) : Lib.trimLeftS l [9, 13, 32] = lstrip l := by
  unfold Lib.trimLeftS lstrip
  congr 1
  funext b
  exact blank_has b
theorem rstrip_S (l : List UInt8) : Lib.trimRightS l [9, 13, 32] = rstrip l := by
  unfold Lib.trimRightS rstrip
  have : (fun b : UInt8 => ([9, 13, 32] : List UInt8).contains b) = blankB := by funext b; exact blank_has b
  rw [this]
theorem rstrip_cons (b : UInt8) (t : List UInt8) : rstrip (b :: t) = if rstrip t = [] then (if blankB b = true then [] else [b]) else b :: rstrip t := by
  simp only [rstrip, List.reverse_cons, List.dropWhile_append, List.isEmpty_iff]
  by_cases h : List.dropWhile blankB t.reverse = []
  · by_cases hb : blankB b = true <;> simp [h, List.dropWhile_cons, hb]
  · simp [h]
theorem strips_comm : ∀ l : List UInt8, lstrip (rstrip l) = rstrip (lstrip l)
  | [] => rfl
  | b :: t => by
    have ih := strips_comm t
    rw [rstrip_cons]
    by_cases hb : blankB b = true
    · rw [lstrip_yes hb, ← ih]
      split
      · rename_i h
        rw [h]
      · rw [lstrip_yes hb]
    · have hb' : blankB b = false := by simpa using hb
      rw [lstrip_no hb', rstrip_cons]
      split
      · rw [lstrip_no hb']
      · rw [lstrip_no hb']
/-- strings.Trim at the blanks. -/
theorem bare_S (l : List UInt8) : Lib.trimS l [9, 13, 32] = bareL l := by
  unfold Lib.trimS bareL
  rw [lstrip_S, rstrip_S, strips_comm]

/-- Which characters part words. -/
def blankN (x : Nat) : Bool := blankI x
theorem words_blankE {b : UInt8} {w t : List UInt8} (h : blankB b = true) (hw : w ≠ []) : wordsFrom w (b :: t) = w :: wordsFrom [] t := by rw [words_blank _ _ h, if_neg hw]
/-- Some bytes that are no blanks come to the word. -/
theorem words_take : ∀ (n : Nat) (l w : List UInt8), n ≤ l.length → (∀ j, j < n → ∀ b, l[j]? = some b → blankB b = false) → wordsFrom w l = wordsFrom (w ++ l.take n) (l.drop n)
  | 0, l, w, _, _ => by simp
  | n + 1, [], w, h, _ => by simp at h
  | n + 1, b :: t, w, h, hb => by
    rw [words_more w t (hb 0 (by omega) b rfl), words_take n t (w ++ [b]) (by simp at h; omega) (fun j hj c hc => hb (j + 1) (by omega) c (by simpa using hc))]
    simp
/-- A character's bytes, where its first byte is no ASCII, are no blanks; and they are there. -/
theorem high_bytes (s : ByteArray) (pos : Nat) (h : pos < s.size) (ha : 128 ≤ (s[pos]'h).toNat) :
    pos + (Utf8.decode s pos).2 ≤ s.size ∧ ∀ j, j < (Utf8.decode s pos).2 → ∀ b, ((bs s).drop pos)[j]? = some b → blankB b = false := by
  have hd := Lib.decodeN_conts ((bs s).length - pos) (((bs s).getD pos 0).toNat) (((bs s).getD (pos + 1) 0).toNat) (((bs s).getD (pos + 2) 0).toNat) (((bs s).getD (pos + 3) 0).toNat)
  have hN : Utf8.decode s pos = Lib.decodeN ((bs s).length - pos) (((bs s).getD pos 0).toNat) (((bs s).getD (pos + 1) 0).toNat) (((bs s).getD (pos + 2) 0).toNat) (((bs s).getD (pos + 3) 0).toNat) := Lib.decode_N s pos
  rw [← hN] at hd
  obtain ⟨c2, c3, c4, c5⟩ := hd
  have hl : (bs s).length = s.size := bs_length s
  have hw := (decode_high s pos h ha).2
  refine ⟨by omega, fun j hj b hb => ?_⟩
  rw [List.getElem?_drop] at hb
  have hbig : 128 ≤ b.toNat := by
    have hg : ∀ i, (bs s)[i]? = some b → ((bs s).getD i 0) = b := fun i hi => by simp [List.getD, hi]
    rcases (show j = 0 ∨ j = 1 ∨ j = 2 ∨ j = 3 by omega) with e | e | e | e
    · subst e
      rw [Nat.add_zero, bs_get s pos h] at hb
      injection hb with hb
      rw [← hb]; exact ha
    · subst e; have := c2 (by omega); rw [hg _ hb] at this; omega
    · subst e; have := c3 (by omega); rw [hg _ hb] at this; omega
    · subst e; have := c4 (by omega); rw [hg _ hb] at this; omega
  simp only [blankB, blankI, decide_eq_false_iff_not]
  omega
theorem high_blank {x : Nat} (h : 128 ≤ x) : blankN x = false := by
  simp only [blankN, blankI, decide_eq_false_iff_not]
  omega
theorem extract_snoc (s : ByteArray) (a pos n : Nat) (h : a ≤ pos) : ((bs s).take (pos + n)).drop a = ((bs s).take pos).drop a ++ ((bs s).drop pos).take n := by
  by_cases hp : pos ≤ (bs s).length
  · rw [List.take_add, List.drop_append, List.length_take, Nat.min_eq_left hp, Nat.sub_eq_zero_of_le h, List.drop_zero]
  · rw [List.take_of_length_le (by omega), List.take_of_length_le (by omega), List.drop_of_length_le (l := bs s) (i := pos) (by omega)]
    simp
theorem spans_words (s : ByteArray) : ∀ (f pos : Nat) (st : Option Nat) (acc : List (Nat × Nat)), s.size - pos ≤ f → pos ≤ s.size → (∀ a, st = some a → a < pos) →
    ((Lib.closeSpans s (Lib.spansFromP blankN s f pos st acc)).map fun x => bs (s.extract x.1 x.2)) = (acc.map fun x => bs (s.extract x.1 x.2)) ++ wordsFrom (match st with | some a => ((bs s).take pos).drop a | none => []) ((bs s).drop pos) := by
  have hl : (bs s).length = s.size := bs_length s
  have hend : ∀ (pos : Nat) (st : Option Nat) (acc : List (Nat × Nat)), pos = s.size → (∀ a, st = some a → a < pos) →
      ((Lib.closeSpans s (acc, st)).map fun x => bs (s.extract x.1 x.2)) = (acc.map fun x => bs (s.extract x.1 x.2)) ++ wordsFrom (match st with | some a => ((bs s).take pos).drop a | none => []) ((bs s).drop pos) := by
    intro pos st acc hp hst
    subst hp
    rw [bs_drop_end s s.size (Nat.le_refl _)]
    cases st with
    | none => simp [Lib.closeSpans, wordsFrom]
    | some a =>
      have hne : ((bs s).take s.size).drop a ≠ [] := by
        intro h
        have := congrArg List.length h
        have := hst a rfl
        simp only [List.length_drop, List.length_take, List.length_nil] at *
        omega
      simp only [wordsFrom]
      rw [if_neg hne]
      simp [Lib.closeSpans, bs_extract]
  intro f
  induction f with
  | zero =>
    intro pos st acc hf hp hst
    exact hend pos st acc (by omega) hst
  | succ f ih =>
    intro pos st acc hf hp hst
    by_cases hin : pos < s.size
    · unfold Lib.spansFromP
      rw [if_pos hin]
      have hd := bs_drop s pos hin
      by_cases hasc : (s[pos]'hin).toNat < 128
      · have hdec := decode_ascii s pos hin hasc
        rw [hdec]
        simp only []
        by_cases hbl : blankB (s[pos]'hin) = true
        · rw [if_pos (show blankN (s[pos]'hin).toNat = true from hbl)]
          cases st with
          | none =>
            simp only []
            rw [ih (pos + 1) none acc (by omega) (by omega) (by simp), hd, words_blank _ _ hbl, if_pos rfl]
          | some a =>
            have hlt := hst a rfl
            have hne : ((bs s).take pos).drop a ≠ [] := by
              intro h
              have := congrArg List.length h
              simp only [List.length_drop, List.length_take, List.length_nil] at this
              omega
            simp only []
            rw [ih (pos + 1) none (acc ++ [(a, pos)]) (by omega) (by omega) (by simp), hd, words_blankE hbl hne]
            simp [bs_extract]
        · have hbl' : blankB (s[pos]'hin) = false := by simpa using hbl
          rw [if_neg (show ¬ blankN (s[pos]'hin).toNat = true from hbl)]
          cases st with
          | none =>
            simp only []
            rw [ih (pos + 1) (some pos) acc (by omega) (by omega) (by intro a h; injection h with h; omega), hd, words_more _ _ hbl']
            simp only [List.nil_append]
            rw [extract_snoc s pos pos 1 (Nat.le_refl _), hd, List.drop_of_length_le (by rw [List.length_take]; omega)]
            simp
          | some a =>
            have hlt := hst a rfl
            simp only []
            rw [ih (pos + 1) (some a) acc (by omega) (by omega) (by intro b h; injection h with h; omega), hd, words_more _ _ hbl']
            simp only []
            rw [extract_snoc s a pos 1 (by omega), hd]
            simp
      · have ha : 128 ≤ (s[pos]'hin).toNat := by omega
        obtain ⟨hw, hno⟩ := high_bytes s pos hin ha
        obtain ⟨hbig, hw1⟩ := decode_high s pos hin ha
        obtain ⟨r, n, hrn⟩ : ∃ r n, Utf8.decode s pos = (r, n) := ⟨_, _, rfl⟩
        rw [hrn] at hw hno hbig hw1 ⊢
        simp only [] at hw hno hbig hw1 ⊢
        rw [if_neg (by rw [high_blank hbig]; simp)]
        have hdl : n ≤ ((bs s).drop pos).length := by rw [List.length_drop]; omega
        cases st with
        | none =>
          simp only []
          rw [ih (pos + n) (some pos) acc (by omega) (by omega) (by intro a h; injection h with h; omega), words_take n ((bs s).drop pos) [] hdl hno]
          simp only [List.nil_append, List.drop_drop]
          rw [extract_snoc s pos pos n (Nat.le_refl _), List.drop_of_length_le (l := List.take pos (bs s)) (by rw [List.length_take]; omega)]
          simp
        | some a =>
          have hlt := hst a rfl
          simp only []
          rw [ih (pos + n) (some a) acc (by omega) (by omega) (by intro b h; injection h with h; omega), words_take n ((bs s).drop pos) _ hdl hno]
          simp only [List.drop_drop]
          rw [extract_snoc s a pos n (by omega)]
    · rw [Lib.spansFromP_end _ _ _ _ _ _ hin]
      exact hend pos st acc (by omega) hst
/-- strings.FieldsFunc at the blanks. -/
theorem fields_words (s : ByteArray) : Lib.goFieldsP blankN s = (wordsL (bs s)).map mk8 := by
  have h := spans_words s s.size 0 none [] (by omega) (by omega) (by simp)
  simp only [List.map_nil, List.nil_append, List.drop_zero] at h
  unfold Lib.goFieldsP Lib.spansOfP wordsL
  rw [← h, List.map_map]
  exact List.map_congr_left fun x _ => (mk8_bs _).symm
end Go.Proofs.YtggichcfklbjiaaGreatDoor
end

section
set_option linter.unusedSimpArgs false
set_option linter.unusedVariables false
namespace Go.Proofs.YtggichcfklbjiaaGreatDoor
open Go.RowKit

def scalarB (r : Int) : Bool := decide ((0 ≤ r ∧ r < 55296) ∨ (57343 < r ∧ r ≤ 1114111))
theorem scalar_any (r : Int) (w : World) : Calls Tryz.prog 12 #[.int .i32 r] w fun e w' => e = .returned (.bool (scalarB r)) ∧ w = w' := by
  rcases (show r < 0 ∨ (0 ≤ r ∧ r < 55296) ∨ (55296 ≤ r ∧ r ≤ 57343) ∨ (57343 < r ∧ r ≤ 1114111) ∨ 1114111 < r by omega) with h | ⟨h, h'⟩ | ⟨h, h'⟩ | ⟨h, h'⟩ | h
  all_goals
    go_enter Tryz.func12, Tryz.ntmps12
    go_wp2
    go_returns
    exact ⟨ret_bool (by unfold scalarB; symm; first | (rw [decide_eq_true_iff]; omega) | (rw [decide_eq_false_iff_not]; omega) | (rw [Bool.eq_iff_iff]; simp; omega)), rfl⟩

theorem digit_any (r : Int) (w : World) : Calls Tryz.prog 119 #[.int .i32 r] w fun e w' => e = .returned (.int .i64 (hexDigit r)) ∧ w = w' := by
  rcases (show r < 48 ∨ (48 ≤ r ∧ r ≤ 57) ∨ (57 < r ∧ r < 65) ∨ (65 ≤ r ∧ r ≤ 70) ∨ (70 < r ∧ r < 97) ∨ (97 ≤ r ∧ r ≤ 102) ∨ 102 < r by omega) with h | ⟨h, h'⟩ | ⟨h, h'⟩ | ⟨h, h'⟩ | ⟨h, h'⟩ | ⟨h, h'⟩ | h
  all_goals
    go_enter Tryz.func119, Tryz.ntmps119
    go_wp2
    go_returns
    exact ⟨ret_i64 (by unfold hexDigit; split <;> (try split) <;> (try split) <;> omega), rfl⟩

def pow16 : Nat → Int
  | 0 => 1
  | k + 1 => 16 * pow16 k
def pow10 : Nat → Int
  | 0 => 1
  | k + 1 => 10 * pow10 k
theorem pow16_le (k : Nat) (h : k ≤ 6) : pow16 k ≤ 16777216 := by
  match k, h with
  | 0, _ | 1, _ | 2, _ | 3, _ | 4, _ | 5, _ | 6, _ => decide
theorem pow10_le (k : Nat) (h : k ≤ 6) : pow10 k ≤ 16777216 := by
  match k, h with
  | 0, _ | 1, _ | 2, _ | 3, _ | 4, _ | 5, _ | 6, _ => decide
theorem str_ne {s : ByteArray} (h : ¬ s.size = 0) : s.toList.isEmpty = false := by
  rw [toList_bs]
  cases hh : bs s with
  | nil =>
    have := bs_length s
    rw [hh] at this
    exact absurd this.symm h
  | cons a t => rfl

theorem number16 (s : ByteArray) (w : World) (hs : s.size ≤ 9223372036854775807) :
    Calls Tryz.prog 91 #[.string s, .int .i64 16, .int .i64 6] w fun e w' => e = .returned (.int .i64 (numS 16 6 (bs s))) ∧ Below w.heap.size w w' := by
  by_cases h0 : s.size = 0
  · have hn : numS 16 6 (bs s) = -1 := by unfold numS; rw [bs_length, if_pos (.inl h0)]
    rw [hn]
    obtain rfl : s = ⟨#[]⟩ := bs_inj (by rw [bs_nil h0]; rfl)
    clear h0 hn hs
    go_enter Tryz.func91, Tryz.ntmps91
    go_wp2
    go_returns
    exact ⟨rfl, Below.refl _ _⟩
  · have he2 : s.toList.isEmpty = false := str_ne h0
    have he3 : (!s.toList.isEmpty) = true := by rw [he2]; rfl
    by_cases h1 : 6 < s.size
    · have hn : numS 16 6 (bs s) = -1 := by unfold numS; rw [bs_length, if_pos (.inr h1)]
      rw [hn]
      have h1' : (6 : Int) < (s.size : Int) := by omega
      clear hn
      go_enter Tryz.func91, Tryz.ntmps91
      go_wp2
      go_returns
      exact ⟨rfl, Below.refl _ _⟩
    · have hn : numS 16 6 (bs s) = numFrom 16 0 (bs s) := by unfold numS; rw [bs_length, if_neg (by omega)]
      rw [hn]
      have h1' : (s.size : Int) ≤ 6 := by omega
      clear hn
      go_enter Tryz.func91, Tryz.ntmps91
      go_wp2
      go_loopw [7] (fun n wr => ∃ (k : Nat) (v : Int), wr = w.iter s k ∧ k ≤ s.size ∧ n = .int .i64 v ∧ 0 ≤ v ∧ v < pow16 k ∧ Hid (numFrom 16 0 (bs s) = numFrom 16 v ((bs s).drop k))) (fun _ wr => s.size - wr.iterPos w.heap.size)
      case atStart => exact ⟨0, 0, rfl, Nat.zero_le _, rfl, Int.le_refl _, by decide, rfl⟩
      case round =>
        obtain ⟨k, v, rfl, hk, rfl, hv0, hv1, HN⟩ := hrel
        have hv2 : v ≤ 16777215 := by have := pow16_le k (by omega); omega
        by_cases hp : k < s.size
        · have hnx : ∀ ty, (Instr.next (.pointer (some ⟨w.heap.size, 0, none⟩)) true ty).run Tryz.prog (w.iter s k) = _ := fun ty => run_next_any w s k ty hp
          obtain ⟨b, hb⟩ : ∃ b, b = s[k]'hp := ⟨_, rfl⟩
          have hdr := bs_drop s k hp
          rw [← hb] at hdr
          rw [hdr] at HN
          have hd1 := hexDigit_ge (b.toNat : Int)
          have hd2 := hexDigit_le (b.toNat : Int)
          clear hdr
          by_cases ha : b.toNat < 128
          · have hdec : Utf8.decode s k = (b.toNat, 1) := by rw [decode_ascii s k hp (by rw [← hb]; exact ha), hb]
            rw [hdec] at hnx
            clear hdec hb
            by_cases hbad : hexDigit (b.toNat : Int) < 0
            · have hb2 : numFrom 16 v (b :: (bs s).drop (k + 1)) = -1 := numFrom_bad (.inl hbad)
              have HB := Lib.hid hb2; clear hb2
              go_wp2_with (go_at_call 119; refine (digit_any _ _).mono ?_; rintro e w' ⟨rfl, rfl⟩)
              go_returns
              exact ⟨ret_i64 (by rw [HN.out, HB.out]), (Below.refl w.heap.size w).alloc (Nat.le_refl _) _⟩
            · by_cases hbad2 : 16 ≤ hexDigit (b.toNat : Int)
              · have hb2 : numFrom 16 v (b :: (bs s).drop (k + 1)) = -1 := numFrom_bad (.inr hbad2)
                have HB := Lib.hid hb2; clear hb2
                go_wp2_with (go_at_call 119; refine (digit_any _ _).mono ?_; rintro e w' ⟨rfl, rfl⟩)
                go_returns
                exact ⟨ret_i64 (by rw [HN.out, HB.out]), (Below.refl w.heap.size w).alloc (Nat.le_refl _) _⟩
              · have hb2 : numFrom 16 v (b :: (bs s).drop (k + 1)) = numFrom 16 (v * 16 + hexDigit b.toNat) ((bs s).drop (k + 1)) := numFrom_good (by omega) (by omega)
                have HB := Lib.hid hb2; clear hb2
                go_wp2_with (go_at_call 119; refine (digit_any _ _).mono ?_; rintro e w' ⟨rfl, rfl⟩)
                go_roundw
                case rel => exact ⟨k + 1, _, rfl, by omega, rfl, by omega, by simp only [pow16]; omega, by show _ = _; rw [HN.out, HB.out]⟩
                case measure => simp; omega
          · have hdec := decode_high s k hp (by rw [← hb]; omega)
            have hdl := decode_le s k
            obtain ⟨⟨r, wd⟩, hrw⟩ : ∃ x, x = Utf8.decode s k := ⟨_, rfl⟩
            rw [← hrw] at hnx hdec hdl
            simp only [] at hdec hdl
            clear hrw
            have hx : hexDigit (r : Int) = -1 := hexDigit_high (by omega)
            have hb2 : numFrom 16 v (b :: (bs s).drop (k + 1)) = -1 := numFrom_bad (.inl (by rw [hexDigit_high (by omega)]; decide))
            have HB := Lib.hid hb2; clear hb2
            have HX := Lib.hid hx; clear hx
            go_wp2_with fail
            refine (digit_any _ _).mono ?_
            rw [HX.out]
            rintro e w' ⟨rfl, rfl⟩
            go_wp2
            go_returns
            exact ⟨ret_i64 (by rw [HN.out, HB.out]), (Below.refl w.heap.size w).alloc (Nat.le_refl _) _⟩
        · have hnx : ∀ ty, (Instr.next (.pointer (some ⟨w.heap.size, 0, none⟩)) true ty).run Tryz.prog (w.iter s k) = _ := fun ty => run_next_end w s k ty hp
          go_wp2
          go_returns
          exact ⟨ret_i64 (by rw [HN.out, bs_drop_end s k (by omega)]; rfl), (Below.refl w.heap.size w).alloc (Nat.le_refl _) _⟩

theorem number10 (s : ByteArray) (w : World) (hs : s.size ≤ 9223372036854775807) :
    Calls Tryz.prog 91 #[.string s, .int .i64 10, .int .i64 5] w fun e w' => e = .returned (.int .i64 (numS 10 5 (bs s))) ∧ Below w.heap.size w w' := by
  by_cases h0 : s.size = 0
  · have hn : numS 10 5 (bs s) = -1 := by unfold numS; rw [bs_length, if_pos (.inl h0)]
    rw [hn]
    obtain rfl : s = ⟨#[]⟩ := bs_inj (by rw [bs_nil h0]; rfl)
    clear h0 hn hs
    go_enter Tryz.func91, Tryz.ntmps91
    go_wp2
    go_returns
    exact ⟨rfl, Below.refl _ _⟩
  · have he2 : s.toList.isEmpty = false := str_ne h0
    have he3 : (!s.toList.isEmpty) = true := by rw [he2]; rfl
    by_cases h1 : 5 < s.size
    · have hn : numS 10 5 (bs s) = -1 := by unfold numS; rw [bs_length, if_pos (.inr h1)]
      rw [hn]
      have h1' : (5 : Int) < (s.size : Int) := by omega
      clear hn
      go_enter Tryz.func91, Tryz.ntmps91
      go_wp2
      go_returns
      exact ⟨rfl, Below.refl _ _⟩
    · have hn : numS 10 5 (bs s) = numFrom 10 0 (bs s) := by unfold numS; rw [bs_length, if_neg (by omega)]
      rw [hn]
      have h1' : (s.size : Int) ≤ 5 := by omega
      clear hn
      go_enter Tryz.func91, Tryz.ntmps91
      go_wp2
      go_loopw [7] (fun n wr => ∃ (k : Nat) (v : Int), wr = w.iter s k ∧ k ≤ s.size ∧ n = .int .i64 v ∧ 0 ≤ v ∧ v < pow10 k ∧ Hid (numFrom 10 0 (bs s) = numFrom 10 v ((bs s).drop k))) (fun _ wr => s.size - wr.iterPos w.heap.size)
      case atStart => exact ⟨0, 0, rfl, Nat.zero_le _, rfl, Int.le_refl _, by decide, rfl⟩
      case round =>
        obtain ⟨k, v, rfl, hk, rfl, hv0, hv1, HN⟩ := hrel
        have hv2 : v ≤ 16777215 := by have := pow10_le k (by omega); omega
        by_cases hp : k < s.size
        · have hnx : ∀ ty, (Instr.next (.pointer (some ⟨w.heap.size, 0, none⟩)) true ty).run Tryz.prog (w.iter s k) = _ := fun ty => run_next_any w s k ty hp
          obtain ⟨b, hb⟩ : ∃ b, b = s[k]'hp := ⟨_, rfl⟩
          have hdr := bs_drop s k hp
          rw [← hb] at hdr
          rw [hdr] at HN
          have hd1 := hexDigit_ge (b.toNat : Int)
          have hd2 := hexDigit_le (b.toNat : Int)
          clear hdr
          by_cases ha : b.toNat < 128
          · have hdec : Utf8.decode s k = (b.toNat, 1) := by rw [decode_ascii s k hp (by rw [← hb]; exact ha), hb]
            rw [hdec] at hnx
            clear hdec hb
            by_cases hbad : hexDigit (b.toNat : Int) < 0
            · have hb2 : numFrom 10 v (b :: (bs s).drop (k + 1)) = -1 := numFrom_bad (.inl hbad)
              have HB := Lib.hid hb2; clear hb2
              go_wp2_with (go_at_call 119; refine (digit_any _ _).mono ?_; rintro e w' ⟨rfl, rfl⟩)
              go_returns
              exact ⟨ret_i64 (by rw [HN.out, HB.out]), (Below.refl w.heap.size w).alloc (Nat.le_refl _) _⟩
            · by_cases hbad2 : 10 ≤ hexDigit (b.toNat : Int)
              · have hb2 : numFrom 10 v (b :: (bs s).drop (k + 1)) = -1 := numFrom_bad (.inr hbad2)
                have HB := Lib.hid hb2; clear hb2
                go_wp2_with (go_at_call 119; refine (digit_any _ _).mono ?_; rintro e w' ⟨rfl, rfl⟩)
                go_returns
                exact ⟨ret_i64 (by rw [HN.out, HB.out]), (Below.refl w.heap.size w).alloc (Nat.le_refl _) _⟩
              · have hb2 : numFrom 10 v (b :: (bs s).drop (k + 1)) = numFrom 10 (v * 10 + hexDigit b.toNat) ((bs s).drop (k + 1)) := numFrom_good (by omega) (by omega)
                have HB := Lib.hid hb2; clear hb2
                go_wp2_with (go_at_call 119; refine (digit_any _ _).mono ?_; rintro e w' ⟨rfl, rfl⟩)
                go_roundw
                case rel => exact ⟨k + 1, _, rfl, by omega, rfl, by omega, by simp only [pow10]; omega, by show _ = _; rw [HN.out, HB.out]⟩
                case measure => simp; omega
          · have hdec := decode_high s k hp (by rw [← hb]; omega)
            have hdl := decode_le s k
            obtain ⟨⟨r, wd⟩, hrw⟩ : ∃ x, x = Utf8.decode s k := ⟨_, rfl⟩
            rw [← hrw] at hnx hdec hdl
            simp only [] at hdec hdl
            clear hrw
            have hx : hexDigit (r : Int) = -1 := hexDigit_high (by omega)
            have hb2 : numFrom 10 v (b :: (bs s).drop (k + 1)) = -1 := numFrom_bad (.inl (by rw [hexDigit_high (by omega)]; decide))
            have HB := Lib.hid hb2; clear hb2
            have HX := Lib.hid hx; clear hx
            go_wp2_with fail
            refine (digit_any _ _).mono ?_
            rw [HX.out]
            rintro e w' ⟨rfl, rfl⟩
            go_wp2
            go_returns
            exact ⟨ret_i64 (by rw [HN.out, HB.out]), (Below.refl w.heap.size w).alloc (Nat.le_refl _) _⟩
        · have hnx : ∀ ty, (Instr.next (.pointer (some ⟨w.heap.size, 0, none⟩)) true ty).run Tryz.prog (w.iter s k) = _ := fun ty => run_next_end w s k ty hp
          go_wp2
          go_returns
          exact ⟨ret_i64 (by rw [HN.out, bs_drop_end s k (by omega)]; rfl), (Below.refl w.heap.size w).alloc (Nat.le_refl _) _⟩

theorem number16b (s : ByteArray) (w : World) (hs : s.size ≤ 9223372036854775807) :
    Calls Tryz.prog 91 #[.string s, .int .i64 16, .int .i64 2] w fun e w' => e = .returned (.int .i64 (numS 16 2 (bs s))) ∧ Below w.heap.size w w' := by
  by_cases h0 : s.size = 0
  · have hn : numS 16 2 (bs s) = -1 := by unfold numS; rw [bs_length, if_pos (.inl h0)]
    rw [hn]
    obtain rfl : s = ⟨#[]⟩ := bs_inj (by rw [bs_nil h0]; rfl)
    clear h0 hn hs
    go_enter Tryz.func91, Tryz.ntmps91
    go_wp2
    go_returns
    exact ⟨rfl, Below.refl _ _⟩
  · have he2 : s.toList.isEmpty = false := str_ne h0
    have he3 : (!s.toList.isEmpty) = true := by rw [he2]; rfl
    by_cases h1 : 2 < s.size
    · have hn : numS 16 2 (bs s) = -1 := by unfold numS; rw [bs_length, if_pos (.inr h1)]
      rw [hn]
      have h1' : (2 : Int) < (s.size : Int) := by omega
      clear hn
      go_enter Tryz.func91, Tryz.ntmps91
      go_wp2
      go_returns
      exact ⟨rfl, Below.refl _ _⟩
    · have hn : numS 16 2 (bs s) = numFrom 16 0 (bs s) := by unfold numS; rw [bs_length, if_neg (by omega)]
      rw [hn]
      have h1' : (s.size : Int) ≤ 2 := by omega
      clear hn
      go_enter Tryz.func91, Tryz.ntmps91
      go_wp2
      go_loopw [7] (fun n wr => ∃ (k : Nat) (v : Int), wr = w.iter s k ∧ k ≤ s.size ∧ n = .int .i64 v ∧ 0 ≤ v ∧ v < pow16 k ∧ Hid (numFrom 16 0 (bs s) = numFrom 16 v ((bs s).drop k))) (fun _ wr => s.size - wr.iterPos w.heap.size)
      case atStart => exact ⟨0, 0, rfl, Nat.zero_le _, rfl, Int.le_refl _, by decide, rfl⟩
      case round =>
        obtain ⟨k, v, rfl, hk, rfl, hv0, hv1, HN⟩ := hrel
        have hv2 : v ≤ 16777215 := by have := pow16_le k (by omega); omega
        by_cases hp : k < s.size
        · have hnx : ∀ ty, (Instr.next (.pointer (some ⟨w.heap.size, 0, none⟩)) true ty).run Tryz.prog (w.iter s k) = _ := fun ty => run_next_any w s k ty hp
          obtain ⟨b, hb⟩ : ∃ b, b = s[k]'hp := ⟨_, rfl⟩
          have hdr := bs_drop s k hp
          rw [← hb] at hdr
          rw [hdr] at HN
          have hd1 := hexDigit_ge (b.toNat : Int)
          have hd2 := hexDigit_le (b.toNat : Int)
          clear hdr
          by_cases ha : b.toNat < 128
          · have hdec : Utf8.decode s k = (b.toNat, 1) := by rw [decode_ascii s k hp (by rw [← hb]; exact ha), hb]
            rw [hdec] at hnx
            clear hdec hb
            by_cases hbad : hexDigit (b.toNat : Int) < 0
            · have hb2 : numFrom 16 v (b :: (bs s).drop (k + 1)) = -1 := numFrom_bad (.inl hbad)
              have HB := Lib.hid hb2; clear hb2
              go_wp2_with (go_at_call 119; refine (digit_any _ _).mono ?_; rintro e w' ⟨rfl, rfl⟩)
              go_returns
              exact ⟨ret_i64 (by rw [HN.out, HB.out]), (Below.refl w.heap.size w).alloc (Nat.le_refl _) _⟩
            · by_cases hbad2 : 16 ≤ hexDigit (b.toNat : Int)
              · have hb2 : numFrom 16 v (b :: (bs s).drop (k + 1)) = -1 := numFrom_bad (.inr hbad2)
                have HB := Lib.hid hb2; clear hb2
                go_wp2_with (go_at_call 119; refine (digit_any _ _).mono ?_; rintro e w' ⟨rfl, rfl⟩)
                go_returns
                exact ⟨ret_i64 (by rw [HN.out, HB.out]), (Below.refl w.heap.size w).alloc (Nat.le_refl _) _⟩
              · have hb2 : numFrom 16 v (b :: (bs s).drop (k + 1)) = numFrom 16 (v * 16 + hexDigit b.toNat) ((bs s).drop (k + 1)) := numFrom_good (by omega) (by omega)
                have HB := Lib.hid hb2; clear hb2
                go_wp2_with (go_at_call 119; refine (digit_any _ _).mono ?_; rintro e w' ⟨rfl, rfl⟩)
                go_roundw
                case rel => exact ⟨k + 1, _, rfl, by omega, rfl, by omega, by simp only [pow16]; omega, by show _ = _; rw [HN.out, HB.out]⟩
                case measure => simp; omega
          · have hdec := decode_high s k hp (by rw [← hb]; omega)
            have hdl := decode_le s k
            obtain ⟨⟨r, wd⟩, hrw⟩ : ∃ x, x = Utf8.decode s k := ⟨_, rfl⟩
            rw [← hrw] at hnx hdec hdl
            simp only [] at hdec hdl
            clear hrw
            have hx : hexDigit (r : Int) = -1 := hexDigit_high (by omega)
            have hb2 : numFrom 16 v (b :: (bs s).drop (k + 1)) = -1 := numFrom_bad (.inl (by rw [hexDigit_high (by omega)]; decide))
            have HB := Lib.hid hb2; clear hb2
            have HX := Lib.hid hx; clear hx
            go_wp2_with fail
            refine (digit_any _ _).mono ?_
            rw [HX.out]
            rintro e w' ⟨rfl, rfl⟩
            go_wp2
            go_returns
            exact ⟨ret_i64 (by rw [HN.out, HB.out]), (Below.refl w.heap.size w).alloc (Nat.le_refl _) _⟩
        · have hnx : ∀ ty, (Instr.next (.pointer (some ⟨w.heap.size, 0, none⟩)) true ty).run Tryz.prog (w.iter s k) = _ := fun ty => run_next_end w s k ty hp
          go_wp2
          go_returns
          exact ⟨ret_i64 (by rw [HN.out, bs_drop_end s k (by omega)]; rfl), (Below.refl w.heap.size w).alloc (Nat.le_refl _) _⟩

theorem numFrom_ge (base : Int) (hb : 0 ≤ base) : ∀ (l : List UInt8) (n : Int), 0 ≤ n → -1 ≤ numFrom base n l := by
  intro l
  induction l with
  | nil => intro n h; simp only [numFrom]; omega
  | cons b t ih =>
    intro n h
    simp only [numFrom]
    split
    · omega
    · refine ih _ ?_
      have : 0 ≤ n * base := Int.mul_nonneg h hb
      omega
theorem numFrom16_le : ∀ (l : List UInt8) (n : Int) (k : Nat), 0 ≤ n → n < pow16 k → numFrom 16 n l < pow16 (k + l.length) := by
  intro l
  induction l with
  | nil => intro n k h h'; simpa [numFrom] using h'
  | cons b t ih =>
    intro n k h h'
    have hd := hexDigit_le (b.toNat : Int)
    have hp : ∀ j, 0 < pow16 j := by intro j; induction j with | zero => decide | succ j ih => simp only [pow16]; omega
    simp only [numFrom]
    split
    · have := hp (k + (b :: t).length); omega
    · have := ih (n * 16 + hexDigit (b.toNat : Int)) (k + 1) (by omega) (by simp only [pow16]; omega)
      rw [show k + (b :: t).length = k + 1 + t.length by simp; omega]
      exact this
theorem numFrom10_le : ∀ (l : List UInt8) (n : Int) (k : Nat), 0 ≤ n → n < pow10 k → numFrom 10 n l < pow10 (k + l.length) := by
  intro l
  induction l with
  | nil => intro n k h h'; simpa [numFrom] using h'
  | cons b t ih =>
    intro n k h h'
    have hp : ∀ j, 0 < pow10 j := by intro j; induction j with | zero => decide | succ j ih => simp only [pow10]; omega
    simp only [numFrom]
    split
    · have := hp (k + (b :: t).length); omega
    · rename_i hh
      have := ih (n * 10 + hexDigit (b.toNat : Int)) (k + 1) (by omega) (by simp only [pow10]; omega)
      rw [show k + (b :: t).length = k + 1 + t.length by simp; omega]
      exact this
theorem numS16_bd (l : List UInt8) : -1 ≤ numS 16 6 l ∧ numS 16 6 l ≤ 16777215 := by
  unfold numS
  split
  · omega
  · rename_i h
    have h1 := numFrom_ge 16 (by omega) l 0 (by omega)
    have h2 := numFrom16_le l 0 0 (by omega) (by decide)
    have h3 := pow16_le (0 + l.length) (by omega)
    omega
theorem numS10_bd (l : List UInt8) : -1 ≤ numS 10 5 l ∧ numS 10 5 l ≤ 16777215 := by
  unfold numS
  split
  · omega
  · rename_i h
    have h1 := numFrom_ge 10 (by omega) l 0 (by omega)
    have h2 := numFrom10_le l 0 0 (by omega) (by decide)
    have h3 := pow10_le (0 + l.length) (by omega)
    omega
theorem numS16b_bd (l : List UInt8) : -1 ≤ numS 16 2 l ∧ numS 16 2 l ≤ 255 := by
  unfold numS
  split
  · omega
  · rename_i h
    have h1 := numFrom_ge 16 (by omega) l 0 (by omega)
    have h2 := numFrom16_le l 0 0 (by omega) (by decide)
    have h3 : pow16 (0 + l.length) ≤ 256 := by
      match l.length, h with
      | 0, _ | 1, _ | 2, _ => decide
      | n + 3, h => omega
    omega

/-- The character that hex digits tell, and what is wrong. -/
def hexS (l : List UInt8) : Int × Int :=
  if numS 16 6 l < 0 then (0, 10) else if scalarB (numS 16 6 l) = true then (numS 16 6 l, 0) else (0, 11)
/-- The number that decimal digits tell, and what is wrong. -/
def decS (l : List UInt8) : Int × Int := if numS 10 5 l < 0 then (0, 10) else (numS 10 5 l, 0)
theorem ret_ie {a b a' b' : Int} (h1 : a = a') (h2 : b = b') : Ending.returned (.tuple #[.int .i32 a, .int .i64 b]) = .returned (.tuple #[.int .i32 a', .int .i64 b']) := by rw [h1, h2]
theorem ret_ne {a b a' b' : Int} (h1 : a = a') (h2 : b = b') : Ending.returned (.tuple #[.int .i64 a, .int .i64 b]) = .returned (.tuple #[.int .i64 a', .int .i64 b']) := by rw [h1, h2]

theorem hex_any (s : ByteArray) (w : World) (hs : s.size ≤ 9223372036854775807) :
    Calls Tryz.prog 75 #[.string s] w fun e w' => e = .returned (.tuple #[.int .i32 (hexS (bs s)).1, .int .i64 (hexS (bs s)).2]) ∧ Below w.heap.size w w' := by
  have hbd := numS16_bd (bs s)
  obtain ⟨n, hn⟩ : ∃ n, n = numS 16 6 (bs s) := ⟨_, rfl⟩
  have hx : hexS (bs s) = if n < 0 then (0, 10) else if scalarB n = true then (n, 0) else (0, 11) := by rw [hn]; rfl
  rw [← hn] at hbd
  obtain ⟨hb0, hb1⟩ := hbd
  have HN := Lib.hid hn; clear hn
  by_cases h0 : n < 0
  · rw [if_pos h0] at hx
    have HX := Lib.hid hx; clear hx
    go_enter Tryz.func75, Tryz.ntmps75
    go_wp2_with fail
    refine (number16 s _ hs).mono ?_
    rw [← HN.out]
    rintro e w' ⟨rfl, hb⟩
    go_wp2
    go_returns
    exact ⟨ret_ie (by rw [HX.out]) (by rw [HX.out]), hb⟩
  · rw [if_neg h0] at hx
    have h0' : 0 ≤ n := by omega
    rcases Bool.eq_false_or_eq_true (scalarB n) with hsc | hsc
    · rw [if_pos hsc] at hx
      have HX := Lib.hid hx; clear hx
      go_enter Tryz.func75, Tryz.ntmps75
      go_wp2_with fail
      refine (number16 s _ hs).mono ?_
      rw [← HN.out]
      rintro e w' ⟨rfl, hb⟩
      go_wp2_with (go_at_call 12; refine (scalar_any _ _).mono ?_; rintro e w' ⟨rfl, rfl⟩)
      go_returns
      exact ⟨ret_ie (by rw [HX.out]) (by rw [HX.out]), hb⟩
    · rw [if_neg (by rw [hsc]; simp)] at hx
      have HX := Lib.hid hx; clear hx
      go_enter Tryz.func75, Tryz.ntmps75
      go_wp2_with fail
      refine (number16 s _ hs).mono ?_
      rw [← HN.out]
      rintro e w' ⟨rfl, hb⟩
      go_wp2_with (go_at_call 12; refine (scalar_any _ _).mono ?_; rintro e w' ⟨rfl, rfl⟩)
      go_returns
      exact ⟨ret_ie (by rw [HX.out]) (by rw [HX.out]), hb⟩

theorem dec_any (s : ByteArray) (w : World) (hs : s.size ≤ 9223372036854775807) :
    Calls Tryz.prog 76 #[.string s] w fun e w' => e = .returned (.tuple #[.int .i64 (decS (bs s)).1, .int .i64 (decS (bs s)).2]) ∧ Below w.heap.size w w' := by
  have hbd := numS10_bd (bs s)
  obtain ⟨n, hn⟩ : ∃ n, n = numS 10 5 (bs s) := ⟨_, rfl⟩
  have hx : decS (bs s) = if n < 0 then (0, 10) else (n, 0) := by rw [hn]; rfl
  rw [← hn] at hbd
  obtain ⟨hb0, hb1⟩ := hbd
  have HN := Lib.hid hn; clear hn
  by_cases h0 : n < 0
  · rw [if_pos h0] at hx
    have HX := Lib.hid hx; clear hx
    go_enter Tryz.func76, Tryz.ntmps76
    go_wp2_with fail
    refine (number10 s _ hs).mono ?_
    rw [← HN.out]
    rintro e w' ⟨rfl, hb⟩
    go_wp2
    go_returns
    exact ⟨ret_ne (by rw [HX.out]) (by rw [HX.out]), hb⟩
  · rw [if_neg h0] at hx
    have h0' : 0 ≤ n := by omega
    have HX := Lib.hid hx; clear hx
    go_enter Tryz.func76, Tryz.ntmps76
    go_wp2_with fail
    refine (number10 s _ hs).mono ?_
    rw [← HN.out]
    rintro e w' ⟨rfl, hb⟩
    go_wp2
    go_returns
    exact ⟨ret_ne (by rw [HX.out]) (by rw [HX.out]), hb⟩
end Go.Proofs.YtggichcfklbjiaaGreatDoor
end
