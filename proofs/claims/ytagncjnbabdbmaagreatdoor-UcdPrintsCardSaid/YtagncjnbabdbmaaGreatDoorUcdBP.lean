/- Rows as lines, and what these lines tell: plain laws. No program stands here. -/
import Derived.Test.YtagncjnbabdbmaaGreatDoorUcdPJ
import Derived.Test.YtagncjnbabdbmaaGreatDoorUcdKK
import Derived.Test.YtagncjnbabdbmaaGreatDoorFldBackP
import Derived.Test.YtagncjnbabdbmaaGreatDoorFldSameP
set_option linter.unusedSimpArgs false
set_option linter.unusedVariables false
namespace Go.Proofs.YtagncjnbabdbmaaGreatDoor
open Go.RowKit

/-- A number below 1000 in decimal digits. -/
def decT (n : Nat) : List UInt8 := if n < 10 then [UInt8.ofNat (48 + n)] else if n < 100 then [UInt8.ofNat (48 + n / 10), UInt8.ofNat (48 + n % 10)] else [UInt8.ofNat (48 + n / 100), UInt8.ofNat (48 + n / 10 % 10), UInt8.ofNat (48 + n % 10)]
/-- What a row is parted into, as text. -/
def partL (x : RowS) : List UInt8 := if x.kd = [] then textS x.il else [60] ++ x.kd ++ [62, 32] ++ textS x.il
def firstN (nm : List UInt8) : List UInt8 := [60] ++ nm ++ FSTB
def lastN (nm : List UInt8) : List UInt8 := [60] ++ nm ++ LSTB
/-- A row's line, of a character and a name, without its end. -/
def lineB (r : Int) (nm : List UInt8) (x : RowS) : List UInt8 := digS r ++ [59] ++ nm ++ [59] ++ x.ct ++ [59] ++ decT x.cl.toNat ++ [59] ++ [] ++ [59] ++ partL x
def lineL (r : Int) (nm : List UInt8) (x : RowS) : List UInt8 := lineB r nm x ++ [10]
def rowL (x : RowS) : List UInt8 := if x.fr = x.up then lineL x.fr x.nm x else lineL x.fr (firstN x.nm) x ++ lineL x.up (lastN x.nm) x
def printW : List UInt8 → Int → List RowS → List UInt8 × Int
  | acc, _, [] => (acc, 0)
  | acc, was, x :: t => if x.fr ≤ was then ([], 12) else printW (acc ++ rowL x) x.up t
/-- The first thing that is wrong with a row. -/
def firstBad : List RowS → Int
  | [] => 0
  | x :: t => if checkS x ≠ 0 then checkS x else firstBad t
/-- Rows as lines. -/
def printS (l : List RowS) : List UInt8 × Int := if firstBad l ≠ 0 then ([], firstBad l) else printW [] (-1) l

theorem drop_some {α : Type} {R : List α} {k : Nat} {x : α} (h : R[k]? = some x) : R.drop k = x :: R.drop (k + 1) := by
  obtain ⟨hk, he⟩ := List.getElem?_eq_some_iff.1 h
  rw [List.drop_eq_getElem_cons hk, he]
theorem firstBad_step {R : List RowS} {k : Nat} {x : RowS} (h : R[k]? = some x) : firstBad (R.drop k) = if checkS x ≠ 0 then checkS x else firstBad (R.drop (k + 1)) := by
  rw [drop_some h]; rfl
theorem printW_step {R : List RowS} {k : Nat} {x : RowS} (h : R[k]? = some x) (acc : List UInt8) (was : Int) : printW acc was (R.drop k) = if x.fr ≤ was then ([], 12) else printW (acc ++ rowL x) x.up (R.drop (k + 1)) := by
  rw [drop_some h]; rfl
theorem firstBad_ok : ∀ {l : List RowS}, firstBad l = 0 → ∀ x ∈ l, checkS x = 0
  | [], _, x, hx => by simp at hx
  | y :: t, h, x, hx => by
    unfold firstBad at h
    split at h
    · rename_i h1; exact absurd h h1
    · rename_i h1
      rcases List.mem_cons.1 hx with rfl | hx
      · exact Classical.not_not.1 h1
      · exact firstBad_ok h x hx

/-- What holds of each row that is not wrong. -/
structure RowG (x : RowS) : Prop where
  fr : scalarB x.fr = true
  up : scalarB x.up = true
  le : x.fr ≤ x.up
  cl : 0 ≤ x.cl ∧ x.cl ≤ 254
  len : x.il.length ≤ 18
  il : ∀ z ∈ x.il, scalarB z = true
  kd : lettersL x.kd = true
  some : x.kd ≠ [] → x.il ≠ []
  one : x.up ≠ x.fr → x.il = []
  free : x.up = x.fr → (innerS x.nm FSTB).2 = false ∧ (innerS x.nm LSTB).2 = false
  nm : plainL x.nm = true
  ct : plainL x.ct = true
theorem rowG {x : RowS} (h : checkS x = 0) : RowG x := by
  unfold checkS at h
  split at h
  · simp at h
  · rename_i h1
    split at h
    · simp at h
    · rename_i h2
      simp only [rangeBad, Bool.or_eq_true, not_or, Bool.not_eq_true, Bool.not_eq_false', decide_eq_false_iff_not, badI, List.any_eq_false] at h1
      simp only [kindBad, oneBad, nameBad, Bool.or_eq_true, Bool.and_eq_true, not_or, Bool.not_eq_true, Bool.not_eq_false', Bool.not_eq_true', decide_eq_true_eq, not_and] at h2
      obtain ⟨⟨⟨⟨⟨⟨a1, a2⟩, a3⟩, a4⟩, a5⟩, a6⟩, a7⟩ := h1
      obtain ⟨⟨b1, b2⟩, ⟨b3, b4⟩, b5, b6⟩ := h2
      refine ⟨a1, a2, by omega, ⟨by omega, by omega⟩, by omega, fun z hz => ?_, by simpa using b1, b2, fun hn => ?_, fun he => ?_, by simpa using b5, by simpa using b6⟩
      · have := a7 z hz
        simpa using this
      · have := b3 hn
        simpa using this
      · have := b4 he
        simpa using this

/-- A text that neither begins nor ends with a blank. -/
theorem bare_ends {b c : UInt8} {t u : List UInt8} {l : List UInt8} (h1 : l = b :: t) (hb : blankB b = false) (h2 : l = u ++ [c]) (hc : blankB c = false) : bareL l = l := by
  unfold bareL
  rw [h1, lstrip_no hb, ← h1, h2, rstrip_no hc]
theorem ends_of {l : List UInt8} (hne : l ≠ []) (h : ∀ b ∈ l, blankB b = false) : (∃ b t, l = b :: t ∧ blankB b = false) ∧ ∃ u c, l = u ++ [c] ∧ blankB c = false := by
  constructor
  · cases l with
    | nil => exact absurd rfl hne
    | cons b t => exact ⟨b, t, rfl, h b (by simp)⟩
  · rcases List.eq_nil_or_concat l with rfl | ⟨t, b, rfl⟩
    · exact absurd rfl hne
    · rw [List.concat_eq_append] at h ⊢
      exact ⟨t, b, rfl, h b (by simp)⟩
/-- A text of characters begins and ends with digits. -/
theorem text_head : ∀ (zs : List Int), zs ≠ [] → ∃ b t, textS zs = b :: t ∧ blankB b = false ∧ b ≠ 60
  | [], h => absurd rfl h
  | z :: r, _ => by
    have hd := digS_ne z
    cases hz : digS z with
    | nil => exact absurd hz hd
    | cons b t =>
      have hb : blankB b = false := digS_blank z b (by rw [hz]; simp)
      have hc : b ≠ 60 := digF_all (fun b => b ≠ 60) (fun d h => by revert d; decide) 8 _ [] (by simp) b (by show b ∈ digS z; rw [hz]; simp)
      unfold textS
      rw [List.map_cons, Lib.join_cons, hz]
      exact ⟨b, t ++ Lib.joinTail [32] (r.map digS), by simp, hb, hc⟩
theorem text_last (zs : List Int) (h : zs ≠ []) : ∃ u c, textS zs = u ++ [c] ∧ blankB c = false := by
  rcases List.eq_nil_or_concat zs with rfl | ⟨r, z, rfl⟩
  · exact absurd rfl h
  · rw [List.concat_eq_append]
    obtain ⟨u, c, hu, hc⟩ := (ends_of (digS_ne z) (digS_blank z)).2
    unfold textS
    rw [List.map_append, List.map_cons, List.map_nil, join_snoc]
    split
    · exact ⟨u, c, hu, hc⟩
    · exact ⟨_, c, by rw [hu, ← List.append_assoc], hc⟩
theorem text_all (P : UInt8 → Prop) (h32 : P 32) (hd : ∀ d, d < 16 → P (dchar d)) (zs : List Int) : ∀ b ∈ textS zs, P b := by
  intro b hb
  unfold textS at hb
  have hz : ∀ z, ∀ b ∈ digS z, P b := fun z => digF_all P hd 8 _ [] (by simp)
  cases zs with
  | nil => simp [Lib.join_nil] at hb
  | cons z r =>
    rw [List.map_cons, Lib.join_cons] at hb
    rcases List.mem_append.1 hb with hb | hb
    · exact hz z b hb
    · unfold Lib.joinTail at hb
      simp only [List.map_map, List.mem_flatten, List.mem_map, Function.comp] at hb
      obtain ⟨l, ⟨y, _, rfl⟩, hb⟩ := hb
      rcases List.mem_append.1 hb with hb | hb
      · rw [List.mem_singleton] at hb; subst hb; exact h32
      · exact hz y b hb
theorem letter_range {b : UInt8} (h : letB b = true) : 65 ≤ b.toNat ∧ b.toNat ≤ 122 := by
  unfold letB at h
  rw [decide_eq_true_eq] at h
  omega
theorem ne_of_nat {b : UInt8} {n : Nat} (hn : n < 256) (h : b.toNat ≠ n) : b ≠ UInt8.ofNat n := by
  intro e
  apply h
  rw [e, UInt8.toNat_ofNat', Nat.mod_eq_of_lt hn]
theorem dec_facts : ∀ n, n < 255 → decS (decT n) = ((n : Int), 0) ∧ bareL (decT n) = decT n ∧ (∀ b ∈ decT n, b ≠ 59 ∧ b ≠ 35 ∧ b ≠ 10) ∧ (decT n).length ≤ 3 := by decide +kernel

theorem plain_facts {l : List UInt8} (h : plainL l = true) : l.length ≤ 100 ∧ bareL l = l ∧ ∀ b ∈ l, b ≠ 59 ∧ b ≠ 35 ∧ b ≠ 10 := by
  unfold plainL at h
  simp only [Bool.and_eq_true, decide_eq_true_eq] at h
  refine ⟨h.1.1, h.1.2, fun b hb => ?_⟩
  have := h.2
  unfold goodL at this
  rw [List.all_eq_true] at this
  have := this b hb
  simp only [goodB, badR, Bool.not_eq_true', decide_eq_false_iff_not, not_or] at this
  obtain ⟨h1, h2, h3⟩ := this
  exact ⟨ne_of_nat (n := 59) (by omega) h2, ne_of_nat (n := 35) (by omega) h3, ne_of_nat (n := 10) (by omega) (by omega)⟩
theorem cutL_none {c : UInt8} {l : List UInt8} (h : ∀ b ∈ l, b ≠ c) : cutL c l = [l] := by rw [cutL_R, cutR_miss c l [] (no_one h)]; rfl
theorem cut_at {c : UInt8} (r : List UInt8) : ∀ (l : List UInt8), (∀ b ∈ l, b ≠ c) → Lib.index (l ++ c :: r) [c] = l.length
  | [], _ => by simp [Lib.index, pre_one]
  | b :: t, h => by
    have hb : b ≠ c := h b (by simp)
    have ih := cut_at r t (fun d hd => h d (by simp [hd]))
    have hcb : (c == b) = false := by simpa using fun e => hb e.symm
    have h1 : ((t.length : Int) == -1) = false := by rw [beq_eq_false_iff_ne]; omega
    rw [List.cons_append]
    simp only [Lib.index, pre_one, ih, hcb, h1]
    simp
theorem cut_hit {c : UInt8} {l : List UInt8} (r : List UInt8) (h : ∀ b ∈ l, b ≠ c) : Lib.cut (l ++ c :: r) [c] = (l, r, true) := by
  have := cut_at r l h
  unfold Lib.cut
  rw [this, if_pos (by omega)]
  simp
theorem letters_ne {l : List UInt8} (h : lettersL l = true) {n : Nat} (hn : n < 65) : ∀ b ∈ l, b ≠ UInt8.ofNat n := by
  intro b hb
  unfold lettersL at h
  rw [List.all_eq_true] at h
  have := letter_range (h b hb)
  exact ne_of_nat (by omega) (by omega)
theorem runesS_blank (l : List UInt8) : runesS (32 :: l) = runesS l := by
  unfold runesS wordsL
  rw [words_blank _ _ (by decide), if_pos rfl]
theorem intoR_back {k : List UInt8} {zs : List Int} {s : List UInt8} (hs : runesS s = (zs, 0)) (hl : zs.length ≤ 18) : intoR k s = (k, zs, 0) := by
  unfold intoR
  rw [hs]
  simp only []
  rw [if_neg (by simp), if_neg (by omega)]
theorem textS_le (zs : List Int) : (textS zs).length ≤ 9 * zs.length := by
  have := textS_len zs zs.length (Nat.le_refl _)
  rwa [List.take_length] at this
theorem bare_text (zs : List Int) : bareL (textS zs) = textS zs := by
  by_cases h : zs = []
  · subst h; rfl
  · obtain ⟨b, t, h1, h2, _⟩ := text_head zs h
    obtain ⟨u, c, h3, h4⟩ := text_last zs h
    exact bare_ends h1 h2 h3 h4
theorem text_bytes (zs : List Int) : ∀ b ∈ textS zs, b ≠ 59 ∧ b ≠ 35 ∧ b ≠ 10 := text_all (fun b => b ≠ 59 ∧ b ≠ 35 ∧ b ≠ 10) (by decide) (by decide) zs
theorem part_facts {x : RowS} (hx : RowG x) : (∀ b ∈ partL x, b ≠ 59 ∧ b ≠ 35 ∧ b ≠ 10) ∧ bareL (partL x) = partL x ∧ intoS (partL x) = (x.kd, x.il, 0) ∧ (partL x).length ≤ x.kd.length + 165 := by
  have hl := textS_le x.il
  have hl2 := hx.len
  have hb := runesS_back hx.il
  unfold partL
  by_cases hk : x.kd = []
  · rw [if_pos hk]
    refine ⟨text_bytes _, bare_text _, ?_, by omega⟩
    have hp : Lib.hasPrefix (textS x.il) [60] = false := by
      by_cases h : x.il = []
      · rw [h]; rfl
      · obtain ⟨b, t, h1, _, h3⟩ := text_head _ h
        rw [h1]
        unfold Lib.hasPrefix
        rw [pre_one]
        simpa using fun e => h3 e.symm
    unfold intoS
    rw [if_neg (by rw [hp]; simp), intoR_back hb hl2, hk]
  · rw [if_neg hk]
    have hne := hx.some hk
    obtain ⟨b, t, h1, h2, _⟩ := text_head _ hne
    obtain ⟨u, c, h3, h4⟩ := text_last _ hne
    refine ⟨?_, ?_, ?_, by simp only [List.length_append, List.length_cons, List.length_nil]; omega⟩
    · intro d hd
      simp only [List.mem_append, List.mem_cons, List.not_mem_nil, or_false] at hd
      rcases hd with ((rfl | hd) | rfl | rfl) | hd
      · decide
      · exact ⟨letters_ne hx.kd (n := 59) (by omega) d hd, letters_ne hx.kd (n := 35) (by omega) d hd, letters_ne hx.kd (n := 10) (by omega) d hd⟩
      · decide
      · decide
      · exact text_bytes _ d hd
    · exact bare_ends (b := 60) (c := c) (t := x.kd ++ [62, 32] ++ textS x.il) (u := [60] ++ x.kd ++ [62, 32] ++ u) (by simp) (by decide) (by rw [h3]; simp) h4
    · have e : [60] ++ x.kd ++ [62, 32] ++ textS x.il = 60 :: (x.kd ++ 62 :: (32 :: textS x.il)) := by simp
      have hp : Lib.hasPrefix (60 :: (x.kd ++ 62 :: (32 :: textS x.il))) [60] = true := by
        unfold Lib.hasPrefix
        rw [pre_one]
        rfl
      have hc : Lib.cut ((60 :: (x.kd ++ 62 :: (32 :: textS x.il))).drop 1) [62] = (x.kd, 32 :: textS x.il, true) := cut_hit _ (letters_ne hx.kd (n := 62) (by omega))
      have hbl : bareL (32 :: textS x.il) ≠ [] := by
        have : bareL (32 :: textS x.il) = bareL (textS x.il) := by
          unfold bareL
          rw [lstrip_yes (by decide)]
        rw [this, bare_text, h1]
        simp
      rw [e]
      unfold intoS
      rw [if_pos hp, hc, if_neg (by simp [hk, hx.kd, hbl])]
      exact intoR_back (by rw [runesS_blank]; exact hb) hl2
theorem dig_bytes (r : Int) : ∀ b ∈ digS r, b ≠ 59 ∧ b ≠ 35 ∧ b ≠ 10 := digF_all (fun b => b ≠ 59 ∧ b ≠ 35 ∧ b ≠ 10) (by decide) 8 _ [] (by simp)
theorem lineB_R (r : Int) (nm : List UInt8) (x : RowS) : lineB r nm x = digS r ++ 59 :: (nm ++ 59 :: (x.ct ++ 59 :: (decT x.cl.toNat ++ 59 :: ([] ++ 59 :: partL x)))) := by simp [lineB]
section
variable {x : RowS} {r : Int} {nm : List UInt8}
theorem dec_of (hx : RowG x) : decS (decT x.cl.toNat) = (x.cl, 0) ∧ bareL (decT x.cl.toNat) = decT x.cl.toNat ∧ (∀ b ∈ decT x.cl.toNat, b ≠ 59 ∧ b ≠ 35 ∧ b ≠ 10) ∧ (decT x.cl.toNat).length ≤ 3 := by
  have h := dec_facts x.cl.toNat (by have := hx.cl; omega)
  rwa [show ((x.cl.toNat : Nat) : Int) = x.cl by have := hx.cl; omega] at h
theorem line_cut (hx : RowG x) (hn : ∀ b ∈ nm, b ≠ 59) : cutL 59 (lineB r nm x) = [digS r, nm, x.ct, decT x.cl.toNat, [], partL x] := by
  rw [lineB_R, cutL_join, cutL_join, cutL_join, cutL_join, cutL_join,
    cutL_none (fun b hb => (dig_bytes r b hb).1), cutL_none hn, cutL_none (fun b hb => ((plain_facts hx.ct).2.2 b hb).1), cutL_none (fun b hb => ((dec_of hx).2.2.1 b hb).1), cutL_none (fun b hb => ((part_facts hx).1 b hb).1)]
  rfl
theorem parse_line (hx : RowG x) (hr : scalarB r = true) (hb : bareL nm = nm) (hn : ∀ b ∈ nm, b ≠ 59) : parseS (lineB r nm x) = (⟨r, r, nm, x.ct, x.cl, x.kd, x.il⟩, 0) := by
  have hd : bareL (digS r) = digS r := by
    obtain ⟨⟨b, t, h1, h2⟩, u, c, h3, h4⟩ := ends_of (digS_ne r) (digS_blank r)
    exact bare_ends h1 h2 h3 h4
  unfold parseS
  rw [line_cut hx hn]
  simp only [List.map_cons, List.map_nil, hd, hb, (plain_facts hx.ct).2.1, (dec_of hx).2.1, (part_facts hx).2.1]
  unfold parseF
  have hc := hx.cl
  simp [hexS_back hr, (dec_of hx).1, (part_facts hx).2.2.1]
  omega
theorem line_bytes (hx : RowG x) (hn : ∀ b ∈ nm, b ≠ 59 ∧ b ≠ 35 ∧ b ≠ 10) : ∀ b ∈ lineB r nm x, b ≠ 35 ∧ b ≠ 10 := by
  intro b hb
  rw [lineB_R] at hb
  simp only [List.mem_append, List.mem_cons, List.not_mem_nil, false_or] at hb
  rcases hb with hb | rfl | hb | rfl | hb | rfl | hb | rfl | rfl | hb
  · exact (dig_bytes r b hb).2
  · decide
  · exact (hn b hb).2
  · decide
  · exact ((plain_facts hx.ct).2.2 b hb).2
  · decide
  · exact ((dec_of hx).2.2.1 b hb).2
  · decide
  · decide
  · exact ((part_facts hx).1 b hb).2
theorem line_bare (hx : RowG x) : bareL (lineB r nm x) = lineB r nm x := by
  obtain ⟨b, t, h1, h2⟩ := (ends_of (digS_ne r) (digS_blank r)).1
  have e1 : lineB r nm x = b :: (t ++ 59 :: (nm ++ 59 :: (x.ct ++ 59 :: (decT x.cl.toNat ++ 59 :: ([] ++ 59 :: partL x))))) := by rw [lineB_R, h1]; rfl
  by_cases hp : partL x = []
  · exact bare_ends e1 h2 (c := 59) (u := digS r ++ [59] ++ nm ++ [59] ++ x.ct ++ [59] ++ decT x.cl.toNat ++ [59]) (by unfold lineB; rw [hp]; simp) (by decide)
  · have hl : ∃ u c, partL x = u ++ [c] ∧ blankB c = false := by
      unfold partL at hp ⊢
      split
      · rename_i hk
        rw [if_pos hk] at hp
        exact text_last _ (fun h => hp (by rw [h]; rfl))
      · rename_i hk
        obtain ⟨u, c, h3, h4⟩ := text_last _ (hx.some hk)
        exact ⟨[60] ++ x.kd ++ [62, 32] ++ u, c, by rw [h3]; simp, h4⟩
    obtain ⟨u, c, h3, h4⟩ := hl
    exact bare_ends e1 h2 (c := c) (u := digS r ++ [59] ++ nm ++ [59] ++ x.ct ++ [59] ++ decT x.cl.toNat ++ [59] ++ [] ++ [59] ++ u) (by unfold lineB; rw [h3]; simp) h4
theorem line_tell (hx : RowG x) (hn : ∀ b ∈ nm, b ≠ 59 ∧ b ≠ 35 ∧ b ≠ 10) : tellL (lineB r nm x) = lineB r nm x ∧ lineB r nm x ≠ [] := by
  constructor
  · unfold tellL
    have : Lib.cut (lineB r nm x) [35] = (lineB r nm x, [], false) := by
      unfold Lib.cut
      rw [no_one (fun b hb => (line_bytes hx hn b hb).1)]
      rfl
    rw [this]
    exact line_bare hx
  · rw [lineB_R]
    simp
theorem line_len (hx : RowG x) (hk : x.kd.length ≤ 50) (hn : nm.length ≤ 110) : (lineB r nm x).length ≤ 512 := by
  have h1 := digS_len r
  have h2 := (plain_facts hx.ct).1
  have h3 := (dec_of hx).2.2.2
  have h4 := (part_facts hx).2.2.2
  rw [lineB_R]
  simp only [List.length_append, List.length_cons, List.length_nil]
  omega
end
/-- The names on the lines of a range. -/
theorem name_facts {nm en : List UInt8} (h : plainL nm = true) (he : en = FSTB ∨ en = LSTB) : bareL ([60] ++ nm ++ en) = [60] ++ nm ++ en ∧ (∀ b ∈ [60] ++ nm ++ en, b ≠ 59 ∧ b ≠ 35 ∧ b ≠ 10) ∧ ([60] ++ nm ++ en).length ≤ 110 := by
  have hp := plain_facts h
  have hel : en.length ≤ 8 ∧ (∀ b ∈ en, b ≠ 59 ∧ b ≠ 35 ∧ b ≠ 10) ∧ ∃ u, en = u ++ [62] := by
    rcases he with rfl | rfl
    · exact ⟨by decide, by decide, [44, 32, 70, 105, 114, 115, 116], rfl⟩
    · exact ⟨by decide, by decide, [44, 32, 76, 97, 115, 116], rfl⟩
  obtain ⟨h1, h2, u, h3⟩ := hel
  refine ⟨bare_ends (b := 60) (t := nm ++ en) (c := 62) (u := [60] ++ nm ++ u) (by simp) (by decide) (by rw [h3]; simp) (by decide), ?_, ?_⟩
  · intro b hb
    simp only [List.mem_append, List.mem_singleton] at hb
    rcases hb with (rfl | hb) | hb
    · decide
    · exact hp.2.2 b hb
    · exact h2 b hb
  · have := hp.1
    simp only [List.length_append, List.length_singleton]
    omega
theorem suf_same (a en : List UInt8) : Lib.hasSuffix (a ++ en) en = true := by
  unfold Lib.hasSuffix
  rw [List.isSuffixOf_iff_suffix]
  exact List.suffix_append _ _
theorem inner_same (nm en : List UInt8) : innerS ([60] ++ nm ++ en) en = (nm, true) := by
  have hp : Lib.hasPrefix ([60] ++ nm ++ en) [60] = true := by
    unfold Lib.hasPrefix
    rw [List.append_assoc, List.singleton_append, pre_one]
    rfl
  have hd : ([60] ++ nm ++ en).drop 1 = nm ++ en := by simp
  unfold innerS
  rw [if_pos hp, hd, suf_same]
  unfold Lib.trimSuffix
  rw [suf_same]
  simp
theorem inner_first (nm : List UInt8) : (innerS (firstN nm) LSTB).2 = false := by
  unfold innerS
  split
  · show Lib.hasSuffix (([60] ++ nm ++ FSTB).drop 1) LSTB = false
    have hd : ([60] ++ nm ++ FSTB).drop 1 = nm ++ FSTB := by simp
    rw [hd]
    unfold Lib.hasSuffix
    rw [Bool.eq_false_iff]
    intro h
    rw [List.isSuffixOf_iff_suffix] at h
    obtain ⟨t, ht⟩ := h
    have h2 := congrArg List.reverse ht
    simp [FSTB, LSTB] at h2
  · rfl

/-- A row's lines, without their ends. -/
def rowB (x : RowS) : List (List UInt8) := if x.fr = x.up then [lineB x.fr x.nm x] else [lineB x.fr (firstN x.nm) x, lineB x.up (lastN x.nm) x]
def ends10 (L : List (List UInt8)) : List UInt8 := L.flatMap (· ++ [10])
theorem rowL_B (x : RowS) : rowL x = ends10 (rowB x) := by
  unfold rowL rowB
  split <;> simp [ends10, lineL]
theorem ends10_app (L M : List (List UInt8)) : ends10 (L ++ M) = ends10 L ++ ends10 M := by simp [ends10]
/-- Rows that rise, from a character on. -/
def RiseFrom : Int → List RowS → Prop
  | _, [] => True
  | was, x :: t => was < x.fr ∧ RiseFrom x.up t
theorem printW_ok : ∀ (l : List RowS) (acc : List UInt8) (was : Int) (s : List UInt8), printW acc was l = (s, 0) → s = acc ++ ends10 (l.flatMap rowB) ∧ RiseFrom was l
  | [], acc, was, s, h => by
    simp only [printW, Prod.mk.injEq, and_true] at h
    exact ⟨by simp [ends10, h], trivial⟩
  | x :: t, acc, was, s, h => by
    simp only [printW] at h
    split at h
    · simp at h
    · rename_i h1
      obtain ⟨h2, h3⟩ := printW_ok t _ _ _ h
      refine ⟨?_, by omega, h3⟩
      rw [h2, rowL_B, List.flatMap_cons, ends10_app, List.append_assoc]
theorem cut_ends : ∀ (L : List (List UInt8)), (∀ l ∈ L, ∀ b ∈ l, b ≠ 10) → cutL 10 (ends10 L) = L ++ [[]]
  | [], _ => rfl
  | l :: L, h => by
    have e : ends10 (l :: L) = l ++ 10 :: ends10 L := by simp [ends10]
    rw [e, cutL_join, cutL_none (h l (by simp)), cut_ends L (fun x hx => h x (by simp [hx]))]
    rfl
theorem tells_ends : ∀ (L : List (List UInt8)) (k : Nat), (∀ l ∈ L, tellL l = l ∧ l ≠ []) → (tellsK k (L ++ [[]])).map (·.2) = L
  | [], k, _ => by
    have : tellL [] = [] := by decide
    simp [tellsK, this]
  | l :: L, k, h => by
    have h1 := h l (by simp)
    have h2 := tells_ends L (k + 1) (fun x hx => h x (by simp [hx]))
    rw [List.cons_append]
    simp only [tellsK, h1.1, if_neg h1.2, List.map_append, List.map_cons, List.map_nil, h2]
    rfl
theorem rowB_facts {x : RowS} (hx : RowG x) (hk : x.kd.length ≤ 50) : (∀ l ∈ rowB x, (∀ b ∈ l, b ≠ 10) ∧ (tellL l = l ∧ l ≠ []) ∧ l.length ≤ 512) ∧ (rowB x).length ≤ 2 := by
  have hp := plain_facts hx.nm
  have hf := name_facts hx.nm (en := FSTB) (.inl rfl)
  have hl := name_facts hx.nm (en := LSTB) (.inr rfl)
  unfold rowB
  split
  · refine ⟨fun l h => ?_, by simp⟩
    rw [List.mem_singleton] at h
    subst h
    exact ⟨fun b hb => (line_bytes hx hp.2.2 b hb).2, line_tell hx hp.2.2, line_len hx hk (by omega)⟩
  · refine ⟨fun l h => ?_, by simp⟩
    simp only [List.mem_cons, List.not_mem_nil, or_false] at h
    rcases h with rfl | rfl
    · exact ⟨fun b hb => (line_bytes hx hf.2.1 b hb).2, line_tell hx hf.2.1, line_len hx hk hf.2.2⟩
    · exact ⟨fun b hb => (line_bytes hx hl.2.1 b hb).2, line_tell hx hl.2.1, line_len hx hk hl.2.2⟩
theorem take_line {st : StU} {x : RowS} {r : Int} {nm : List UInt8} (hx : RowG x) (hr : scalarB r = true) (hb : bareL nm = nm) (hn : ∀ b ∈ nm, b ≠ 59) : takeS st (lineB r nm x) = takeR st ⟨r, r, nm, x.ct, x.cl, x.kd, x.il⟩ := by
  unfold takeS
  rw [parse_line hx hr hb hn, if_neg (by simp)]
theorem step_ok {st st' : StU} {p : Int × List UInt8} {M : List (Int × List UInt8)} (h : takeS st p.2 = (st', 0)) : rowsW st (p :: M) = rowsW st' M := by
  show (if (takeS st p.2).2 ≠ 0 then (st, p.1, (takeS st p.2).2) else rowsW (takeS st p.2).1 M) = _
  rw [h, if_neg (by simp)]
theorem rows_walk : ∀ (l : List RowS) (st : StU) (M : List (Int × List UInt8)), (∀ x ∈ l, RowG x) → st.op = none → RiseFrom st.was l → M.map (·.2) = l.flatMap rowB → ∃ u, rowsW st M = (⟨st.out ++ l, none, u⟩, 0, 0)
  | [], st, M, _, ho, _, hM => by
    have : M = [] := by simpa using hM
    subst this
    obtain ⟨o, p, u⟩ := st
    simp only [] at ho
    subst ho
    exact ⟨u, by simp [rowsW]⟩
  | x :: t, st, M, hg, ho, hr, hM => by
    have hx := hg x (by simp)
    have hp := plain_facts hx.nm
    obtain ⟨h1, h2⟩ := hr
    rw [List.flatMap_cons] at hM
    unfold rowB at hM
    by_cases he : x.fr = x.up
    · rw [if_pos he] at hM
      cases M with
      | nil => simp at hM
      | cons p M =>
        simp only [List.map_cons, List.cons_append, List.nil_append, List.cons.injEq] at hM
        have hf := hx.free he.symm
        have hs : takeS st p.2 = (⟨st.out ++ [x], none, x.fr⟩, 0) := by
          rw [hM.1, take_line hx hx.fr hp.2.1 (fun b hb => (hp.2.2 b hb).1)]
          unfold takeR
          rw [ho]
          simp only []
          rw [if_neg (by rw [hf.2]; simp)]
          unfold freeS
          simp only []
          rw [if_neg (by omega), if_neg (by rw [hf.1]; simp)]
          obtain ⟨a1, a2, a3, a4, a5, a6, a7⟩ := x
          simp only [] at he
          subst he
          rfl
        rw [step_ok hs]
        obtain ⟨u, hu⟩ := rows_walk t ⟨st.out ++ [x], none, x.fr⟩ M (fun y hy => hg y (by simp [hy])) rfl (by rw [he]; exact h2) hM.2
        exact ⟨u, by rw [hu]; simp⟩
    · rw [if_neg he] at hM
      have hil : x.il = [] := hx.one (fun h => he h.symm)
      have hkd : x.kd = [] := Classical.byContradiction fun h => hx.some h hil
      have hle := hx.le
      cases M with
      | nil => simp at hM
      | cons p M =>
        simp only [List.map_cons, List.cons_append, List.nil_append, List.cons.injEq] at hM
        cases M with
        | nil => simp at hM
        | cons q M =>
          simp only [List.map_cons, List.cons_append, List.nil_append, List.cons.injEq] at hM
          have hf : bareL (firstN x.nm) = firstN x.nm ∧ (∀ b ∈ firstN x.nm, b ≠ 59 ∧ b ≠ 35 ∧ b ≠ 10) ∧ (firstN x.nm).length ≤ 110 := name_facts hx.nm (en := FSTB) (.inl rfl)
          have hl : bareL (lastN x.nm) = lastN x.nm ∧ (∀ b ∈ lastN x.nm, b ≠ 59 ∧ b ≠ 35 ∧ b ≠ 10) ∧ (lastN x.nm).length ≤ 110 := name_facts hx.nm (en := LSTB) (.inr rfl)
          have i1 := inner_same x.nm FSTB
          have i2 := inner_same x.nm LSTB
          have i3 := inner_first x.nm
          have hs : takeS st p.2 = (⟨st.out, some ⟨x.fr, x.fr, firstN x.nm, x.ct, x.cl, x.kd, x.il⟩, st.was⟩, 0) := by
            rw [hM.1, take_line hx hx.fr hf.1 (fun b hb => (hf.2.1 b hb).1)]
            unfold takeR
            rw [ho]
            simp only []
            rw [if_neg (by rw [i3]; simp)]
            unfold freeS
            simp only []
            rw [if_neg (by omega), if_pos (by show (innerS ([60] ++ x.nm ++ FSTB) FSTB).2 = true; rw [i1])]
          have hs2 : takeS ⟨st.out, some ⟨x.fr, x.fr, firstN x.nm, x.ct, x.cl, x.kd, x.il⟩, st.was⟩ q.2 = (⟨st.out ++ [x], none, x.up⟩, 0) := by
            rw [hM.2.1, take_line hx hx.up hl.1 (fun b hb => (hl.2.1 b hb).1)]
            unfold takeR
            simp only []
            rw [if_neg (by show ¬ (innerS ([60] ++ x.nm ++ LSTB) LSTB).2 = false; rw [i2]; simp)]
            unfold closeS
            have hc : ¬ closeB ⟨x.fr, x.fr, firstN x.nm, x.ct, x.cl, x.kd, x.il⟩ ⟨x.up, x.up, lastN x.nm, x.ct, x.cl, x.kd, x.il⟩ := by
              unfold closeB
              show ¬ ((innerS ([60] ++ x.nm ++ LSTB) LSTB).1 ≠ (innerS ([60] ++ x.nm ++ FSTB) FSTB).1 ∨ _)
              rw [i1, i2, hil]
              simp
              omega
            rw [if_neg hc]
            have : rangeR ⟨x.fr, x.fr, firstN x.nm, x.ct, x.cl, x.kd, x.il⟩ ⟨x.up, x.up, lastN x.nm, x.ct, x.cl, x.kd, x.il⟩ = x := by
              unfold rangeR
              show (⟨x.fr, x.up, (innerS ([60] ++ x.nm ++ FSTB) FSTB).1, x.ct, x.cl, [], []⟩ : RowS) = x
              rw [i1]
              obtain ⟨a1, a2, a3, a4, a5, a6, a7⟩ := x
              simp only [] at hil hkd
              subst hil hkd
              rfl
            rw [this]
          rw [step_ok hs, step_ok hs2]
          obtain ⟨u, hu⟩ := rows_walk t ⟨st.out ++ [x], none, x.up⟩ M (fun y hy => hg y (by simp [hy])) rfl h2 hM.2.2
          exact ⟨u, by rw [hu]; simp⟩
/-- THE STAGE'S LAW: what the lines of rows tell are these rows. -/
theorem rows_print {l : List RowS} {s : List UInt8} (hp : printS l = (s, 0)) (hl : l.length ≤ 40) (hk : ∀ x ∈ l, x.kd.length ≤ 50) : rowsS s = (l, 0, 0) := by
  unfold printS at hp
  split at hp
  · rename_i h
    simp only [Prod.mk.injEq] at hp
    exact absurd hp.2 h
  · rename_i h
    have hg : ∀ x ∈ l, RowG x := fun x hx => rowG (firstBad_ok (Classical.not_not.1 h) x hx)
    obtain ⟨hs, hr⟩ := printW_ok l [] (-1) s hp
    rw [List.nil_append] at hs
    have hall : ∀ y ∈ l.flatMap rowB, (∀ b ∈ y, b ≠ 10) ∧ (tellL y = y ∧ y ≠ []) ∧ y.length ≤ 512 := by
      intro y hy
      obtain ⟨x, hx, hxy⟩ := List.mem_flatMap.1 hy
      exact (rowB_facts (hg x hx) (hk x hx)).1 y hxy
    have hlen : ∀ (l : List RowS), (∀ x ∈ l, RowG x) → (∀ x ∈ l, x.kd.length ≤ 50) → (l.flatMap rowB).length ≤ 2 * l.length := by
      intro l
      induction l with
      | nil => intro _ _; simp
      | cons x t ih =>
        intro h1 h2
        have := ih (fun y hy => h1 y (by simp [hy])) (fun y hy => h2 y (by simp [hy]))
        have := (rowB_facts (h1 x (by simp)) (h2 x (by simp))).2
        rw [List.flatMap_cons, List.length_append, List.length_cons]
        omega
    have hn := hlen l hg hk
    have hc : cutL 10 s = l.flatMap rowB ++ [[]] := by rw [hs]; exact cut_ends _ (fun y hy => (hall y hy).1)
    have hL : linesS s = (tellsK 0 (l.flatMap rowB ++ [[]]), 0) := by
      unfold linesS
      rw [hc, if_neg (by rw [List.length_append, List.length_singleton]; omega), linesW_tells, if_pos]
      · rfl
      · intro y hy
        rcases List.mem_append.1 hy with hy | hy
        · exact (hall y hy).2.2
        · rw [List.mem_singleton] at hy; subst hy; simp
    obtain ⟨u, hu⟩ := rows_walk l ⟨[], none, -1⟩ (tellsK 0 (l.flatMap rowB ++ [[]])) hg rfl hr (tells_ends _ 0 (fun y hy => (hall y hy).2.1))
    unfold rowsS
    rw [hL, if_neg (by simp)]
    simp only []
    rw [hu]
    unfold endU
    simp
end Go.Proofs.YtagncjnbabdbmaaGreatDoor
