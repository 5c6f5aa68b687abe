/- Plain functions for the layer of syllables: what is a syllable, its two and three characters, joining, and lists of characters parted and joined. No program stands here. -/
import Derived.WalkKit
namespace Go.Proofs.YtcfnncapdkjlnaaDoor
open Go.RowKit

/-- Is a number a syllable? -/
def isH (r : Int) : Bool := decide (44032 ≤ r ∧ r < 55204)
/-- The two characters of a syllable. -/
def splitH (r : Int) : Int × Int × Bool :=
  if 44032 ≤ r ∧ r < 55204 then
    if 0 < (r - 44032) % 28 then (r - (r - 44032) % 28, 4519 + (r - 44032) % 28, true)
    else (4352 + (r - 44032) / 588, 4449 + (r - 44032) / 28 % 21, true)
  else (0, 0, false)
/-- The syllable of two characters. -/
def joinH (a b : Int) : Int × Bool :=
  if 4352 ≤ a ∧ a < 4371 ∧ 4449 ≤ b ∧ b < 4470 then (44032 + 588 * (a - 4352) + 28 * (b - 4449), true)
  else if 44032 ≤ a ∧ a < 55204 ∧ (a - 44032) % 28 = 0 ∧ 4519 < b ∧ b < 4547 then (a + (b - 4519), true)
  else (0, false)
/-- The two or three characters of a syllable; none of what is none. -/
def fullH (r : Int) : List Int :=
  if 44032 ≤ r ∧ r < 55204 then
    if 0 < (r - 44032) % 28 then [4352 + (r - 44032) / 588, 4449 + (r - 44032) / 28 % 21, 4519 + (r - 44032) % 28]
    else [4352 + (r - 44032) / 588, 4449 + (r - 44032) / 28 % 21]
  else []
/-- One character, parted if it is a syllable. -/
def partOne (r : Int) : List Int := if 44032 ≤ r ∧ r < 55204 then fullH r else [r]
def partsH (l : List Int) : List Int := l.flatMap partOne
/-- One character more behind what is joined so far. -/
def syllStep (out : List Int) (r : Int) : List Int :=
  match out.getLast? with
  | none => [r]
  | some x => if (joinH x r).2 then out.dropLast ++ [(joinH x r).1] else out ++ [r]
def syllH (l : List Int) : List Int := l.foldl syllStep []

/-- Is a number among m from f on, and how far behind f it stands (as the machine reckons it). -/
def inK (f m r : Int) : Bool := decide (f ≤ r ∧ r < f + m)
def offK (f r : Int) : Int := wrap32 (r - f)
theorem inK_true {f m r : Int} (h : inK f m r = true) : f ≤ r ∧ r < f + m := by simpa [inK] using h
theorem inK_false {f m r : Int} (h : inK f m r = false) : ¬ (f ≤ r ∧ r < f + m) := by
  intro h2
  have : inK f m r = true := by simp [inK, h2]
  rw [h] at this
  cases this
theorem offK_eq {f r : Int} (h : f ≤ r) (h0 : 0 ≤ f) (hr : r ≤ 2147483647) : offK f r = r - f := IntWalk.wrap32_in _ (by omega)
theorem isH_true {r : Int} (h : isH r = true) : 44032 ≤ r ∧ r < 55204 := by simpa [isH] using h
theorem isH_false {r : Int} (h : isH r = false) : ¬ (44032 ≤ r ∧ r < 55204) := by
  intro h2
  have : isH r = true := by simp [isH, h2]
  rw [h] at this
  cases this

/-- Numbers that fit 32 bits. -/
def I32 (l : List Int) : Prop := ∀ z ∈ l, -2147483648 ≤ z ∧ z ≤ 2147483647
theorem joinH_i32 (a b : Int) (ha : -2147483648 ≤ a ∧ a ≤ 2147483647) : -2147483648 ≤ (joinH a b).1 ∧ (joinH a b).1 ≤ 2147483647 := by
  unfold joinH
  split
  · simp only []; omega
  · split <;> (simp only []; omega)
theorem syllStep_snoc (q : List Int) (x r : Int) : syllStep (q ++ [x]) r = if (joinH x r).2 then q ++ [(joinH x r).1] else q ++ [x] ++ [r] := by
  simp [syllStep]
theorem syllStep_i32 {l : List Int} {r : Int} (hl : I32 l) (hr : -2147483648 ≤ r ∧ r ≤ 2147483647) : I32 (syllStep l r) := by
  rcases List.eq_nil_or_concat l with rfl | ⟨q, x, rfl⟩
  · intro z hz
    simp [syllStep] at hz
    subst hz
    exact hr
  · rw [List.concat_eq_append] at hl ⊢
    rw [syllStep_snoc]
    have hx := hl x (by simp)
    have hj := joinH_i32 x r hx
    split
    · intro z hz
      simp at hz
      rcases hz with hz | rfl
      · exact hl z (by simp [hz])
      · exact hj
    · intro z hz
      simp at hz
      rcases hz with hz | rfl | rfl
      · exact hl z (by simp [hz])
      · exact hx
      · exact hr
theorem syllStep_len (l : List Int) (r : Int) : (syllStep l r).length ≤ l.length + 1 := by
  rcases List.eq_nil_or_concat l with rfl | ⟨q, x, rfl⟩
  · simp [syllStep]
  · rw [List.concat_eq_append, syllStep_snoc]
    split <;> simp

theorem partsH_snoc (l : List Int) (r : Int) : partsH (l ++ [r]) = partsH l ++ partOne r := by simp [partsH]
theorem syllH_snoc (l : List Int) (r : Int) : syllH (l ++ [r]) = syllStep (syllH l) r := by simp [syllH]
theorem partOne_len (r : Int) : (partOne r).length ≤ 3 := by
  unfold partOne fullH
  split
  · split <;> simp
  · simp
theorem partsH_len (l : List Int) : (partsH l).length ≤ 3 * l.length := by
  induction l with
  | nil => simp [partsH]
  | cons a r ih =>
    have := partOne_len a
    simp only [partsH, List.flatMap_cons, List.length_append, List.length_cons] at ih ⊢
    omega
theorem take_snoc {α : Type} {l : List α} {k : Nat} {z : α} (h : l[k]? = some z) : l.take (k + 1) = l.take k ++ [z] := by
  rw [List.take_add_one, h]; rfl
theorem partsH_take {xs : List Int} {k : Nat} {z : Int} (h : xs[k]? = some z) : partsH (xs.take (k + 1)) = partsH (xs.take k) ++ partOne z := by
  rw [take_snoc h, partsH_snoc]

theorem syllH_take {xs : List Int} {k : Nat} {z : Int} (h : xs[k]? = some z) : syllH (xs.take (k + 1)) = syllStep (syllH (xs.take k)) z := by
  rw [List.take_add_one, h, Option.toList_some, syllH_snoc]
theorem syllFold_len (l : List Int) : ∀ acc : List Int, (l.foldl syllStep acc).length ≤ acc.length + l.length := by
  induction l with
  | nil => intro acc; simp
  | cons a r ih =>
    intro acc
    have h1 := ih (syllStep acc a)
    have h2 := syllStep_len acc a
    simp only [List.foldl_cons, List.length_cons]
    omega
theorem syllH_len (l : List Int) : (syllH l).length ≤ l.length := by
  have := syllFold_len l []
  simpa [syllH] using this
theorem syllFold_i32 (l : List Int) : ∀ acc : List Int, I32 acc → I32 l → I32 (l.foldl syllStep acc) := by
  induction l with
  | nil => intro acc h _; exact h
  | cons a r ih =>
    intro acc h hl
    exact ih _ (syllStep_i32 h (hl a (by simp))) (fun z hz => hl z (by simp [hz]))
theorem syllH_i32 {l : List Int} (h : I32 l) : I32 (syllH l) := syllFold_i32 l [] (fun z hz => by simp at hz) h
end Go.Proofs.YtcfnncapdkjlnaaDoor
