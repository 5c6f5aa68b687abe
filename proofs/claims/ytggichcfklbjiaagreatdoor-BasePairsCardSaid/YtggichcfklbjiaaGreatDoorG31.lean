/- What rows that are taken say of characters. Plain. Which characters are made of two, gathered in any order. Plain. -/
import Derived.Test.YtggichcfklbjiaaGreatDoorG29
import Derived.Test.YtggichcfklbjiaaGreatDoorG30
import Derived.Test.YtggichcfklbjiaaGreatDoorG27
section
set_option linter.unusedSimpArgs false
set_option linter.unusedVariables false
namespace Go.Proofs.YtggichcfklbjiaaGreatDoor
theorem foldl_inv {α β : Type} (P : α → Prop) (f : α → β → α) : ∀ (l : List β) (a : α), P a → (∀ a x, x ∈ l → P a → P (f a x)) → P (l.foldl f a)
  | [], a, h, _ => h
  | x :: l, a, h, hs => foldl_inv P f l (f a x) (hs a x List.mem_cons_self h) fun a y hy => hs a y (List.mem_cons_of_mem _ hy)
theorem cls_nonneg {l : List RowS} (h : ∀ x ∈ l, 0 ≤ x.cl) (r : Int) : 0 ≤ clsL l r := by
  unfold clsL
  refine foldl_inv (fun f => 0 ≤ f r) clsN l (fun _ => 0) (Int.le_refl 0) fun f x hx hf => ?_
  unfold clsN
  split
  · exact h x hx
  · exact hf
theorem cls_hang {l : List RowS} (h : ∀ x ∈ l, 0 ≤ x.cl) (ht : ∀ x ∈ l, thereB x = false) {r : Int} (hr : 44032 ≤ r ∧ r < 55204) : clsL l r = 0 := by
  unfold clsL
  refine foldl_inv (fun f => f r = 0) clsN l (fun _ => 0) rfl fun f x hx hf => ?_
  unfold clsN
  split
  · rename_i hc
    have h1 := h x hx
    have h2 := ht x hx
    unfold thereB at h2
    have h3 := of_decide_eq_false h2
    have : ¬ 0 < x.cl := fun e => h3 ⟨.inl e, by omega, by omega⟩
    omega
  · exact hf
theorem prt_mem {l : List RowS} {r : Int} {q : List UInt8 × List Int} (h : prtL l r = some q) : ∃ x ∈ l, x.fr = r ∧ x.il ≠ [] ∧ q = (x.kd, x.il) := by
  unfold prtL at h
  refine foldl_inv (fun f => ∀ q, f r = some q → ∃ x ∈ l, x.fr = r ∧ x.il ≠ [] ∧ q = (x.kd, x.il)) prtN l (fun _ => none) (fun q hq => by cases hq) (fun f x hx hf q hq => ?_) q h
  unfold prtN at hq
  by_cases e : x.il = []
  · rw [if_pos e] at hq; exact hf q hq
  · rw [if_neg e] at hq
    unfold upd at hq
    by_cases e2 : r = x.fr
    · rw [if_pos e2] at hq
      injection hq with hq
      exact ⟨x, hx, e2.symm, e, hq.symm⟩
    · rw [if_neg e2] at hq; exact hf q hq
theorem prt_hang {l : List RowS} (ht : ∀ x ∈ l, thereB x = false) (hle : ∀ x ∈ l, x.fr ≤ x.up) {r : Int} (hr : 44032 ≤ r ∧ r < 55204) : prtL l r = none := by
  cases hp : prtL l r with
  | none => rfl
  | some q =>
    obtain ⟨x, hx, h1, h2, _⟩ := prt_mem hp
    have h3 := ht x hx
    unfold thereB at h3
    have h4 := of_decide_eq_false h3
    have := hle x hx
    exact absurd ⟨.inr (List.length_pos_iff.2 h2), by omega, by omega⟩ h4
end Go.Proofs.YtggichcfklbjiaaGreatDoor
end

section
set_option linter.unusedSimpArgs false
set_option linter.unusedVariables false
namespace Go.Proofs.YtggichcfklbjiaaGreatDoor

/-- What has been noted of the characters ss: Q: which ones are made; two: of what; hj: which two join to a syllable. -/
structure MkI (Q : Int → Bool) (two : Int → Int × Int) (hj : Int × Int → Bool) (ss : List Int) (bad : Bool) (pr : Int × Int → Option Int) (md : Int → Option (Int × Int)) (sc : Int → Option Int) : Prop where
  md : ∀ x, md x = if x ∈ ss ∧ Q x = true then some (two x) else none
  pr1 : ∀ p x, pr p = some x → x ∈ ss ∧ Q x = true ∧ two x = p
  pr2 : ∀ x ∈ ss, Q x = true → (pr (two x)).isSome = true
  sc1 : ∀ y, 0 ≤ gd sc y ∧ gd sc y ≤ ss.length
  sc2 : ∀ y, 0 < gd sc y ↔ ∃ x ∈ ss, Q x = true ∧ (two x).2 = y
  ok : bad = false → (∀ x ∈ ss, Q x = true → hj (two x) = false) ∧ ∀ x ∈ ss, ∀ y ∈ ss, Q x = true → Q y = true → two x = two y → x = y
  no : bad = true → (∃ x ∈ ss, Q x = true ∧ hj (two x) = true) ∨ ∃ x ∈ ss, ∃ y ∈ ss, Q x = true ∧ Q y = true ∧ two x = two y ∧ x ≠ y
section
variable {Q : Int → Bool} {two : Int → Int × Int} {hj : Int × Int → Bool} {ss : List Int} {bad : Bool} {pr : Int × Int → Option Int} {md : Int → Option (Int × Int)} {sc : Int → Option Int}
theorem MkI.start : MkI Q two hj [] false (fun _ => none) (fun _ => none) (fun _ => none) where
  md := fun x => by simp
  pr1 := fun p x h => by cases h
  pr2 := fun x h => by cases h
  sc1 := fun y => by simp [gd]
  sc2 := fun y => by simp [gd]
  ok := fun _ => ⟨fun x h => (by cases h), fun x h => (by cases h)⟩
  no := fun h => by cases h
theorem mem_snoc {x y : Int} : y ∈ ss ++ [x] ↔ y ∈ ss ∨ y = x := by rw [List.mem_append, List.mem_singleton]
theorem MkI.skip (h : MkI Q two hj ss bad pr md sc) {x : Int} (hx : Q x = false) : MkI Q two hj (ss ++ [x]) bad pr md sc := by
  have key : ∀ y, Q y = true → (y ∈ ss ++ [x] ↔ y ∈ ss) := fun y hy => by
    rw [mem_snoc]
    constructor
    · rintro (h | rfl)
      · exact h
      · rw [hx] at hy; cases hy
    · exact .inl
  refine ⟨fun y => ?_, fun p y hp => ?_, fun y hy hq => h.pr2 y ((key y hq).1 hy) hq, fun y => ?_, fun y => ?_, fun hb => ?_, fun hb => ?_⟩
  · rw [h.md y]
    by_cases hq : Q y = true
    · simp only [key y hq]
    · simp [hq]
  · obtain ⟨h1, h2, h3⟩ := h.pr1 p y hp
    exact ⟨mem_snoc.2 (.inl h1), h2, h3⟩
  · have := h.sc1 y
    simp
    omega
  · rw [h.sc2 y]
    constructor
    · rintro ⟨z, h1, h2, h3⟩; exact ⟨z, mem_snoc.2 (.inl h1), h2, h3⟩
    · rintro ⟨z, h1, h2, h3⟩; exact ⟨z, (key z h2).1 h1, h2, h3⟩
  · obtain ⟨h1, h2⟩ := h.ok hb
    exact ⟨fun y hy hq => h1 y ((key y hq).1 hy) hq, fun y hy z hz hqy hqz e => h2 y ((key y hqy).1 hy) z ((key z hqz).1 hz) hqy hqz e⟩
  · rcases h.no hb with ⟨y, h1, h2⟩ | ⟨y, h1, z, h2, h3⟩
    · exact .inl ⟨y, mem_snoc.2 (.inl h1), h2⟩
    · exact .inr ⟨y, mem_snoc.2 (.inl h1), z, mem_snoc.2 (.inl h2), h3⟩
theorem MkI.step (h : MkI Q two hj ss bad pr md sc) {x : Int} (hn : x ∉ ss) (hx : Q x = true) :
    MkI Q two hj (ss ++ [x]) (bad || (pr (two x)).isSome || hj (two x)) (upd pr (two x) (some x)) (upd md x (some (two x))) (upd sc (two x).2 (some (gd sc (two x).2 + 1))) := by
  refine ⟨fun y => ?_, fun p y hp => ?_, fun y hy hq => ?_, fun y => ?_, fun y => ?_, fun hb => ?_, fun hb => ?_⟩
  · unfold upd
    by_cases e : y = x
    · subst e; simp [hx]
    · rw [if_neg e, h.md y]
      simp [e]
  · unfold upd at hp
    by_cases e : p = two x
    · rw [if_pos e] at hp
      injection hp with hp
      subst hp
      exact ⟨by simp, hx, e.symm⟩
    · rw [if_neg e] at hp
      obtain ⟨h1, h2, h3⟩ := h.pr1 p y hp
      exact ⟨mem_snoc.2 (.inl h1), h2, h3⟩
  · unfold upd
    by_cases e : two y = two x
    · rw [if_pos e]; rfl
    · rw [if_neg e]
      rcases mem_snoc.1 hy with h1 | h1
      · exact h.pr2 y h1 hq
      · exact absurd (by rw [h1]) e
  · rw [gd_upd]
    have h1 := h.sc1 y
    have h2 := h.sc1 (two x).2
    simp
    split <;> omega
  · rw [gd_upd]
    have h2 := h.sc1 (two x).2
    by_cases e : y = (two x).2
    · rw [if_pos e]
      exact ⟨fun _ => ⟨x, by simp, hx, e.symm⟩, fun _ => by omega⟩
    · rw [if_neg e, h.sc2 y]
      constructor
      · rintro ⟨z, h1, h2, h3⟩; exact ⟨z, mem_snoc.2 (.inl h1), h2, h3⟩
      · rintro ⟨z, h1, h2, h3⟩
        rcases mem_snoc.1 h1 with h1 | h1
        · exact ⟨z, h1, h2, h3⟩
        · rw [h1] at h3; exact absurd h3.symm e
  · simp only [Bool.or_eq_false_iff] at hb
    obtain ⟨⟨b1, b2⟩, b3⟩ := hb
    obtain ⟨h1, h2⟩ := h.ok b1
    have hno : ∀ y ∈ ss, Q y = true → two y ≠ two x := fun y hy hq e => by
      have := h.pr2 y hy hq
      rw [e, b2] at this
      cases this
    refine ⟨fun y hy hq => ?_, fun y hy z hz hqy hqz e => ?_⟩
    · rcases mem_snoc.1 hy with hy | hy
      · exact h1 y hy hq
      · rw [hy]; exact b3
    · rcases mem_snoc.1 hy with hy | hy <;> rcases mem_snoc.1 hz with hz | hz
      · exact h2 y hy z hz hqy hqz e
      · rw [hz] at e; exact absurd e (hno y hy hqy)
      · rw [hy] at e; exact absurd e.symm (hno z hz hqz)
      · rw [hy, hz]
  · simp only [Bool.or_eq_true] at hb
    rcases hb with (hb | hb) | hb
    · rcases h.no hb with ⟨y, h1, h2⟩ | ⟨y, h1, z, h2, h3⟩
      · exact .inl ⟨y, mem_snoc.2 (.inl h1), h2⟩
      · exact .inr ⟨y, mem_snoc.2 (.inl h1), z, mem_snoc.2 (.inl h2), h3⟩
    · obtain ⟨y, hy⟩ := Option.isSome_iff_exists.1 hb
      obtain ⟨h1, h2, h3⟩ := h.pr1 _ y hy
      exact .inr ⟨y, mem_snoc.2 (.inl h1), x, by simp, h2, hx, h3, fun e => hn (by rw [← e]; exact h1)⟩
    · exact .inl ⟨x, by simp, hx, hb⟩
end
end Go.Proofs.YtggichcfklbjiaaGreatDoor
end
