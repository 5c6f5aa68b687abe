/- Forms of texts, over any base: parted, ordered, joined. Plain laws; no program stands here. A base in memory, and what is asked of it: the code. -/
import Derived.Test.YtggichcfklbjiaaGreatDoorG15
import Derived.Test.YtggichcfklbjiaaGreatDoorG16
import Derived.Test.YtggichcfklbjiaaGreatDoorG17
import Derived.Test.YtggichcfklbjiaaGreatDoorG24
section
set_option linter.unusedSimpArgs false
set_option linter.unusedVariables false
namespace Go.Proofs.YtggichcfklbjiaaGreatDoor

/-- What is known of characters, and what holds of it. -/
structure BaseF where
  cls : Int → Int
  dec : Int → List UInt8 × List Int
  pair : Int → Int → Option Int
  sec : Int → Bool
  cls0 : ∀ r, 0 ≤ cls r
  made : ∀ x y r, pair x y = some r → dec r = ([], [x, y]) ∧ cls r = 0 ∧ sec y = true
  wf : WellFounded fun y x => y ∈ (dec x).2
variable (B : BaseF)
/-- Into what a character is parted, with kinds or without. -/
def BaseF.parts (c : Bool) (r : Int) : List Int := if (B.dec r).1 ≠ [] ∧ c = false then [] else (B.dec r).2
theorem parts_mem {B : BaseF} {c : Bool} {r x : Int} (h : x ∈ B.parts c r) : x ∈ (B.dec r).2 := by
  unfold BaseF.parts at h
  split at h
  · simp at h
  · exact h
/-- A character, parted as far as it can be. -/
noncomputable def BaseF.one (c : Bool) : Int → List Int :=
  B.wf.fix fun r ih => if B.parts c r = [] then [r] else (B.parts c r).attach.flatMap fun x => ih x.1 (parts_mem x.2)
theorem flatMap_attach {α β : Type} (l : List α) (f : α → List β) : (l.attach.flatMap fun x => f x.1) = l.flatMap f := by
  rw [show (fun x : {x // x ∈ l} => f x.1) = f ∘ Subtype.val from rfl, ← List.flatMap_map]
  simp
theorem BaseF.one_eq (c : Bool) (r : Int) : B.one c r = if B.parts c r = [] then [r] else (B.parts c r).flatMap (B.one c) := by
  unfold BaseF.one
  rw [WellFounded.fix_eq]
  split
  · rfl
  · exact flatMap_attach _ _
theorem BaseF.one_none {c : Bool} {r : Int} (h : B.parts c r = []) : B.one c r = [r] := by rw [B.one_eq, if_pos h]
theorem BaseF.one_some {c : Bool} {r : Int} (h : B.parts c r ≠ []) : B.one c r = (B.parts c r).flatMap (B.one c) := by rw [B.one_eq, if_neg h]
theorem BaseF.one_ne (c : Bool) (r : Int) : B.one c r ≠ [] := by
  induction r using B.wf.induction with
  | _ r ih =>
    by_cases h : B.parts c r = []
    · rw [B.one_none h]; simp
    · rw [B.one_some h]
      obtain ⟨x, t, hx⟩ : ∃ x t, B.parts c r = x :: t := by
        cases hp : B.parts c r with
        | nil => exact absurd hp h
        | cons x t => exact ⟨x, t, rfl⟩
      rw [hx, List.flatMap_cons]
      have := ih x (parts_mem (by rw [hx]; simp))
      simp [this]
/-- What a character is parted into is parted no more. -/
theorem BaseF.one_irr {c : Bool} {r y : Int} (h : y ∈ B.one c r) : B.parts c y = [] := by
  induction r using B.wf.induction with
  | _ r ih =>
    by_cases hp : B.parts c r = []
    · rw [B.one_none hp, List.mem_singleton] at h
      rw [h]; exact hp
    · rw [B.one_some hp, List.mem_flatMap] at h
      obtain ⟨x, hx, hy⟩ := h
      exact ih x (parts_mem hx) hy
theorem BaseF.one_made {c : Bool} {x y r : Int} (h : B.pair x y = some r) : B.one c r = B.one c x ++ B.one c y := by
  have hd := (B.made x y r h).1
  have hp : B.parts c r = [x, y] := by unfold BaseF.parts; rw [hd]; simp
  rw [B.one_some (by rw [hp]; simp), hp]
  simp
/-- All characters, parted. -/
noncomputable def BaseF.all (c : Bool) (l : List Int) : List Int := l.flatMap (B.one c)
theorem BaseF.all_app (c : Bool) (a b : List Int) : B.all c (a ++ b) = B.all c a ++ B.all c b := by simp [BaseF.all]
theorem BaseF.all_nil (c : Bool) : B.all c [] = [] := rfl
theorem BaseF.all_cons (c : Bool) (x : Int) (l : List Int) : B.all c (x :: l) = B.one c x ++ B.all c l := rfl
theorem BaseF.all_one (c : Bool) (x : Int) : B.all c [x] = B.one c x := by simp [BaseF.all]
def BaseF.Irr (c : Bool) (l : List Int) : Prop := ∀ x ∈ l, B.parts c x = []
theorem BaseF.all_irr {c : Bool} : ∀ {l : List Int}, B.Irr c l → B.all c l = l
  | [], _ => rfl
  | x :: l, h => by
    rw [B.all_cons, B.one_none (h x (by simp)), BaseF.all_irr (l := l) fun y hy => h y (by simp [hy])]
    rfl
theorem BaseF.irr_all (c : Bool) (l : List Int) : B.Irr c (B.all c l) := by
  intro y hy
  obtain ⟨x, _, hx⟩ := List.mem_flatMap.1 hy
  exact B.one_irr hx
/-! ### order -/
/-- A character put where it belongs; lists backward. -/
def BaseF.ins : List Int → Int → List Int
  | [], r => [r]
  | x :: t, r => if B.cls r ≠ 0 ∧ B.cls r < B.cls x then x :: BaseF.ins t r else r :: x :: t
def BaseF.ordR (l : List Int) : List Int := l.foldl B.ins []
/-- Characters in order. -/
def BaseF.ord (l : List Int) : List Int := (B.ordR l).reverse
theorem BaseF.ins_split (acc : List Int) (r : Int) : ∃ Q A, acc = Q ++ A ∧ B.ins acc r = Q ++ r :: A ∧ (∀ q ∈ Q, B.cls r < B.cls q ∧ B.cls r ≠ 0) ∧ (∀ a t, A = a :: t → B.cls r = 0 ∨ B.cls a ≤ B.cls r) := by
  induction acc with
  | nil => exact ⟨[], [], rfl, rfl, by simp, by simp⟩
  | cons x t ih =>
    unfold BaseF.ins
    split
    · rename_i h
      obtain ⟨Q, A, h1, h2, h3, h4⟩ := ih
      refine ⟨x :: Q, A, by rw [h1]; rfl, by rw [h2]; rfl, fun q hq => ?_, h4⟩
      rcases List.mem_cons.1 hq with rfl | hq
      · exact ⟨h.2, h.1⟩
      · exact h3 q hq
    · rename_i h
      refine ⟨[], x :: t, rfl, rfl, by simp, fun a t' e => ?_⟩
      injection e with e1 _
      subst e1
      omega
theorem BaseF.ord_snoc (l : List Int) (r : Int) : B.ordR (l ++ [r]) = B.ins (B.ordR l) r := by
  unfold BaseF.ordR
  rw [List.foldl_append]
  rfl
theorem BaseF.ordR_app (l m : List Int) : B.ordR (l ++ m) = m.foldl B.ins (B.ordR l) := by
  unfold BaseF.ordR
  rw [List.foldl_append]
/-- Two neighbours that are marks of two classes, turned about, and so again and again. -/
inductive BaseF.Eqv : List Int → List Int → Prop
  | refl (l : List Int) : Eqv l l
  | swap (p : List Int) (x y : Int) (s : List Int) : 0 < B.cls x → 0 < B.cls y → B.cls x ≠ B.cls y → Eqv (p ++ x :: y :: s) (p ++ y :: x :: s)
  | trans {a b c : List Int} : Eqv a b → Eqv b c → Eqv a c
variable {B}
theorem BaseF.Eqv.symm {a b : List Int} (h : B.Eqv a b) : B.Eqv b a := by
  induction h with
  | refl => exact .refl _
  | swap p x y s h1 h2 h3 => exact .swap p y x s h2 h1 (fun e => h3 e.symm)
  | trans _ _ i1 i2 => exact .trans i2 i1
theorem BaseF.Eqv.left {a b : List Int} (q : List Int) (h : B.Eqv a b) : B.Eqv (q ++ a) (q ++ b) := by
  induction h with
  | refl => exact .refl _
  | swap p x y s h1 h2 h3 =>
    rw [← List.append_assoc, ← List.append_assoc]
    exact .swap (q ++ p) x y s h1 h2 h3
  | trans _ _ i1 i2 => exact .trans i1 i2
theorem BaseF.Eqv.right {a b : List Int} (q : List Int) (h : B.Eqv a b) : B.Eqv (a ++ q) (b ++ q) := by
  induction h with
  | refl => exact .refl _
  | swap p x y s h1 h2 h3 =>
    rw [List.append_assoc, List.append_assoc]
    exact .swap p x y (s ++ q) h1 h2 h3
  | trans _ _ i1 i2 => exact .trans i1 i2
theorem BaseF.Eqv.both {a b c d : List Int} (h : B.Eqv a b) (h2 : B.Eqv c d) : B.Eqv (a ++ c) (b ++ d) := (h.right c).trans (h2.left b)
theorem ins_comm (acc : List Int) {x y : Int} (hx : 0 < B.cls x) (hy : 0 < B.cls y) (hlt : B.cls x < B.cls y) : B.ins (B.ins acc x) y = B.ins (B.ins acc y) x := by
  induction acc with
  | nil =>
    simp only [BaseF.ins]
    rw [if_neg (by omega), if_pos (by omega)]
  | cons a t ih =>
    by_cases h1 : B.cls y < B.cls a
    · have e1 : B.ins (a :: t) x = a :: B.ins t x := by simp only [BaseF.ins]; rw [if_pos (by omega)]
      have e2 : B.ins (a :: t) y = a :: B.ins t y := by simp only [BaseF.ins]; rw [if_pos (by omega)]
      rw [e1, e2]
      simp only [BaseF.ins]
      rw [if_pos (by omega), if_pos (by omega), ih]
    · have e2 : B.ins (a :: t) y = y :: a :: t := by simp only [BaseF.ins]; rw [if_neg (by omega)]
      rw [e2]
      by_cases h2 : B.cls x < B.cls a
      · have e1 : B.ins (a :: t) x = a :: B.ins t x := by simp only [BaseF.ins]; rw [if_pos (by omega)]
        rw [e1]
        have e3 : B.ins (y :: a :: t) x = y :: B.ins (a :: t) x := by simp only [BaseF.ins]; rw [if_pos (by omega)]
        rw [e3, e1]
        simp only [BaseF.ins]
        rw [if_neg (by omega)]
      · have e1 : B.ins (a :: t) x = x :: a :: t := by simp only [BaseF.ins]; rw [if_neg (by omega)]
        rw [e1]
        have e3 : B.ins (y :: a :: t) x = y :: B.ins (a :: t) x := by simp only [BaseF.ins]; rw [if_pos (by omega)]
        rw [e3, e1]
        simp only [BaseF.ins]
        rw [if_neg (by omega)]
theorem BaseF.Eqv.ordR {a b : List Int} (h : B.Eqv a b) : B.ordR a = B.ordR b := by
  induction h with
  | refl => rfl
  | swap p x y s h1 h2 h3 =>
    have e : ∀ u v : Int, B.ordR (p ++ u :: v :: s) = s.foldl B.ins (B.ins (B.ins (B.ordR p) u) v) := fun u v => by
      rw [B.ordR_app]; rfl
    rw [e, e]
    rcases Int.lt_or_gt_of_ne h3 with h | h
    · rw [ins_comm _ h1 h2 h]
    · rw [ins_comm _ h2 h1 h]
  | trans _ _ i1 i2 => exact i1.trans i2
theorem BaseF.Eqv.ord {a b : List Int} (h : B.Eqv a b) : B.ord a = B.ord b := by unfold BaseF.ord; rw [h.ordR]
/-- A mark passes marks of smaller classes. -/
theorem BaseF.Eqv.pass {r : Int} : ∀ {ms : List Int}, (∀ m ∈ ms, 0 < B.cls m ∧ B.cls m < B.cls r) → B.Eqv (r :: ms) (ms ++ [r])
  | [], _ => .refl _
  | m :: ms, h => by
    have hm := h m (by simp)
    have h1 : B.Eqv (r :: m :: ms) (m :: r :: ms) := .swap [] r m ms (by omega) hm.1 (by omega)
    have h2 := BaseF.Eqv.left [m] (BaseF.Eqv.pass (ms := ms) fun x hx => h x (by simp [hx]))
    exact h1.trans h2
theorem ins_eqv (acc : List Int) (r : Int) : B.Eqv (acc.reverse ++ [r]) (B.ins acc r).reverse := by
  obtain ⟨Q, A, h1, h2, h3, _⟩ := B.ins_split acc r
  rw [h2, h1]
  simp only [List.reverse_append, List.reverse_cons, List.append_assoc]
  refine BaseF.Eqv.left _ ?_
  have : ∀ Q : List Int, (∀ q ∈ Q, B.cls r < B.cls q ∧ B.cls r ≠ 0) → B.Eqv (Q ++ [r]) ([r] ++ Q) := by
    intro Q
    induction Q with
    | nil => intro _; exact .refl _
    | cons q Q ih =>
      intro h
      have hq := h q (by simp)
      have h0 := B.cls0 r
      have h1 := BaseF.Eqv.left [q] (ih fun x hx => h x (by simp [hx]))
      have h2 : B.Eqv (q :: r :: Q) (r :: q :: Q) := .swap [] q r Q (by omega) (by omega) (by omega)
      exact h1.trans h2
  exact this _ fun q hq => h3 q (by simpa using hq)
theorem eqv_ord (l : List Int) : B.Eqv l (B.ord l) := by
  have : ∀ (s acc p : List Int), B.Eqv p acc.reverse → B.Eqv (p ++ s) (s.foldl B.ins acc).reverse := by
    intro s
    induction s with
    | nil => intro acc p h; simpa using h
    | cons r s ih =>
      intro acc p h
      have h1 := ih (B.ins acc r) (p ++ [r]) ((h.right [r]).trans (ins_eqv acc r))
      simpa using h1
  exact this l [] [] (.refl _)
theorem ord_ord (l : List Int) : B.ord (B.ord l) = B.ord l := (eqv_ord l).symm.ord
theorem ord_app_left (a b : List Int) : B.ord (a ++ b) = B.ord (B.ord a ++ b) := ((eqv_ord a).right b).ord
theorem ord_app_right (a b : List Int) : B.ord (a ++ b) = B.ord (a ++ B.ord b) := ((eqv_ord b).left a).ord
theorem BaseF.Eqv.mem {a b : List Int} (h : B.Eqv a b) : ∀ x, x ∈ a ↔ x ∈ b := by
  induction h with
  | refl => exact fun _ => Iff.rfl
  | swap p x y s _ _ _ =>
    intro z
    simp only [List.mem_append, List.mem_cons]
    constructor <;> (rintro (h | h | h | h) <;> simp [h])
  | trans _ _ i1 i2 => exact fun x => (i1 x).trans (i2 x)
theorem BaseF.Eqv.length {a b : List Int} (h : B.Eqv a b) : a.length = b.length := by
  induction h with
  | refl => rfl
  | swap p x y s _ _ _ => simp
  | trans _ _ i1 i2 => exact i1.trans i2
theorem BaseF.Eqv.nil_iff {a b : List Int} (h : B.Eqv a b) : a = [] ↔ b = [] := by
  rw [← List.length_eq_zero_iff, ← List.length_eq_zero_iff, h.length]
/-- Are characters in order, behind one of class k? -/
def BaseF.srt (B : BaseF) : Int → List Int → Bool
  | _, [] => true
  | k, r :: t => (decide (B.cls r = 0) || decide (k ≤ B.cls r)) && BaseF.srt B (B.cls r) t
def BaseF.lastC (B : BaseF) (k : Int) (l : List Int) : Int := l.foldl (fun _ r => B.cls r) k
theorem lastC_snoc (k : Int) (l : List Int) (r : Int) : B.lastC k (l ++ [r]) = B.cls r := by simp [BaseF.lastC]
theorem srt_app : ∀ (k : Int) (a b : List Int), B.srt k (a ++ b) = (B.srt k a && B.srt (B.lastC k a) b)
  | k, [], b => by simp [BaseF.srt, BaseF.lastC]
  | k, x :: a, b => by
    show ((decide (B.cls x = 0) || decide (k ≤ B.cls x)) && B.srt (B.cls x) (a ++ b)) = _
    rw [srt_app (B.cls x) a b, ← Bool.and_assoc]
    rfl
theorem srt_snoc (k : Int) (l : List Int) (r : Int) : B.srt k (l ++ [r]) = true ↔ B.srt k l = true ∧ (B.cls r = 0 ∨ B.lastC k l ≤ B.cls r) := by
  rw [srt_app]
  simp [BaseF.srt]
theorem srt_mono {k k' : Int} (h : k' ≤ k) : ∀ {l : List Int}, B.srt k l = true → B.srt k' l = true
  | [], _ => rfl
  | r :: t, h2 => by
    simp only [BaseF.srt, Bool.and_eq_true, Bool.or_eq_true, decide_eq_true_eq] at h2 ⊢
    refine ⟨?_, h2.2⟩
    rcases h2.1 with h3 | h3
    · exact .inl h3
    · exact .inr (by omega)
theorem lastC_nonneg {k : Int} (hk : 0 ≤ k) : ∀ (l : List Int), 0 ≤ B.lastC k l
  | [] => hk
  | x :: l => lastC_nonneg (k := B.cls x) (B.cls0 x) l
theorem lastC_rev (k : Int) (x : Int) (t : List Int) : B.lastC k (x :: t).reverse = B.cls x := by rw [List.reverse_cons, lastC_snoc]
/-- What is in order is not turned. -/
theorem ord_srt {l : List Int} (h : B.srt 0 l = true) : B.ord l = l := by
  have : ∀ (s acc : List Int), B.srt (B.lastC 0 acc.reverse) s = true → (s.foldl B.ins acc).reverse = acc.reverse ++ s := by
    intro s
    induction s with
    | nil => intro acc _; simp
    | cons r s ih =>
      intro acc h
      simp only [BaseF.srt, Bool.and_eq_true, Bool.or_eq_true, decide_eq_true_eq] at h
      have e : B.ins acc r = r :: acc := by
        cases acc with
        | nil => rfl
        | cons a t =>
          rw [lastC_rev] at h
          simp only [BaseF.ins]
          rw [if_neg (by omega)]
      show (s.foldl B.ins (B.ins acc r)).reverse = _
      rw [e, ih (r :: acc) (by rw [lastC_rev]; exact h.2)]
      simp
  have h1 := this l [] h
  simpa [BaseF.ord, BaseF.ordR] using h1
theorem ins_srt (acc : List Int) (r : Int) (h : B.srt 0 acc.reverse = true) : B.srt 0 (B.ins acc r).reverse = true := by
  obtain ⟨Q, A, h1, h2, h3, h4⟩ := B.ins_split acc r
  rw [h1, List.reverse_append, srt_app, Bool.and_eq_true] at h
  rw [h2]
  simp only [List.reverse_append, List.reverse_cons]
  rw [srt_app, Bool.and_eq_true, srt_snoc, lastC_snoc]
  have h0 := B.cls0 r
  refine ⟨⟨h.1, ?_⟩, ?_⟩
  · cases A with
    | nil => exact .inr h0
    | cons a t => rw [lastC_rev]; exact h4 a t rfl
  · rcases List.eq_nil_or_concat Q with rfl | ⟨Q', q, rfl⟩
    · rfl
    · have hq := h3 q (by simp)
      rw [List.concat_eq_append, List.reverse_append] at h ⊢
      have e : [q].reverse ++ Q'.reverse = q :: Q'.reverse := rfl
      rw [e] at h ⊢
      simp only [BaseF.srt, Bool.and_eq_true, Bool.or_eq_true, decide_eq_true_eq] at h ⊢
      exact ⟨.inr (by omega), h.2.2⟩
theorem srt_ord (l : List Int) : B.srt 0 (B.ord l) = true := by
  have : ∀ (s acc : List Int), B.srt 0 acc.reverse = true → B.srt 0 (s.foldl B.ins acc).reverse = true := by
    intro s
    induction s with
    | nil => intro acc h; exact h
    | cons r s ih => intro acc h; exact ih _ (ins_srt acc r h)
  exact this l [] rfl
theorem ord_eq_iff {l : List Int} : B.ord l = l ↔ B.srt 0 l = true := ⟨fun h => by rw [← h]; exact srt_ord l, ord_srt⟩
/-- Ahead of a character that stands alone the two sides are ordered by themselves. -/
theorem foldl_ins_app (x : Int) (hx : B.cls x = 0) : ∀ (s Q A : List Int), s.foldl B.ins (Q ++ x :: A) = s.foldl B.ins (Q ++ [x]) ++ A
  | [], Q, A => by simp
  | r :: s, Q, A => by
    have h0 := B.cls0 r
    have key : ∀ (Q A : List Int), B.ins (Q ++ x :: A) r = B.ins (Q ++ [x]) r ++ A := by
      intro Q
      induction Q with
      | nil =>
        intro A
        simp only [List.nil_append, BaseF.ins]
        rw [if_neg (by omega), if_neg (by omega)]
        rfl
      | cons q Q ih =>
        intro A
        simp only [List.cons_append, BaseF.ins]
        split
        · rw [ih A]; rfl
        · simp
    have hex : ∃ Q', B.ins (Q ++ [x]) r = Q' ++ [x] := by
      obtain ⟨Q2, A2, h1, h2, h3, _⟩ := B.ins_split (Q ++ [x]) r
      rcases List.eq_nil_or_concat A2 with rfl | ⟨A', a, rfl⟩
      · rw [List.append_nil] at h1
        have := h3 x (by rw [← h1]; simp)
        omega
      · rw [List.concat_eq_append, ← List.append_assoc] at h1
        have e := List.append_inj_right' h1 rfl
        injection e with e _
        subst e
        refine ⟨Q2 ++ r :: A', ?_⟩
        rw [h2, List.concat_eq_append]
        simp
    obtain ⟨Q', hQ'⟩ := hex
    show s.foldl B.ins (B.ins (Q ++ x :: A) r) = s.foldl B.ins (B.ins (Q ++ [x]) r) ++ A
    rw [key, hQ', List.append_assoc]
    exact foldl_ins_app x hx s Q' A
theorem ord_cut (a : List Int) {x : Int} (b : List Int) (hx : B.cls x = 0) : B.ord (a ++ x :: b) = B.ord a ++ B.ord (x :: b) := by
  unfold BaseF.ord
  rw [B.ordR_app, ← List.reverse_append]
  congr 1
  have e1 : B.ins (B.ordR a) x = x :: B.ordR a := by
    cases B.ordR a with
    | nil => rfl
    | cons y t => simp only [BaseF.ins]; rw [if_neg (by omega)]
  show b.foldl B.ins (B.ins (B.ordR a) x) = b.foldl B.ins [x] ++ B.ordR a
  rw [e1]
  exact foldl_ins_app x hx b [] (B.ordR a)
/-- The first character of what is ordered. -/
theorem ord_head {x : Int} (b : List Int) (hx : B.cls x = 0) : ∃ t, B.ord (x :: b) = x :: t := by
  have key : ∀ (s Q : List Int), ∃ Q', s.foldl B.ins (Q ++ [x]) = Q' ++ [x] := by
    intro s
    induction s with
    | nil => intro Q; exact ⟨Q, rfl⟩
    | cons r s ih =>
      intro Q
      have h0 := B.cls0 r
      obtain ⟨Q2, A2, h1, h2, h3, _⟩ := B.ins_split (Q ++ [x]) r
      rcases List.eq_nil_or_concat A2 with rfl | ⟨A', a, rfl⟩
      · rw [List.append_nil] at h1
        have := h3 x (by rw [← h1]; simp)
        omega
      · rw [List.concat_eq_append, ← List.append_assoc] at h1
        have e := List.append_inj_right' h1 rfl
        injection e with e _
        subst e
        have := ih (Q2 ++ r :: A')
        simpa [h2] using this
  obtain ⟨Q', h⟩ := key b []
  refine ⟨Q'.reverse, ?_⟩
  unfold BaseF.ord BaseF.ordR
  show (b.foldl B.ins [x]).reverse = _
  have e : b.foldl B.ins [x] = Q' ++ [x] := h
  rw [e]
  simp
theorem ord_head_mark {x : Int} (b : List Int) (hx : B.cls x ≠ 0) : ∃ y t, B.ord (x :: b) = y :: t ∧ B.cls y ≠ 0 := by
  have key : ∀ (s Q : List Int) (z : Int), B.cls z ≠ 0 → ∃ Q' z', s.foldl B.ins (Q ++ [z]) = Q' ++ [z'] ∧ B.cls z' ≠ 0 := by
    intro s
    induction s with
    | nil => intro Q z hz; exact ⟨Q, z, rfl, hz⟩
    | cons r s ih =>
      intro Q z hz
      obtain ⟨Q2, A2, h1, h2, h3, _⟩ := B.ins_split (Q ++ [z]) r
      rcases List.eq_nil_or_concat A2 with rfl | ⟨A', a, rfl⟩
      · rw [List.append_nil] at h1
        have h4 := h3 z (by rw [← h1]; simp)
        show ∃ Q' z', s.foldl B.ins (B.ins (Q ++ [z]) r) = _ ∧ _
        rw [h2]
        exact ih Q2 r h4.2
      · rw [List.concat_eq_append, ← List.append_assoc] at h1
        have e := List.append_inj_right' h1 rfl
        injection e with e _
        subst e
        show ∃ Q' z', s.foldl B.ins (B.ins (Q ++ [z]) r) = _ ∧ _
        have := ih (Q2 ++ r :: A') z hz
        simpa [h2] using this
  obtain ⟨Q', z', h, hz'⟩ := key b [] x hx
  refine ⟨z', Q'.reverse, ?_, hz'⟩
  unfold BaseF.ord BaseF.ordR
  show (b.foldl B.ins [x]).reverse = _
  have e : b.foldl B.ins [x] = Q' ++ [z'] := h
  rw [e]
  simp
end Go.Proofs.YtggichcfklbjiaaGreatDoor
end

section
set_option linter.unusedSimpArgs false
set_option linter.unusedVariables false
namespace Go.Proofs.YtggichcfklbjiaaGreatDoor
open Go.RowKit Go.Lib Go.Maps

theorem Rs_one (zs : List Int) : ∀ u ∈ Rs zs, u.oneCell' = true := runes_one .i32 zs
def RCloneP (n : Nat) (zs : List Int) (w : World) (e : Ending) (w' : World) : Prop := ∃ A' c', e = .returned (.slice A' n c') ∧ w'.ownsRow w.heap.size 21 1 (.slice A' n c') n (Rs zs) ∧ Below w.heap.size w w'
set_option maxRecDepth 20000 in
theorem rclone_any (A : Option Addr) (n c : Nat) (zs : List Int) (w : World) (hr : Rd w A n (Rs zs)) (hnil : A = none → n = 0 ∧ c = 0) (hn : n ≤ 1000000) :
    Calls Tryz.prog 33 #[.slice A n c] w (RCloneP n zs w) := by
  have hll : zs.length = n := by have := hr.1; simpa [Rs] using this
  cases A with
  | none =>
    obtain ⟨rfl, rfl⟩ := hnil rfl
    have : zs = [] := List.eq_nil_of_length_eq_zero hll
    subst this
    have hcmp := fun w => Lib.run_eql_slice_nil (P := Tryz.prog) w 33 21 none 0 0 0 0 Tryz.underlying33
    simp only [Option.isNone] at hcmp
    go_enter Tryz.func33, Tryz.ntmps33
    go_wp2
    go_returns
    exact ⟨none, 0, rfl, World.ownsRow_nil _ _ _ _, Below.refl _ _⟩
  | some a =>
    have hbn : Below w.heap.size w (w.alloc (.cells #[] 21)) := (Below.refl _ _).alloc (Nat.le_refl _) _
    have hown0 : (w.alloc (.cells #[] 21)).ownsRow w.heap.size 21 1 (.slice (some ⟨w.heap.size, 0, none⟩) 0 0) 0 [] := ⟨rfl, .inr ⟨w.heap.size, 0, #[], rfl, Nat.le_refl _, box_new _ _ _, Nat.le_refl _, Nat.zero_le _, rfl, rfl⟩⟩
    have hrb := hr.below hbn
    have hone := Rs_one zs
    clear hnil hr
    have hcmp := fun w => Lib.run_eql_slice_nil (P := Tryz.prog) w 33 21 (some a) n c 0 0 Tryz.underlying33
    simp only [Option.isNone] at hcmp
    go_enter Tryz.func33, Tryz.ntmps33
    go_wp2_with (at_builtin; refine wpList_app runeElem _ rfl _ _ rfl w.heap.size rfl hown0 rfl hrb hone (by simp; omega) (by omega) (by simp) ?_)
    intro A2 c2 w4 hown4 hg4 hat4
    have hb4 := below_app hbn (by simp) hown0 hg4
    have hown5 : w4.ownsRow w.heap.size 21 1 (.slice A2 n c2) n (Rs zs) := by simpa using hown4
    clear hown4 hg4 hat4 hown0 hrb hone
    go_wp2
    go_returns
    exact ⟨A2, c2, by simp <;> rfl, hown5, hb4⟩
/-! ### a base in memory -/
/-- What stands at a character that is parted: the kind, and where the characters lie. -/
abbrev PV := List UInt8 × Option Addr × Nat × Nat
abbrev partV (p : PV) : Value := .agg #[.string (mk8 p.1), .slice p.2.1 p.2.2.1 p.2.2.2]
abbrev intV (x : Int) : Value := .int .i64 x
theorem partsT : Tryz.prog.underlying 59 = some (.map 21 73) := by kernel_rfl
theorem pairsT : Tryz.prog.underlying 60 = some (.map 46 21) := by kernel_rfl
theorem madeT : Tryz.prog.underlying 61 = some (.map 21 46) := by kernel_rfl
theorem secsT : Tryz.prog.underlying 62 = some (.map 21 3) := by kernel_rfl
theorem zero_part (w : World) : (zeroValue 73).run Tryz.prog w = .ok (partV ([], none, 0, 0)) w := by kernel_rfl
theorem zero_rune (w : World) : (zeroValue 21).run Tryz.prog w = .ok (runeV 0) w := by kernel_rfl
theorem zero_two (w : World) : (zeroValue 46).run Tryz.prog w = .ok (pairV (0, 0)) w := by kernel_rfl
theorem zero_int (w : World) : (zeroValue 3).run Tryz.prog w = .ok (intV 0) w := by kernel_rfl
theorem pair_keyed : KeyB Tryz.prog 46 pairV pairLit R32P := by
  obtain ⟨m, hm⟩ : ∃ m, Tryz.prog.types.size = m + 1 := ⟨Tryz.prog.types.size - 1, by kernel_rfl⟩
  exact pairB (e := 21) ⟨by kernel_rfl, by kernel_rfl, by kernel_rfl, by kernel_rfl⟩ (by kernel_rfl) hm
/-- What is parted so lies there. -/
def PartIs (w : World) : Option PV → Option (List UInt8 × List Int) → Prop
  | none, none => True
  | some p, some q => p.1 = q.1 ∧ p.2.2.1 = q.2.length ∧ q.2.length ≤ 18 ∧ Rd w p.2.1 q.2.length (Rs q.2) ∧ (p.2.1 = none → q.2.length = 0 ∧ p.2.2.2 = 0)
  | _, _ => False
theorem PartIs.below {w w' : World} {p : Option PV} {q : Option (List UInt8 × List Int)} (h : PartIs w p q) (hb : Below w.heap.size w w') : PartIs w' p q := by
  cases p <;> cases q <;> first | exact h | exact ⟨h.1, h.2.1, h.2.2.1, h.2.2.2.1.below hb, h.2.2.2.2⟩
structure BAddr where
  tb : Nat
  mb : Nat
  m1 : Nat
  m2 : Nat
  m3 : Nat
  m4 : Nat
  tn : Nat
structure BaseM (w : World) (bp : Nat) (a : BAddr) (n : Nat) (cls : Int → Int) (prt : Int → Option (List UInt8 × List Int)) (pr : Int × Int → Option Int) (md : Int → Option (Int × Int)) (sc : Int → Option Int) : Prop where
  box : w.heap[bp]? = some (.cells #[.pointer (some ⟨a.tb, 0, none⟩), .map (some a.m1), .map (some a.m2), .map (some a.m3), .map (some a.m4)] 64 (0, 0))
  tab : TabAt w a.tb a.mb a.tn cls
  prt : ∃ f, MapF w Tryz.prog 21 runeLit R32 partV a.m1 n f ∧ ∀ r, R32 r → PartIs w (f r) (prt r)
  pr : MapF w Tryz.prog 46 pairLit R32P runeV a.m2 n pr
  md : MapF w Tryz.prog 21 runeLit R32 pairV a.m3 n md
  sc : MapF w Tryz.prog 21 runeLit R32 intV a.m4 n sc
section
variable {w w' : World} {bp n : Nat} {a : BAddr} {cls : Int → Int} {prt : Int → Option (List UInt8 × List Int)} {pr : Int × Int → Option Int} {md : Int → Option (Int × Int)} {sc : Int → Option Int}
theorem TabAt.below {tb mb : Nat} {T : Int → Int} (h : TabAt w tb mb n T) (hb : Below w.heap.size w w') : TabAt w' tb mb n T := by
  obtain ⟨h1, f, h2, h3⟩ := h
  exact ⟨box_below h1 hb, f, h2.below hb h2.lt, h3⟩
theorem BaseM.below (h : BaseM w bp a n cls prt pr md sc) (hb : Below w.heap.size w w') : BaseM w' bp a n cls prt pr md sc := by
  obtain ⟨h1, h2, ⟨f, h3, h4⟩, h5, h6, h7⟩ := h
  exact ⟨box_below h1 hb, h2.below hb, ⟨f, h3.below hb h3.lt, fun r hr => (h4 r hr).below hb⟩, h5.below hb h5.lt, h6.below hb h6.lt, h7.below hb h7.lt⟩
theorem class_any (h : BaseM w bp a n cls prt pr md sc) (r : Int) (hr : R32 r) : Calls Tryz.prog 16 #[.pointer (some ⟨bp, 0, none⟩), .int .i32 r] w fun e w' => e = .returned (.int .i64 (cls r)) ∧ Below w.heap.size w w' := by
  have c0 := box_cell h.box 0 rfl
  have GT := trieGet_any h.tab r hr
  go_enter Tryz.func16, Tryz.ntmps16
  go_wp2_with fail
  refine GT.mono ?_
  rintro e w1 ⟨rfl, hb⟩
  go_wp2
  go_returns
  exact ⟨rfl, hb⟩
/-- What Decomp answers. -/
def DecP (kd : List UInt8) (il : List Int) (w : World) (e : Ending) (w' : World) : Prop := ∃ A c, e = .returned (.tuple #[.string (mk8 kd), .slice A il.length c]) ∧ w'.ownsRow w.heap.size 21 1 (.slice A il.length c) il.length (Rs il) ∧ Below w.heap.size w w'
theorem class_nil (r : Int) (w : World) : Calls Tryz.prog 16 #[.pointer none, .int .i32 r] w fun e w' => e = .returned (.int .i64 0) ∧ Below w.heap.size w w' := by
  go_enter Tryz.func16, Tryz.ntmps16
  go_wp2
  go_returns
  exact ⟨rfl, Below.refl _ _⟩
end
/-- Into what a character is parted: a syllable, or one that stands there. -/
def decH (prt : Int → Option (List UInt8 × List Int)) (r : Int) : List UInt8 × List Int := if 44032 ≤ r ∧ r < 55204 then ([], [(splitH r).1, (splitH r).2.1]) else (prt r).getD ([], [])
/-- Two characters in a new list. -/
theorem decomp_hang (v : Value) (r : Int) (w : World) (hk : Kinds w) (hh : 44032 ≤ r ∧ r < 55204) :
    Calls Tryz.prog 11 #[v, .int .i32 r] w (DecP [] [(splitH r).1, (splitH r).2.1] w) := by
  have SP := split_any r w hk
  have h3 : (splitH r).2.2 = true := by unfold splitH; rw [if_pos hh]; split <;> rfl
  rw [h3] at SP
  obtain ⟨x, hx⟩ : ∃ x, x = (splitH r).1 := ⟨_, rfl⟩
  obtain ⟨y, hy⟩ : ∃ y, y = (splitH r).2.1 := ⟨_, rfl⟩
  rw [← hx, ← hy] at SP
  rw [← hx, ← hy]
  clear h3 hx hy
  go_enter Tryz.func11, Tryz.ntmps11
  go_wp2_with fail
  refine SP.mono ?_
  rintro e w1 ⟨rfl, hb⟩
  have hown : (w1.alloc (.cells #[.int .i32 x, .int .i32 y] 21)).ownsRow w.heap.size 21 1 (.slice (some ⟨w1.heap.size, 0, none⟩) 2 2) 2 (Rs [x, y]) :=
    ⟨rfl, .inr ⟨w1.heap.size, 2, #[.int .i32 x, .int .i32 y], rfl, hb.size, box_new _ _ _, Nat.le_refl _, by unfold maxLen; omega, rfl, rfl⟩⟩
  have hb2 : Below w.heap.size w (w1.alloc (.cells #[.int .i32 x, .int .i32 y] 21)) := hb.alloc hb.size _
  clear SP hb
  go_wp2
  go_returns
  exact ⟨_, _, rfl, hown, hb2⟩
theorem split_none {r : Int} (hh : ¬ (44032 ≤ r ∧ r < 55204)) : (splitH r) = (0, 0, false) := by unfold splitH; rw [if_neg hh]
theorem decomp_nil (r : Int) (w : World) (hk : Kinds w) (hh : ¬ (44032 ≤ r ∧ r < 55204)) :
    Calls Tryz.prog 11 #[.pointer none, .int .i32 r] w (DecP [] [] w) := by
  have SP := split_any r w hk
  rw [split_none hh] at SP
  go_enter Tryz.func11, Tryz.ntmps11
  go_wp2_with fail
  refine SP.mono ?_
  rintro e w1 ⟨rfl, hb⟩
  go_wp2
  go_returns
  exact ⟨none, 0, rfl, World.ownsRow_nil _ _ _ _, hb⟩
set_option maxRecDepth 20000 in
set_option maxHeartbeats 2000000 in
theorem decomp_no {w : World} {bp n : Nat} {a : BAddr} {cls : Int → Int} {prt : Int → Option (List UInt8 × List Int)} {pr : Int × Int → Option Int} {md : Int → Option (Int × Int)} {sc : Int → Option Int} (h : BaseM w bp a n cls prt pr md sc) (r : Int) (hr : R32 r) (hk : Kinds w) (hh : ¬ (44032 ≤ r ∧ r < 55204)) :
    Calls Tryz.prog 11 #[.pointer (some ⟨bp, 0, none⟩), .int .i32 r] w (DecP ((prt r).getD ([], [])).1 ((prt r).getD ([], [])).2 w) := by
  have SP := split_any r w hk
  rw [split_none hh] at SP
  go_enter Tryz.func11, Tryz.ntmps11
  go_wp2_with fail
  refine SP.mono ?_
  rintro e w1 ⟨rfl, hb⟩
  have h1 := h.below hb
  have c1 := box_cell h1.box 1 rfl
  obtain ⟨f, hm, hP⟩ := h1.prt
  have hPr := hP r hr
  obtain ⟨kd, il, A, c, hg, hq, hrd, hnil, hlen⟩ : ∃ (kd : List UInt8) (il : List Int) (A : Option Addr) (c : Nat), (f r).getD ([], none, 0, 0) = (kd, A, il.length, c) ∧ (prt r).getD ([], []) = (kd, il) ∧ Rd w1 A il.length (Rs il) ∧ (A = none → il.length = 0 ∧ c = 0) ∧ il.length ≤ 18 := by
    cases hf : f r with
    | none =>
      cases hp : prt r with
      | none => exact ⟨[], [], none, 0, rfl, rfl, Rd.nil _ _, fun _ => ⟨rfl, rfl⟩, by simp⟩
      | some q => rw [hf, hp] at hPr; exact hPr.elim
    | some p =>
      cases hp : prt r with
      | none => rw [hf, hp] at hPr; exact hPr.elim
      | some q =>
        rw [hf, hp] at hPr
        obtain ⟨e1, e2, e3, e4, e5⟩ := hPr
        obtain ⟨pk, pA, pn, pc⟩ := p
        simp only [] at e1 e2 e4 e5
        subst e1 e2
        exact ⟨q.1, q.2, pA, pc, rfl, rfl, e4, e5, e3⟩
  have HQ := Lib.hid hq
  have HG := Lib.hid hg
  clear hq hg hPr hP SP h
  go_wp2_with (first | (at_lookup; refine wpList_lookF rfl _ _ rfl rune_keyed partsT (zero_part _) hm (k := r) hr rfl rfl ?_; rw [HG.out]) | go_in)
  --REGION
  have hbn : Below w1.heap.size w1 (w1.alloc (.cells #[.string (mk8 kd), .slice A il.length c] 73)) := (Below.refl _ _).alloc (Nat.le_refl _) _
  have hbx := box_new w1 #[.string (mk8 kd), .slice A il.length c] 73
  have hrdW := hrd.below hbn
  have hbW := below_then hb hbn
  clear hm c1 h1 hrd hb
  generalize hgq : w1.heap.size = q at *
  generalize (w1.alloc (.cells #[.string (mk8 kd), .slice A il.length c] 73)) = W at *
  have hmk : ∀ w' : World, Below W.heap.size W w' → (w'.cell? ⟨q, 0, none⟩ = some (.string (mk8 kd)) ∧ w'.cell? ⟨q, 1, none⟩ = some (.slice A il.length c)) ∧ Below W.heap.size W w' := fun w' h => ⟨⟨box_cell (box_below hbx h) 0 rfl, box_cell (box_below hbx h) 1 rfl⟩, h⟩
  have HMK := Lib.hid hmk
  have CL : Hid (∀ w' : World, Below W.heap.size W w' → Calls Tryz.prog 33 #[.slice A il.length c] w' (fun e w'' => ∃ A' c', e = .returned (.slice A' il.length c') ∧ w''.ownsRow W.heap.size 21 1 (.slice A' il.length c') il.length (Rs il) ∧ Below w'.heap.size w' w'')) := fun w' h =>
    (rclone_any A il.length c il w' (hrdW.below h) hnil (by omega)).mono fun e w'' ⟨A', c', h1, h2, h3⟩ => ⟨A', c', h1, own_base h2 h.size, h3⟩
  clear hmk hbx hrdW hbn hnil hgq
  refine wp_region_held_drew (S := fun w' => (w'.cell? ⟨q, 0, none⟩ = some (.string (mk8 kd)) ∧ w'.cell? ⟨q, 1, none⟩ = some (.slice A il.length c)) ∧ Below W.heap.size W w') (by kernel_rfl) (HMK.out _ (Drew.to ⟨1, rfl⟩)) (fun hH0 => ?_)
  refine wpAnyH_take (i := 0) (v := .pointer (some ⟨q, 0, none⟩)) rfl (by kernel_rfl) (by kernel_rfl) (by kernel_rfl) (fun _ _ _ h => h) (Or.inl ⟨by kernel_rfl, ?_⟩) hH0 ?_
  · intro w hSw
    (try dsimp only at hSw)
    go_simp
    all_goals try with_reducible rfl
  try simp only [List.getElem_toArray, List.getElem_cons_succ, List.getElem_cons_zero, Act.put, List.setIfInBounds_toArray, List.set_cons_zero, List.set_cons_succ]
  refine wpAnyH_take (i := 1) (v := .string (mk8 kd)) rfl (by kernel_rfl) (by kernel_rfl) (by kernel_rfl) (fun _ _ _ h => h) (Or.inl ⟨by kernel_rfl, ?_⟩) hH0 ?_
  · intro w hSw
    (try dsimp only at hSw)
    go_simp
    all_goals try with_reducible rfl
  try simp only [List.getElem_toArray, List.getElem_cons_succ, List.getElem_cons_zero, Act.put, List.setIfInBounds_toArray, List.set_cons_zero, List.set_cons_succ]
  refine wpAnyH_take (i := 2) (v := .pointer (some ⟨q, 1, none⟩)) rfl (by kernel_rfl) (by kernel_rfl) (by kernel_rfl) (fun _ _ _ h => h) (Or.inl ⟨by kernel_rfl, ?_⟩) hH0 ?_
  · intro w hSw
    (try dsimp only at hSw)
    go_simp
    all_goals try with_reducible rfl
  try simp only [List.getElem_toArray, List.getElem_cons_succ, List.getElem_cons_zero, Act.put, List.setIfInBounds_toArray, List.set_cons_zero, List.set_cons_succ]
  refine wpAnyH_take (i := 3) (v := .slice A il.length c) rfl (by kernel_rfl) (by kernel_rfl) (by kernel_rfl) (fun _ _ _ h => h) (Or.inl ⟨by kernel_rfl, ?_⟩) hH0 ?_
  · intro w hSw
    (try dsimp only at hSw)
    go_simp
    all_goals try with_reducible rfl
  try simp only [List.getElem_toArray, List.getElem_cons_succ, List.getElem_cons_zero, Act.put, List.setIfInBounds_toArray, List.set_cons_zero, List.set_cons_succ]
  refine wpAnyH_ready (rs := [4]) (by kernel_rfl) (by simp) ?_
  refine AllReadyH.cons rfl (fun K hK => ?_) AllReadyH.nil
  go_simp
  refine (CL.out _ hH0.2).mono ?_
  rintro e w50 ⟨A', c', rfl, hown5, hb5⟩
  refine hK.out _ _ (HMK.out _ (below_then hH0.2 hb5)) (fun hH1 => ?_)
  clear hK K hH0
  try simp only [List.getElem_toArray, List.getElem_cons_succ, List.getElem_cons_zero, Act.put, List.setIfInBounds_toArray, List.set_cons_zero, List.set_cons_succ]
  refine wpAnyH_take (i := 5) (v := .string (mk8 kd)) rfl (by kernel_rfl) (by kernel_rfl) (by kernel_rfl) (fun _ _ _ h => h) (Or.inl ⟨by kernel_rfl, ?_⟩) hH1 ?_
  · intro w hSw
    (try dsimp only at hSw)
    go_simp
    all_goals try with_reducible rfl
  try simp only [List.getElem_toArray, List.getElem_cons_succ, List.getElem_cons_zero, Act.put, List.setIfInBounds_toArray, List.set_cons_zero, List.set_cons_succ]
  refine wpAnyH_take (i := 6) (v := .slice A' il.length c') rfl (by kernel_rfl) (by kernel_rfl) (by kernel_rfl) (fun _ _ _ h => h) (Or.inl ⟨by kernel_rfl, ?_⟩) hH1 ?_
  · intro w hSw
    (try dsimp only at hSw)
    go_simp
    all_goals try with_reducible rfl
  try simp only [List.getElem_toArray, List.getElem_cons_succ, List.getElem_cons_zero, Act.put, List.setIfInBounds_toArray, List.set_cons_zero, List.set_cons_succ]
  refine wpAnyH_done (by kernel_rfl) ?_ _
  have hbF := below_then hbW hH1.2
  clear hH1
  go_wp2
  go_returns
  rw [HQ.out]
  exact ⟨A', c', rfl, own_base hown5 hbW.size, hbF⟩
--ENDREGION
theorem decomp_any {w : World} {bp n : Nat} {a : BAddr} {cls : Int → Int} {prt : Int → Option (List UInt8 × List Int)} {pr : Int × Int → Option Int} {md : Int → Option (Int × Int)} {sc : Int → Option Int} (h : BaseM w bp a n cls prt pr md sc) (r : Int) (hr : R32 r) (hk : Kinds w) :
    Calls Tryz.prog 11 #[.pointer (some ⟨bp, 0, none⟩), .int .i32 r] w (DecP (decH prt r).1 (decH prt r).2 w) := by
  unfold decH
  by_cases hh : 44032 ≤ r ∧ r < 55204
  · rw [if_pos hh]; exact decomp_hang _ r w hk hh
  · rw [if_neg hh]; exact decomp_no h r hr hk hh
theorem decomp_none (r : Int) (w : World) (hk : Kinds w) : Calls Tryz.prog 11 #[.pointer none, .int .i32 r] w (DecP (decH (fun _ => none) r).1 (decH (fun _ => none) r).2 w) := by
  unfold decH
  by_cases hh : 44032 ≤ r ∧ r < 55204
  · rw [if_pos hh]; exact decomp_hang _ r w hk hh
  · rw [if_neg hh]; exact decomp_nil r w hk hh
/-- Which character two make. -/
def pairH (pr : Int × Int → Option Int) (x y : Int) : Option Int := match pr (x, y) with | some r => some r | none => if (joinH x y).2 = true then some (joinH x y).1 else none
def pairOf (o : Option Int) : Value := .tuple #[.int .i32 (o.getD 0), .bool o.isSome]
theorem joinH_no {x y : Int} (h : (joinH x y).2 = false) : (joinH x y).1 = 0 := by
  unfold joinH at *
  split at h
  · cases h
  · split at h
    · cases h
    · rename_i h1 h2
      rw [if_neg h1, if_neg h2]
theorem pair_join (v : Value) {pr : Int × Int → Option Int} {x y : Int} (h : pr (x, y) = none) : pairOf (pairH pr x y) = .tuple #[.int .i32 (joinH x y).1, .bool (joinH x y).2] := by
  unfold pairH
  rw [h]
  cases hj : (joinH x y).2 with
  | true => rfl
  | false => rw [joinH_no hj]; rfl
theorem pair_any {w : World} {bp n : Nat} {a : BAddr} {cls : Int → Int} {prt : Int → Option (List UInt8 × List Int)} {pr : Int × Int → Option Int} {md : Int → Option (Int × Int)} {sc : Int → Option Int} (h : BaseM w bp a n cls prt pr md sc) (x y : Int) (hx : R32 x) (hy : R32 y) (hk : Kinds w) :
    Calls Tryz.prog 17 #[.pointer (some ⟨bp, 0, none⟩), .int .i32 x, .int .i32 y] w fun e w' => e = .returned (pairOf (pairH pr x y)) ∧ Below w.heap.size w w' := by
  have c2 := box_cell h.box 2 rfl
  have hm := h.pr
  obtain ⟨hx1, hx2⟩ := hx
  obtain ⟨hy1, hy2⟩ := hy
  have hxy : R32P (x, y) := ⟨⟨hx1, hx2⟩, hy1, hy2⟩
  cases hp : pr (x, y) with
  | some r =>
    have hpo : pairOf (pairH pr x y) = .tuple #[.int .i32 r, .bool true] := by unfold pairH; rw [hp]; rfl
    rw [hpo]
    go_enter Tryz.func17, Tryz.ntmps17
    go_wp2_with (first | (at_lookup; refine wpList_lookF rfl _ _ rfl pair_keyed pairsT (zero_rune _) hm (k := (x, y)) hxy rfl rfl ?_; rw [hp]) | go_in)
    go_returns
    exact ⟨rfl, Below.refl _ _⟩
  | none =>
    rw [pair_join (.bool true) hp]
    have JN := join_any x y w hk hx1 (by omega) hy1 (by omega)
    go_enter Tryz.func17, Tryz.ntmps17
    go_wp2_with (first | (at_lookup; refine wpList_lookF rfl _ _ rfl pair_keyed pairsT (zero_rune _) hm (k := (x, y)) hxy rfl rfl ?_; rw [hp]) | (go_at_call 37; refine JN.mono ?_; rintro e w1 ⟨rfl, hb⟩) | go_in)
    go_returns
    exact ⟨rfl, hb⟩
theorem pair_none (x y : Int) (w : World) (hx : R32 x) (hy : R32 y) (hk : Kinds w) :
    Calls Tryz.prog 17 #[.pointer none, .int .i32 x, .int .i32 y] w fun e w' => e = .returned (pairOf (pairH (fun _ => none) x y)) ∧ Below w.heap.size w w' := by
  obtain ⟨hx1, hx2⟩ := hx
  obtain ⟨hy1, hy2⟩ := hy
  rw [pair_join (.bool true) rfl]
  have JN := join_any x y w hk hx1 (by omega) hy1 (by omega)
  go_enter Tryz.func17, Tryz.ntmps17
  go_wp2_with fail
  refine JN.mono ?_
  rintro e w1 ⟨rfl, hb⟩
  go_wp2
  go_returns
  exact ⟨rfl, hb⟩
/-- Is a character the second one of two? -/
def secH (sc : Int → Option Int) (r : Int) : Bool := decide (0 < (sc r).getD 0) || ((joinH 4352 r).2 || (joinH 44032 r).2)
set_option maxRecDepth 20000 in
theorem sec_any {w : World} {bp n : Nat} {a : BAddr} {cls : Int → Int} {prt : Int → Option (List UInt8 × List Int)} {pr : Int × Int → Option Int} {md : Int → Option (Int × Int)} {sc : Int → Option Int} (h : BaseM w bp a n cls prt pr md sc) (r : Int) (hr : R32 r) (hk : Kinds w) :
    Calls Tryz.prog 18 #[.pointer (some ⟨bp, 0, none⟩), .int .i32 r] w fun e w' => e = .returned (.bool (secH sc r)) ∧ Below w.heap.size w w' := by
  have c4 := box_cell h.box 4 rfl
  have hm := h.sc
  unfold secH
  obtain ⟨z, hz⟩ : ∃ z, z = (sc r).getD 0 := ⟨_, rfl⟩
  rw [← hz]
  have HZ := Lib.hid hz
  clear hz
  by_cases h0 : 0 < z
  · rw [decide_eq_true h0, Bool.true_or]
    go_enter Tryz.func18, Tryz.ntmps18
    go_wp2_with (first | (at_lookup; refine wpList_lookG (by kernel_rfl) _ _ rfl rune_keyed secsT (zero_int _) hm (k := r) hr rfl rfl ?_; rw [← HZ.out]) | go_in)
    go_returns
    exact ⟨rfl, Below.refl _ _⟩
  · have h1 : z ≤ 0 := by omega
    rw [decide_eq_false h0, Bool.false_or]
    have J1 := join_any 4352 r w hk (by omega) (by omega) hr.1 (by have := hr.2; omega)
    have J2 := fun w1 h => join_any 44032 r w1 (hk.below' h) (by omega) (by omega) hr.1 (by have := hr.2; omega)
    obtain ⟨b1, hb1⟩ : ∃ b, b = (joinH 4352 r).2 := ⟨_, rfl⟩
    obtain ⟨b2, hb2⟩ : ∃ b, b = (joinH 44032 r).2 := ⟨_, rfl⟩
    rw [← hb1] at J1
    rw [← hb2] at J2
    rw [← hb1, ← hb2]
    clear hb1 hb2 h
    cases b1
    all_goals
      go_enter Tryz.func18, Tryz.ntmps18
      go_wp2_with (first | (at_lookup; refine wpList_lookG (by kernel_rfl) _ _ rfl rune_keyed secsT (zero_int _) hm (k := r) hr rfl rfl ?_; rw [← HZ.out]) | (go_at_call 37; refine J1.mono ?_; rintro e w1 ⟨rfl, hb⟩; have J3 := J2 w1 hb; clear J1 J2) | (go_at_call 37; refine J3.mono ?_; rintro e w2 ⟨rfl, hb3⟩) | go_in)
      go_returns
      exact ⟨rfl, below_then hb hb3⟩
theorem sec_none (r : Int) (w : World) (hr : R32 r) (hk : Kinds w) :
    Calls Tryz.prog 18 #[.pointer none, .int .i32 r] w fun e w' => e = .returned (.bool (secH (fun _ => none) r)) ∧ Below w.heap.size w w' := by
  have he : secH (fun _ => none) r = ((joinH 4352 r).2 || (joinH 44032 r).2) := rfl
  rw [he]
  have J1 := join_any 4352 r w hk (by omega) (by omega) hr.1 (by have := hr.2; omega)
  have J2 := fun w1 h => join_any 44032 r w1 (hk.below' h) (by omega) (by omega) hr.1 (by have := hr.2; omega)
  obtain ⟨b1, hb1⟩ : ∃ b, b = (joinH 4352 r).2 := ⟨_, rfl⟩
  obtain ⟨b2, hb2⟩ : ∃ b, b = (joinH 44032 r).2 := ⟨_, rfl⟩
  rw [← hb1] at J1
  rw [← hb2] at J2
  rw [← hb1, ← hb2]
  clear hb1 hb2 he
  go_enter Tryz.func18, Tryz.ntmps18
  go_wp2_with fail
  refine J1.mono ?_
  rintro e w1 ⟨rfl, hb⟩
  have J3 := J2 w1 hb
  clear J1 J2
  go_wp2_with fail
  refine J3.mono ?_
  rintro e w2 ⟨rfl, hb3⟩
  clear J3
  cases b1 <;> (go_wp2; go_returns; exact ⟨rfl, below_then hb hb3⟩)
end Go.Proofs.YtggichcfklbjiaaGreatDoor
end
