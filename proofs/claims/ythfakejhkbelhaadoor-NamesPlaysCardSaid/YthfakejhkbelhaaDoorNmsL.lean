/- All names listed: plain words, and the code. -/
import Derived.Test.YthfakejhkbelhaaDoorNmsK
set_option linter.unusedSimpArgs false
set_option linter.unusedVariables false
namespace Go.Proofs.YthfakejhkbelhaaDoor
open Go.RowKit Go.Lib Go.Shelf
attribute [local go_sem] Oper.semAt_some

/-- All names may be. -/
def Good (L : List Thg) : Prop := ∀ t ∈ L, mayS t.nm = 0 ∧ t.ot.length ≤ 1000000 ∧ ∀ o ∈ t.ot, mayS o = 0
/-- A name, and what else the thing is called. -/
def barF (s : List UInt8) (ot : List (List UInt8)) : List UInt8 := s ++ ot.flatMap (fun o => 124 :: o)
def lineS (L : List Thg) (s : List UInt8) : List UInt8 := match atF s L with | some i => (match L[i]? with | some u => barF s u.ot | none => []) | none => []
def listS (L : List Thg) : List (List UInt8) := L.map fun t => lineS L t.nm
theorem mayF_one : ∀ (l : List UInt8) (s : Bool), mayF s l = 0 → s = true ∨ filtL l ≠ []
  | [], s, h => by
    simp only [mayF] at h
    split at h
    · rename_i h2; exact .inl h2
    · exact absurd h (by decide)
  | b :: t, s, h => by
    rw [filtL_cons]
    by_cases hi : isB b = true
    · rw [if_pos hi]; exact .inr (by simp)
    · rw [if_neg hi]
      have hi' : isB b = false := by simpa using hi
      by_cases h2 : betB b = true
      · rw [mayF_bet hi' h2] at h; exact mayF_one t s h
      · rw [mayF_no hi' (by simpa using h2)] at h; exact absurd h (by decide)
theorem zeroF_neN : ∀ (l : List UInt8) (a : Bool), l ≠ [] → zeroF a l ≠ []
  | [], _, h => absurd rfl h
  | b :: t, a, _ => by
    simp only [zeroF]
    split
    · rename_i h
      refine zeroF_neN t false ?_
      intro e
      rw [e] at h
      exact absurd h.2.2 (by decide)
    · simp
theorem plainS_neN {s : List UInt8} (h : mayS s = 0) : plainS s ≠ [] := by
  unfold plainS
  rw [if_pos h]
  unfold mayS at h
  split at h
  · exact absurd h (by decide)
  · rcases mayF_one s false h with h | h
    · exact absurd h (by decide)
    · exact zeroF_neN _ _ h
theorem plainS_may {s : List UInt8} (h : plainS s ≠ []) : mayS s = 0 := by
  by_cases hm : mayS s = 0
  · exact hm
  · exact absurd (by unfold plainS; rw [if_neg hm]) h
theorem sameS_selfN {s : List UInt8} (h : mayS s = 0) : sameS s s = true := by
  unfold sameS
  rw [decide_eq_true_eq]
  exact ⟨plainS_neN h, rfl⟩
theorem sameS_may {a b : List UInt8} (h : sameS a b = true) : mayS b = 0 := by
  unfold sameS at h
  rw [decide_eq_true_eq] at h
  exact plainS_may (h.2 ▸ h.1)
theorem isS_may {s : List UInt8} {t : Thg} (h : isS s t = true) : mayS s = 0 := by
  unfold isS at h
  rw [Bool.or_eq_true] at h
  rcases h with h | h
  · exact sameS_may h
  · obtain ⟨o, _, ho⟩ := List.any_eq_true.1 h
    exact sameS_may ho
theorem isS_nm {t : Thg} (h : mayS t.nm = 0) : isS t.nm t = true := by
  unfold isS
  rw [sameS_selfN h]
  rfl
theorem atF_is {s : List UInt8} : ∀ {L : List Thg} {i : Nat}, atF s L = some i → ∃ t, L[i]? = some t ∧ isS s t = true
  | [], i, h => by simp [atF] at h
  | t :: l, i, h => by
    unfold atF at h
    split at h
    · injection h with h; subst h; exact ⟨t, rfl, by assumption⟩
    · obtain ⟨j, hj, rfl⟩ := Option.map_eq_some_iff.1 h
      obtain ⟨u, hu, hi⟩ := atF_is hj
      exact ⟨u, by simpa using hu, hi⟩
theorem atF_of {s : List UInt8} : ∀ {L : List Thg} {t : Thg}, t ∈ L → isS s t = true → ∃ i, atF s L = some i
  | [], t, h, _ => by simp at h
  | u :: l, t, h, hi => by
    unfold atF
    split
    · exact ⟨0, rfl⟩
    · rename_i hn
      rcases List.mem_cons.1 h with rfl | h
      · exact absurd hi hn
      · obtain ⟨i, hi⟩ := atF_of h hi
        exact ⟨i + 1, by rw [hi]; rfl⟩
theorem atF_may {s : List UInt8} {L : List Thg} {i : Nat} (h : atF s L = some i) : mayS s = 0 := by
  obtain ⟨t, _, hi⟩ := atF_is h
  exact isS_may hi
theorem good_at {L : List Thg} (hg : Good L) {t : Thg} (ht : t ∈ L) : ∃ i, atF t.nm L = some i := atF_of ht (isS_nm (hg t ht).1)
theorem bars_len : ∀ {l : List (List UInt8)}, (∀ o ∈ l, mayS o = 0) → (l.flatMap (fun o => (124 : UInt8) :: o)).length ≤ l.length * 65
  | [], _ => by simp
  | o :: l, h => by
    have h1 := (mayS_ascii (h o (by simp))).1
    have h2 := bars_len (l := l) (fun p hp => h p (by simp [hp]))
    rw [List.flatMap_cons, List.length_append, List.length_cons, List.length_cons]
    omega
end Go.Proofs.YthfakejhkbelhaaDoor
