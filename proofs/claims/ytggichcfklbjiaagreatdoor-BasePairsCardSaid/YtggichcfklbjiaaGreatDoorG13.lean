/- The chapter's examples: true, whatever the world. Characters, and bytes, that two texts tell, one behind the other: plain words. No program stands here. -/
import Derived.Test.YtggichcfklbjiaaGreatDoorG12
import Derived.Test.YtggichcfklbjiaaGreatDoorG09
section
set_option linter.unusedSimpArgs false
set_option linter.unusedVariables false
namespace Go.Proofs.YtggichcfklbjiaaGreatDoor
open Go.RowKit

theorem aw1 : linesS (bs ⟨#[97, 32, 35, 32, 98, 10, 32, 9, 10, 99]⟩) = ([(1, [97]), (3, [99])], 0) := by kernel_rfl
theorem aw2 : rangeS (bs ⟨#[48, 48, 52, 49, 46, 46, 48, 48, 53, 65]⟩) = (65, 90, 0) := by kernel_rfl
theorem aw3 : bytesS (bs ⟨#[48, 120]⟩) (bs ⟨#[48, 120, 56, 49, 52, 48]⟩) = ([], 10) := by kernel_rfl
theorem aw4 : bytesS (bs ⟨#[92, 120]⟩) (bs ⟨#[92, 120, 56, 49, 92, 120, 52, 48]⟩) = ([129, 64], 0) := by kernel_rfl
theorem own_at {w : World} {B k : Nat} {e : TypeId} {A : Option Addr} {c n : Nat} {xs : List Value} (h : w.ownsRow B e k (.slice A n c) n xs) (hn : 0 < n) :
    ∃ g, A = some ⟨g, 0, none⟩ ∧ ∀ j u, xs[j]? = some u → w.cell? ⟨g, j, none⟩ = some u := by
  rcases h.2 with ⟨_, h0⟩ | ⟨g, cap, cur, hv, _, hh, _, _, _, htake⟩
  · omega
  · injection hv with hA _ _
    refine ⟨g, hA, fun j u hu => ?_⟩
    rw [cell_of_row w g j cur e (0, 0) hh]
    rw [← htake, List.getElem?_take] at hu
    split at hu
    · simpa using hu
    · cases hu
end Go.Proofs.YtggichcfklbjiaaGreatDoor
end

section
set_option linter.unusedSimpArgs false
set_option linter.unusedVariables false
namespace Go.Proofs.YtggichcfklbjiaaGreatDoor
open Go.RowKit

theorem words_append : ∀ (l w t : List UInt8), wordsFrom w (l ++ 32 :: t) = wordsFrom w l ++ wordsFrom [] t
  | [], w, t => by
    rw [List.nil_append, words_blank w t (by decide)]
    by_cases h : w = [] <;> simp [wordsFrom, h]
  | b :: l, w, t => by
    rw [List.cons_append]
    by_cases hb : blankB b = true
    · rw [words_blank _ _ hb, words_blank _ _ hb]
      by_cases hw : w = []
      · rw [if_pos hw, if_pos hw, words_append l [] t]
      · rw [if_neg hw, if_neg hw, words_append l [] t, List.cons_append]
    · have hb' : blankB b = false := by simpa using hb
      rw [words_more _ _ hb', words_more _ _ hb', words_append l (w ++ [b]) t]
theorem runesW_out : ∀ (ws : List (List UInt8)) (out : List Int), runesW out ws = if (runesW [] ws).2 = 0 then (out ++ (runesW [] ws).1, 0) else ([], (runesW [] ws).2)
  | [], out => by simp [runesW]
  | w :: ws, out => by
    by_cases h : (hexS w).2 = 0
    · rw [runesW_good h, runesW_good h, runesW_out ws (out ++ [(hexS w).1]), runesW_out ws ([] ++ [(hexS w).1])]
      by_cases h2 : (runesW [] ws).2 = 0
      · simp [h2]
      · simp [h2]
    · rw [runesW_bad h, runesW_bad h, if_neg h]
theorem runesW_append : ∀ (ws vs : List (List UInt8)) (out : List Int), runesW out (ws ++ vs) = if (runesW out ws).2 = 0 then runesW (runesW out ws).1 vs else ([], (runesW out ws).2)
  | [], vs, out => by simp [runesW]
  | w :: ws, vs, out => by
    rw [List.cons_append]
    by_cases h : (hexS w).2 = 0
    · rw [runesW_good h, runesW_good h, runesW_append ws vs _]
    · rw [runesW_bad h, runesW_bad h, if_neg h]
/-- The characters of two texts with a blank between them. -/
theorem runesS_two (s t : List UInt8) : runesS (s ++ [32] ++ t) = if (runesS s).2 = 0 then (if (runesS t).2 = 0 then ((runesS s).1 ++ (runesS t).1, 0) else ([], (runesS t).2)) else ([], (runesS s).2) := by
  unfold runesS wordsL
  rw [List.append_assoc, List.singleton_append, words_append, runesW_append]
  split
  · rw [runesW_out]
  · rfl

/-- Bytes told by two digits each. -/
def hexPairs : List UInt8 → Option (List UInt8)
  | [] => some []
  | [_] => none
  | b :: c :: t => if numS 16 2 [b, c] < 0 then none else (hexPairs t).map (UInt8.ofNat (numS 16 2 [b, c]).toNat :: ·)
def bytesP (out : List UInt8) : Option (List UInt8) → List UInt8 × Int
  | some l => if out ++ l = [] then ([], 10) else (out ++ l, 0)
  | none => ([], 10)
theorem bytesF_pairs : ∀ (f : Nat) (out s : List UInt8), s.length < f → bytesF [] f out s = bytesP out (hexPairs s)
  | 0, out, s, h => by omega
  | f + 1, out, s, h => by
    match s, h with
    | [], _ =>
      by_cases ho : out = []
      · subst ho; rfl
      · rw [bytesF_end ho rfl]
        simp [hexPairs, bytesP, ho]
    | [b], _ =>
      rw [bytesF_no (by simp) (by simp)]
      rfl
    | b :: c :: t, h =>
      have hpre : Lib.hasPrefix (b :: c :: t) [] = true ∧ 2 ≤ (List.drop ([] : List UInt8).length (b :: c :: t)).length := ⟨rfl, by simp⟩
      have h1 : ¬ (out ≠ [] ∧ b :: c :: t = []) := by simp
      by_cases hn : numS 16 2 [b, c] < 0
      · rw [bytesF_bad h1 hpre hn]
        simp only [hexPairs]
        rw [if_pos hn]
        rfl
      · rw [bytesF_more h1 hpre hn]
        simp only [hexPairs]
        rw [if_neg hn]
        show bytesF [] f (out ++ [UInt8.ofNat (numS 16 2 [b, c]).toNat]) t = _
        rw [bytesF_pairs f _ t (by simp at h; omega)]
        cases hexPairs t with
        | none => rfl
        | some l => simp [bytesP]
theorem hexPairs_append : ∀ (n : Nat) (a b x : List UInt8), a.length ≤ n → hexPairs a = some x → hexPairs (a ++ b) = (hexPairs b).map (x ++ ·)
  | _, [], b, x, _, h => by
    simp [hexPairs] at h
    subst h
    simp
  | _, [c], b, x, _, h => by simp [hexPairs] at h
  | 0, c :: d :: t, b, x, hn, h => by simp at hn
  | n + 1, c :: d :: t, b, x, hn, h => by
    simp only [hexPairs] at h
    split at h
    · cases h
    · rename_i hx
      obtain ⟨y, hy, rfl⟩ := Option.map_eq_some_iff.1 h
      simp only [List.cons_append, hexPairs]
      rw [if_neg hx, hexPairs_append n t b y (by simp at hn; omega) hy]
      cases hexPairs b <;> simp
theorem bytesS_two {a b : List UInt8} (ha : (bytesS [] a).2 = 0) (hb : (bytesS [] b).2 = 0) : bytesS [] (a ++ b) = ((bytesS [] a).1 ++ (bytesS [] b).1, 0) := by
  unfold bytesS at ha hb ⊢
  rw [bytesF_pairs _ _ _ (Nat.lt_succ_self _)] at ha hb ⊢
  rw [bytesF_pairs _ _ _ (Nat.lt_succ_self _), bytesF_pairs _ _ _ (Nat.lt_succ_self _)]
  cases hx : hexPairs a with
  | none => rw [hx] at ha; simp [bytesP] at ha
  | some x =>
    cases hy : hexPairs b with
    | none => rw [hy] at hb; simp [bytesP] at hb
    | some y =>
      rw [hx] at ha
      rw [hy] at hb
      rw [hexPairs_append _ a b x (Nat.le_refl _) hx, hy]
      simp only [bytesP, List.nil_append, Option.map_some] at ha hb ⊢
      by_cases h1 : x = []
      · simp [h1] at ha
      · by_cases h2 : y = []
        · simp [h2] at hb
        · simp [h1, h2]
end Go.Proofs.YtggichcfklbjiaaGreatDoor
end
