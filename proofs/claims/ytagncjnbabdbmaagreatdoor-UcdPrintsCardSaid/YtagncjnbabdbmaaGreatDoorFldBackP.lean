/- What a character that is told tells: plain words. No program stands here. -/
import Derived.Test.YtagncjnbabdbmaaGreatDoorFldT2
import Derived.Test.YtagncjnbabdbmaaGreatDoorFldJoin
import Derived.Test.YtagncjnbabdbmaaGreatDoorFldC
set_option linter.unusedSimpArgs false
set_option linter.unusedVariables false
namespace Go.Proofs.YtagncjnbabdbmaaGreatDoor
open Go.RowKit

theorem dchar_hex : ∀ d, d < 16 → hexDigit ((dchar d).toNat : Int) = d ∧ blankB (dchar d) = false ∧ dchar d ≠ 46 := by decide
theorem digF_num : ∀ (f q : Nat) (acc : List UInt8), q < 16 ^ f → numFrom 16 0 (digF f q acc) = numFrom 16 q acc
  | 0, q, acc, h => by
    have : q = 0 := by simp at h; exact h
    subst this; rfl
  | f + 1, q, acc, h => by
    by_cases hc : 0 < q ∨ acc.length < 4
    · have hd := dchar_hex (q % 16) (Nat.mod_lt _ (by omega))
      rw [digF_more hc, digF_num f (q / 16) _ (by rw [Nat.pow_succ] at h; omega), numFrom_good (by rw [hd.1]; omega) (by rw [hd.1]; omega), hd.1]
      congr 1
      omega
    · have : q = 0 := by omega
      rw [digF_end hc]
      subst this; rfl
theorem digF_le : ∀ (f q g : Nat) (acc : List UInt8), q < 16 ^ g → acc.length + g ≤ 6 → (digF f q acc).length ≤ 6
  | 0, q, g, acc, _, h => by simp only [digF]; omega
  | f + 1, q, g, acc, hq, h => by
    by_cases hc : 0 < q ∨ acc.length < 4
    · rw [digF_more hc]
      cases g with
      | zero =>
        have : q = 0 := by simp at hq; exact hq
        subst this
        exact digF_le f 0 0 _ (by decide) (by simp; omega)
      | succ g => exact digF_le f (q / 16) g _ (by rw [Nat.pow_succ] at hq; omega) (by simp; omega)
    · rw [digF_end hc]; omega
theorem digF_ge : ∀ (f q : Nat) (acc : List UInt8), acc.length ≤ (digF f q acc).length
  | 0, q, acc => Nat.le_refl _
  | f + 1, q, acc => by
    by_cases hc : 0 < q ∨ acc.length < 4
    · rw [digF_more hc]
      have := digF_ge f (q / 16) (dchar (q % 16) :: acc)
      rw [List.length_cons] at this
      omega
    · rw [digF_end hc]; exact Nat.le_refl _
theorem digF_all (P : UInt8 → Prop) (hP : ∀ d, d < 16 → P (dchar d)) : ∀ (f q : Nat) (acc : List UInt8), (∀ b ∈ acc, P b) → ∀ b ∈ digF f q acc, P b
  | 0, q, acc, h => h
  | f + 1, q, acc, h => by
    by_cases hc : 0 < q ∨ acc.length < 4
    · rw [digF_more hc]
      refine digF_all P hP f (q / 16) _ (fun b hb => ?_)
      rcases List.mem_cons.1 hb with rfl | hb
      · exact hP _ (Nat.mod_lt _ (by omega))
      · exact h b hb
    · rw [digF_end hc]; exact h
theorem digS_blank (r : Int) : ∀ b ∈ digS r, blankB b = false := digF_all (fun b => blankB b = false) (fun d h => (dchar_hex d h).2.1) 8 _ [] (by simp)
theorem digS_dot (r : Int) : ∀ b ∈ digS r, b ≠ 46 := digF_all (fun b => b ≠ 46) (fun d h => (dchar_hex d h).2.2) 8 _ [] (by simp)
theorem digS_ne (r : Int) : digS r ≠ [] := by
  intro h
  have h1 := digF_ge 7 ((max 0 r).toNat / 16) [dchar ((max 0 r).toNat % 16)]
  have h2 : digS r = digF 7 ((max 0 r).toNat / 16) [dchar ((max 0 r).toNat % 16)] := digF_more (.inr (by decide))
  rw [← h2, h] at h1
  simp at h1
theorem scalar_bd {r : Int} (h : scalarB r = true) : 0 ≤ r ∧ r ≤ 1114111 := by
  simp only [scalarB, decide_eq_true_eq] at h
  omega
theorem hexS_back {r : Int} (h : scalarB r = true) : hexS (digS r) = (r, 0) := by
  have hb := scalar_bd h
  have h6 : (digS r).length ≤ 6 := digF_le 8 _ 6 [] (by have h16 : (16 : Nat) ^ 6 = 16777216 := rfl; omega) (by decide)
  have h1 : 0 < (digS r).length := List.length_pos_iff.2 (digS_ne r)
  have hn : numS 16 6 (digS r) = r := by
    unfold numS
    rw [if_neg (by omega)]
    unfold digS
    rw [digF_num 8 _ [] (by have h16 : (16 : Nat) ^ 8 = 4294967296 := rfl; omega)]
    show (((max 0 r).toNat : Nat) : Int) = r
    omega
  unfold hexS
  rw [hn, if_neg (by omega), if_pos h]
theorem words_dig (r : Int) : wordsL (digS r) = [digS r] := by
  have := words_take (digS r).length (digS r) [] (Nat.le_refl _) (fun j _ b hb => digS_blank r b (List.mem_of_getElem? hb))
  unfold wordsL
  rw [this]
  simp [wordsFrom, digS_ne]
theorem runesS_dig {r : Int} (h : scalarB r = true) : runesS (digS r) = ([r], 0) := by
  unfold runesS
  rw [words_dig]
  simp [runesW, hexS_back h]
theorem runesS_text {zs : List Int} (h : ∀ z ∈ zs, scalarB z = true) : ∀ k, k ≤ zs.length → runesS (textS (zs.take k)) = (zs.take k, 0)
  | 0, _ => by rfl
  | k + 1, hk => by
    have ih := runesS_text h k (by omega)
    obtain ⟨z, hz⟩ : ∃ z, zs[k]? = some z := ⟨_, List.getElem?_eq_getElem (by omega)⟩
    have hs := runesS_dig (h z (List.mem_of_getElem? hz))
    rw [textS_snoc hz, take_snoc' hz]
    split
    · rename_i h0; subst h0; simpa using hs
    · rw [runesS_two, ih, hs]; simp
theorem runesS_back {zs : List Int} (h : ∀ z ∈ zs, scalarB z = true) : runesS (textS zs) = (zs, 0) := by
  have := runesS_text h zs.length (Nat.le_refl _)
  rwa [List.take_length] at this
theorem no_dots {l : List UInt8} (h : ∀ b ∈ l, b ≠ 46) : Lib.index l [46, 46] = -1 := by
  induction l with
  | nil => rfl
  | cons b t ih =>
    have hb : b ≠ 46 := h b (by simp)
    have := ih (fun c hc => h c (by simp [hc]))
    simp only [Lib.index, this]
    have hp : [46, 46].isPrefixOf (b :: t) = false := by
      simp only [List.isPrefixOf, Bool.and_eq_false_iff]
      left
      simpa using fun e => hb e.symm
    rw [hp]
    rfl
theorem rangeS_dig {r : Int} (h : scalarB r = true) : rangeS (digS r) = (r, r, 0) := by
  have hn := no_dots (digS_dot r)
  have hc : Lib.cut (digS r) [46, 46] = (digS r, [], false) := by unfold Lib.cut; rw [hn]; rfl
  have hx := hexS_back h
  unfold rangeS
  rw [hc]
  simp [rangeT, hx]
theorem strips_id {l : List UInt8} (h : ∀ b ∈ l, blankB b = false) : lstrip l = l ∧ rstrip l = l := by
  constructor
  · cases l with
    | nil => rfl
    | cons b t => exact lstrip_no (h b (by simp))
  · rcases List.eq_nil_or_concat l with rfl | ⟨t, b, rfl⟩
    · rfl
    · rw [List.concat_eq_append] at h ⊢
      exact rstrip_no (h b (by simp))
theorem bare_dig (r : Int) : bareL (32 :: digS r) = digS r := by
  have h := strips_id (digS_blank r)
  unfold bareL
  rw [lstrip_yes (by decide), h.1, h.2]
theorem rangeS_two {r : Int} (h : scalarB r = true) : rangeS (digS 0 ++ [32, 46, 46, 32] ++ digS r) = (0, r, 0) := by
  have h0 : digS 0 = [48, 48, 48, 48] := rfl
  have hi : Lib.index (digS 0 ++ [32, 46, 46, 32] ++ digS r) [46, 46] = 5 := by
    rw [h0]
    simp [Lib.index, List.isPrefixOf]
  have hc : Lib.cut (digS 0 ++ [32, 46, 46, 32] ++ digS r) [46, 46] = ([48, 48, 48, 48, 32], 32 :: digS r, true) := by
    unfold Lib.cut
    rw [hi, h0]
    rfl
  have hx := hexS_back h
  have hb := (scalar_bd h).1
  unfold rangeS
  rw [hc]
  show rangeT (bareL [48, 48, 48, 48, 32]) (bareL (32 :: digS r)) = _
  rw [bare_dig, show bareL [48, 48, 48, 48, 32] = [48, 48, 48, 48] from by decide]
  have h00 : hexS [48, 48, 48, 48] = (0, 0) := by decide
  simp [rangeT, hx, h00]
  omega
end Go.Proofs.YtagncjnbabdbmaaGreatDoor
