/- How characters are told: the word, and the document's answer. -/
import Derived.Test.YtagncjnbabdbmaaGreatDoorFldT
import Derived.Test.YtagncjnbabdbmaaGreatDoorRunes
import Derived.Lib.Join
set_option linter.unusedSimpArgs false
set_option linter.unusedVariables false
namespace Go.Proofs.YtagncjnbabdbmaaGreatDoor
open Go.RowKit

def textS (zs : List Int) : List UInt8 := Lib.join (zs.map digS) [32]
theorem join_snoc (xs : List (List UInt8)) (x sep : List UInt8) : Lib.join (xs ++ [x]) sep = if xs = [] then x else Lib.join xs sep ++ sep ++ x := by
  cases xs with
  | nil => rw [if_pos rfl, List.nil_append, Lib.join_one]
  | cons y r =>
    rw [if_neg (by simp), List.cons_append, Lib.join_cons, Lib.join_cons]
    simp [Lib.joinTail]
theorem digF_len : ∀ (f n : Nat) (acc : List UInt8), (digF f n acc).length ≤ acc.length + f
  | 0, n, acc => Nat.le_refl _
  | f + 1, n, acc => by
    simp only [digF]
    split
    · have := digF_len f (n / 16) (dchar (n % 16) :: acc)
      rw [List.length_cons] at this
      omega
    · omega
theorem digS_len (r : Int) : (digS r).length ≤ 8 := by
  have := digF_len 8 (max 0 r).toNat []
  simpa [digS] using this
theorem textS_snoc {zs : List Int} {k : Nat} {z : Int} (h : zs[k]? = some z) : textS (zs.take (k + 1)) = if k = 0 then digS z else textS (zs.take k) ++ [32] ++ digS z := by
  have hk : k < zs.length := (List.getElem?_eq_some_iff.1 h).1
  unfold textS
  rw [take_snoc' h, List.map_append, List.map_cons, List.map_nil, join_snoc]
  by_cases h0 : k = 0
  · subst h0; simp
  · rw [if_neg (by simp; exact ⟨h0, by intro hz; rw [hz] at hk; simp at hk⟩), if_neg h0]
theorem textS_len (zs : List Int) : ∀ k, k ≤ zs.length → (textS (zs.take k)).length ≤ 9 * k
  | 0, _ => by simp [textS, Lib.join_nil]
  | k + 1, h => by
    have ih := textS_len zs k (by omega)
    obtain ⟨z, hz⟩ : ∃ z, zs[k]? = some z := ⟨_, List.getElem?_eq_getElem (by omega)⟩
    have hd := digS_len z
    rw [textS_snoc hz]
    split
    · omega
    · simp only [List.length_append, List.length_singleton]; omega
theorem rtext_any (A : Option Addr) (n c : Nat) (zs : List Int) (w : World) (hr : Rd w A n (Rs zs)) (hi : ∀ z ∈ zs, -2147483648 ≤ z ∧ z ≤ 2147483647) (hn : n ≤ 1000) :
    Calls Tryz.prog 42 #[.slice A n c] w fun e w' => e = .returned (.string (mk8 (textS zs))) ∧ Below w.heap.size w w' := by
  have hzl : zs.length = n := by have := hr.1; simpa using this
  have HZL := Lib.hid hzl
  clear hzl
  go_enter Tryz.func42, Tryz.ntmps42
  go_wp2
  go_loopw [3, 4] (fun s i wr => ∃ k : Nat, k ≤ n ∧ i = .int .i64 k ∧ s = .string (mk8 (textS (zs.take k))) ∧ Below w.heap.size w wr) (fun _ i _ => n - (intOf i).toNat)
  case atStart => exact ⟨0, Nat.zero_le _, rfl, rfl, Below.refl _ _⟩
  case round =>
    obtain ⟨k, hk, rfl, rfl, hb⟩ := hrel
    have hlen := textS_len zs k (by rw [HZL.out]; exact hk)
    by_cases hlt : k < n
    · obtain ⟨z, hz⟩ : ∃ z, zs[k]? = some z := ⟨_, List.getElem?_eq_getElem (by rw [HZL.out]; exact hlt)⟩
      have hzi := hi z (List.mem_of_getElem? hz)
      obtain ⟨b, off, rfl, hbl, hcx⟩ := (hr.below hb).at_ (by omega)
      have hc := hcx k (.int .i32 z) (by simp [hz])
      clear hcx
      have hst := textS_snoc hz
      have hdl := digS_len z
      have hii : (k : Int) < (n : Int) := by omega
      have hz8 : (mk8 (digS z)).size ≤ 8 := by rw [mk8_size]; exact hdl
      have HD := fun w => rdigits_any z w hzi.1 hzi.2
      clear hi hzi
      by_cases h0 : k = 0
      · rw [if_pos h0] at hst
        have HST := Lib.hid hst
        have hcat : mk8 (textS (zs.take k)) ++ mk8 (digS z) = mk8 (digS z) := bs_inj (by rw [bs_append, h0]; rfl)
        have HCAT := Lib.hid hcat
        have hsz : (mk8 (textS (zs.take k))).size ≤ 9000 := by rw [mk8_size]; omega
        have hk0 : (k : Int) ≤ 0 := by omega
        have hkk : decide ((0 : Int) < (k : Int)) = false := by simp; omega
        clear hst hcat hz hlen h0
        go_wp2_with fail
        refine (HD _).mono ?_
        rintro e w1 ⟨rfl, hb1⟩
        go_wp2
        go_roundw
        case rel => exact ⟨k + 1, by omega, by go_num, by rw [HST.out, HCAT.out], below_then hb hb1⟩
        case measure => simp [intOf]; omega
      · rw [if_neg h0] at hst
        have HST := Lib.hid hst
        have hcat : mk8 (textS (zs.take k)) ++ ⟨#[32]⟩ ++ mk8 (digS z) = mk8 (textS (zs.take k) ++ [32] ++ digS z) := bs_inj (by rw [bs_append, bs_append]; rfl)
        have HCAT := Lib.hid hcat
        have hsz : (mk8 (textS (zs.take k))).size ≤ 9000 := by rw [mk8_size]; omega
        have hk0 : (0 : Int) < (k : Int) := by omega
        clear hst hcat hz hlen h0
        go_wp2_with fail
        refine (HD _).mono ?_
        rintro e w1 ⟨rfl, hb1⟩
        go_wp2
        go_roundw
        case rel => exact ⟨k + 1, by omega, by go_num, by rw [HST.out, HCAT.out], below_then hb hb1⟩
        case measure => simp [intOf]; omega
    · have hkn : k = n := by omega
      subst hkn
      have hall : zs.take k = zs := List.take_of_length_le (by rw [HZL.out]; exact Nat.le_refl _)
      rw [hall]
      have hii : (k : Int) ≤ (k : Int) := by omega
      clear hall hlen
      go_wp2
      go_returns
      exact ⟨rfl, hb⟩
end Go.Proofs.YtagncjnbabdbmaaGreatDoor
