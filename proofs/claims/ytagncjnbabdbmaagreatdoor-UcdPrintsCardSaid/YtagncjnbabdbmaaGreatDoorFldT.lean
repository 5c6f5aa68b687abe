/- How a character is told: the word, and the document's answer. -/
import Derived.Test.YtagncjnbabdbmaaGreatDoorFldY
import Derived.Test.YtagncjnbabdbmaaGreatDoorFldR
set_option linter.unusedSimpArgs false
set_option linter.unusedVariables false
namespace Go.Proofs.YtagncjnbabdbmaaGreatDoor
open Go.RowKit

/-- A digit's letter. -/
def dchar (d : Nat) : UInt8 := if 9 < d then UInt8.ofNat (55 + d) else UInt8.ofNat (48 + d)
def digF : Nat → Nat → List UInt8 → List UInt8
  | 0, _, acc => acc
  | f + 1, n, acc => if 0 < n ∨ acc.length < 4 then digF f (n / 16) (dchar (n % 16) :: acc) else acc
def digS (r : Int) : List UInt8 := digF 8 (max 0 r).toNat []
theorem digF_more {f n : Nat} {acc : List UInt8} (h : 0 < n ∨ acc.length < 4) : digF (f + 1) n acc = digF f (n / 16) (dchar (n % 16) :: acc) := by
  simp only [digF]; rw [if_pos h]
theorem digF_end {f n : Nat} {acc : List UInt8} (h : ¬ (0 < n ∨ acc.length < 4)) : digF f n acc = acc := by
  cases f with
  | zero => rfl
  | succ f => simp only [digF]; rw [if_neg h]
theorem dchar_small {d : Nat} (h : d ≤ 9) : ((dchar d).toNat : Int) = 48 + d := by
  unfold dchar
  rw [if_neg (by omega), UInt8.toNat_ofNat', Nat.mod_eq_of_lt (by omega)]
  omega
theorem dchar_big {d : Nat} (h : 9 < d) (h2 : d < 16) : ((dchar d).toNat : Int) = 65 + d - 10 := by
  unfold dchar
  rw [if_pos h, UInt8.toNat_ofNat', Nat.mod_eq_of_lt (by omega)]
  omega
theorem one_str (w : World) (b : UInt8) : (convert 47 9 (.slice (some ⟨w.heap.size, 0, none⟩) 1 1)).run Tryz.prog (w.alloc (.cells #[.int .u8 b.toNat] 5)) = .ok (.string ⟨#[b]⟩) (w.alloc (.cells #[.int .u8 b.toNat] 5)) :=
  run_convert_bytes_back (w.alloc (.cells #[.int .u8 b.toNat] 5)) 47 9 5 ⟨w.heap.size, 0, none⟩ 1 [b] Tryz.underlying47 Tryz.underlying5 Tryz.underlying9 (by
    intro j hj
    have : j = 0 := by simp at hj; exact hj
    subst this
    exact World.cell?_alloc_at _ _ _ _ (by simp))
set_option maxRecDepth 20000 in
set_option maxHeartbeats 2000000 in
theorem rdigits_any (r : Int) (w : World) (h0 : -2147483648 ≤ r) (h1 : r ≤ 2147483647) :
    Calls Tryz.prog 66 #[.int .i32 r] w fun e w' => e = .returned (.string (mk8 (digS r))) ∧ Below w.heap.size w w' := by
  obtain ⟨m, hm, hS⟩ : ∃ m : Nat, max 0 r = (m : Int) ∧ digS r = digF 8 m [] := ⟨(max 0 r).toNat, by omega, rfl⟩
  have hm2 : m < 16 ^ 8 := by have : max 0 r ≤ 2147483647 := by omega
                              rw [hm] at this
                              omega
  rw [hS]
  clear hS
  go_enter Tryz.func66, Tryz.ntmps66
  go_wp2
  go_loopw [3, 4] (fun n v wr => ∃ (q f : Nat) (acc : List UInt8), n = .int .i64 q ∧ v = .string (mk8 acc) ∧ acc.length + f = 8 ∧ q < 16 ^ f ∧ Hid (digF 8 m [] = digF f q acc) ∧ Below w.heap.size w wr) (fun _ v _ => 8 - strLen v)
  case atStart => exact ⟨m, 8, [], rfl, rfl, rfl, hm2, rfl, Below.refl _ _⟩
  case round =>
    obtain ⟨q, f, acc, rfl, rfl, hlen, hq, HD, hb⟩ := hrel
    have hz := hb.size
    have hms := mk8_size acc
    by_cases hcont : 0 < q ∨ acc.length < 4
    · obtain ⟨f, rfl⟩ : ∃ g, f = g + 1 := by
        cases f with
        | zero => exfalso; simp at hq; omega
        | succ g => exact ⟨g, rfl⟩
      by_cases hq00 : q = 0
      · subst hq00
        have hc2 : ((mk8 acc).size : Int) < 4 := by omega
        have HD2 : Hid (digF 8 m [] = digF f 0 (48 :: acc)) := by show _ = _; rw [HD.out, digF_more hcont]; rfl
        have hcv := one_str wr 48
        rw [show ((UInt8.toNat 48 : Nat) : Int) = 48 from rfl] at hcv
        have hcat : (⟨#[48]⟩ : ByteArray) ++ mk8 acc = mk8 (48 :: acc) := bs_inj (by rw [bs_append]; rfl)
        have HCAT := Lib.hid hcat
        have HQ2 : Hid (0 < 16 ^ f) := Nat.pow_pos (by omega)
        have hmz : ((mk8 acc).size : Int) ≤ 8 := by rw [mk8_size]; omega
        clear hcat hcont hq hms
        go_wp2
        go_roundw
        case rel => exact ⟨0, f, 48 :: acc, rfl, by rw [HCAT.out], by simp; omega, HQ2.out, HD2, hb.alloc hz _⟩
        case measure => simp only [strLen]; rw [HCAT.out, mk8_size, mk8_size, List.length_cons]; omega
      have hc : (0 : Int) < (q : Int) := by omega
      have HD2 : Hid (digF 8 m [] = digF f (q / 16) (dchar (q % 16) :: acc)) := by show _ = _; rw [HD.out, digF_more hcont]
      have hq2 : q / 16 < 16 ^ f := by rw [Nat.pow_succ] at hq; omega
      have hq0 : (0 : Int) ≤ (q : Int) := by omega
      have hq9 : (q : Int) ≤ 4294967296 := by
        have : (16 : Nat) ^ (f + 1) ≤ 16 ^ 8 := Nat.pow_le_pow_right (by omega) (by omega)
        have h8 : (16 : Nat) ^ 8 = 4294967296 := rfl
        omega
      obtain ⟨d, hd⟩ : ∃ d, d = q % 16 := ⟨_, rfl⟩
      have hd16 : d < 16 := by omega
      rw [← hd] at HD2
      have hmod : Int.tmod (q : Int) 16 = (d : Int) := by rw [hd]; rfl
      obtain ⟨e, he⟩ : ∃ e, e = q / 16 := ⟨_, rfl⟩
      have hdiv : Int.tdiv (q : Int) 16 = (e : Int) := by rw [he]; rfl
      rw [← he] at HD2 hq2
      have he9 : (e : Int) ≤ 4294967296 := by omega
      have HQ2 := Lib.hid hq2
      clear hcont hq hms hd hq2 he
      have hmz : ((mk8 acc).size : Int) ≤ 8 := by rw [mk8_size]; omega
      have hcat : (⟨#[dchar d]⟩ : ByteArray) ++ mk8 acc = mk8 (dchar d :: acc) := bs_inj (by rw [bs_append]; rfl)
      have HCAT := Lib.hid hcat
      clear hcat
      by_cases h9 : d ≤ 9
      · have hcv := one_str wr (dchar d)
        rw [dchar_small h9] at hcv
        have h9i : (d : Int) ≤ 9 := by omega
        go_wp2
        go_roundw
        case rel => exact ⟨e, f, dchar d :: acc, by go_num, by rw [HCAT.out], by simp; omega, HQ2.out, HD2, hb.alloc hz _⟩
        case measure => simp only [strLen]; rw [HCAT.out, mk8_size, mk8_size, List.length_cons]; omega
      · have hcv := one_str wr (dchar d)
        rw [dchar_big (by omega) hd16] at hcv
        have h9i : (9 : Int) < (d : Int) := by omega
        go_wp2
        go_roundw
        case rel => exact ⟨e, f, dchar d :: acc, by go_num, by rw [HCAT.out], by simp; omega, HQ2.out, HD2, hb.alloc hz _⟩
        case measure => simp only [strLen]; rw [HCAT.out, mk8_size, mk8_size, List.length_cons]; omega
    · have HD2 : Hid (digF 8 m [] = acc) := by show _ = _; rw [HD.out, digF_end hcont]
      have c1 : (q : Int) ≤ 0 := by omega
      have c2 : (4 : Int) ≤ ((mk8 acc).size : Int) := by omega
      clear hcont hq hms
      go_wp2
      go_returns
      exact ⟨ret_str (by rw [HD2.out]), hb⟩
end Go.Proofs.YtagncjnbabdbmaaGreatDoor
