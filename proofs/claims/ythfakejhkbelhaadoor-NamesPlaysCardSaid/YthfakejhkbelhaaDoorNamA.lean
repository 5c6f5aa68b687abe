/- Which names may be: the code, and the document's answer. -/
import Derived.Test.YthfakejhkbelhaaDoorNamSpec
import Derived.Test.YthfakejhkbelhaaDoorShelf
import Derived.Test.YthfakejhkbelhaaDoorRows
import Derived.Test.YthfakejhkbelhaaDoorMem
set_option linter.unusedSimpArgs false
set_option linter.unusedVariables false
namespace Go.Proofs.YthfakejhkbelhaaDoor
open Go.RowKit Go.Lib

theorem index_at (s : ByteArray) (i : Int) (k : Nat) (hk : k < s.size) (h : i = (k : Int)) (w : World) : (Instr.index 9 (.string s) (.int .i64 i)).run Tryd.prog w = .ok (.int .u8 (s[k]'hk).toNat) w := by
  subst h
  rw [run_index_string w 9 s .i64 k Tryd.underlying9, dif_pos ⟨by omega, by omega⟩]
  rfl
theorem slice_at (s : ByteArray) (i j : Int) (a b : Nat) (h1 : a ≤ b) (h2 : b ≤ s.size) (hi : i = (a : Int)) (hj : j = (b : Int)) (w : World) :
    (Instr.slice 9 (.string s) (some (.int .i64 i)) (some (.int .i64 j)) none).run Tryd.prog w = .ok (.string (s.extract a b)) w := by
  subst hi hj
  exact run_slice_string w 9 s .i64 .i64 a b Tryd.underlying9 (by omega) (by omega) (by omega)
theorem str_eq_self (s : ByteArray) : (s == s) = true := by
  cases s with | mk a => show (a == a) = true; simp
theorem str_ne_self (s : ByteArray) : (s != s) = false := by
  show (!(s == s)) = false
  rw [str_eq_self]; rfl
theorem byte_lt (s : ByteArray) (k : Nat) (h : k < s.size) : (s[k]'h).toNat < 256 := UInt8.toNat_lt _
theorem ret_bool' {a b : Bool} (h : a = b) : Ending.returned (.bool a) = .returned (.bool b) := by rw [h]
theorem ret_i64' {a b : Int} (h : a = b) : Ending.returned (.int .i64 a) = .returned (.int .i64 b) := by rw [h]
theorem ret_u8' {a b : Int} (h : a = b) : Ending.returned (.int .u8 a) = .returned (.int .u8 b) := by rw [h]
/-- Go's own tables lie in their variables. -/
def EnvN (w : World) : Prop := CaseVar 0 caseA w ∧ Lib.Utf8Tabs 2 3 w
theorem EnvN.below {w w' : World} (h : EnvN w) (hb : Below w.heap.size w w') : EnvN w' := ⟨CaseVar_below h.1 hb, Utf8Tabs_below h.2 hb⟩

theorem ndigit_any (b : Int) (w : World) : Calls Tryd.prog 30 #[.int .u8 b] w fun e w' => e = .returned (.bool (digI b)) ∧ w = w' := by
  rcases (show b < 48 ∨ (48 ≤ b ∧ b ≤ 57) ∨ 57 < b by omega) with h | ⟨h, h'⟩ | h
  all_goals
    go_enter Tryd.func30, Tryd.ntmps30
    go_wp2
    go_returns
    exact ⟨ret_bool' (by unfold digI; symm; first | (rw [decide_eq_true_iff]; omega) | (rw [decide_eq_false_iff_not]; omega) | (rw [Bool.eq_iff_iff]; simp; omega)), rfl⟩
theorem nletter_any (b : Int) (w : World) : Calls Tryd.prog 31 #[.int .u8 b] w fun e w' => e = .returned (.bool (ltrI b)) ∧ w = w' := by
  rcases (show b < 97 ∨ (97 ≤ b ∧ b ≤ 122) ∨ 122 < b by omega) with h | ⟨h, h'⟩ | h
  all_goals
    go_enter Tryd.func31, Tryd.ntmps31
    go_wp2
    go_returns
    exact ⟨ret_bool' (by unfold ltrI; symm; first | (rw [decide_eq_true_iff]; omega) | (rw [decide_eq_false_iff_not]; omega) | (rw [Bool.eq_iff_iff]; simp; omega)), rfl⟩
theorem rdig_any (b : Int) (w : World) : Calls Tryd.prog 27 #[.int .u8 b] w fun e w' => e = .returned (.bool (digI b)) ∧ w = w' := by
  rcases (show b < 48 ∨ (48 ≤ b ∧ b ≤ 57) ∨ 57 < b by omega) with h | ⟨h, h'⟩ | h
  all_goals
    go_enter Tryd.func27, Tryd.ntmps27
    go_wp2
    go_returns
    exact ⟨ret_bool' (by unfold digI; symm; first | (rw [decide_eq_true_iff]; omega) | (rw [decide_eq_false_iff_not]; omega) | (rw [Bool.eq_iff_iff]; simp; omega)), rfl⟩
/-- A letter, small; 0: none. -/
def smallI (x : UInt8) : Int := if ltrI (lowN x).toNat = true then (lowN x).toNat else 0
theorem smallI_cases (x : UInt8) : (x.toNat < 65 ∧ smallI x = 0) ∨ (65 ≤ x.toNat ∧ x.toNat ≤ 90 ∧ smallI x = x.toNat + 32) ∨ (90 < x.toNat ∧ x.toNat < 97 ∧ smallI x = 0) ∨ (97 ≤ x.toNat ∧ x.toNat ≤ 122 ∧ smallI x = x.toNat) ∨ (122 < x.toNat ∧ smallI x = 0) := by
  unfold smallI ltrI
  by_cases h : 65 ≤ x.toNat ∧ x.toNat ≤ 90
  · rw [lowN_up h, if_pos (by rw [decide_eq_true_eq]; omega)]
    omega
  · rw [lowN_no h]
    by_cases h2 : 97 ≤ x.toNat ∧ x.toNat ≤ 122
    · rw [if_pos (by rw [decide_eq_true_eq]; omega)]
      omega
    · rw [if_neg (by rw [decide_eq_true_eq]; omega)]
      omega
set_option maxRecDepth 20000 in
theorem small_any (x : UInt8) (w : World) : Calls Tryd.prog 28 #[.int .u8 x.toNat] w fun e w' => e = .returned (.int .u8 (smallI x)) ∧ w = w' := by
  have hc := smallI_cases x
  obtain ⟨n, hn⟩ : ∃ n, n = smallI x := ⟨_, rfl⟩
  obtain ⟨b, hb⟩ : ∃ b : Nat, b = x.toNat := ⟨_, rfl⟩
  rw [← hn, ← hb] at hc
  rw [← hn, ← hb]
  clear hn hb
  have h0 : (0 : Int) ≤ (b : Int) := by omega
  rcases hc with ⟨h, rfl⟩ | ⟨h, h', rfl⟩ | ⟨h, h', rfl⟩ | ⟨h, h', rfl⟩ | ⟨h, rfl⟩
  all_goals
    go_enter Tryd.func28, Tryd.ntmps28
    go_wp2
    go_returns
    exact ⟨rfl, rfl⟩
set_option maxRecDepth 20000 in
theorem between_any (x : UInt8) (w : World) : Calls Tryd.prog 33 #[.int .u8 x.toNat] w fun e w' => e = .returned (.bool (betB x)) ∧ w = w' := by
  by_cases h : x = 45 ∨ x = 95 ∨ x = 46 ∨ x = 58 ∨ x = 43 ∨ x = 40 ∨ x = 41 ∨ x = 32
  · rcases h with rfl | rfl | rfl | rfl | rfl | rfl | rfl | rfl
    all_goals
      go_enter Tryd.func33, Tryd.ntmps33
      go_wp2
      go_returns
      exact ⟨rfl, rfl⟩
  · have hb : betB x = false := by unfold betB; rw [decide_eq_false_iff_not]; exact h
    rw [hb]
    have e : ∀ c : UInt8, x ≠ c → (((x.toNat : Nat) : Int) == ((c.toNat : Nat) : Int)) = false := fun c hc => by
      rw [beq_eq_false_iff_ne]
      intro hh
      exact hc (UInt8.toNat_inj.1 (by omega))
    have e1 := e 45 (fun hh => h (by simp [hh]))
    have e2 := e 95 (fun hh => h (by simp [hh]))
    have e3 := e 46 (fun hh => h (by simp [hh]))
    have e4 := e 58 (fun hh => h (by simp [hh]))
    have e5 := e 43 (fun hh => h (by simp [hh]))
    have e6 := e 40 (fun hh => h (by simp [hh]))
    have e7 := e 41 (fun hh => h (by simp [hh]))
    have e8 := e 32 (fun hh => h (by simp [hh]))
    clear e h hb
    rw [show ((UInt8.toNat 45 : Nat) : Int) = 45 from rfl] at e1
    rw [show ((UInt8.toNat 95 : Nat) : Int) = 95 from rfl] at e2
    rw [show ((UInt8.toNat 46 : Nat) : Int) = 46 from rfl] at e3
    rw [show ((UInt8.toNat 58 : Nat) : Int) = 58 from rfl] at e4
    rw [show ((UInt8.toNat 43 : Nat) : Int) = 43 from rfl] at e5
    rw [show ((UInt8.toNat 40 : Nat) : Int) = 40 from rfl] at e6
    rw [show ((UInt8.toNat 41 : Nat) : Int) = 41 from rfl] at e7
    rw [show ((UInt8.toNat 32 : Nat) : Int) = 32 from rfl] at e8
    go_enter Tryd.func33, Tryd.ntmps33
    go_wp2
    go_returns
    exact ⟨rfl, rfl⟩
/-- ToLower of one byte. -/
theorem low1_any (s : ByteArray) (k : Nat) (hk : k < s.size) (w : World) (hE : EnvN w) :
    Calls Tryd.prog 29 #[.string (s.extract k (k + 1))] w fun e w' => e = .returned (.string (mk8 (lowL (s[k]'hk)))) ∧ Below w.heap.size w w' := by
  have he : s.extract k (k + 1) = mk8 [s[k]'hk] := by
    refine bs_inj ?_
    have hlk : ((bs s).take k).length = k := by rw [List.length_take, bs_length]; omega
    rw [bs_extract, take_snocB hk, List.drop_append, List.drop_of_length_le (Nat.le_of_eq hlk), hlk]
    simp [bs_mk8]
  rw [he]
  have hdat : (mk8 [s[k]'hk]).data.toList = [s[k]'hk] := rfl
  unfold lowL
  by_cases h : (s[k]'hk).toNat < 128
  · rw [if_pos h]
    have := Tryd.strings_ToLower_ascii (mk8 [s[k]'hk]) w (by rw [mk8_size]; simp) (fun j b hb => by
      rw [hdat] at hb
      have : b ∈ [s[k]'hk] := List.mem_of_getElem? hb
      rw [List.mem_singleton] at this
      rw [this]; exact h)
    rw [hdat] at this
    unfold Lib.toLowerA at this
    simp only [List.map_cons, List.map_nil, lowerB_eq] at this
    exact this
  · rw [if_neg h]
    have := Tryd.strings_ToLower_any (mk8 [s[k]'hk]) w (by rw [mk8_size]; simp) hE.1 hE.2
    rw [hdat, toLower_high (by omega)] at this
    exact this
theorem low0_index (x : UInt8) (w : World) : (Instr.index 9 (.string (mk8 (lowL x))) (.int .i64 0)).run Tryd.prog w = .ok (.int .u8 (low0 x).toNat) w := by
  unfold lowL low0
  by_cases h : x.toNat < 128
  · rw [if_pos h, if_pos h]
    exact index_at (mk8 [lowN x]) 0 0 (by rw [mk8_size]; simp) rfl w
  · rw [if_neg h, if_neg h]
    exact index_at (mk8 [239, 191, 189]) 0 0 (by rw [mk8_size]; decide) rfl w
set_option maxRecDepth 100000 in
theorem idx_any (x : UInt8) (w : World) : Calls Tryd.prog 32 #[.string ⟨#[45, 95, 46, 58, 43, 40, 41, 32]⟩, .int .u8 x.toNat] w fun e w' => ∃ i : Int, e = .returned (.int .i64 i) ∧ w = w' ∧ (if betB x = true then 0 ≤ i else i < 0) := by
  refine (Tryd.strings_IndexByte ⟨#[45, 95, 46, 58, 43, 40, 41, 32]⟩ x.toNat w).mono ?_
  rintro e w' ⟨rfl, rfl⟩
  have hx : ((x.toNat : Nat) : Int).toNat.toUInt8 = x := by simp
  rw [hx]
  refine ⟨_, rfl, rfl, ?_⟩
  have hall : ∀ n : Nat, n < 256 → (if betB (UInt8.ofNat n) = true then 0 ≤ Lib.indexByte [45, 95, 46, 58, 43, 40, 41, 32] (UInt8.ofNat n) else Lib.indexByte [45, 95, 46, 58, 43, 40, 41, 32] (UInt8.ofNat n) < 0) := by decide
  have := hall x.toNat (UInt8.toNat_lt x)
  rw [show UInt8.ofNat x.toNat = x from by simp] at this
  exact this
end Go.Proofs.YthfakejhkbelhaaDoor
