/- The document's answer for bytes that a text tells: plain words. No program stands here. The document's answer for bytes that a text tells: the walk. -/
import Derived.Test.YtggichcfklbjiaaGreatDoorG12
import Derived.Test.YtggichcfklbjiaaGreatDoorG18
import Derived.Test.YtggichcfklbjiaaGreatDoorG15
import Derived.Deep.RegionLaw
section
set_option linter.unusedSimpArgs false
set_option linter.unusedVariables false
namespace Go.Proofs.YtggichcfklbjiaaGreatDoor
open Go.RowKit

theorem pre_take : ∀ (p l : List UInt8), Lib.hasPrefix l p = true ↔ l.take p.length = p
  | [], l => by simp [Lib.hasPrefix]
  | a :: p, [] => by simp [Lib.hasPrefix]
  | a :: p, b :: l => by
    have ih := pre_take p l
    simp only [Lib.hasPrefix] at ih
    simp only [Lib.hasPrefix, List.isPrefixOf, Bool.and_eq_true, ih, List.length_cons, List.take_succ_cons, List.cons.injEq, beq_iff_eq]
    exact ⟨fun h => ⟨h.1.symm, h.2⟩, fun h => ⟨h.1.symm, h.2⟩⟩
theorem drop_pre {s ahead : ByteArray} {k : Nat} : Lib.hasPrefix ((bs s).drop k) (bs ahead) = true ↔ s.extract k (k + ahead.size) = ahead := by
  rw [pre_take, bs_length]
  have he : bs (s.extract k (k + ahead.size)) = ((bs s).drop k).take ahead.size := by
    rw [bs_extract, List.drop_take, Nat.add_sub_cancel_left]
  constructor
  · intro h; exact bs_inj (by rw [he, h])
  · intro h; rw [← he, h]
theorem num_two (x y : UInt8) : numS 16 2 [x, y] = if hexDigit x.toNat < 0 ∨ hexDigit y.toNat < 0 then -1 else 16 * hexDigit x.toNat + hexDigit y.toNat := by
  have h1 := hexDigit_le x.toNat
  have h2 := hexDigit_le y.toNat
  unfold numS
  rw [if_neg (by simp)]
  by_cases hx : hexDigit x.toNat < 0
  · rw [numFrom_bad (.inl hx), if_pos (.inl hx)]
  · rw [numFrom_good (by omega) (by omega)]
    by_cases hy : hexDigit y.toNat < 0
    · rw [numFrom_bad (.inl hy), if_pos (.inr hy)]
    · rw [numFrom_good (by omega) (by omega), if_neg (by omega)]
      simp only [numFrom]
      omega
/-- One step at a place: no room, or another text. -/
theorem bytesF_out {s ahead : ByteArray} {k f : Nat} {os : List UInt8} (hk : k < s.size) (h : s.size < k + ahead.size + 2 ∨ s.extract k (k + ahead.size) ≠ ahead) : bytesF (bs ahead) (f + 1) os ((bs s).drop k) = ([], 10) := by
  refine bytesF_no (fun hh => ?_) (fun hh => ?_)
  · have := congrArg List.length hh.2
    rw [List.length_drop, bs_length] at this
    simp at this; omega
  · rcases h with h | h
    · have := hh.2
      rw [List.drop_drop, List.length_drop, bs_length, bs_length] at this
      omega
    · exact h (drop_pre.1 hh.1)
theorem bytesF_two {s ahead : ByteArray} {k f : Nat} {os : List UInt8} (hr : k + ahead.size + 2 ≤ s.size) (he : s.extract k (k + ahead.size) = ahead) :
    bytesF (bs ahead) (f + 1) os ((bs s).drop k) = if hexDigit ((s[k + ahead.size]'(by omega)).toNat) < 0 ∨ hexDigit ((s[k + ahead.size + 1]'(by omega)).toNat) < 0 then ([], 10)
      else bytesF (bs ahead) f (os ++ [UInt8.ofNat (16 * hexDigit ((s[k + ahead.size]'(by omega)).toNat) + hexDigit ((s[k + ahead.size + 1]'(by omega)).toNat)).toNat]) ((bs s).drop (k + (ahead.size + 2))) := by
  have hd : ((bs s).drop k).drop (bs ahead).length = s[k + ahead.size]'(by omega) :: s[k + ahead.size + 1]'(by omega) :: (bs s).drop (k + ahead.size + 1 + 1) := by
    rw [List.drop_drop, bs_length, bs_drop s _ (by omega), bs_drop s _ (by omega)]
  have hne : ¬ (os ≠ [] ∧ (bs s).drop k = []) := fun hh => by
    have := congrArg List.length hh.2
    rw [List.length_drop, bs_length] at this
    simp at this; omega
  have hp : Lib.hasPrefix ((bs s).drop k) (bs ahead) = true ∧ 2 ≤ (((bs s).drop k).drop (bs ahead).length).length := ⟨drop_pre.2 he, by rw [hd]; simp⟩
  have ht : (((bs s).drop k).drop (bs ahead).length).take 2 = [s[k + ahead.size]'(by omega), s[k + ahead.size + 1]'(by omega)] := by rw [hd]; rfl
  have h1 := hexDigit_ge ((s[k + ahead.size]'(by omega)).toNat)
  by_cases hn : hexDigit ((s[k + ahead.size]'(by omega)).toNat) < 0 ∨ hexDigit ((s[k + ahead.size + 1]'(by omega)).toNat) < 0
  · rw [if_pos hn, bytesF_bad hne hp (by rw [ht, num_two, if_pos hn]; decide)]
  · rw [if_neg hn, bytesF_more hne hp (by rw [ht, num_two, if_neg hn]; omega), ht, num_two, if_neg hn, hd]
    rfl
theorem bytesF_at {s ahead : ByteArray} {k f p q : Nat} {os : List UInt8} (hp : p = k + ahead.size) (hq : q = k + ahead.size + 1) (h1 : p < s.size) (h2 : q < s.size) (he : s.extract k (k + ahead.size) = ahead) :
    bytesF (bs ahead) (f + 1) os ((bs s).drop k) = if hexDigit ((s[p]'h1).toNat) < 0 ∨ hexDigit ((s[q]'h2).toNat) < 0 then ([], 10)
      else bytesF (bs ahead) f (os ++ [UInt8.ofNat (16 * hexDigit ((s[p]'h1).toNat) + hexDigit ((s[q]'h2).toNat)).toNat]) ((bs s).drop (k + (ahead.size + 2))) := by
  subst hp hq
  exact bytesF_two (by omega) he
end Go.Proofs.YtggichcfklbjiaaGreatDoor
end

section
set_option linter.unusedSimpArgs false
set_option linter.unusedVariables false
namespace Go.Proofs.YtggichcfklbjiaaGreatDoor
open Go.RowKit

theorem str_ne_other {s t : ByteArray} (h : s ≠ t) : (s != t) = true := by
  show (!(s == t)) = true
  have : (s == t) = false := by
    cases s with | mk a => cases t with | mk b =>
      show (a == b) = false
      rw [beq_eq_false_iff_ne]
      exact fun e => h (by rw [e])
  rw [this]; rfl
theorem index_at (s : ByteArray) (i : Int) (k : Nat) (hk : k < s.size) (h : i = (k : Int)) (w : World) : (Instr.index 9 (.string s) (.int .i64 i)).run Tryz.prog w = .ok (.int .u8 (s[k]'hk).toNat) w := by
  subst h
  rw [run_index_string w 9 s .i64 k Tryz.underlying9, dif_pos ⟨by omega, by omega⟩]
  rfl
theorem slice_at (s : ByteArray) (i j : Int) (a b : Nat) (h1 : a ≤ b) (h2 : b ≤ s.size) (hi : i = (a : Int)) (hj : j = (b : Int)) (w : World) :
    (Instr.slice 9 (.string s) (some (.int .i64 i)) (some (.int .i64 j)) none).run Tryz.prog w = .ok (.string (s.extract a b)) w := by
  subst hi hj
  exact run_slice_string w 9 s .i64 .i64 a b Tryz.underlying9 (by omega) (by omega) (by omega)
end Go.Proofs.YtggichcfklbjiaaGreatDoor
end
