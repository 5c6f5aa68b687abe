/- Bytes that a text tells: the word, and the code's. -/
import Derived.Test.YtagncjnbabdbmaaGreatDoorFldC
import Derived.Laws.IdiomStrings
set_option linter.unusedSimpArgs false
set_option linter.unusedVariables false
namespace Go.Proofs.YtagncjnbabdbmaaGreatDoor
open Go.RowKit

def bytesF (ahead : List UInt8) : Nat → List UInt8 → List UInt8 → List UInt8 × Int
  | 0, out, _ => (out, 0)
  | f + 1, out, s =>
    if out ≠ [] ∧ s = [] then (out, 0)
    else if Lib.hasPrefix s ahead = true ∧ 2 ≤ (s.drop ahead.length).length then
      (if numS 16 2 ((s.drop ahead.length).take 2) < 0 then ([], 10)
       else bytesF ahead f (out ++ [UInt8.ofNat (numS 16 2 ((s.drop ahead.length).take 2)).toNat]) ((s.drop ahead.length).drop 2))
    else ([], 10)
def bytesS (ahead s : List UInt8) : List UInt8 × Int := bytesF ahead (s.length + 1) [] s
theorem bytesF_end {ahead out s : List UInt8} {f : Nat} (ho : out ≠ []) (hs : s = []) : bytesF ahead (f + 1) out s = (out, 0) := by
  simp only [bytesF]; rw [if_pos ⟨ho, hs⟩]
theorem bytesF_no {ahead out s : List UInt8} {f : Nat} (h : ¬ (out ≠ [] ∧ s = [])) (hp : ¬ (Lib.hasPrefix s ahead = true ∧ 2 ≤ (s.drop ahead.length).length)) : bytesF ahead (f + 1) out s = ([], 10) := by
  simp only [bytesF]; rw [if_neg h, if_neg hp]
theorem bytesF_bad {ahead out s : List UInt8} {f : Nat} (h : ¬ (out ≠ [] ∧ s = [])) (hp : Lib.hasPrefix s ahead = true ∧ 2 ≤ (s.drop ahead.length).length) (hn : numS 16 2 ((s.drop ahead.length).take 2) < 0) : bytesF ahead (f + 1) out s = ([], 10) := by
  simp only [bytesF]; rw [if_neg h, if_pos hp, if_pos hn]
theorem bytesF_more {ahead out s : List UInt8} {f : Nat} (h : ¬ (out ≠ [] ∧ s = [])) (hp : Lib.hasPrefix s ahead = true ∧ 2 ≤ (s.drop ahead.length).length) (hn : ¬ numS 16 2 ((s.drop ahead.length).take 2) < 0) :
    bytesF ahead (f + 1) out s = bytesF ahead f (out ++ [UInt8.ofNat (numS 16 2 ((s.drop ahead.length).take 2)).toNat]) ((s.drop ahead.length).drop 2) := by
  simp only [bytesF]; rw [if_neg h, if_pos hp, if_neg hn]

abbrev Bs (l : List UInt8) : List Value := l.map (fun b => Value.int .u8 b.toNat)
theorem byteElem : Elem Tryz.prog 47 5 (.int .u8 0) 1 := ⟨Tryz.underlying47, by kernel_rfl, rfl⟩
theorem byte_val {n : Int} (h0 : 0 ≤ n) (h1 : n ≤ 255) : Value.int .u8 n = Value.int .u8 ((UInt8.ofNat n.toNat).toNat : Int) := by
  have h : ∀ m : Nat, m < 256 → (UInt8.ofNat m).toNat = m := fun m hm => by
    rw [UInt8.toNat_ofNat', Nat.mod_eq_of_lt (show m < 2 ^ 8 from hm)]
  rw [h n.toNat (by omega), Int.toNat_of_nonneg h0]
theorem ret_se {a a' : ByteArray} {b b' : Int} (h1 : a = a') (h2 : b = b') : Ending.returned (.tuple #[.string a, .int .i64 b]) = .returned (.tuple #[.string a', .int .i64 b']) := by rw [h1, h2]
theorem own_bytes {w : World} {base : Nat} {A : Option Addr} {c : Nat} {l : List UInt8} (h : w.ownsRow base 5 1 (.slice A l.length c) l.length (Bs l)) (hl : l ≠ []) :
    ∃ b off, A = some ⟨b, off, none⟩ ∧ ∀ j u, (Bs l)[j]? = some u → w.cell? ⟨b, off + j, none⟩ = some u := by
  have hlen : 0 < l.length := List.length_pos_iff.2 hl
  obtain ⟨A', c', e, _, _, hr⟩ := Rd.of_own h
  injection e with e1 _ e2
  subst e1 e2
  exact hr.2 hlen
theorem bytes_str {w : World} {base : Nat} {A : Option Addr} {c : Nat} {l : List UInt8} (h : w.ownsRow base 5 1 (.slice A l.length c) l.length (Bs l)) (hl : l ≠ []) :
    (convert 47 9 (.slice A l.length c)).run Tryz.prog w = .ok (.string (mk8 l)) w :=
  (own_bytes h hl).elim fun b h1 => h1.elim fun off h2 => by
    rw [h2.1]
    refine run_convert_bytes_back w 47 9 5 ⟨b, off, none⟩ c l Tryz.underlying47 Tryz.underlying5 Tryz.underlying9 (fun j hj => ?_)
    rw [Addr.add_lit]
    exact h2.2 j _ (by simp [hj])
theorem cutprefix_any (s p : ByteArray) (w : World) :
    Calls Tryz.prog 31 #[.string s, .string p] w fun e w' => e = .returned (.tuple #[.string (mk8 (Lib.trimPrefix (bs s) (bs p))), .bool (Lib.hasPrefix (bs s) (bs p))]) ∧ w = w' := by
  refine (Tryz.strings_CutPrefix s p w).mono ?_
  rintro e w' ⟨rfl, rfl⟩
  exact ⟨rfl, rfl⟩
theorem num16bM (l : List UInt8) (w : World) (hs : l.length ≤ 1073741824) :
    Calls Tryz.prog 69 #[.string ((mk8 l).extract 0 2), .int .i64 16, .int .i64 2] w fun e w' => e = .returned (.int .i64 (numS 16 2 (l.take 2))) ∧ Below w.heap.size w w' := by
  have := number16b ((mk8 l).extract 0 2) w (by have := mk8_size l; rw [ByteArray.size_extract]; omega)
  rw [bs_extract, bs_mk8, List.drop_zero] at this
  exact this
end Go.Proofs.YtagncjnbabdbmaaGreatDoor
