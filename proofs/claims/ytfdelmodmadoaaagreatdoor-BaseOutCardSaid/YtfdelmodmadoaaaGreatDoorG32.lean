/- When all that is known ends, all ends. Plain. -/
import Derived.Test.YtfdelmodmadoaaaGreatDoorG27
set_option linter.unusedSimpArgs false
set_option linter.unusedVariables false
set_option maxRecDepth 20000
set_option maxHeartbeats 4000000
namespace Go.Proofs.YtfdelmodmadoaaaGreatDoor
section
section
variable {prt : Int -> Option (List UInt8 × List Int)}
theorem zct {r : Int} (h : 44032 <= r /\ r < 55204) : (decH prt r).2 = [(zq r).1, (zq r).2.1] := by unfold decH; rw [if_pos h]
theorem zdn {r : Int} (h : ¬ (44032 <= r /\ r < 55204)) : (decH prt r).2 = ((prt r).getD ([], [])).2 := by unfold decH; rw [if_neg h]
theorem zcs (hK : ∀ r, (prt r).isSome = true -> Ends (fun x => (decH prt x).2) r) {r : Int} (h : ¬ (44032 <= r /\ r < 55204)) : Ends (fun x => (decH prt x).2) r := by
 cases hp : prt r with
 | some q => exact hK r (by rw [hp]; rfl)
 | none =>
  refine Ends.of fun y hy => ?_;rw [zdn h, hp] at hy
  cases hy
theorem zek {r : Int} (h : 44032 <= r /\ r < 55204) (ht : (r - 44032) % 28 = 0) : (zq r).1 = 4352 + (r - 44032) / 588 /\ (zq r).2.1 = 4449 + (r - 44032) / 28 % 21 := by
 unfold zq;rw [if_pos h, if_neg (by omega)];exact ⟨rfl, rfl⟩
theorem zc3 {r : Int} (h : 44032 <= r /\ r < 55204) (ht : (r - 44032) % 28 ≠ 0) : (zq r).1 = r - (r - 44032) % 28 /\ (zq r).2.1 = 4519 + (r - 44032) % 28 := by
 unfold zq;rw [if_pos h, if_pos (by omega)];exact ⟨rfl, rfl⟩
theorem zji (hK : ∀ r, (prt r).isSome = true -> Ends (fun x => (decH prt x).2) r) {r : Int} (h : 44032 <= r /\ r < 55204) (ht : (r - 44032) % 28 = 0) : Ends (fun x => (decH prt x).2) r := by
 refine Ends.of fun y hy => ?_;obtain ⟨e1, e2⟩ := zek h ht;rw [zct h, e1, e2] at hy;simp only [List.mem_cons, List.not_mem_nil, or_false] at hy;rcases hy with rfl | rfl
 ·exact zcs hK (by omega)
 ·exact zcs hK (by omega)
theorem zec (hK : ∀ r, (prt r).isSome = true -> Ends (fun x => (decH prt x).2) r) (r : Int) : Ends (fun x => (decH prt x).2) r := by
 by_cases h : 44032 <= r /\ r < 55204
 ·by_cases ht : (r - 44032) % 28 = 0
  ·exact zji hK h ht
  ·refine Ends.of fun y hy => ?_;obtain ⟨e1, e2⟩ := zc3 h ht;rw [zct h, e1, e2] at hy;simp only [List.mem_cons, List.not_mem_nil, or_false] at hy;rcases hy with rfl | rfl
   ·exact zji hK (by omega) (by omega)
   ·exact zcs hK (by omega)
 ·exact zcs hK h
theorem zhk (hI : ∀ r q, prt r = some q -> ∀ y ∈ q.2, y ∈ allR) (x : Int) : ∀ y ∈ (decH prt x).2, y ∈ allR := by
 intro y hy
 by_cases h : 44032 <= x /\ x < 55204
 ·by_cases ht : (x - 44032) % 28 = 0
  ·obtain ⟨e1, e2⟩ := zek h ht;rw [zct h, e1, e2] at hy;simp only [List.mem_cons, List.not_mem_nil, or_false] at hy;rw [zcr];rcases hy with rfl | rfl <;> omega
  ·obtain ⟨e1, e2⟩ := zc3 h ht;rw [zct h, e1, e2] at hy;simp only [List.mem_cons, List.not_mem_nil, or_false] at hy;rw [zcr];rcases hy with rfl | rfl <;> omega
 ·rw [zdn h] at hy
  cases hp : prt x with
  | none => rw [hp] at hy; cases hy
  | some q => rw [hp] at hy; exact hI x q hp y hy
theorem zge (hI : ∀ r q, prt r = some q -> q.2.length <= 18) (x : Int) : (decH prt x).2.length <= 18 := by
 by_cases h : 44032 <= x /\ x < 55204
 ·rw [zct h]; simp
 ·rw [zdn h]
  cases hp : prt x with
  | none => simp
  | some q => exact hI x q hp
end
end
end Go.Proofs.YtfdelmodmadoaaaGreatDoor
