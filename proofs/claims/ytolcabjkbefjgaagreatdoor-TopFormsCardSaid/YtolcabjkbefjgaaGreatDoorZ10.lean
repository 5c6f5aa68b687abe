/- Lines of a text: the word, the document's answer, and the code's. -/
import Derived.Test.YtolcabjkbefjgaaGreatDoorZ09
set_option linter.unusedSimpArgs false
set_option linter.unusedVariables false
set_option maxRecDepth 20000
set_option maxHeartbeats 4000000
namespace Go.Proofs.YtolcabjkbefjgaaGreatDoor
section
open Go.RowKit
def tellL (l : List UInt8) : List UInt8 := bareL (Lib.cut l [35]).1
theorem tellL_len (l : List UInt8) : (tellL l).length <= l.length := by
 have h1 := zcq (Lib.cut l [35]).1;have h2 := (zle l [35]).1;unfold tellL;omega
def za8 : List (Int × List UInt8) -> Nat -> List (List UInt8) -> List (Int × List UInt8) × Int
 | out, _, [] => (out, 0)
 | out, k, l :: ls => if 512 < l.length then ([], 10) else za8 (if tellL l = [] then out else out ++ [((k : Int) + 1, tellL l)]) (k + 1) ls
def zbo (s : List UInt8) : List (Int × List UInt8) × Int := if 4096 < (cutL 10 s).length then ([], 14) else za8 [] 0 (cutL 10 s)
theorem zgm {out : List (Int × List UInt8)} {k : Nat} {l : List UInt8} {ls : List (List UInt8)} (h : 512 < l.length) : za8 out k (l :: ls) = ([], 10) := by
 simp only [za8]; rw [if_pos h]
theorem zgl {out : List (Int × List UInt8)} {k : Nat} {l : List UInt8} {ls : List (List UInt8)} (h : ¬ 512 < l.length) (ht : tellL l = []) : za8 out k (l :: ls) = za8 out (k + 1) ls := by
 simp only [za8]; rw [if_neg h, if_pos ht]
theorem zgj {out : List (Int × List UInt8)} {k : Nat} {l : List UInt8} {ls : List (List UInt8)} (h : ¬ 512 < l.length) (ht : ¬ tellL l = []) : za8 out k (l :: ls) = za8 (out ++ [((k : Int) + 1, tellL l)]) (k + 1) ls := by
 simp only [za8]; rw [if_neg h, if_neg ht]
def Ls (os : List (Int × List UInt8)) : List Value := os.flatMap fun p => [Value.int .i64 p.1, Value.string (mk8 p.2)]
theorem Ls_snoc (os : List (Int × List UInt8)) (p : Int × List UInt8) : Ls (os ++ [p]) = Ls os ++ [Value.int .i64 p.1, Value.string (mk8 p.2)] := by simp [Ls]
theorem Ls_at : ∀ (os : List (Int × List UInt8)) (i : Nat) (p : Int × List UInt8), os[i]? = some p -> (Ls os)[i * 2]? = some (.int .i64 p.1) /\ (Ls os)[i * 2 + 1]? = some (.string (mk8 p.2))
 | [], i, p, h => by simp at h
 | y :: t, 0, p, h => by
  simp at h;subst h;simp [Ls]
 | y :: t, i + 1, p, h => by
  have ih := Ls_at t i p (by simpa using h);have e : Ls (y :: t) = Value.int .i64 y.1 :: Value.string (mk8 y.2) :: Ls t := (by simp [Ls]);rw [e, show (i + 1) * 2 = i * 2 + 1 + 1 by omega, show i * 2 + 1 + 1 + 1 = (i * 2 + 1) + 1 + 1 by omega];simpa using ih
theorem two_of {n : Int} {s : ByteArray} : ∀ u ∈ [Value.int .i64 n, Value.string s], u.oneCell' = true := by
 intro u hu;simp at hu;rcases hu with rfl | rfl <;> rfl
theorem lineElem : ElemK Tryz.prog 138 151 (.agg #[.int .i64 0, .string ByteArray.empty]) 2 24 := ⟨Tryz.underlying138, by kernel_rfl, rfl, by omega⟩
def zka (T : TypeId) (w : World) (r : List (Int × List UInt8) × Int) (e : Ending) (w' : World) : Prop :=
 ∃ A c, e = .returned (.tuple #[.slice A r.1.length c, .int .i64 r.2]) /\ w'.ownsRow w.heap.size T 2 (.slice A r.1.length c) r.1.length (Ls r.1) /\ Below w.heap.size w w'
theorem zka.rd {T : TypeId} {w w' : World} {r : List (Int × List UInt8) × Int} {e : Ending} (h : zka T w r e w') : ∃ A c, e = .returned (.tuple #[.slice A r.1.length c, .int .i64 r.2]) /\ RdK w' A r.1.length 2 (Ls r.1) /\ Below w.heap.size w w' := by
 obtain ⟨A, c, he, hown, hb⟩ := h;obtain ⟨A', c', e2, _, _, hr⟩ := RdK.of_own hown;injection e2 with e2a _ _;subst e2a;exact ⟨A, c, he, hr, hb⟩
end
end Go.Proofs.YtolcabjkbefjgaaGreatDoor
