/- A registry of names: plain words. No program stands here. -/
import Derived.Test.YthfakejhkbelhaaDoorNamD
set_option linter.unusedSimpArgs false
set_option linter.unusedVariables false
namespace Go.Proofs.YthfakejhkbelhaaDoor
open Go.RowKit

/-- A thing: a number, its name, what else it is called. -/
structure Thg where
  x : Int
  nm : List UInt8
  ot : List (List UInt8)
def isS (s : List UInt8) (t : Thg) : Bool := sameS t.nm s || t.ot.any fun o => sameS o s
/-- Where a thing is. -/
def atF (s : List UInt8) : List Thg → Option Nat
  | [] => none
  | t :: l => if isS s t = true then some 0 else (atF s l).map (· + 1)
def atI (o : Option Nat) : Int := match o with | some i => i | none => -1
/-- The first name that may not be. -/
def mayAll : List (List UInt8) → Int
  | [] => 0
  | s :: t => if mayS s ≠ 0 then mayS s else mayAll t
/-- Is one of the names there, or told twice? -/
def thereF (l : List Thg) : List (List UInt8) → List (List UInt8) → Bool
  | _, [] => false
  | pre, s :: t => if (atF s l).isSome = true ∨ (pre.any fun p => sameS s p) = true then true else thereF l (pre ++ [s]) t
/-- What is wrong with new names. -/
def freshN (l : List Thg) (ns : List (List UInt8)) : Int := if mayAll ns ≠ 0 then mayAll ns else if thereF l [] ns = true then 12 else 0
def addN (l : List Thg) (x : Int) (nm : List UInt8) (ot : List (List UInt8)) : List Thg × Int :=
  if freshN l (nm :: ot) ≠ 0 then (l, freshN l (nm :: ot)) else if l.length = 256 then (l, 14) else (l ++ [⟨x, nm, ot⟩], 0)
def callN (l : List Thg) (nm : List UInt8) (ot : List (List UInt8)) : List Thg × Int :=
  match atF nm l with
  | none => (l, 13)
  | some i => if freshN l ot ≠ 0 then (l, freshN l ot) else (l.modify i (fun t => { t with ot := t.ot ++ ot }), 0)
def dropN (l : List Thg) (nm : List UInt8) : List Thg × Int :=
  match atF nm l with
  | none => (l, 13)
  | some i => (l.eraseIdx i, 0)
theorem atF_lt {s : List UInt8} : ∀ {l : List Thg} {i : Nat}, atF s l = some i → i < l.length
  | [], i, h => by simp [atF] at h
  | t :: l, i, h => by
    unfold atF at h
    split at h
    · injection h with h; subst h; simp
    · obtain ⟨j, hj, rfl⟩ := Option.map_eq_some_iff.1 h
      have := atF_lt hj
      simp; omega
/-- Behind things that are not called so. -/
theorem atF_app {s : List UInt8} : ∀ {a : List Thg} (b : List Thg), (∀ t ∈ a, isS s t = false) → atF s (a ++ b) = (atF s b).map (· + a.length)
  | [], b, _ => by simp
  | t :: a, b, h => by
    have ht := h t (by simp)
    have ih := atF_app (a := a) b (fun u hu => h u (by simp [hu]))
    show (if isS s t = true then some 0 else (atF s (a ++ b)).map (· + 1)) = _
    rw [if_neg (by rw [ht]; simp), ih, Option.map_map]
    cases atF s b with
    | none => rfl
    | some n => simp; omega
theorem atF_none {s : List UInt8} {l : List Thg} (h : ∀ t ∈ l, isS s t = false) : atF s l = none := by
  have := atF_app (s := s) (a := l) [] h
  simpa [atF] using this
end Go.Proofs.YthfakejhkbelhaaDoor
