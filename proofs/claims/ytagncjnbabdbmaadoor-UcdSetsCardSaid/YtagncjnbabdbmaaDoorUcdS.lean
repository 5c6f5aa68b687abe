/- Characters that lines of ranges tell: plain words, and the code. -/
import Derived.Test.YtagncjnbabdbmaaDoorUcdU
import Derived.Test.YtagncjnbabdbmaaDoorSortC
set_option linter.unusedSimpArgs false
set_option linter.unusedVariables false
namespace Go.Proofs.YtagncjnbabdbmaaDoor
open Go.RowKit

def fldS (l : List UInt8) : List UInt8 := ((cutL 59 l).map bareL).getD 0 []
def addO (out : List Int) (r : Int) : List Int := if scalarB r = true then out ++ [r] else out
def addW : List Int → Int → Nat → List Int × Bool
  | out, _, 0 => (out, false)
  | out, r, n + 1 => if 4096 < (addO out r).length then (addO out r, true) else addW (addO out r) (r + 1) n
def setAdd (out : List Int) (a b : Int) : List Int × Bool := addW out a (b - a + 1).toNat
def setR (out : List Int) (g : Int × Int × Int) : List Int × Int :=
  if g.2.2 ≠ 0 then (out, g.2.2) else if out.any (betw g.1 g.2.1) = true then (out, 12) else if (setAdd out g.1 g.2.1).2 = true then (out, 14) else ((setAdd out g.1 g.2.1).1, 0)
def setStep (out : List Int) (l : List UInt8) : List Int × Int := setR out (rangeS (fldS l))
def setsW : List Int → List (Int × List UInt8) → List Int × Int × Int
  | out, [] => (out, 0, 0)
  | out, p :: ls => if (setStep out p.2).2 ≠ 0 then ([], p.1, (setStep out p.2).2) else setsW (setStep out p.2).1 ls
def setsE (r : List Int × Int × Int) : List Int × Int × Int := (srt r.1, r.2.1, r.2.2)
def setsS (s : List UInt8) : List Int × Int × Int := if (linesS s).2 ≠ 0 then ([], 0, (linesS s).2) else setsE (setsW [] (linesS s).1)
theorem setsW_bad {out : List Int} {p : Int × List UInt8} {ls : List (Int × List UInt8)} (h : (setStep out p.2).2 ≠ 0) : setsW out (p :: ls) = ([], p.1, (setStep out p.2).2) := by
  simp only [setsW]; rw [if_pos h]
theorem setsW_good {out : List Int} {p : Int × List UInt8} {ls : List (Int × List UInt8)} (h : (setStep out p.2).2 = 0) : setsW out (p :: ls) = setsW (setStep out p.2).1 ls := by
  simp only [setsW]; rw [if_neg (by rw [h]; simp)]
theorem addW_zero (out : List Int) (r : Int) : addW out r 0 = (out, false) := rfl
theorem addW_full {out : List Int} {r : Int} {n : Nat} (h : 4096 < (addO out r).length) : addW out r (n + 1) = (addO out r, true) := by
  simp only [addW]; rw [if_pos h]
theorem addW_go {out : List Int} {r : Int} {n : Nat} (h : ¬ 4096 < (addO out r).length) : addW out r (n + 1) = addW (addO out r) (r + 1) n := by
  simp only [addW]; rw [if_neg h]
theorem addO_len (out : List Int) (r : Int) : (addO out r).length ≤ out.length + 1 := by
  unfold addO; split <;> simp
theorem addW_len : ∀ (n : Nat) (out : List Int) (r : Int), out.length ≤ 4096 → (addW out r n).2 = false → (addW out r n).1.length ≤ 4096
  | 0, out, r, h, _ => h
  | n + 1, out, r, h, hf => by
    by_cases hl : 4096 < (addO out r).length
    · rw [addW_full hl] at hf; simp at hf
    · rw [addW_go hl] at hf ⊢
      exact addW_len n _ _ (by omega) hf
theorem setStep_len {out : List Int} {l : List UInt8} (h : out.length ≤ 4096) : (setStep out l).1.length ≤ 4096 := by
  unfold setStep setR
  repeat' split
  · exact h
  · exact h
  · exact h
  · rename_i hf
    exact addW_len _ _ _ h (by simpa [setAdd] using hf)
theorem rangeT_ok {a b : List UInt8} (h : (rangeT a b).2.2 = 0) : 0 ≤ (rangeT a b).1 ∧ (rangeT a b).1 ≤ (rangeT a b).2.1 ∧ (rangeT a b).2.1 ≤ 1114111 := by
  unfold rangeT at *
  split at h
  · rename_i h1; exact absurd h h1
  · split at h
    · rename_i h1; exact absurd h h1
    · split at h
      · simp at h
      · rename_i h1 h2 h3
        rw [if_neg h1, if_neg h2, if_neg h3]
        have ha := hexS_bd a
        have hb := hexS_bd b
        exact ⟨ha.1, by simp only []; omega, hb.2.1⟩
theorem rangeS_ok {l : List UInt8} (h : (rangeS l).2.2 = 0) : 0 ≤ (rangeS l).1 ∧ (rangeS l).1 ≤ (rangeS l).2.1 ∧ (rangeS l).2.1 ≤ 1114111 := by
  unfold rangeS at *
  split at h
  · rename_i hc; rw [if_pos hc]; exact rangeT_ok h
  · rename_i hc; rw [if_neg hc]; exact rangeT_ok h
theorem bareL_len2 (l : List UInt8) : (bareL l).length ≤ l.length := bareL_len l
theorem fldS_get (l : List UInt8) : ∃ ps, (cutL 59 l).map bareL = fldS l :: ps := by
  unfold fldS
  cases h : (cutL 59 l).map bareL with
  | nil => simp [cutL] at h
  | cons x t => exact ⟨t, rfl⟩
theorem fldS_len (l : List UInt8) : (fldS l).length ≤ l.length := by
  obtain ⟨ps, hp⟩ := fldS_get l
  have : fldS l ∈ (cutL 59 l).map bareL := by rw [hp]; simp
  obtain ⟨y, hy, he⟩ := List.mem_map.1 this
  have h1 := cutL_part 59 l y hy
  have h2 := bareL_len y
  rw [← he]
  omega
/-- New characters, the number of a line, and what is wrong. -/
def FreshSets (w : World) (r : List Int × Int × Int) (e : Ending) (w' : World) : Prop :=
  ∃ A c, e = .returned (.tuple #[.slice A r.1.length c, .int .i64 r.2.1, .int .i64 r.2.2]) ∧ w'.ownsRow w.heap.size 21 1 (.slice A r.1.length c) r.1.length (Rs r.1) ∧ Below w.heap.size w w'
theorem split59 (l : List UInt8) (w : World) (hE : Env w) (hs : l.length ≤ 512) :
    Calls Tryd.prog 18 #[.string (mk8 l), .int .u8 59] w (FreshS w ((cutL 59 l).map bareL)) := by
  have := split04_any (mk8 l) 59 w hE (by rw [mk8_size]; omega)
  rw [bs_mk8] at this
  exact this
theorem rangeZ (l : List UInt8) (w : World) (hE : Env w) (hs : l.length ≤ 512) :
    Calls Tryd.prog 26 #[.string (mk8 l)] w fun e w' => e = .returned (.tuple #[.int .i32 (rangeS l).1, .int .i32 (rangeS l).2.1, .int .i64 (rangeS l).2.2]) ∧ Below w.heap.size w w' := by
  have := range_any (mk8 l) w hE (by rw [mk8_size]; omega)
  rw [bs_mk8] at this
  exact this
/-- A list's row is none of these blocks. -/
def Away (qs : List Nat) (v : Value) : Prop := ∀ b, v.ownBlock = some b → b ∉ qs
theorem Away.step {qs : List Nat} {H : Nat} {v v' : Value} (h : Away qs v) (hv : v'.ownBlock = v.ownBlock ∨ v'.ownBlock = some H) (hH : H ∉ qs) : Away qs v' := by
  intro b hb
  rcases hv with hv | hv
  · exact h b (hv ▸ hb)
  · rw [hv] at hb
    injection hb with hb
    rw [← hb]
    exact hH
theorem Away.ne {qs : List Nat} {v : Value} {q : Nat} (h : Away qs v) (hq : q ∈ qs) : v.ownBlock ≠ some q := fun e => h q e hq
theorem setsc_any (a b : Int) (q : Nat) (A : Option Addr) (n c : Nat) (zs : List Int) (W : World) (hr : Rd W A n (Rs zs)) (hn : n ≤ 1099511627776) (h0 : W.cell? ⟨q, 0, none⟩ = some (.int .i32 a)) (h1 : W.cell? ⟨q + 1, 0, none⟩ = some (.int .i32 b)) :
    Calls Tryd.prog 67 #[.slice A n c, .func (.func 68) #[] #[.pointer (some ⟨q, 0, none⟩), .pointer (some ⟨q + 1, 0, none⟩)]] W fun e w' => e = .returned (.bool (zs.any (betw a b))) ∧ Below W.heap.size W w' := by
  refine containsf_any _ _ (enters_of Tryd.func68 (by kernel_rfl) rfl) (betw a b) A n c zs W hr hn ?_
  intro x W2 hb
  have e0 := (hb.cell (World.block_lt_of_cell? W _ h0)).trans h0
  have e1 := (hb.cell (World.block_lt_of_cell? W _ h1)).trans h1
  refine (sets1_any x a b q (q + 1) W2 e0 e1).mono ?_
  rintro e w' ⟨rfl, rfl⟩
  exact ⟨rfl, Below.refl _ _⟩
end Go.Proofs.YtagncjnbabdbmaaDoor
