/- All the things: copied, and gone through. -/
import Derived.Test.YthfakejhkbelhaaDoorNmsI
import Derived.Test.YthfakejhkbelhaaDoorNamH
set_option linter.unusedSimpArgs false
set_option linter.unusedVariables false
namespace Go.Proofs.YthfakejhkbelhaaDoor
open Go.RowKit Go.Lib Go.Shelf
attribute [local go_sem] Oper.semAt_some

theorem Ts_one (os : List TA) : ∀ u ∈ Ts os, u.oneCell' = true := by
  intro u hu
  obtain ⟨y, _, hy⟩ := List.mem_flatMap.1 hu
  exact tC_one y u hy
def CloneP (n : Nat) (os : List TA) (w : World) (e : Ending) (w' : World) : Prop := ∃ A' c', e = .returned (.slice A' n c') ∧ w'.ownsRow w.heap.size 71 3 (.slice A' n c') n (Ts os) ∧ Below w.heap.size w w'
set_option maxRecDepth 20000 in
theorem eclone_any (A : Option Addr) (n c : Nat) (os : List TA) (w : World) (hr : RdK w A n 3 (Ts os)) (hnil : A = none → n = 0 ∧ c = 0) (hn : n ≤ 1000000) :
    Calls Tryd.prog 55 #[.slice A n c] w (CloneP n os w) := by
  have hll : os.length * 3 = n * 3 := by have := hr.1; rwa [Ts_len] at this
  cases A with
  | none =>
    obtain ⟨rfl, rfl⟩ := hnil rfl
    have hcmp := fun w => Lib.run_eql_slice_nil (P := Tryd.prog) w 58 71 none 0 0 0 0 Tryd.underlying58
    simp only [Option.isNone] at hcmp
    go_enter Tryd.func55, Tryd.ntmps55
    go_wp2
    go_returns
    have hos : os = [] := List.eq_nil_of_length_eq_zero (by omega)
    subst hos
    exact ⟨none, 0, rfl, World.ownsRow_nil _ _ _ _, Below.refl _ _⟩
  | some a =>
    have hbn : Below w.heap.size w (w.alloc (.cells #[] 71)) := (Below.refl _ _).alloc (Nat.le_refl _) _
    have hown0 : (w.alloc (.cells #[] 71)).ownsRow w.heap.size 71 3 (.slice (some ⟨w.heap.size, 0, none⟩) 0 0) 0 [] := ⟨rfl, .inr ⟨w.heap.size, 0, #[], rfl, Nat.le_refl _, box_new _ _ _, Nat.le_refl _, Nat.zero_le _, rfl, rfl⟩⟩
    have hrb := hr.below (by omega) hbn
    have hone := Ts_one os
    have hcmp := fun w => Lib.run_eql_slice_nil (P := Tryd.prog) w 58 71 (some a) n c 0 0 Tryd.underlying58
    simp only [Option.isNone] at hcmp
    clear hnil hr
    go_enter Tryd.func55, Tryd.ntmps55
    go_wp2_with (at_builtin; refine wpList_appK entElem _ rfl _ _ rfl w.heap.size rfl hown0 rfl hrb hone (by simp; omega) (by omega) (by simp) ?_)
    intro A2 c2 w4 hown4 hg4 hat4
    have hb4 := below_appK hbn (by simp) (Nat.le_refl _) hown0 hg4
    have hown5 : w4.ownsRow w.heap.size 71 3 (.slice A2 n c2) n (Ts os) := by simpa using hown4
    clear hown4 hg4 hat4 hown0 hrb hone
    go_wp2
    go_returns
    exact ⟨A2, c2, by simp <;> rfl, hown5, hb4⟩
def AllP (os : List TA) (w : World) (e : Ending) (w' : World) : Prop := ∃ A' c', e = .returned (.func (.func 56) #[] #[.pointer (some ⟨w.heap.size, 0, none⟩)]) ∧ w'.cell? ⟨w.heap.size, 0, none⟩ = some (.slice A' os.length c') ∧ w'.ownsRow (w.heap.size + 1) 71 3 (.slice A' os.length c') os.length (Ts os) ∧ Below w.heap.size w w'
section
variable {B r : Nat} {w : World} {os : List TA} {A : Option Addr} {c : Nat}
theorem own_nilN (h : RegAt B r w os A c) : A = none → os.length = 0 ∧ c = 0 := by
  intro hn
  rcases h.own.2 with ⟨hv, h0⟩ | ⟨g, cap, cur, hv, _⟩
  · injection hv with _ h1 h2
    exact ⟨h1, h2⟩
  · injection hv with h1 _ _
    rw [hn] at h1
    cases h1
set_option maxRecDepth 20000 in
theorem All_any (h : RegAt B r w os A c) : Calls Tryd.prog 37 #[.pointer (some ⟨r, 0, none⟩)] w (AllP os w) := by
  have hb1 : Below w.heap.size w (w.alloc (.cells #[.slice none 0 0] 58)) := (Below.refl _ _).alloc (Nat.le_refl _) _
  have hc := box_cell (h.below hb1).cell 0 rfl
  have CL := eclone_any A os.length c os _ (h.below hb1).rd.cells (own_nilN h) (by have := h.len; omega)
  have hq := box_new w #[.slice none 0 0] 58
  have hmf : ∀ (fn : Fn) (first cap : Array Value) (w : World), (Instr.makeFunc fn first cap).run Tryd.prog w = .ok (.func fn first cap) w := fun _ _ _ _ => rfl
  go_enter Tryd.func37, Tryd.ntmps37
  go_wp2_with fail
  refine CL.mono ?_
  rintro e w2 ⟨A2, c2, rfl, hown, hb2⟩
  have hq2 := box_below hq hb2
  have z1 := box_cell hq2 0 rfl
  have z2 := box_frozen hq2 0
  have hbw := below_then hb1 hb2
  have hset : (w2.setCell ⟨w.heap.size, 0, none⟩ (.slice A2 os.length c2)).cell? ⟨w.heap.size, 0, none⟩ = some (.slice A2 os.length c2) := box_cell (box_set hq2 0 _) 0 rfl
  have hown2 : (w2.setCell ⟨w.heap.size, 0, none⟩ (.slice A2 os.length c2)).ownsRow (w.heap.size + 1) 71 3 (.slice A2 os.length c2) os.length (Ts os) := by
    have hown' : w2.ownsRow (w.heap.size + 1) 71 3 (.slice A2 os.length c2) os.length (Ts os) := by simpa using hown
    refine own_sameN hown' (fun g hg => ?_)
    have := (own_blk hown' hg).1
    exact Below.heap_setCell w2 ⟨w.heap.size, 0, none⟩ _ g (by show g ≠ w.heap.size; omega)
  have hfin : Below w.heap.size w (w2.setCell ⟨w.heap.size, 0, none⟩ (.slice A2 os.length c2)) := hbw.setCell (p := ⟨w.heap.size, 0, none⟩) (Nat.le_refl _) _
  clear hq hq2 hown CL hb1 hb2 hbw
  go_wp2
  go_returns
  exact ⟨A2, c2, rfl, hset, hown2, hfin⟩
end
end Go.Proofs.YthfakejhkbelhaaDoor
