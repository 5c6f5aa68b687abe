/- The law on a nil registry: true. -/
import Derived.Test.YthfakejhkbelhaaDoorNamH
set_option linter.unusedSimpArgs false
set_option linter.unusedVariables false
namespace Go.Proofs.YthfakejhkbelhaaDoor
open Go.RowKit Go.Lib

theorem cell_below {w w' : World} {p : Addr} {u : Value} (h : w.cell? p = some u) (hb : Below w.heap.size w w') : w'.cell? p = some u := (hb.cell (World.block_lt_of_cell? w p h)).trans h
set_option maxRecDepth 20000 in
set_option maxHeartbeats 3000000 in
theorem namesNil_yes (k x : Int) (s : ByteArray) (A : Option Addr) (n c : Nat) (ss : List ByteArray) (w : World) (hE : EnvN w) (hr : Rd w A n (ss.map Value.string)) :
    Calls Tryd.prog 5 #[.agg #[.int .i64 k, .int .i64 x, .string s, .slice A n c]] w fun e w' => e = .returned (.bool true) ∧ Below w.heap.size w w' := by
  obtain ⟨W1, hW1⟩ : ∃ W1, (w.alloc (.cells #[.int .i64 k, .int .i64 x, .string s, .slice A n c] 30)).alloc (.cells #[.int .i64 k, .int .i64 x, .string s, .slice A n c] 30) = W1 := ⟨_, rfl⟩
  have hb1 : Below w.heap.size w W1 := by rw [← hW1]; exact ((Below.refl _ w).alloc (Nat.le_refl _) _).alloc (by simp) _
  have c0 : W1.cell? ⟨w.heap.size, 0, none⟩ = some (.int .i64 k) := by rw [← hW1]; simp [go_sem]
  have c1 : W1.cell? ⟨w.heap.size, 1, none⟩ = some (.int .i64 x) := by rw [← hW1]; simp [go_sem]
  have c2 : W1.cell? ⟨w.heap.size, 2, none⟩ = some (.string s) := by rw [← hW1]; simp [go_sem]
  have c3 : W1.cell? ⟨w.heap.size, 3, none⟩ = some (.slice A n c) := by rw [← hW1]; simp [go_sem]
  have d0 : W1.cell? ⟨w.heap.size + 1, 0, none⟩ = some (.int .i64 k) := by rw [← hW1]; simp [go_sem]
  have d1 : W1.cell? ⟨w.heap.size + 1, 1, none⟩ = some (.int .i64 x) := by rw [← hW1]; simp [go_sem]
  have d2 : W1.cell? ⟨w.heap.size + 1, 2, none⟩ = some (.string s) := by rw [← hW1]; simp [go_sem]
  have d3 : W1.cell? ⟨w.heap.size + 1, 3, none⟩ = some (.slice A n c) := by rw [← hW1]; simp [go_sem]
  have FW := few_one (w.heap.size + 1) k x s A n c ss W1 d0 d1 d2 d3 (hr.below hb1)
  replace hE := hE.below hb1
  clear d0 d1 d2 d3 hr
  go_enter Tryd.func5, Tryd.ntmps5
  go_wp2_with fail
  refine FW.mono ?_
  intro e w2 hT
  obtain ⟨t, rfl, rfl⟩ := hT
  clear FW hW1
  cases t
  · go_wp2_with fail
    refine (awake21_any _ hE).mono ?_
    rintro q w9 ⟨rfl, hbn⟩
    go_wp2
    go_returns
    exact ⟨rfl, below_then hb1 hbn⟩
  · go_wp2_with fail
    refine (Find_nil _ _).mono ?_
    rintro q w3 ⟨rfl, rfl⟩
    go_wp2_with fail
    refine (Others_nil _ _).mono ?_
    rintro q w3 ⟨rfl, rfl⟩
    go_wp2_with fail
    refine (listed_nil _).mono ?_
    rintro q w3 ⟨rfl, hbn⟩
    replace hE := hE.below hbn
    replace c0 := cell_below c0 hbn
    replace c1 := cell_below c1 hbn
    replace c2 := cell_below c2 hbn
    replace c3 := cell_below c3 hbn
    replace hb1 := below_then hb1 hbn
    clear hbn
    go_wp2_with fail
    refine (calls_nil _ _ _ _ _ _ _).mono ?_
    rintro q w4 ⟨rfl, hbn⟩
    replace hE := hE.below hbn
    replace hb1 := below_then hb1 hbn
    clear hbn c0 c1 c2 c3
    go_wp2_with fail
    refine (Len_nil _).mono ?_
    rintro q w5 ⟨rfl, rfl⟩
    go_wp2_with fail
    refine (awake21_any _ hE).mono ?_
    rintro q w9 ⟨rfl, hbn⟩
    go_wp2
    go_returns
    exact ⟨rfl, below_then hb1 hbn⟩
end Go.Proofs.YthfakejhkbelhaaDoor
