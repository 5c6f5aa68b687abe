/- The document's answer: a list without one of its things: the code. -/
import Derived.Test.YthfakejhkbelhaaDoorNmsV
set_option linter.unusedSimpArgs false
set_option linter.unusedVariables false
namespace Go.Proofs.YthfakejhkbelhaaDoor
open Go.RowKit Go.Lib

theorem thElem : ElemK Tryd.prog 45 75 (.agg #[.int .i64 0, .string ByteArray.empty, .slice none 0 0]) 3 48 := ⟨Tryd.underlying45, by kernel_rfl, rfl, by omega⟩
def RDropP (n i : Nat) (os : List TA) (w : World) (e : Ending) (w' : World) : Prop := ∃ A' c', e = .returned (.slice A' (n - 1) c') ∧ w'.ownsRow w.heap.size 75 3 (.slice A' (n - 1) c') (n - 1) (Ts (os.eraseIdx i)) ∧ Below w.heap.size w w'
set_option maxRecDepth 20000 in
set_option maxHeartbeats 4000000 in
theorem rdrop_any (g n c i : Nat) (os : List TA) (w : World) (hr : RdK w (some ⟨g, 0, none⟩) n 3 (Ts os)) (hol : os.length = n) (hi : i < n) (hn : n ≤ 1000000) (hnc : n ≤ c) :
    Calls Tryd.prog 42 #[.slice (some ⟨g, 0, none⟩) n c, .int .i64 i] w (RDropP n i os w) := by
  have i1 : (0 : Int) ≤ (i : Int) := by omega
  have i2 : (i : Int) + 1 ≤ (n : Int) := by omega
  have i3 : (n : Int) ≤ (c : Int) := by omega
  have i4 : (i : Int) ≤ (c : Int) := by omega
  have i5 : (i : Int) ≤ (i : Int) + 1 := by omega
  have i6 : (i : Int) + 1 ≤ (c : Int) := by omega
  have i7 : (0 : Int) ≤ (i : Int) + 1 := by omega
  have hsp : Ts os = Ts (os.take i) ++ Ts (os.drop i) := by rw [← Ts_app, List.take_append_drop]
  have hsp2 : Ts os = Ts (os.take (i + 1)) ++ Ts (os.drop (i + 1)) := by rw [← Ts_app, List.take_append_drop]
  have hpre : RdK w (some ⟨g, 0, none⟩) i 3 (Ts (os.take i)) := by
    refine ⟨by rw [Ts_len, List.length_take]; omega, fun _ => ⟨g, 0, rfl, fun j u hu => ?_⟩⟩
    obtain ⟨b', o', hA, hcell⟩ := hr.2 (by omega)
    injection hA with hA
    injection hA with hb ho _
    subst hb ho
    exact hcell j u (by rw [hsp, List.getElem?_append_left (List.getElem?_eq_some_iff.1 hu).1]; exact hu)
  have hsrc : RdK w (some ⟨g, (i + 1) * 3, none⟩) (n - (i + 1)) 3 (Ts (os.drop (i + 1))) := by
    refine ⟨by rw [Ts_len, List.length_drop]; omega, fun _ => ⟨g, (i + 1) * 3, rfl, fun j u hu => ?_⟩⟩
    obtain ⟨b', o', hA, hcell⟩ := hr.2 (by omega)
    injection hA with hA
    injection hA with hb ho _
    subst hb ho
    have hl2 : (Ts (os.take (i + 1))).length = (i + 1) * 3 := by rw [Ts_len, List.length_take, Nat.min_eq_left (by omega)]
    have := hcell ((i + 1) * 3 + j) u (by rw [hsp2, List.getElem?_append_right (by omega), hl2, Nat.add_sub_cancel_left]; exact hu)
    rwa [Nat.zero_add] at this
  have hone1 := Ts_one (os.take i)
  have hone2 := Ts_one (os.drop (i + 1))
  have hown0 : w.ownsRow w.heap.size 75 3 (.slice none 0 0) 0 [] := World.ownsRow_nil _ _ _ _
  have HF : Hid (Ts (os.take i) ++ Ts (os.drop (i + 1)) = Ts (os.eraseIdx i)) := (Ts_erase os i).symm
  have hlen : i + (n - (i + 1)) = n - 1 := by omega
  clear hsp hsp2 hr
  have hcase : (c = i + 1 ∧ RdK w (some ⟨g, 0, none⟩) (n - (i + 1)) 3 (Ts (os.drop (i + 1)))) ∨ ¬ c = i + 1 := by
    by_cases h : c = i + 1
    · exact .inl ⟨h, hsrc.1, fun h => by omega⟩
    · exact .inr h
  go_enter Tryd.func42, Tryd.ntmps42
  go_wp2_with (at_builtin; refine wpList_appK thElem _ rfl _ _ rfl w.heap.size rfl hown0 rfl hpre hone1 (by omega) (by omega) (Nat.le_refl _) ?_)
  intro A1 c1 w1 hown1 hg1 hat1
  have hb1 := below_appK (Below.refl w.heap.size w) (Nat.le_refl _) (Nat.le_refl _) hown0 hg1
  have hown2 : w1.ownsRow w.heap.size 75 3 (.slice A1 i c1) i (Ts (os.take i)) := by simpa using hown1
  have hsrc1 := hsrc.below (by omega) hb1
  have hz1 := hb1.size
  have hz0 : 0 + i = i := by omega
  try rw [hz0]
  clear hown1 hg1 hat1 hown0 hpre hsrc
  rcases hcase with ⟨hci, hs2⟩ | hci
  · have hs3 := hs2.below (by omega) hb1
    clear hs2 hsrc1
    go_wp2_with (at_builtin; refine wpList_appK thElem _ rfl _ _ rfl w.heap.size rfl hown2 rfl hs3 hone2 (by omega) (by omega) hz1 ?_)
    intro A2 c2 w2 hown3 hg2 hat2
    have hb2 := below_appK hb1 hz1 (Nat.le_refl _) hown2 hg2
    rw [HF.out] at hown3
    try rw [hlen] at hown3
    try rw [hlen]
    clear hg2 hat2 hown2 hs3
    go_wp2
    go_returns
    exact ⟨A2, c2, rfl, hown3, hb2⟩
  · skip
    go_wp2_with (at_builtin; refine wpList_appK thElem _ rfl _ _ rfl w.heap.size rfl hown2 rfl hsrc1 hone2 (by omega) (by omega) hz1 ?_)
    intro A2 c2 w2 hown3 hg2 hat2
    have hb2 := below_appK hb1 hz1 (Nat.le_refl _) hown2 hg2
    rw [HF.out] at hown3
    try rw [hlen] at hown3
    try rw [hlen]
    clear hg2 hat2 hown2 hsrc1
    go_wp2
    go_returns
    exact ⟨A2, c2, rfl, hown3, hb2⟩
end Go.Proofs.YthfakejhkbelhaaDoor
