/- The chapter's examples: true, whatever the world. -/
import Derived.Test.YtagncjnbabdbmaaDoorFldL2
import Derived.Test.YtagncjnbabdbmaaDoorFldY
set_option linter.unusedSimpArgs false
set_option linter.unusedVariables false
namespace Go.Proofs.YtagncjnbabdbmaaDoor
open Go.RowKit

theorem aw1 : linesS (bs ⟨#[97, 32, 35, 32, 98, 10, 32, 9, 10, 99]⟩) = ([(1, [97]), (3, [99])], 0) := by kernel_rfl
theorem aw2 : rangeS (bs ⟨#[48, 48, 52, 49, 46, 46, 48, 48, 53, 65]⟩) = (65, 90, 0) := by kernel_rfl
theorem aw3 : bytesS (bs ⟨#[48, 120]⟩) (bs ⟨#[48, 120, 56, 49, 52, 48]⟩) = ([], 10) := by kernel_rfl
theorem aw4 : bytesS (bs ⟨#[92, 120]⟩) (bs ⟨#[92, 120, 56, 49, 92, 120, 52, 48]⟩) = ([129, 64], 0) := by kernel_rfl
theorem own_at {w : World} {B k : Nat} {e : TypeId} {A : Option Addr} {c n : Nat} {xs : List Value} (h : w.ownsRow B e k (.slice A n c) n xs) (hn : 0 < n) :
    ∃ g, A = some ⟨g, 0, none⟩ ∧ ∀ j u, xs[j]? = some u → w.cell? ⟨g, j, none⟩ = some u := by
  rcases h.2 with ⟨_, h0⟩ | ⟨g, cap, cur, hv, _, hh, _, _, _, htake⟩
  · omega
  · injection hv with hA _ _
    refine ⟨g, hA, fun j u hu => ?_⟩
    rw [cell_of_row w g j cur e (0, 0) hh]
    rw [← htake, List.getElem?_take] at hu
    split at hu
    · simpa using hu
    · cases hu
theorem awake_any (w : World) (hE : Env w) :
    Calls Tryd.prog 14 #[] w fun e w' => e = .returned (.bool true) ∧ Below w.heap.size w w' := by
  have H1 := lines_any ⟨#[97, 32, 35, 32, 98, 10, 32, 9, 10, 99]⟩ w hE (by decide)
  have H2 := fun w (h : Env w) => range_any ⟨#[48, 48, 52, 49, 46, 46, 48, 48, 53, 65]⟩ w h (by decide)
  have H3 := fun w => bytes04_any ⟨#[48, 120, 56, 49, 52, 48]⟩ ⟨#[48, 120]⟩ w (by decide)
  have H4 := fun w => bytes04_any ⟨#[92, 120, 56, 49, 92, 120, 52, 48]⟩ ⟨#[92, 120]⟩ w (by decide)
  rw [aw1] at H1
  rw [aw2] at H2
  rw [aw3] at H3
  rw [aw4, show mk8 ([129, 64], (0 : Int)).1 = ⟨#[129, 64]⟩ from rfl] at H4
  go_enter Tryd.func14, Tryd.ntmps14
  go_wp2_with fail
  refine H1.mono ?_
  intro e w1 hF
  obtain ⟨A, c, rfl, hr, hb1⟩ := hF
  have hE1 := hE.below hb1
  clear H1 hE
  go_wp2_with fail
  refine (H2 _ hE1).mono ?_
  rintro e w2 ⟨rfl, hb2⟩
  replace hr := own_belowK hr hb2
  have hb := below_then hb1 hb2
  clear H2 hE1 hb1 hb2
  go_wp2_with fail
  refine (H3 _).mono ?_
  rintro e w3 ⟨rfl, hb3⟩
  replace hr := own_belowK hr hb3
  replace hb := below_then hb hb3
  clear hb3
  go_wp2_with fail
  refine (H4 _).mono ?_
  rintro e w4 ⟨rfl, hb4⟩
  replace hr := own_belowK hr hb4
  replace hb := below_then hb hb4
  clear hb4 H3 H4
  obtain ⟨b, rfl, hc⟩ := own_at hr (by decide)
  have hc0 := hc 0 _ rfl
  have hc1 := hc 1 _ rfl
  have hc2 := hc 2 _ rfl
  have hc3 := hc 3 _ rfl
  rw [show mk8 [97] = ⟨#[97]⟩ from rfl] at hc1
  rw [show mk8 [99] = ⟨#[99]⟩ from rfl] at hc3
  clear hc hr
  go_wp2
  go_returns
  exact ⟨rfl, hb⟩
end Go.Proofs.YtagncjnbabdbmaaDoor
