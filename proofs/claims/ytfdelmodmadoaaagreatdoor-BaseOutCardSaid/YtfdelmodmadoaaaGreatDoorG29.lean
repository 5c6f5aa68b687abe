/- How many characters one is, parted as far as it can be. Plain. -/
import Derived.Test.YtfdelmodmadoaaaGreatDoorG28
set_option linter.unusedSimpArgs false
set_option linter.unusedVariables false
set_option maxRecDepth 20000
set_option maxHeartbeats 4000000
namespace Go.Proofs.YtfdelmodmadoaaaGreatDoor
section
theorem wf_of {D : Int -> List Int} (h : ∀ x, Ends D x) : WellFounded fun y x => y ∈ D x := ⟨h⟩
noncomputable def lenD (D : Int -> List Int) (wf : WellFounded fun y x => y ∈ D x) : Int -> Nat :=
 wf.fix fun x ih => if D x = [] then 1 else ((D x).attach.map fun y => ih y.1 y.2).sum
theorem map_attach' {α β : Type} (l : List α) (f : α -> β) : (l.attach.map fun x => f x.1) = l.map f := by
 rw [show (fun x : {x // x ∈ l} => f x.1) = f ∘ Subtype.val from rfl, <- List.map_map];simp
theorem zdx (D : Int -> List Int) (wf : WellFounded fun y x => y ∈ D x) (x : Int) : lenD D wf x = if D x = [] then 1 else ((D x).map (lenD D wf)).sum := by
 have : lenD D wf x = if D x = [] then 1 else ((D x).attach.map fun y => lenD D wf y.1).sum := by
  unfold lenD;rw [WellFounded.fix_eq]
 rw [this, map_attach']
theorem lenD_pos (D : Int -> List Int) (wf : WellFounded fun y x => y ∈ D x) (x : Int) : 1 <= lenD D wf x := by
 induction x using wf.induction with
 | _ x ih =>
  rw [zdx]
  by_cases h : D x = []
  ·rw [if_pos h]; exact Nat.le_refl _
  ·rw [if_neg h]
   cases hd : D x with
   | nil => exact absurd hd h
   | cons a l =>
    have := ih a (by rw [hd]; simp);rw [List.map_cons, List.sum_cons];omega
theorem zig (B : BaseF) (x : Int) : lenD (fun r => (B.dec r).2) B.wf x = (B.one true x).length := by
 induction x using B.wf.induction with
 | _ x ih =>
  have hp : B.parts true x = (B.dec x).2 := (by unfold BaseF.parts; simp);rw [zdx, B.one_eq, hp]
  by_cases h : (B.dec x).2 = []
  ·simp [h]
  ·rw [if_neg h, if_neg h, List.length_flatMap];congr 1;exact List.map_congr_left fun y hy => ih y hy
end
end Go.Proofs.YtfdelmodmadoaaaGreatDoor
