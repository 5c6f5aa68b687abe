/- What rows that are taken say of characters. Plain. -/
import Derived.Test.YtfdelmodmadoaaaGreatDoorG30
set_option linter.unusedSimpArgs false
set_option linter.unusedVariables false
set_option maxRecDepth 20000
set_option maxHeartbeats 4000000
namespace Go.Proofs.YtfdelmodmadoaaaGreatDoor
section
theorem zdk {α β : Type} (P : α -> Prop) (f : α -> β -> α) : ∀ (l : List β) (a : α), P a -> (∀ a x, x ∈ l -> P a -> P (f a x)) -> P (l.foldl f a)
 | [], a, h, _ => h
 | x :: l, a, h, hs => zdk P f l (f a x) (hs a x List.mem_cons_self h) fun a y hy => hs a y (List.mem_cons_of_mem _ hy)
theorem zfx {l : List RowS} (h : ∀ x ∈ l, 0 <= x.cl) (r : Int) : 0 <= clsL l r := by
 unfold clsL;refine zdk (fun f => 0 <= f r) clsN l (fun _ => 0) (Int.le_refl 0) fun f x hx hf => ?_;unfold clsN;split
 ·exact h x hx
 ·exact hf
theorem cls_hang {l : List RowS} (h : ∀ x ∈ l, 0 <= x.cl) (ht : ∀ x ∈ l, za6 x = false) {r : Int} (hr : 44032 <= r /\ r < 55204) : clsL l r = 0 := by
 unfold clsL;refine zdk (fun f => f r = 0) clsN l (fun _ => 0) rfl fun f x hx hf => ?_;unfold clsN;split
 ·rename_i hc;have h1 := h x hx;have h2 := ht x hx;unfold za6 at h2;have h3 := of_decide_eq_false h2;have : ¬ 0 < x.cl := fun e => h3 ⟨.inl e, by omega, by omega⟩;omega
 ·exact hf
theorem zf6 {l : List RowS} {r : Int} {q : List UInt8 × List Int} (h : prtL l r = some q) : ∃ x ∈ l, x.fr = r /\ x.il ≠ [] /\ q = (x.kd, x.il) := by
 unfold prtL at h;refine zdk (fun f => ∀ q, f r = some q -> ∃ x ∈ l, x.fr = r /\ x.il ≠ [] /\ q = (x.kd, x.il)) prtN l (fun _ => none) (fun q hq => by cases hq) (fun f x hx hf q hq => ?_) q h;unfold prtN at hq
 by_cases e : x.il = []
 ·rw [if_pos e] at hq; exact hf q hq
 ·rw [if_neg e] at hq;unfold upd at hq
  by_cases e2 : r = x.fr
  ·rw [if_pos e2] at hq;injection hq with hq;exact ⟨x, hx, e2.symm, e, hq.symm⟩
  ·rw [if_neg e2] at hq; exact hf q hq
theorem prt_hang {l : List RowS} (ht : ∀ x ∈ l, za6 x = false) (hle : ∀ x ∈ l, x.fr <= x.up) {r : Int} (hr : 44032 <= r /\ r < 55204) : prtL l r = none := by
 cases hp : prtL l r with
 | none => rfl
 | some q =>
  obtain ⟨x, hx, h1, h2, _⟩ := zf6 hp;have h3 := ht x hx;unfold za6 at h3;have h4 := of_decide_eq_false h3;have := hle x hx;exact absurd ⟨.inr (List.length_pos_iff.2 h2), by omega, by omega⟩ h4
end
end Go.Proofs.YtfdelmodmadoaaaGreatDoor
