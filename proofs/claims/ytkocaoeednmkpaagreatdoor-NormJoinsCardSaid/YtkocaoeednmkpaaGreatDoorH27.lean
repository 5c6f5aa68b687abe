/- Which characters are made of two, and that what is noted of them is in order. Plain. Where no character leads back to itself, all comes to an end. Plain. -/
import Derived.Test.YtkocaoeednmkpaaGreatDoorH26
set_option linter.unusedSimpArgs false
set_option linter.unusedVariables false
set_option maxRecDepth 20000
set_option maxHeartbeats 4000000
namespace Go.Proofs.YtkocaoeednmkpaaGreatDoor
section
def madeQ (cls : Int -> Int) (prt : Int -> Option (List UInt8 × List Int)) (out : List Int) (r : Int) : Bool :=
 match prt r with
 | some ([], [x, _]) => !decide (r ∈ out) && !decide (0 < cls r) && !decide (0 < cls x)
 | _ => false
def zau (prt : Int -> Option (List UInt8 × List Int)) (r : Int) : Int × Int :=
 match prt r with
 | some (_, [x, y]) => (x, y)
 | _ => (0, 0)
def zee (p : Int × Int) : Bool := (joinH p.1 p.2).2
theorem zda {cls : Int -> Int} {prt : Int -> Option (List UInt8 × List Int)} {out : List Int} {r : Int} (h : madeQ cls prt out r = true) :
  prt r = some ([], [(zau prt r).1, (zau prt r).2]) /\ r ∉ out /\ ¬ 0 < cls r /\ ¬ 0 < cls (zau prt r).1 := by
 unfold madeQ at h;unfold zau;split at h
 ·rename_i x y hp;rw [hp];simp only [Bool.and_eq_true, Bool.not_eq_true', decide_eq_false_iff_not] at h;exact ⟨rfl, h.1.1, h.1.2, h.2⟩
 ·cases h
end
section
theorem zmi {α : Type} {p q : α -> Bool} (h : ∀ x, p x = true -> q x = true) (l : List α) : l.countP p <= l.countP q := List.countP_mono_left fun x _ => h x
theorem zmh {α : Type} {p q : α -> Bool} (h : ∀ x, p x = true -> q x = true) {r : α} (h1 : p r = false) (h2 : q r = true) : ∀ {l : List α}, r ∈ l -> l.countP p < l.countP q
 | a :: l, hr => by
  rw [List.countP_cons, List.countP_cons];have hle := zmi h l;rcases List.mem_cons.1 hr with rfl | hr
  ·rw [h1, h2]; simp; omega
  ·have := zmh h h1 h2 hr
   have h3 : (if p a = true then 1 else 0) <= (if q a = true then 1 else 0) := by
    by_cases hp : p a = true
    ·rw [if_pos hp, if_pos (h a hp)]; exact Nat.le_refl _
    ·rw [if_neg hp]; exact Nat.zero_le _
   omega
section
variable {prt : Int -> Option (List UInt8 × List Int)}
open Classical in
noncomputable def leads (prt : Int -> Option (List UInt8 × List Int)) (ks : List Int) (r : Int) : Nat := ks.countP fun k => decide (k = r \/ Down (fun x => (decH prt x).2) r k)
def lvlH (r : Int) : Nat := if 44032 <= r /\ r < 55204 then (if (r - 44032) % 28 = 0 then 1 else 2) else 0
theorem zin {D : Int -> List Int} {r y k : Int} (hy : y ∈ D r) (h : Down D y k) : Down D r k := by
 induction h with
 | one h => exact .more (.one hy) h
 | more _ hz ih => exact .more ih hz
open Classical in
theorem leads_le {ks : List Int} {r y : Int} (hy : y ∈ (decH prt r).2) : leads prt ks y <= leads prt ks r := by
 unfold leads;refine zmi (fun k hk => ?_) ks;rw [decide_eq_true_eq] at hk ⊢;rcases hk with rfl | hk
 ·exact .inr (.one hy)
 ·exact .inr (zin (D := fun x => (decH prt x).2) hy hk)
open Classical in
theorem ends_of_irr {ks : List Int} (hk : ∀ r, (prt r).isSome = true -> r ∈ ks) (hh : ∀ r, 44032 <= r /\ r < 55204 -> prt r = none) (hirr : ∀ r, (prt r).isSome = true -> ¬ Down (fun x => (decH prt x).2) r r) (r : Int) : Ends (fun x => (decH prt x).2) r := by
 have key : ∀ n r, 3 * leads prt ks r + lvlH r <= n -> Ends (fun x => (decH prt x).2) r := by
  intro n;induction n using Nat.strongRecOn with
  | _ n ih =>
   intro r hr;refine Ends.of fun y hy => ?_
   have hlt : 3 * leads prt ks y + lvlH y < 3 * leads prt ks r + lvlH r := by
    have hle := leads_le (ks := ks) hy
    by_cases hs : 44032 <= r /\ r < 55204
    ·rw [zey hs] at hy
     by_cases ht : (r - 44032) % 28 = 0
     ·obtain ⟨e1, e2⟩ := zfn hs ht;rw [e1, e2] at hy;have l1 : lvlH r = 1 := by unfold lvlH; rw [if_pos hs, if_pos ht]
      have l0 : lvlH y = 0 := by
       unfold lvlH;simp only [List.mem_cons, List.not_mem_nil, or_false] at hy;rw [if_neg (by omega)]
      omega
     ·obtain ⟨e1, e2⟩ := zdn hs ht;rw [e1, e2] at hy;have l1 : lvlH r = 2 := by unfold lvlH; rw [if_pos hs, if_neg ht]
      have l0 : lvlH y <= 1 := by
       unfold lvlH;simp only [List.mem_cons, List.not_mem_nil, or_false] at hy;split
       ·split
        ·exact Nat.le_refl _
        ·rename_i h1 h2;rcases hy with rfl | rfl
         ·exact absurd (by omega) h2
         ·omega
       ·exact Nat.zero_le _
      omega
    ·cases hp : prt r with
     | none =>
      rw [zez hs, hp] at hy
      cases hy
     | some q =>
      have hsome : (prt r).isSome = true := (by rw [hp]; rfl);have hir := hirr r hsome
      have hl : leads prt ks y < leads prt ks r := by
       unfold leads;refine zmh (r := r) (fun k hk => ?_) ?_ ?_ (hk r hsome)
       ·rw [decide_eq_true_eq] at hk ⊢;rcases hk with rfl | hk
        ·exact .inr (.one hy)
        ·exact .inr (zin (D := fun x => (decH prt x).2) hy hk)
       ·rw [decide_eq_false_iff_not];rintro (e | e)
        ·exact hir (by rw [<- e] at hy; exact .one hy)
        ·exact hir (zin (D := fun x => (decH prt x).2) hy e)
       ·rw [decide_eq_true_eq]; exact .inl rfl
      have : lvlH y <= 2 := (by unfold lvlH; split <;> (try split) <;> omega);omega
   exact ih _ (by omega) y (Nat.le_refl _)
 exact key _ r (Nat.le_refl _)
end
end
end Go.Proofs.YtkocaoeednmkpaaGreatDoor
