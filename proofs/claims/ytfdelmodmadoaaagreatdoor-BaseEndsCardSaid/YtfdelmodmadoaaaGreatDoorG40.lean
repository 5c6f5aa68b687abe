/- Where no character leads back to itself, all comes to an end. Plain. How deep characters are parted, level by level: plain. What the law of ends asks for, of all that is known: plain. -/
import Derived.Test.YtfdelmodmadoaaaGreatDoorG34
set_option linter.unusedSimpArgs false
set_option linter.unusedVariables false
set_option maxRecDepth 20000
set_option maxHeartbeats 4000000
namespace Go.Proofs.YtfdelmodmadoaaaGreatDoor
section
theorem zhn {α : Type} {p q : α -> Bool} (h : ∀ x, p x = true -> q x = true) (l : List α) : l.countP p <= l.countP q := List.countP_mono_left fun x _ => h x
theorem zhm {α : Type} {p q : α -> Bool} (h : ∀ x, p x = true -> q x = true) {r : α} (h1 : p r = false) (h2 : q r = true) : ∀ {l : List α}, r ∈ l -> l.countP p < l.countP q
 | a :: l, hr => by
  rw [List.countP_cons, List.countP_cons];have hle := zhn h l;rcases List.mem_cons.1 hr with rfl | hr
  ·rw [h1, h2]; simp; omega
  ·have := zhm h h1 h2 hr
   have h3 : (if p a = true then 1 else 0) <= (if q a = true then 1 else 0) := by
    by_cases hp : p a = true
    ·rw [if_pos hp, if_pos (h a hp)]; exact Nat.le_refl _
    ·rw [if_neg hp]; exact Nat.zero_le _
   omega
section
variable {prt : Int -> Option (List UInt8 × List Int)}
open Classical in
noncomputable def leads (prt : Int -> Option (List UInt8 × List Int)) (ks : List Int) (r : Int) : Nat := ks.countP fun k => decide (k = r \/ Down (fun x => (decH prt x).2) r k)
theorem ze4 {D : Int -> List Int} {r y k : Int} (hy : y ∈ D r) (h : Down D y k) : Down D r k := by
 induction h with
 | one h => exact .more (.one hy) h
 | more _ hz ih => exact .more ih hz
open Classical in
theorem leads_le {ks : List Int} {r y : Int} (hy : y ∈ (decH prt r).2) : leads prt ks y <= leads prt ks r := by
 unfold leads;refine zhn (fun k hk => ?_) ks;rw [decide_eq_true_eq] at hk ⊢;rcases hk with rfl | hk
 ·exact .inr (.one hy)
 ·exact .inr (ze4 (D := fun x => (decH prt x).2) hy hk)
end
end
section
def stepL (D : Int -> List Int) (l : List Int) : List Int := l.flatMap fun y => if D y = [] then [y] else D y
def lvL (D : Int -> List Int) : Nat -> Int -> List Int
 | 0, r => [r]
 | i + 1, r => stepL D (lvL D i r)
theorem down_irr {D : Int -> List Int} (wf : WellFounded fun y x => y ∈ D x) (r : Int) : ¬ Down D r r := by
 induction r using wf.induction with
 | _ r ih =>
  intro h;obtain ⟨c, hc, e | e⟩ := h.cut
  ·subst e;exact ih c hc h
  ·exact ih c hc (.more e hc)
section
variable {B : BaseF}
theorem zf9 (x : Int) : (if (B.dec x).2 = [] then [x] else (B.dec x).2).flatMap (B.one true) = B.one true x := by
 have hp : B.parts true x = (B.dec x).2 := (by unfold BaseF.parts; rw [if_neg (by simp)]);split
 ·simp
 ·rename_i h;rw [B.one_some (by rw [hp]; exact h), hp]
theorem lv_one (i : Nat) (r : Int) : (lvL (fun x => (B.dec x).2) i r).flatMap (B.one true) = B.one true r := by
 induction i with
 | zero => simp [lvL]
 | succ i ih =>
  rw [<- ih];show (stepL _ (lvL (fun x => (B.dec x).2) i r)).flatMap (B.one true) = _;unfold stepL;generalize lvL (fun x => (B.dec x).2) i r = l;induction l with
  | nil => rfl
  | cons y t ih2 => rw [List.flatMap_cons, List.flatMap_append, zf9, List.flatMap_cons, ih2]
theorem zjh : ∀ l : List Int, l.length <= (l.flatMap (B.one true)).length
 | [] => Nat.zero_le _
 | y :: t => by
  have h1 := zjh t;have h2 := List.length_pos_iff.2 (B.one_ne true y);rw [List.flatMap_cons, List.length_append, List.length_cons];omega
theorem lv_len (i : Nat) (r : Int) : (lvL (fun x => (B.dec x).2) i r).length <= (B.one true r).length := by
 have h := zjh (B := B) (lvL (fun x => (B.dec x).2) i r);rwa [lv_one] at h
theorem one_part {x y : Int} (h : y ∈ (B.dec x).2) : (B.one true y).length <= (B.one true x).length := by
 rw [<- zf9 x, if_neg (fun e => by rw [e] at h; cases h)];obtain ⟨a, b, e⟩ := List.append_of_mem h;rw [e, List.flatMap_append, List.flatMap_cons, List.length_append, List.length_append];omega
end
section
variable {rows : List RowS} {out : List Int}
open Classical in
theorem leads_lt {prt : Int -> Option (List UInt8 × List Int)} {ks : List Int} {r y : Int} (hk : r ∈ ks) (hir : ¬ Down (fun x => (decH prt x).2) r r) (hy : y ∈ (decH prt r).2) : leads prt ks y < leads prt ks r := by
 unfold leads;refine zhm (r := r) (fun k hk => ?_) ?_ ?_ hk
 ·rw [decide_eq_true_eq] at hk ⊢;rcases hk with rfl | hk
  ·exact .inr (.one hy)
  ·exact .inr (ze4 (D := fun x => (decH prt x).2) hy hk)
 ·rw [decide_eq_false_iff_not];rintro (e | e)
  ·exact hir (by rw [<- e] at hy; exact .one hy)
  ·exact hir (ze4 (D := fun x => (decH prt x).2) hy e)
 ·rw [decide_eq_true_eq]; exact .inl rfl
theorem phi_step (g : RowsG rows) (h : NewOk rows out) {x y : Int} (hy : y ∈ ((baseF g h).dec x).2) :
  leads (prtL rows) (keysL rows) y + ((baseF g h).one true y).length + 1 <= leads (prtL rows) (keysL rows) x + ((baseF g h).one true x).length := by
 have hy' : y ∈ (decH (prtL rows) x).2 := hy;have hle := leads_le (ks := keysL rows) hy';have hlen := one_part hy
 by_cases hs : 44032 <= x /\ x < 55204
 ·have hlt : ((baseF g h).one true y).length + 1 <= ((baseF g h).one true x).length := by
   have hd : ((baseF g h).dec x).2 = [(zq x).1, (zq x).2.1] := (by show (decH (prtL rows) x).2 = _; rw [zct hs]);have h1 := zf9 (B := baseF g h) x;rw [hd, if_neg (by simp)] at h1;rw [<- h1];rw [hd] at hy;have p1 := List.length_pos_iff.2 ((baseF g h).one_ne true (zq x).1);have p2 := List.length_pos_iff.2 ((baseF g h).one_ne true (zq x).2.1);simp only [List.flatMap_cons, List.flatMap_nil, List.length_append, List.length_nil];simp only [List.mem_cons, List.not_mem_nil, or_false] at hy;rcases hy with rfl | rfl <;> omega
  omega
 ·have hk : x ∈ keysL rows := zdi (by
   cases hp : prtL rows x with
   | none => rw [zdn hs, hp] at hy'; cases hy'
   | some q => rfl)
  have hlt := leads_lt (prt := prtL rows) hk (down_irr (baseF g h).wf x) hy';omega
theorem zj0 (g : RowsG rows) (h : NewOk rows out) (r : Int) : ∀ (i : Nat) (y : Int), y ∈ lvL (fun x => ((baseF g h).dec x).2) i r -> ((baseF g h).dec y).2 ≠ [] ->
  leads (prtL rows) (keysL rows) y + ((baseF g h).one true y).length + i <= leads (prtL rows) (keysL rows) r + ((baseF g h).one true r).length
 | 0, y, hy, _ => by
  have : y = r := (by simpa [lvL] using hy);subst this;omega
 | i + 1, y, hy, hd => by
  obtain ⟨x, hx, hxy⟩ := List.mem_flatMap.1 (show y ∈ stepL _ (lvL (fun x => ((baseF g h).dec x).2) i r) from hy);split at hxy
  ·rename_i he;rw [List.mem_singleton] at hxy;subst hxy;exact absurd he hd
  ·rename_i he;have h1 := zj0 g h r i x hx he;have h2 := phi_step g h hxy;omega
theorem lv_end (g : RowsG rows) (h : NewOk rows out) (hn : (keysL rows).length <= 380) {r : Int} (hl : ((baseF g h).one true r).length <= 18) {y : Int} (hy : y ∈ lvL (fun x => ((baseF g h).dec x).2) 399 r) : ((baseF g h).dec y).2 = [] := by
 apply Classical.byContradiction;intro hd;have h1 := zj0 g h r 399 y hy hd;have h2 : leads (prtL rows) (keysL rows) r <= (keysL rows).length := (by unfold leads; exact List.countP_le_length);omega
end
end
section
section
variable {D : Int -> List Int}
theorem zbn (a : List Int) (x : Int) : stepL D (a ++ [x]) = stepL D a ++ (if D x = [] then [x] else D x) := by
 unfold stepL;rw [List.flatMap_append];simp
theorem stepL_take (l : List Int) (k : Nat) : (stepL D (l.take k)).length <= (stepL D l).length := by
 unfold stepL;conv => rhs; rw [<- List.take_append_drop k l]
 rw [List.flatMap_append, List.length_append];omega
structure EndsL (D : Int -> List Int) (r : Int) : Prop where
 r32 : R32 r
 len : ∀ i, (lvL D i r).length <= 18
 mem : ∀ i, ∀ y ∈ lvL D i r, R32 y
 fin : ∀ y ∈ lvL D 399 r, D y = []
end
theorem ends_of {rows : List RowS} {out : List Int} (g : RowsG rows) (h : NewOk rows out) (hn : (keysL rows).length <= 380) {r : Int} (hk : (prtL rows r).isSome = true) :
  EndsL (fun x => ((baseF g h).dec x).2) r := by
 have hl : ((baseF g h).one true r).length <= 18 := by rw [<- zig]; exact h.few (baseF g h).wf r hk
 have hR : R32 r := by
  obtain ⟨q, hq⟩ := Option.isSome_iff_exists.1 hk;exact zb7 (g.into r q hq).1
 refine ⟨hR, fun i => Nat.le_trans (lv_len i r) hl, fun i => ?_, fun y hy => lv_end g h hn hl hy⟩;induction i with
 | zero =>
  intro y hy;have : y = r := (by simpa [lvL] using hy);rw [this];exact hR
 | succ i ih =>
  intro y hy;obtain ⟨x, hx, hxy⟩ := List.mem_flatMap.1 (show y ∈ stepL _ (lvL (fun x => ((baseF g h).dec x).2) i r) from hy);split at hxy
  ·rw [List.mem_singleton] at hxy;subst hxy;exact ih y hx
  ·exact (zjl g h).dec x y hxy
end
end Go.Proofs.YtfdelmodmadoaaaGreatDoor
