/- The document's New; its base as one that says what a base says. decomp.One: a character, parted as far as it can be: the code. Order in place: what a swap does to a list and to the memory. decomp.One: the walk. -/
import Derived.Test.YtajkjaciooijjaaGreatDoorH02
import Derived.Test.YtajkjaciooijjaaGreatDoorH05
import Derived.Test.YtajkjaciooijjaaGreatDoorH01
import Derived.Test.YtajkjaciooijjaaGreatDoorH09
import Derived.Test.YtajkjaciooijjaaGreatDoorH04
import Derived.Test.YtajkjaciooijjaaGreatDoorH07
import Derived.Test.YtajkjaciooijjaaGreatDoorH06
import Derived.Test.YtajkjaciooijjaaGreatDoorH13
import Derived.Test.YtajkjaciooijjaaGreatDoorH14
import Derived.Test.YtajkjaciooijjaaGreatDoorH15
import Derived.Test.YtajkjaciooijjaaGreatDoorH18
import Derived.Test.YtajkjaciooijjaaGreatDoorH20
import Derived.Test.YtajkjaciooijjaaGreatDoorH08
import Derived.Test.YtajkjaciooijjaaGreatDoorH19
import Derived.Test.YtajkjaciooijjaaGreatDoorH22
import Derived.Test.YtajkjaciooijjaaGreatDoorH25
import Derived.Test.YtajkjaciooijjaaGreatDoorH27
import Derived.Test.YtajkjaciooijjaaGreatDoorH28
import Derived.Test.YtajkjaciooijjaaGreatDoorH37
import Derived.Test.YtajkjaciooijjaaGreatDoorH32
import Derived.Test.YtajkjaciooijjaaGreatDoorH10
section
set_option linter.unusedSimpArgs false
set_option linter.unusedVariables false
namespace Go.Proofs.YtajkjaciooijjaaGreatDoor
open Go.RowKit
theorem rnew_any {w : World} (s o : ByteArray) (hs : s.size ≤ 1073741824) (ho1 : o.size ≤ 1073741824) : Calls Tryz.prog 27 #[.string s, .string o] w (RNewP (rowsS (bs s)).1 (setsS (bs o)).1 w) := by
 by_cases h0 : (rowsS (bs s)).2.2 = 0
 ·by_cases h1 : (setsS (bs o)).2.2 = 0
  ·exact rnew_main s o hs ho1 h0 h1
  ·exact rnew_sets s o hs ho1 h0 h1
 ·exact rnew_rows s o hs h0
def RefIs (w : World) (v : Value) (B : BaseF) : Prop :=
 ∃ rp os out A A2 c c2, v = .pointer (some ⟨rp, 0, none⟩) ∧ RefM w rp os out A A2 c c2 ∧ RowsG (os.map (·.1)) ∧ (∀ r, B.cls r = clsL (os.map (·.1)) r) ∧ (∀ r, B.dec r = decH (prtL (os.map (·.1))) r) ∧ (∀ x y, B.pair x y = pairH (prL (os.map (·.1)) out) x y) ∧ ∀ r, B.sec r = secH (scL (os.map (·.1)) out) r
section
variable {w w' : World} {v : Value} {B : BaseF}
theorem RefIs.below (h : RefIs w v B) (hb : Below w.heap.size w w') : RefIs w' v B := by
 obtain ⟨rp, os, out, A, A2, c, c2, h1, h2, h3⟩ := h
 exact ⟨rp, os, out, A, A2, c, c2, h1, h2.below hb, h3⟩
theorem rclass_is (h : RefIs w v B) (r : Int) : Calls Tryz.prog 34 #[v, .int .i32 r] w fun e w' => e = .returned (.int .i64 (B.cls r)) ∧ w = w' := by
 obtain ⟨rp, os, out, A, A2, c, c2, rfl, h2, h3, h4, _⟩ := h
 rw [h4]; exact rclass_any h2 h3 r
theorem rdecomp_is {w0 : World} (h : RefIs w0 v B) (hb : Below w0.heap.size w0 w) (r : Int) (hr : R32 r) : Calls Tryz.prog 30 #[v, .int .i32 r] w (RDecP w0 (B.dec r).1 (B.dec r).2 w) := by
 obtain ⟨rp, os, out, A, A2, c, c2, rfl, h2, h3, _, h4, _⟩ := h
 rw [h4]; exact rdecomp_any h2 hb h3 r hr
theorem ref_nil (w : World) (rp : Nat) (h : w.heap[rp]? = some (.cells #[.slice none 0 0, .slice none 0 0] 51 (0, 0))) : RefIs w (.pointer (some ⟨rp, 0, none⟩)) nilB := by
 refine ⟨rp, [], [], none, none, 0, 0, rfl, ⟨h, ⟨⟨rfl, fun h => absurd h (Nat.lt_irrefl _)⟩, fun x hx => (by cases hx)⟩, Rd.nil _ _, Nat.zero_le _, Nat.zero_le _⟩, ⟨fun x hx => (by cases hx), fun i a b ha => (by simp at ha)⟩, fun _ => rfl, fun _ => rfl, fun _ _ => rfl, fun _ => rfl⟩
end
def BothP (w : World) (e : Ending) (w' : World) : Prop :=
 (e = .returned (.tuple #[.pointer none, .pointer none]) ∧ Below w.heap.size w w') ∨
 ∃ bp x B, e = .returned (.tuple #[.pointer (some ⟨bp, 0, none⟩), x]) ∧ BaseIs w' (.pointer (some ⟨bp, 0, none⟩)) B ∧ RefIs w' x B ∧ BaseBd B ∧ Below w.heap.size w w'
end Go.Proofs.YtajkjaciooijjaaGreatDoor
end

section
set_option linter.unusedSimpArgs false
set_option linter.unusedVariables false
namespace Go.Proofs.YtajkjaciooijjaaGreatDoor
open Go.RowKit
abbrev oneFn (q : Nat) : Value := .func (.func 29) #[] #[.pointer (some ⟨q, 0, none⟩), .pointer (some ⟨q + 1, 0, none⟩), .pointer (some ⟨q + 2, 0, none⟩), .pointer (some ⟨q + 3, 0, none⟩)]
structure OneSt (w0 : World) (q : Nat) (bv : Value) (c : Bool) (acc : List Int) (rv : Value) (W : World) : Prop where
 hb : Below q w0 W
 b3 : Boxed W q 24 bv
 b4 : Boxed W (q + 1) 4 (.bool c)
 b7 : Boxed W (q + 2) 30 rv
 b8 : Boxed W (q + 3) 59 (oneFn q)
 own : W.ownsRow (q + 4) 21 1 rv acc.length (Rs acc)
def OneP (w0 : World) (q : Nat) (bv : Value) (c : Bool) (acc l : List Int) (rv : Value) (W : World) (e : Ending) (W' : World) : Prop :=
 ∃ rv', (∃ v, e = .returned v) ∧ OneSt w0 q bv c (acc ++ l) rv' W' ∧ Wrote (fun k => k = q + 2 ∨ rv.ownBlock = some k) W W' ∧ ∀ k, rv'.ownBlock = some k → rv.ownBlock = some k ∨ W.heap.size ≤ k
theorem own_blk {W W' : World} {base : Nat} {e : TypeId} {v : Value} {n : Nat} {xs : List Value} (h : W.ownsRow base e 1 v n xs) (hb : ∀ g, v.ownBlock = some g → W'.heap[g]? = W.heap[g]?) : W'.ownsRow base e 1 v n xs := by
 refine ⟨h.1, ?_⟩
 rcases h.2 with hn | ⟨g, cap, cur, hv, hg, hh, rest⟩
 ·exact .inl hn
 ·exact .inr ⟨g, cap, cur, hv, hg, (hb g (by rw [hv]; rfl)).trans hh, rest⟩
section
variable {w0 : World} {q : Nat} {bv : Value} {B : BaseF} {c : Bool}
theorem OneSt.below {acc : List Int} {rv : Value} {W W' : World} (h : OneSt w0 q bv c acc rv W) (hq : q ≤ W.heap.size) (hb : Below W.heap.size W W') : OneSt w0 q bv c acc rv W' :=
 ⟨h.hb.trans (hb.mono hq), boxed_below h.b3 hb, boxed_below h.b4 hb, boxed_below h.b7 hb, boxed_below h.b8 hb, own_below h.own hb⟩
theorem OneSt.push {acc : List Int} {rv rv' : Value} {W W3 : World} (h : OneSt w0 q bv c acc rv W) {xs : List Int} (hg : W.grownBy W3 rv.ownBlock) (hown : W3.ownsRow (q + 4) 21 1 rv' (acc ++ xs).length (Rs (acc ++ xs))) :
  OneSt w0 q bv c (acc ++ xs) rv' (W3.setCell ⟨q + 2, 0, none⟩ rv') := by
 have hl : ∀ k, rv.ownBlock = some k → q + 4 ≤ k := fun k hk => (h.own.lt k hk).1
 have hn : ∀ k, k < q + 4 → some k ≠ rv.ownBlock := fun k hk e => by have := hl k e.symm; omega
 have h7 := h.b7.lt
 refine ⟨?_, ?_, ?_, ?_, ?_, ?_⟩
 ·exact (h.hb.grown hg (by omega) (fun k hk => by have := hl k hk; omega)).setCell (p := ⟨q + 2, 0, none⟩) (by simp) _
 ·exact boxOther (h.b3.kept hg (hn q (by omega))) _ (by omega)
 ·exact boxOther (h.b4.kept hg (hn (q + 1) (by omega))) _ (by omega)
 ·exact (h.b7.kept hg (hn (q + 2) (by omega))).set _
 ·exact boxOther (h.b8.kept hg (hn (q + 3) (by omega))) _ (by omega)
 ·refine own_blk hown fun g hg => ?_
  have := (hown.lt g hg).1
  exact Below.heap_setCell W3 ⟨q + 2, 0, none⟩ _ g (by simp; omega)
end
end Go.Proofs.YtajkjaciooijjaaGreatDoor
end

section
set_option linter.unusedSimpArgs false
set_option linter.unusedVariables false
namespace Go.Proofs.YtajkjaciooijjaaGreatDoor
open Go.RowKit Go.Sort
def midL (A : List Int) (r : Int) (T : List Int) : List Int := A.reverse ++ r :: T
theorem midL_len (A : List Int) (r : Int) (T : List Int) : (midL A r T).length = A.length + 1 + T.length := by simp [midL]; omega
theorem midL_swap (a r : Int) (A T : List Int) : ((midL (a :: A) r T).set A.length r).set (A.length + 1) a = midL A r (a :: T) := by
 unfold midL
 rw [List.reverse_cons, List.append_assoc]
 simp [List.set_append]
theorem midL_at (A : List Int) (r : Int) (T : List Int) : (midL A r T)[A.length]? = some r := by
 unfold midL
 rw [List.getElem?_append_right (by simp)]
 simp
theorem midL_ahead (a r : Int) (A T : List Int) : (midL (a :: A) r T)[A.length]? = some a := by
 unfold midL
 rw [List.reverse_cons, List.append_assoc, List.getElem?_append_right (by simp)]
 simp
abbrev HoldsR (w : World) (g off : Nat) (l : List Int) : Prop := ∀ j x, l[j]? = some x → w.cell? ⟨g, off + j, none⟩ = some (.int .i32 x) ∧ w.frozen? ⟨g, off + j, none⟩ = false
theorem holdsR_set {w : World} {g off : Nat} {l : List Int} (h : HoldsR w g off l) (i : Nat) (x : Int) (hi : i < l.length) : HoldsR (w.setCell ⟨g, off + i, none⟩ (.int .i32 x)) g off (l.set i x) := fun j y hy => by
 have h0 := h i l[i] (List.getElem?_eq_getElem hi)
 by_cases hj : i = j
 ·subst hj
  rw [List.getElem?_set_self hi] at hy
  injection hy with hy
  subst hy
  exact ⟨World.cell?_setCell_same' w ⟨g, off + i, none⟩ _ (by rw [h0.1]; rfl), by rw [World.frozen?_setCell]; exact h0.2⟩
 ·rw [List.getElem?_set_ne hj] at hy
  have h1 := h j y hy
  exact ⟨by rw [World.cell?_setCell_other _ _ _ _ (by intro e; injection e with _ e; omega)]; exact h1.1, by rw [World.frozen?_setCell]; exact h1.2⟩
theorem holdsR_wrote {w w' : World} {g off : Nat} {l : List Int} (h : HoldsR w g off l) (hb : Below w.heap.size w w') : HoldsR w' g off l := fun j x hx => by
 have h1 := h j x hx
 have hl := World.block_lt_of_cell? w _ h1.1
 refine ⟨(hb.cell (p := ⟨g, off + j, none⟩) hl).trans h1.1, ?_⟩
 have hbl := hb.block g hl
 rw [← h1.2]
 simp only [World.frozen?, hbl]
def OrdW (g : Nat) (w w' : World) : Prop := Wrote (fun k => k = g) w w' ∧ ∀ cs t, w.heap[g]? = some (.cells cs t (0, 0)) → ∃ cs', w'.heap[g]? = some (.cells cs' t (0, 0)) ∧ cs'.size = cs.size
theorem OrdW.refl (g : Nat) (w : World) : OrdW g w w := ⟨Wrote.refl _ _, fun cs t h => ⟨cs, h, rfl⟩⟩
theorem OrdW.trans {g : Nat} {a b c : World} (h : OrdW g a b) (k : OrdW g b c) : OrdW g a c := ⟨h.1.trans k.1, fun cs t hc => by
 obtain ⟨c1, h1, e1⟩ := h.2 cs t hc
 obtain ⟨c2, h2, e2⟩ := k.2 c1 t h1
 exact ⟨c2, h2, e2.trans e1⟩⟩
theorem OrdW.of_below {g : Nat} {a b : World} (h : Below a.heap.size a b) : OrdW g a b := ⟨.of_below h, fun cs t hc => ⟨cs, (h.block g (Array.getElem?_eq_some_iff.1 hc).1).trans hc, rfl⟩⟩
theorem OrdW.setCell {g : Nat} (w : World) (i : Nat) (v : Value) : OrdW g w (w.setCell ⟨g, i, none⟩ v) := ⟨Wrote.setCell (S := fun k => k = g) (.inl rfl) _, fun cs t hc => ⟨_, cells_put hc i v, by simp⟩⟩
theorem own_order {w w' : World} {base : Nat} {g cap : Nat} {xs ys : List Int} (h : w.ownsRow base 21 1 (.slice (some ⟨g, 0, none⟩) xs.length cap) xs.length (Rs xs)) (hO : OrdW g w w') (hl : ys.length = xs.length) (hY : HoldsR w' g 0 ys) : w'.ownsRow base 21 1 (.slice (some ⟨g, 0, none⟩) ys.length cap) ys.length (Rs ys) := by
 refine ⟨by simp, ?_⟩
 rcases h.2 with ⟨hv, _⟩ | ⟨g', cap', cur, hv, hg, hh, hn, hm, hsz, htk⟩
 ·injection hv with hv; cases hv
 ·injection hv with hv _ hc
  injection hv with hv
  injection hv with hv _
  subst hv hc
  obtain ⟨cs', h1, h2⟩ := hO.2 _ _ hh
  refine .inr ⟨g, cap, cs', rfl, hg, h1, by omega, hm, by omega, ?_⟩
  apply List.ext_getElem?
  intro j
  by_cases hj : j < ys.length
  ·have h3 := (hY j ys[j] (List.getElem?_eq_getElem hj)).1
   rw [Nat.zero_add, cell_of_row w' g j cs' _ (0, 0) h1] at h3
   rw [Nat.mul_one, List.getElem?_take_of_lt hj, Array.getElem?_toList, h3]
   simp [Rs, hj]
  ·rw [List.getElem?_eq_none (by rw [List.length_take]; omega), List.getElem?_eq_none (by simp [Rs]; omega)]
theorem own_holds {w : World} {base : Nat} {g cap : Nat} {xs : List Int} (h : w.ownsRow base 21 1 (.slice (some ⟨g, 0, none⟩) xs.length cap) xs.length (Rs xs)) : HoldsR w g 0 xs := fun j x hx => by
 rcases h.2 with ⟨hv, _⟩ | ⟨g', cap', cur, hv, hg, hh, hn, hm, hsz, htk⟩
 ·injection hv with hv; cases hv
 ·injection hv with hv _ hc
  injection hv with hv
  injection hv with hv _
  subst hv hc
  have hj := (List.getElem?_eq_some_iff.1 hx).1
  have h2 := congrArg (fun l => l[j]?) htk
  simp only [Nat.mul_one] at h2
  rw [List.getElem?_take_of_lt hj, Array.getElem?_toList] at h2
  have h3 : (Rs xs)[j]? = some (.int .i32 x) := by simp [Rs, hx]
  rw [Nat.zero_add, cell_of_row w g j cur _ (0, 0) hh, h2, h3]
  exact ⟨rfl, by simp [World.frozen?, hh]⟩
end Go.Proofs.YtajkjaciooijjaaGreatDoor
end

section
set_option linter.unusedSimpArgs false
set_option linter.unusedVariables false
namespace Go.Proofs.YtajkjaciooijjaaGreatDoor
open Go.RowKit
theorem flat_take {f : Int → List Int} {l : List Int} {k : Nat} {y : Int} (h : l[k]? = some y) : (l.take (k + 1)).flatMap f = (l.take k).flatMap f ++ f y := by
 rw [List.take_add_one, h]
 simp
theorem flat_le {f : Int → List Int} {l : List Int} (k : Nat) : ((l.take k).flatMap f).length ≤ (l.flatMap f).length := by
 have : l.flatMap f = (l.take k).flatMap f ++ (l.drop k).flatMap f := by rw [← List.flatMap_append, List.take_append_drop]
 rw [this, List.length_append]
 omega
section
variable {w0 : World} {q : Nat} {bv : Value} {B : BaseF} {c : Bool}
set_option maxRecDepth 20000 in
set_option maxHeartbeats 4000000 in
theorem onec_any (HB : Hid (∀ W, Below q w0 W → BaseIs W bv B ∧ Kinds W)) (hbd : BaseBd B) (r : Int) : R32 r → ∀ (acc : List Int) (rv : Value) (W : World), OneSt w0 q bv c acc rv W → acc.length + (B.one c r).length ≤ 1000000 →
  Calls Tryz.prog 29 #[.int .i32 r, .pointer (some ⟨q, 0, none⟩), .pointer (some ⟨q + 1, 0, none⟩), .pointer (some ⟨q + 2, 0, none⟩), .pointer (some ⟨q + 3, 0, none⟩)] W (OneP w0 q bv c acc (B.one c r) rv W) := by
 induction r using B.wf.induction with
 | _ r ih =>
 intro hr acc rv W st hlen
 have hqW : q + 3 < W.heap.size := st.b8.lt
 have hb := HB.out W st.hb
 have D1 := decomp_is hb.1 r hr hb.2
 obtain ⟨kd, il, hd⟩ : ∃ kd il, B.dec r = (kd, il) := ⟨_, _, rfl⟩
 rw [hd] at D1
 have c3 := st.b3.cell
 have hil : ∀ y ∈ il, R32 y := by have := hbd.dec r; rw [hd] at this; exact this
 have hl18 : il.length ≤ 18 := by have := hbd.declen r; rw [hd] at this; exact this
 have HIH : Hid (∀ y ∈ il, ∀ (acc : List Int) (rv : Value) (W : World), OneSt w0 q bv c acc rv W → acc.length + (B.one c y).length ≤ 1000000 →
  Calls Tryz.prog 29 #[.int .i32 y, .pointer (some ⟨q, 0, none⟩), .pointer (some ⟨q + 1, 0, none⟩), .pointer (some ⟨q + 2, 0, none⟩), .pointer (some ⟨q + 3, 0, none⟩)] W (OneP w0 q bv c acc (B.one c y) rv W)) := fun y hy => ih y (by rw [hd]; exact hy) (hil y hy)
 have HPA : Hid (B.parts c r = if kd ≠ [] ∧ c = false then [] else il) := by show _ = _; unfold BaseF.parts; rw [hd]
 have hacc : acc.length ≤ 1000000 := by omega
 have HLEN := Lib.hid hlen
 have hbq : q ≤ W.heap.size := by omega
 clear ih hd hil hb hlen hbd
 go_enter Tryz.func29, Tryz.ntmps29
 go_wp2_with fail
 refine D1.mono ?_
 rintro e w1 ⟨A, cp, rfl, hown, hb1⟩
 have st1 := st.below hbq hb1
 have c4 := st1.b4.cell
 obtain ⟨A1, cp1, hv1, _, _, hrd⟩ := Rd.of_own hown
 injection hv1 with e1 _ e3
 subst e1 e3
 clear D1 c3
 by_cases h0 : il = []
 ·subst h0
  have HP : Hid (B.parts c r = []) := by show _ = _; rw [HPA.out]; split <;> rfl
  clear hown hrd
  have hone : B.one c r = [r] := B.one_none HP.out
  have HONE := Lib.hid hone
  clear hone
  have hbA : Below w1.heap.size w1 (w1.alloc (.cells #[.int .i32 r] 21)) := (Below.refl _ _).alloc (Nat.le_refl _) _
  have stA := st1.below (by have := hb1.size; omega) hbA
  have c7 := st1.b7.cell
  have hownA := stA.own
  have hbs := hb1.size
  have HST := Lib.hid st
  have HST1 := Lib.hid st1
  have HSTA := Lib.hid stA
  have HBA := Lib.hid (below_then hb1 hbA)
  clear st st1 stA hb1 hbA
  go_wp2_with (at_builtin; refine wpList_app runeElem _ rfl _ _ rfl (q + 4) rfl hownA rfl (Rd.new1 _ _ _) (one_of rfl) (by omega) (by omega) (by simp; omega) ?_)
  intro A9 c9 w9 hown9 hg9 hat9
  have st9 := HSTA.out.push (xs := [r]) hg9 (by simpa [Rs] using hown9)
  have hne7 : some (q + 2) ≠ rv.ownBlock := fun e => by have := (HSTA.out.own.lt _ e.symm).1; omega
  have k7 := (HSTA.out.b7.kept hg9 hne7).cell
  have f7 := (HSTA.out.b7.kept hg9 hne7).frozen
  have hwr : Wrote (fun k => k = q + 2 ∨ rv.ownBlock = some k) W (w9.setCell ⟨q + 2, 0, none⟩ (.slice A9 (acc.length + 1) c9)) :=
   ((Wrote.of_below HBA.out).trans (Wrote.grown hg9 fun k e => .inr e)).trans (Wrote.setCell (S := fun k => k = q + 2 ∨ rv.ownBlock = some k) (.inl (.inl rfl)) _)
  have hob : ∀ k, (Value.slice A9 (acc.length + 1) c9).ownBlock = some k → rv.ownBlock = some k ∨ W.heap.size ≤ k := fun k hk => by
   rcases hat9 with h | h
   ·rw [h] at hk; exact .inl hk
   ·rw [h] at hk
    injection hk with hk
    try rw [World.size_alloc] at hk
    exact .inr (by omega)
  have HF := Lib.hid (And.intro st9 (And.intro hwr hob))
  clear st9 hwr hob hown9 hg9 hat9 hne7 hownA c7
  go_wp2
  go_end0
  rw [HONE.out]
  have hF := HF.out
  exact ⟨_, ⟨_, rfl⟩, by simpa using hF.1, hF.2.1, hF.2.2⟩
 ·have hpos : 0 < il.length := List.length_pos_iff.2 h0
  obtain ⟨m, hm⟩ : ∃ m, m = il.length := ⟨_, rfl⟩
  have hmz : ((m : Int) == 0) = false := by simp; omega
  have HM := Lib.hid hm
  have HH0 := Lib.hid h0
  clear h0
  by_cases hkc : kd ≠ [] ∧ c = false
  ·have HP : Hid (B.parts c r = []) := by show _ = _; rw [HPA.out, if_pos hkc]
   obtain ⟨hk0, rfl⟩ := hkc
   have hte : (mk8 kd).toList.isEmpty = false := by
    rw [toList_bs, bs_mk8]
    cases kd with
    | nil => exact absurd rfl hk0
    | cons a t => rfl
   rw [← hm]
   clear hown hrd hk0 hm hpos
   have hone : B.one false r = [r] := B.one_none HP.out
   have HONE := Lib.hid hone
   clear hone
   have hbA : Below w1.heap.size w1 (w1.alloc (.cells #[.int .i32 r] 21)) := (Below.refl _ _).alloc (Nat.le_refl _) _
   have stA := st1.below (by have := hb1.size; omega) hbA
   have c7 := st1.b7.cell
   have hownA := stA.own
   have hbs := hb1.size
   have HST := Lib.hid st
   have HST1 := Lib.hid st1
   have HSTA := Lib.hid stA
   have HBA := Lib.hid (below_then hb1 hbA)
   clear st st1 stA hb1 hbA
   go_wp2_with (at_builtin; refine wpList_app runeElem _ rfl _ _ rfl (q + 4) rfl hownA rfl (Rd.new1 _ _ _) (one_of rfl) (by omega) (by omega) (by simp; omega) ?_)
   intro A9 c9 w9 hown9 hg9 hat9
   have st9 := HSTA.out.push (xs := [r]) hg9 (by simpa [Rs] using hown9)
   have hne7 : some (q + 2) ≠ rv.ownBlock := fun e => by have := (HSTA.out.own.lt _ e.symm).1; omega
   have k7 := (HSTA.out.b7.kept hg9 hne7).cell
   have f7 := (HSTA.out.b7.kept hg9 hne7).frozen
   have hwr : Wrote (fun k => k = q + 2 ∨ rv.ownBlock = some k) W (w9.setCell ⟨q + 2, 0, none⟩ (.slice A9 (acc.length + 1) c9)) :=
    ((Wrote.of_below HBA.out).trans (Wrote.grown hg9 fun k e => .inr e)).trans (Wrote.setCell (S := fun k => k = q + 2 ∨ rv.ownBlock = some k) (.inl (.inl rfl)) _)
   have hob : ∀ k, (Value.slice A9 (acc.length + 1) c9).ownBlock = some k → rv.ownBlock = some k ∨ W.heap.size ≤ k := fun k hk => by
    rcases hat9 with h | h
    ·rw [h] at hk; exact .inl hk
    ·rw [h] at hk
     injection hk with hk
     try rw [World.size_alloc] at hk
     exact .inr (by omega)
   have HF := Lib.hid (And.intro st9 (And.intro hwr hob))
   clear st9 hwr hob hown9 hg9 hat9 hne7 hownA c7
   go_wp2
   go_end0
   rw [HONE.out]
   have hF := HF.out
   exact ⟨_, ⟨_, rfl⟩, by simpa using hF.1, hF.2.1, hF.2.2⟩
  ·have HP : Hid (B.one c r = il.flatMap (B.one c)) := by
    show _ = _
    have hp : B.parts c r = il := by rw [HPA.out, if_neg hkc]
    rw [B.one_some (by rw [hp]; exact HH0.out), hp]
   obtain ⟨b, off, rfl, hbl, hcx⟩ := hrd.at_ hpos
   have hbge : W.heap.size ≤ b := (hown.lt b rfl).1
   have hbl2 : b < w1.heap.size := hbl
   have HCX := Lib.hid hcx
   have hS1 : b ≠ q + 2 := by omega
   have hS2 : rv.ownBlock ≠ some b := fun e => by have := (st.own.lt b e).2; omega
   have hb1s := hb1.size
   have HB1 := Lib.hid hb1
   have HST1 := Lib.hid st1
   have HACC := Lib.hid hacc
   rw [← hm]
   have hm18 : m ≤ 18 := by omega
   have hs1 : Hid (OneSt w0 q bv c (acc ++ (il.take 0).flatMap (B.one c)) rv w1) := by
    show OneSt _ _ _ _ _ _ _
    rw [List.take_zero, List.flatMap_nil, List.append_nil]
    exact st1
   by_cases hk0 : kd = []
   ·subst hk0
    have hte : (mk8 ([] : List UInt8)).toList.isEmpty = true := by rw [toList_bs, bs_mk8]; rfl
    clear hown hrd hkc hcx hm st st1 hb1 hl18 hpos
    go_wp2
    go_loopw [33] (fun i wr => ∃ k : Nat, k ≤ m ∧ i = .int .i64 k ∧ ∃ rvk, Hid (OneSt w0 q bv c (acc ++ (il.take k).flatMap (B.one c)) rvk wr) ∧ Hid (Wrote (fun j => j = q + 2 ∨ rv.ownBlock = some j) w1 wr) ∧ Hid (∀ j, rvk.ownBlock = some j → rv.ownBlock = some j ∨ w1.heap.size ≤ j)) (fun i _ => m - (intOf i).toNat)
    case atStart => exact ⟨0, Nat.zero_le _, rfl, rv, hs1, Wrote.refl _ _, fun j h => .inl h⟩
    case round =>
     obtain ⟨k, hk, rfl, rvk, HSK, HWK, HOK⟩ := hrel
     by_cases hlt : k < m
     ·obtain ⟨y, hy⟩ : ∃ y, il[k]? = some y := ⟨_, List.getElem?_eq_getElem (by rw [← HM.out]; exact hlt)⟩
      have hFT := flat_take (f := B.one c) hy
      have hFL := flat_le (f := B.one c) (l := il) (k + 1)
      have hlk : (acc ++ (il.take k).flatMap (B.one c)).length + (B.one c y).length ≤ 1000000 := by
       have h1 := HLEN.out
       rw [HP.out] at h1
       rw [hFT, List.length_append] at hFL
       rw [List.length_append]
       omega
      have REC := HIH.out y (List.mem_of_getElem? hy) _ rvk wr HSK.out hlk
      have c0 : wr.cell? ⟨b, off + k, none⟩ = some (.int .i32 y) := (World.cell?_of_block (HWK.out.block b hbl2 (by rintro (e | e); exact hS1 e; exact hS2 e))).trans (HCX.out k _ (by simp [Rs, hy]))
      have c8 := HSK.out.b8.cell
      have hki : (k : Int) < (m : Int) := by omega
      have HFT := Lib.hid hFT
      clear hy hFT hFL hlk
      go_wp2_with fail
      refine REC.mono ?_
      rintro e w2 ⟨rv', ⟨v, rfl⟩, st2, hw2, ho2⟩
      have hst : Hid (OneSt w0 q bv c (acc ++ (il.take (k + 1)).flatMap (B.one c)) rv' w2) := by
       show OneSt _ _ _ _ _ _ _
       rw [HFT.out, ← List.append_assoc]
       exact st2
      have hww : Hid (Wrote (fun j => j = q + 2 ∨ rv.ownBlock = some j) w1 w2) :=
       ((HWK.out.mono (R := fun j => (j = q + 2 ∨ rv.ownBlock = some j) ∨ w1.heap.size ≤ j) fun j _ h => .inl h).trans (hw2.mono fun j _ h => by
        rcases h with h | h
        ·exact .inl (.inl h)
        ·rcases HOK.out j h with h | h
         ·exact .inl (.inr h)
         ·exact .inr h)).mono fun j hj h => by
        rcases h with h | h
        ·exact h
        ·omega
      have hoo : Hid (∀ j, rv'.ownBlock = some j → rv.ownBlock = some j ∨ w1.heap.size ≤ j) := fun j hj => by
       rcases ho2 j hj with h | h
       ·exact HOK.out j h
       ·have := HWK.out.size
        exact .inr (by omega)
      clear st2 hw2 ho2 REC c0 c8
      go_wp2
      go_roundw
      case rel => exact ⟨k + 1, by omega, by go_num, rv', hst, hww, hoo⟩
      case measure => simp [intOf]; omega
     ·obtain rfl : k = m := by omega
      have hki : (k : Int) ≤ (k : Int) := Int.le_refl _
      go_wp2
      go_end0
      have h1 := HSK.out
      rw [HM.out, List.take_length] at h1
      refine ⟨rvk, ⟨_, rfl⟩, by rw [HP.out]; exact h1, (Wrote.of_below HB1.out).trans HWK.out, fun j hj => ?_⟩
      rcases HOK.out j hj with h | h
      ·exact .inl h
      ·exact .inr (by omega)
   ·obtain rfl : c = true := by
     cases c with
     | true => rfl
     | false => exact absurd ⟨hk0, rfl⟩ hkc
    have hte : (mk8 kd).toList.isEmpty = false := by
     rw [toList_bs, bs_mk8]
     cases kd with
     | nil => exact absurd rfl hk0
     | cons a t => rfl
    clear hown hrd hkc hk0 hcx hm st st1 hb1 hl18 hpos
    go_wp2
    go_loopw [33] (fun i wr => ∃ k : Nat, k ≤ m ∧ i = .int .i64 k ∧ ∃ rvk, Hid (OneSt w0 q bv true (acc ++ (il.take k).flatMap (B.one true)) rvk wr) ∧ Hid (Wrote (fun j => j = q + 2 ∨ rv.ownBlock = some j) w1 wr) ∧ Hid (∀ j, rvk.ownBlock = some j → rv.ownBlock = some j ∨ w1.heap.size ≤ j)) (fun i _ => m - (intOf i).toNat)
    case atStart => exact ⟨0, Nat.zero_le _, rfl, rv, hs1, Wrote.refl _ _, fun j h => .inl h⟩
    case round =>
     obtain ⟨k, hk, rfl, rvk, HSK, HWK, HOK⟩ := hrel
     by_cases hlt : k < m
     ·obtain ⟨y, hy⟩ : ∃ y, il[k]? = some y := ⟨_, List.getElem?_eq_getElem (by rw [← HM.out]; exact hlt)⟩
      have hFT := flat_take (f := B.one true) hy
      have hFL := flat_le (f := B.one true) (l := il) (k + 1)
      have hlk : (acc ++ (il.take k).flatMap (B.one true)).length + (B.one true y).length ≤ 1000000 := by
       have h1 := HLEN.out
       rw [HP.out] at h1
       rw [hFT, List.length_append] at hFL
       rw [List.length_append]
       omega
      have REC := HIH.out y (List.mem_of_getElem? hy) _ rvk wr HSK.out hlk
      have c0 : wr.cell? ⟨b, off + k, none⟩ = some (.int .i32 y) := (World.cell?_of_block (HWK.out.block b hbl2 (by rintro (e | e); exact hS1 e; exact hS2 e))).trans (HCX.out k _ (by simp [Rs, hy]))
      have c8 := HSK.out.b8.cell
      have hki : (k : Int) < (m : Int) := by omega
      have HFT := Lib.hid hFT
      clear hy hFT hFL hlk
      go_wp2_with fail
      refine REC.mono ?_
      rintro e w2 ⟨rv', ⟨v, rfl⟩, st2, hw2, ho2⟩
      have hst : Hid (OneSt w0 q bv true (acc ++ (il.take (k + 1)).flatMap (B.one true)) rv' w2) := by
       show OneSt _ _ _ _ _ _ _
       rw [HFT.out, ← List.append_assoc]
       exact st2
      have hww : Hid (Wrote (fun j => j = q + 2 ∨ rv.ownBlock = some j) w1 w2) :=
       ((HWK.out.mono (R := fun j => (j = q + 2 ∨ rv.ownBlock = some j) ∨ w1.heap.size ≤ j) fun j _ h => .inl h).trans (hw2.mono fun j _ h => by
        rcases h with h | h
        ·exact .inl (.inl h)
        ·rcases HOK.out j h with h | h
         ·exact .inl (.inr h)
         ·exact .inr h)).mono fun j hj h => by
        rcases h with h | h
        ·exact h
        ·omega
      have hoo : Hid (∀ j, rv'.ownBlock = some j → rv.ownBlock = some j ∨ w1.heap.size ≤ j) := fun j hj => by
       rcases ho2 j hj with h | h
       ·exact HOK.out j h
       ·have := HWK.out.size
        exact .inr (by omega)
      clear st2 hw2 ho2 REC c0 c8
      go_wp2
      go_roundw
      case rel => exact ⟨k + 1, by omega, by go_num, rv', hst, hww, hoo⟩
      case measure => simp [intOf]; omega
     ·obtain rfl : k = m := by omega
      have hki : (k : Int) ≤ (k : Int) := Int.le_refl _
      go_wp2
      go_end0
      have h1 := HSK.out
      rw [HM.out, List.take_length] at h1
      refine ⟨rvk, ⟨_, rfl⟩, by rw [HP.out]; exact h1, (Wrote.of_below HB1.out).trans HWK.out, fun j hj => ?_⟩
      rcases HOK.out j hj with h | h
      ·exact .inl h
      ·exact .inr (by omega)
end
end Go.Proofs.YtajkjaciooijjaaGreatDoor
end
