/- The document's New; its base as one that says what a base says. decomp.One: a character, parted as far as it can be: the code. Order in place: what a swap does to a list and to the memory. What a law over both bases knows; two lists that are compared. Lists of lists whose last one grows: memory. The text that is joined, in memory. -/
import Derived.Test.YtfdelmodmadoaaaGreatDoorY33
set_option linter.unusedSimpArgs false
set_option linter.unusedVariables false
set_option maxRecDepth 20000
set_option maxHeartbeats 4000000
namespace Go.Proofs.YtfdelmodmadoaaaGreatDoor
section
open Go.RowKit
theorem rnew_any {w : World} (s o : ByteArray) (hs : s.size <= 1073741824) (ho1 : o.size <= 1073741824) : Calls Tryz.prog 44 #[.string s, .string o] w (RNewP (rowsS (bs s)).1 (setsS (bs o)).1 w) := by
 by_cases h0 : (rowsS (bs s)).2.2 = 0
 ·by_cases h1 : (setsS (bs o)).2.2 = 0
  ·exact rnew_main s o hs ho1 h0 h1
  ·exact rnew_sets s o hs ho1 h0 h1
 ·exact rnew_rows s o hs h0
def RefIs (w : World) (v : Value) (B : BaseF) : Prop :=
 ∃ rp os out A A2 c c2, v = .pointer (some ⟨rp, 0, none⟩) /\ RefM w rp os out A A2 c c2 /\ RowsG (os.map (·.1)) /\ (∀ r, B.cls r = clsL (os.map (·.1)) r) /\ (∀ r, B.dec r = decH (prtL (os.map (·.1))) r) /\ (∀ x y, B.pair x y = pairH (prL (os.map (·.1)) out) x y) /\ ∀ r, B.sec r = secH (scL (os.map (·.1)) out) r
section
variable {w w' : World} {v : Value} {B : BaseF}
theorem RefIs.below (h : RefIs w v B) (hb : Below w.heap.size w w') : RefIs w' v B := by
 obtain ⟨rp, os, out, A, A2, c, c2, h1, h2, h3⟩ := h;exact ⟨rp, os, out, A, A2, c, c2, h1, h2.below hb, h3⟩
theorem zcp (h : RefIs w v B) (r : Int) : Calls Tryz.prog 89 #[v, .int .i32 r] w fun e w' => e = .returned (.int .i64 (B.cls r)) /\ w = w' := by
 obtain ⟨rp, os, out, A, A2, c, c2, rfl, h2, h3, h4, _⟩ := h;rw [h4]; exact zih h2 h3 r
theorem rdecomp_is {w0 : World} (h : RefIs w0 v B) (hb : Below w0.heap.size w0 w) (r : Int) (hr : R32 r) : Calls Tryz.prog 118 #[v, .int .i32 r] w (RDecP w0 (B.dec r).1 (B.dec r).2 w) := by
 obtain ⟨rp, os, out, A, A2, c, c2, rfl, h2, h3, _, h4, _⟩ := h;rw [h4]; exact zej h2 hb h3 r hr
theorem rpair_is (h : RefIs w v B) (x y : Int) (hx : R32 x) (hy : R32 y) : Calls Tryz.prog 83 #[v, .int .i32 x, .int .i32 y] w fun e w' => e = .returned (zbm (B.pair x y)) /\ Below w.heap.size w w' := by
 obtain ⟨rp, os, out, A, A2, c, c2, rfl, h2, h3, _, _, h4, _⟩ := h;rw [h4]; exact zg6 h2 h3 x y hx hy
end
def BothP (w : World) (e : Ending) (w' : World) : Prop :=
 (e = .returned (.tuple #[.pointer none, .pointer none]) /\ Below w.heap.size w w') \/
 ∃ bp x B, e = .returned (.tuple #[.pointer (some ⟨bp, 0, none⟩), x]) /\ zax w' (.pointer (some ⟨bp, 0, none⟩)) B /\ RefIs w' x B /\ zan B /\ Below w.heap.size w w'
end
section
open Go.RowKit
abbrev oneFn (q : Nat) : Value := .func (.func 124) #[] #[.pointer (some ⟨q, 0, none⟩), .pointer (some ⟨q + 1, 0, none⟩), .pointer (some ⟨q + 2, 0, none⟩), .pointer (some ⟨q + 3, 0, none⟩)]
structure OneSt (w0 : World) (q : Nat) (bv : Value) (c : Bool) (acc : List Int) (rv : Value) (W : World) : Prop where
 hb : Below q w0 W
 b3 : Boxed W q 26 bv
 b4 : Boxed W (q + 1) 4 (.bool c)
 b7 : Boxed W (q + 2) 33 rv
 b8 : Boxed W (q + 3) 163 (oneFn q)
 own : W.ownsRow (q + 4) 21 1 rv acc.length (Rs acc)
def OneP (w0 : World) (q : Nat) (bv : Value) (c : Bool) (acc l : List Int) (rv : Value) (W : World) (e : Ending) (W' : World) : Prop :=
 ∃ rv', (∃ v, e = .returned v) /\ OneSt w0 q bv c (acc ++ l) rv' W' /\ Wrote (fun k => k = q + 2 \/ rv.ownBlock = some k) W W' /\ ∀ k, rv'.ownBlock = some k -> rv.ownBlock = some k \/ W.heap.size <= k
theorem zlb {W W' : World} {base : Nat} {e : TypeId} {v : Value} {n : Nat} {xs : List Value} (h : W.ownsRow base e 1 v n xs) (hb : ∀ g, v.ownBlock = some g -> W'.heap[g]? = W.heap[g]?) : W'.ownsRow base e 1 v n xs := by
 refine ⟨h.1, ?_⟩;rcases h.2 with hn | ⟨g, cap, cur, hv, hg, hh, rest⟩
 ·exact .inl hn
 ·exact .inr ⟨g, cap, cur, hv, hg, (hb g (by rw [hv]; rfl)).trans hh, rest⟩
section
variable {w0 : World} {q : Nat} {bv : Value} {B : BaseF} {c : Bool}
theorem OneSt.below {acc : List Int} {rv : Value} {W W' : World} (h : OneSt w0 q bv c acc rv W) (hq : q <= W.heap.size) (hb : Below W.heap.size W W') : OneSt w0 q bv c acc rv W' :=
 ⟨h.hb.trans (hb.mono hq), zg h.b3 hb, zg h.b4 hb, zg h.b7 hb, zg h.b8 hb, z8 h.own hb⟩
theorem OneSt.push {acc : List Int} {rv rv' : Value} {W W3 : World} (h : OneSt w0 q bv c acc rv W) {xs : List Int} (hg : W.grownBy W3 rv.ownBlock) (hown : W3.ownsRow (q + 4) 21 1 rv' (acc ++ xs).length (Rs (acc ++ xs))) :
  OneSt w0 q bv c (acc ++ xs) rv' (W3.setCell ⟨q + 2, 0, none⟩ rv') := by
 have hl : ∀ k, rv.ownBlock = some k -> q + 4 <= k := fun k hk => (h.own.lt k hk).1;have hn : ∀ k, k < q + 4 -> some k ≠ rv.ownBlock := fun k hk e => by have := hl k e.symm; omega
 have h7 := h.b7.lt;refine ⟨?_, ?_, ?_, ?_, ?_, ?_⟩
 ·exact (h.hb.grown hg (by omega) (fun k hk => by have := hl k hk; omega)).setCell (p := ⟨q + 2, 0, none⟩) (by simp) _
 ·exact zt (h.b3.kept hg (hn q (by omega))) _ (by omega)
 ·exact zt (h.b4.kept hg (hn (q + 1) (by omega))) _ (by omega)
 ·exact (h.b7.kept hg (hn (q + 2) (by omega))).set _
 ·exact zt (h.b8.kept hg (hn (q + 3) (by omega))) _ (by omega)
 ·refine zlb hown fun g hg => ?_;have := (hown.lt g hg).1;exact Below.heap_setCell W3 ⟨q + 2, 0, none⟩ _ g (by simp; omega)
end
end
section
open Go.RowKit Go.Sort
def midL (A : List Int) (r : Int) (T : List Int) : List Int := A.reverse ++ r :: T
theorem midL_len (A : List Int) (r : Int) (T : List Int) : (midL A r T).length = A.length + 1 + T.length := by simp [midL]; omega
theorem midL_swap (a r : Int) (A T : List Int) : ((midL (a :: A) r T).set A.length r).set (A.length + 1) a = midL A r (a :: T) := by
 unfold midL;rw [List.reverse_cons, List.append_assoc];simp [List.set_append]
theorem znc (A : List Int) (r : Int) (T : List Int) : (midL A r T)[A.length]? = some r := by
 unfold midL;rw [List.getElem?_append_right (by simp)];simp
theorem midL_ahead (a r : Int) (A T : List Int) : (midL (a :: A) r T)[A.length]? = some a := by
 unfold midL;rw [List.reverse_cons, List.append_assoc, List.getElem?_append_right (by simp)];simp
abbrev za5 (w : World) (g off : Nat) (l : List Int) : Prop := ∀ j x, l[j]? = some x -> w.cell? ⟨g, off + j, none⟩ = some (.int .i32 x) /\ w.frozen? ⟨g, off + j, none⟩ = false
theorem zd3 {w : World} {g off : Nat} {l : List Int} (h : za5 w g off l) (i : Nat) (x : Int) (hi : i < l.length) : za5 (w.setCell ⟨g, off + i, none⟩ (.int .i32 x)) g off (l.set i x) := fun j y hy => by
 have h0 := h i l[i] (List.getElem?_eq_getElem hi)
 by_cases hj : i = j
 ·subst hj;rw [List.getElem?_set_self hi] at hy;injection hy with hy;subst hy;exact ⟨World.cell?_setCell_same' w ⟨g, off + i, none⟩ _ (by rw [h0.1]; rfl), by rw [World.frozen?_setCell]; exact h0.2⟩
 ·rw [List.getElem?_set_ne hj] at hy;have h1 := h j y hy;exact ⟨by rw [World.cell?_setCell_other _ _ _ _ (by intro e; injection e with _ e; omega)]; exact h1.1, by rw [World.frozen?_setCell]; exact h1.2⟩
theorem zds {w w' : World} {g off : Nat} {l : List Int} (h : za5 w g off l) (hb : Below w.heap.size w w') : za5 w' g off l := fun j x hx => by
 have h1 := h j x hx;have hl := World.block_lt_of_cell? w _ h1.1;refine ⟨(hb.cell (p := ⟨g, off + j, none⟩) hl).trans h1.1, ?_⟩;have hbl := hb.block g hl;rw [<- h1.2];simp only [World.frozen?, hbl]
def OrdW (g : Nat) (w w' : World) : Prop := Wrote (fun k => k = g) w w' /\ ∀ cs t, w.heap[g]? = some (.cells cs t (0, 0)) -> ∃ cs', w'.heap[g]? = some (.cells cs' t (0, 0)) /\ cs'.size = cs.size
theorem OrdW.refl (g : Nat) (w : World) : OrdW g w w := ⟨Wrote.refl _ _, fun cs t h => ⟨cs, h, rfl⟩⟩
theorem OrdW.trans {g : Nat} {a b c : World} (h : OrdW g a b) (k : OrdW g b c) : OrdW g a c := ⟨h.1.trans k.1, fun cs t hc => by
 obtain ⟨c1, h1, e1⟩ := h.2 cs t hc;obtain ⟨c2, h2, e2⟩ := k.2 c1 t h1
 exact ⟨c2, h2, e2.trans e1⟩⟩
theorem OrdW.of_below {g : Nat} {a b : World} (h : Below a.heap.size a b) : OrdW g a b := ⟨.of_below h, fun cs t hc => ⟨cs, (h.block g (Array.getElem?_eq_some_iff.1 hc).1).trans hc, rfl⟩⟩
theorem OrdW.setCell {g : Nat} (w : World) (i : Nat) (v : Value) : OrdW g w (w.setCell ⟨g, i, none⟩ v) := ⟨Wrote.setCell (S := fun k => k = g) (.inl rfl) _, fun cs t hc => ⟨_, zaw hc i v, by simp⟩⟩
theorem zj6 {w w' : World} {base : Nat} {g cap : Nat} {xs ys : List Int} (h : w.ownsRow base 21 1 (.slice (some ⟨g, 0, none⟩) xs.length cap) xs.length (Rs xs)) (hO : OrdW g w w') (hl : ys.length = xs.length) (hY : za5 w' g 0 ys) : w'.ownsRow base 21 1 (.slice (some ⟨g, 0, none⟩) ys.length cap) ys.length (Rs ys) := by
 refine ⟨by simp, ?_⟩;rcases h.2 with ⟨hv, _⟩ | ⟨g', cap', cur, hv, hg, hh, hn, hm, hsz, htk⟩
 ·injection hv with hv; cases hv
 ·injection hv with hv _ hc;injection hv with hv;injection hv with hv _;subst hv hc;obtain ⟨cs', h1, h2⟩ := hO.2 _ _ hh;refine .inr ⟨g, cap, cs', rfl, hg, h1, by omega, hm, by omega, ?_⟩;apply List.ext_getElem?;intro j
  by_cases hj : j < ys.length
  ·have h3 := (hY j ys[j] (List.getElem?_eq_getElem hj)).1;rw [Nat.zero_add, cell_of_row w' g j cs' _ (0, 0) h1] at h3;rw [Nat.mul_one, List.getElem?_take_of_lt hj, Array.getElem?_toList, h3];simp [Rs, hj]
  ·rw [List.getElem?_eq_none (by rw [List.length_take]; omega), List.getElem?_eq_none (by simp [Rs]; omega)]
theorem zj7 {w : World} {base : Nat} {g cap : Nat} {xs : List Int} (h : w.ownsRow base 21 1 (.slice (some ⟨g, 0, none⟩) xs.length cap) xs.length (Rs xs)) : za5 w g 0 xs := fun j x hx => by
 rcases h.2 with ⟨hv, _⟩ | ⟨g', cap', cur, hv, hg, hh, hn, hm, hsz, htk⟩
 ·injection hv with hv; cases hv
 ·injection hv with hv _ hc;injection hv with hv;injection hv with hv _;subst hv hc;have hj := (List.getElem?_eq_some_iff.1 hx).1;have h2 := congrArg (fun l => l[j]?) htk;simp only [Nat.mul_one] at h2;rw [List.getElem?_take_of_lt hj, Array.getElem?_toList] at h2;have h3 : (Rs xs)[j]? = some (.int .i32 x) := (by simp [Rs, hx]);rw [Nat.zero_add, cell_of_row w g j cur _ (0, 0) hh, h2, h3];exact ⟨rfl, by simp [World.frozen?, hh]⟩
end
section
open Go.RowKit Go.Lib
structure LawSt (w : World) (bp : Nat) (x : Value) (B : BaseF) : Prop where
 b : zax w (.pointer (some ⟨bp, 0, none⟩)) B
 r : RefIs w x B
 bd : zan B
 e : Env w
 k : Kinds w
theorem LawSt.below {w w' : World} {bp : Nat} {x : Value} {B : BaseF} (h : LawSt w bp x B) (hb : Below w.heap.size w w') : LawSt w' bp x B :=
 ⟨h.b.below hb, h.r.below hb, h.bd, h.e.below hb, h.k.below' hb⟩
theorem zb3 {A A2 : Option Addr} {n m ca cb : Nat} {xs ys : List Int} {w : World} (hx : Rd w A n (Rs xs)) (hy : Rd w A2 m (Rs ys)) (he : xs = ys) (hn : n <= 1099511627776) (hm : m <= 1099511627776) :
  Calls Tryz.prog 15 #[.slice A n ca, .slice A2 m cb] w fun e w' => e = .returned (.bool true) /\ Below w.heap.size w w' :=
 (runes_any A A2 n m ca cb xs ys w hx hy hn hm).mono fun _ _ ⟨h1, h2⟩ => ⟨by rw [h1, decide_eq_true he], h2.below _⟩
theorem zag.arg {w w' : World} {zs : List Int} {e : Ending} (h : zag w zs e w') (hR : ∀ x ∈ zs, R32 x) : ∃ A c, e = .returned (.slice A zs.length c) /\ ArgR w' A zs.length c zs /\ Below w.heap.size w w' := by
 obtain ⟨A, c, he, hown, hb⟩ := h;obtain ⟨A', c', e2, h1, h2, hr⟩ := Rd.of_own hown;injection e2 with e2a _ e2c;subst e2a e2c;refine ⟨A, c, he, ⟨hr, rfl, hR, h1, h2, fun hA => ?_⟩, hb⟩;rcases hown.2 with ⟨hv, h0⟩ | ⟨g, cap, cur, hv, _⟩
 ·injection hv with _ _ hc;exact ⟨h0, hc⟩
 ·injection hv with hv _ _;rw [hA] at hv
  cases hv
section
variable {B : BaseF}
end
end
section
open Go.RowKit
section
variable {w w' : World} {B : Nat} {os : List LA} {A : Option Addr} {c : Nat}
theorem zj5 {n g j : Nat} {e : TypeId} {xs : List Value} (h : w.ownsRow B e 1 (.slice (some ⟨g, 0, none⟩) n c) n xs) (hj : j < n) (v : Value) : (w.setCell ⟨g, j, none⟩ v).ownsRow B e 1 (.slice (some ⟨g, 0, none⟩) n c) n (xs.set j v) := by
 refine ⟨by rw [List.length_set]; exact h.1, ?_⟩;rcases h.2 with ⟨hh, _⟩ | ⟨g', cap, cur, hv, hB, hh, hn, hm, hs, ht⟩
 ·simp at hh
 ·simp only [Value.slice.injEq, Option.some.injEq, Addr.mk.injEq, and_true, true_and] at hv;obtain ⟨rfl, rfl⟩ := hv;refine .inr ⟨g, c, cur.setIfInBounds j v, rfl, hB, zaw hh j v, hn, hm, by rw [Array.size_setIfInBounds]; exact hs, ?_⟩;rw [<- ht, Array.toList_setIfInBounds, List.take_set]
end
section
variable {w w1 w5 : World} {B g c n k m : Nat} {os : List LA} {x : LA}
end
end
section
open Go.RowKit Go.Sort
structure TextM (base : Nat) (w : World) (tp : Nat) (pv : Value) (l : List Int) (A : Option Addr) (c : Nat) (hd last : Int) : Prop where
 box : w.heap[tp]? = some (.cells #[pv, .slice A l.length c, .int .i64 hd, .int .i64 last] 162 (0, 0))
 own : w.ownsRow base 21 1 (.slice A l.length c) l.length (Rs l)
 tb : base <= tp
theorem zmz : (21 : TypeId) ≠ 162 := by decide
section
variable {base tp c : Nat} {w w' : World} {pv : Value} {l : List Int} {A : Option Addr} {hd last : Int}
theorem TextM.below (h : TextM base w tp pv l A c hd last) (hb : Below w.heap.size w w') : TextM base w' tp pv l A c hd last := ⟨zd h.box hb, z8 h.own hb, h.tb⟩
theorem TextM.lt (h : TextM base w tp pv l A c hd last) : tp < w.heap.size := (Array.getElem?_eq_some_iff.1 h.box).1
theorem TextM.ne (h : TextM base w tp pv l A c hd last) : ∀ g, (Value.slice A l.length c).ownBlock = some g -> g ≠ tp := by
 intro g hg e;subst e;rcases h.own.2 with ⟨hv, _⟩ | ⟨g', cap, cur, hv, _, hh, _⟩
 ·rw [hv] at hg; cases hg
 ·rw [hv] at hg;injection hg with hg;simp only [] at hg;subst hg;have h1 := h.box;rw [hh] at h1;injection h1 with h1;injection h1 with _ h1 _;exact zmz h1
theorem zil (h : TextM base w tp pv l A c hd last) (j : Nat) (v : Value) : (w.setCell ⟨tp, j, none⟩ v).ownsRow base 21 1 (.slice A l.length c) l.length (Rs l) :=
 zlb h.own fun g hg => Below.heap_setCell w ⟨tp, j, none⟩ v g (h.ne g hg)
theorem TextM.setHd (h : TextM base w tp pv l A c hd last) (x : Int) : TextM base (w.setCell ⟨tp, 2, none⟩ (.int .i64 x)) tp pv l A c x last := by
 refine ⟨?_, zil h _ _, h.tb⟩;have := zaw h.box 2 (.int .i64 x);simpa using this
theorem TextM.setLast (h : TextM base w tp pv l A c hd last) (x : Int) : TextM base (w.setCell ⟨tp, 3, none⟩ (.int .i64 x)) tp pv l A c hd x := by
 refine ⟨?_, zil h _ _, h.tb⟩;have := zaw h.box 3 (.int .i64 x);simpa using this
theorem TextM.grow {w2 : World} {A' : Option Addr} {c' : Nat} {r : Int} (h : TextM base w tp pv l A c hd last) (hown : w2.ownsRow base 21 1 (.slice A' (l.length + 1) c') (l.length + 1) (Rs l ++ [.int .i32 r])) (hg : w.grownBy w2 (Value.slice A l.length c).ownBlock) (hB : base <= w.heap.size) :
  TextM base (w2.setCell ⟨tp, 1, none⟩ (.slice A' (l.length + 1) c')) tp pv (l ++ [r]) A' c' hd last := by
 have hl : (l ++ [r]).length = l.length + 1 := (by simp);have hr : Rs (l ++ [r]) = Rs l ++ [.int .i32 r] := (by simp [Rs]);have hb2 := zu h.box hg (fun e => h.ne tp e rfl);have h2 : TextM base w2 tp pv (l ++ [r]) A' c' hd last -> True := fun _ => trivial;have hbox := zaw hb2 1 (.slice A' (l.length + 1) c');refine ⟨by rw [hl]; simpa using hbox, ?_, h.tb⟩;rw [hl, hr];refine zlb hown fun g hg2 => Below.heap_setCell w2 ⟨tp, 1, none⟩ _ g ?_;intro e;have e : g = tp := e;subst e;rcases hown.2 with ⟨hv, _⟩ | ⟨g', cap, cur, hv, _, hh, _⟩
 ·rw [hv] at hg2; cases hg2
 ·rw [hv] at hg2;injection hg2 with hg2;simp only [] at hg2;subst hg2;rw [hh] at hb2;injection hb2 with h1;injection h1 with _ h1 _;exact zmz h1
theorem TextM.put {g k : Nat} (h : TextM base w tp pv l (some ⟨g, 0, none⟩) c hd last) (hk : k < l.length) (x : Int) : TextM base (w.setCell ⟨g, k, none⟩ (.int .i32 x)) tp pv (l.set k x) (some ⟨g, 0, none⟩) c hd last := by
 have hne : tp ≠ g := fun e => h.ne g rfl e.symm;have hl : (l.set k x).length = l.length := List.length_set;refine ⟨?_, ?_, h.tb⟩
 ·rw [hl];exact (Below.heap_setCell w ⟨g, k, none⟩ _ tp hne).trans h.box
 ·rw [hl];have h1 := zj5 (j := k) h.own hk (.int .i32 x);have e : (Rs l).set k (.int .i32 x) = Rs (l.set k x) := (by simp [Rs, List.map_set]);rwa [e] at h1
theorem TextM.addr (h : TextM base w tp pv l A c hd last) (h0 : 0 < l.length) : ∃ g, A = some ⟨g, 0, none⟩ /\ base <= g := by
 rcases h.own.2 with ⟨hv, h1⟩ | ⟨g', cap, cur, hv, hg, _⟩
 ·omega
 ·injection hv with hv _ _;exact ⟨g', hv, hg⟩
theorem TextM.at_ {g : Nat} (h : TextM base w tp pv l (some ⟨g, 0, none⟩) c hd last) {k : Nat} {x : Int} (hx : l[k]? = some x) : w.cell? ⟨g, k, none⟩ = some (.int .i32 x) /\ w.frozen? ⟨g, k, none⟩ = false := by
 have hk := (List.getElem?_eq_some_iff.1 hx).1;rcases h.own.2 with ⟨hv, _⟩ | ⟨g', cap, cur, hv, _, hh, hn, hm, hs, ht⟩
 ·injection hv with hv; cases hv
 ·injection hv with hv;injection hv with hv;injection hv with hv;subst hv;refine ⟨?_, zc hh k⟩;refine za hh k ?_;have h1 : (Rs l)[k]? = some (.int .i32 x) := (by simp [Rs, hx]);rw [<- ht, List.getElem?_take, Nat.mul_one, if_pos hk] at h1;simpa using h1
end
end
end Go.Proofs.YtfdelmodmadoaaaGreatDoor
