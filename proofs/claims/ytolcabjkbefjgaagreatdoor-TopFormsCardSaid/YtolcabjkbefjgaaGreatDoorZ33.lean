/- Order in place: what a swap does to a list and to the memory. Lists of lists whose last one grows: memory. The text that is joined, in memory. A list of texts as an argument; whether it is not too great. Arguments of TopForms, opened; the table of kinds of characters out of what lies there when the call begins. decomp.order: marks where they belong, in place: the code. -/
import Derived.Test.YtolcabjkbefjgaaGreatDoorZ32
import Derived.StillTailTactics
set_option linter.unusedSimpArgs false
set_option linter.unusedVariables false
set_option maxRecDepth 20000
set_option maxHeartbeats 4000000
namespace Go.Proofs.YtolcabjkbefjgaaGreatDoor
section
open Go.RowKit Go.Sort
def midL (A : List Int) (r : Int) (T : List Int) : List Int := A.reverse ++ r :: T
theorem midL_len (A : List Int) (r : Int) (T : List Int) : (midL A r T).length = A.length + 1 + T.length := by simp [midL]; omega
theorem midL_swap (a r : Int) (A T : List Int) : ((midL (a :: A) r T).set A.length r).set (A.length + 1) a = midL A r (a :: T) := by
 unfold midL;rw [List.reverse_cons, List.append_assoc];simp [List.set_append]
theorem zme (A : List Int) (r : Int) (T : List Int) : (midL A r T)[A.length]? = some r := by
 unfold midL;rw [List.getElem?_append_right (by simp)];simp
theorem midL_ahead (a r : Int) (A T : List Int) : (midL (a :: A) r T)[A.length]? = some a := by
 unfold midL;rw [List.reverse_cons, List.append_assoc, List.getElem?_append_right (by simp)];simp
abbrev za5 (w : World) (g off : Nat) (l : List Int) : Prop := ∀ j x, l[j]? = some x -> w.cell? ⟨g, off + j, none⟩ = some (.int .i32 x) /\ w.frozen? ⟨g, off + j, none⟩ = false
theorem zhk {w : World} {g off : Nat} {l : List Int} (h : za5 w g off l) (i : Nat) (x : Int) (hi : i < l.length) : za5 (w.setCell ⟨g, off + i, none⟩ (.int .i32 x)) g off (l.set i x) := fun j y hy => by
 have h0 := h i l[i] (List.getElem?_eq_getElem hi)
 by_cases hj : i = j
 ·subst hj;rw [List.getElem?_set_self hi] at hy;injection hy with hy;subst hy;exact ⟨World.cell?_setCell_same' w ⟨g, off + i, none⟩ _ (by rw [h0.1]; rfl), by rw [World.frozen?_setCell]; exact h0.2⟩
 ·rw [List.getElem?_set_ne hj] at hy;have h1 := h j y hy;exact ⟨by rw [World.cell?_setCell_other _ _ _ _ (by intro e; injection e with _ e; omega)]; exact h1.1, by rw [World.frozen?_setCell]; exact h1.2⟩
theorem zde {w w' : World} {g off : Nat} {l : List Int} (h : za5 w g off l) (hb : Below w.heap.size w w') : za5 w' g off l := fun j x hx => by
 have h1 := h j x hx;have hl := World.block_lt_of_cell? w _ h1.1;refine ⟨(hb.cell (p := ⟨g, off + j, none⟩) hl).trans h1.1, ?_⟩;have hbl := hb.block g hl;rw [<- h1.2];simp only [World.frozen?, hbl]
def OrdW (g : Nat) (w w' : World) : Prop := Wrote (fun k => k = g) w w' /\ ∀ cs t, w.heap[g]? = some (.cells cs t (0, 0)) -> ∃ cs', w'.heap[g]? = some (.cells cs' t (0, 0)) /\ cs'.size = cs.size
theorem OrdW.refl (g : Nat) (w : World) : OrdW g w w := ⟨Wrote.refl _ _, fun cs t h => ⟨cs, h, rfl⟩⟩
theorem OrdW.trans {g : Nat} {a b c : World} (h : OrdW g a b) (k : OrdW g b c) : OrdW g a c := ⟨h.1.trans k.1, fun cs t hc => by
 obtain ⟨c1, h1, e1⟩ := h.2 cs t hc;obtain ⟨c2, h2, e2⟩ := k.2 c1 t h1
 exact ⟨c2, h2, e2.trans e1⟩⟩
theorem OrdW.of_below {g : Nat} {a b : World} (h : Below a.heap.size a b) : OrdW g a b := ⟨.of_below h, fun cs t hc => ⟨cs, (h.block g (Array.getElem?_eq_some_iff.1 hc).1).trans hc, rfl⟩⟩
theorem OrdW.setCell {g : Nat} (w : World) (i : Nat) (v : Value) : OrdW g w (w.setCell ⟨g, i, none⟩ v) := ⟨Wrote.setCell (S := fun k => k = g) (.inl rfl) _, fun cs t hc => ⟨_, zdg hc i v, by simp⟩⟩
theorem own_order {w w' : World} {base : Nat} {g cap : Nat} {xs ys : List Int} (h : w.ownsRow base 21 1 (.slice (some ⟨g, 0, none⟩) xs.length cap) xs.length (Rs xs)) (hO : OrdW g w w') (hl : ys.length = xs.length) (hY : za5 w' g 0 ys) : w'.ownsRow base 21 1 (.slice (some ⟨g, 0, none⟩) ys.length cap) ys.length (Rs ys) := by
 refine ⟨by simp, ?_⟩;rcases h.2 with ⟨hv, _⟩ | ⟨g', cap', cur, hv, hg, hh, hn, hm, hsz, htk⟩
 ·injection hv with hv; cases hv
 ·injection hv with hv _ hc;injection hv with hv;injection hv with hv _;subst hv hc;obtain ⟨cs', h1, h2⟩ := hO.2 _ _ hh;refine .inr ⟨g, cap, cs', rfl, hg, h1, by omega, hm, by omega, ?_⟩;apply List.ext_getElem?;intro j
  by_cases hj : j < ys.length
  ·have h3 := (hY j ys[j] (List.getElem?_eq_getElem hj)).1;rw [Nat.zero_add, cell_of_row w' g j cs' _ (0, 0) h1] at h3;rw [Nat.mul_one, List.getElem?_take_of_lt hj, Array.getElem?_toList, h3];simp [Rs, hj]
  ·rw [List.getElem?_eq_none (by rw [List.length_take]; omega), List.getElem?_eq_none (by simp [Rs]; omega)]
theorem own_holds {w : World} {base : Nat} {g cap : Nat} {xs : List Int} (h : w.ownsRow base 21 1 (.slice (some ⟨g, 0, none⟩) xs.length cap) xs.length (Rs xs)) : za5 w g 0 xs := fun j x hx => by
 rcases h.2 with ⟨hv, _⟩ | ⟨g', cap', cur, hv, hg, hh, hn, hm, hsz, htk⟩
 ·injection hv with hv; cases hv
 ·injection hv with hv _ hc;injection hv with hv;injection hv with hv _;subst hv hc;have hj := (List.getElem?_eq_some_iff.1 hx).1;have h2 := congrArg (fun l => l[j]?) htk;simp only [Nat.mul_one] at h2;rw [List.getElem?_take_of_lt hj, Array.getElem?_toList] at h2;have h3 : (Rs xs)[j]? = some (.int .i32 x) := (by simp [Rs, hx]);rw [Nat.zero_add, cell_of_row w g j cur _ (0, 0) hh, h2, h3];exact ⟨rfl, by simp [World.frozen?, hh]⟩
end
section
open Go.RowKit
section
variable {w w' : World} {B : Nat} {os : List LA} {A : Option Addr} {c : Nat}
theorem own_setAt {n g j : Nat} {e : TypeId} {xs : List Value} (h : w.ownsRow B e 1 (.slice (some ⟨g, 0, none⟩) n c) n xs) (hj : j < n) (v : Value) : (w.setCell ⟨g, j, none⟩ v).ownsRow B e 1 (.slice (some ⟨g, 0, none⟩) n c) n (xs.set j v) := by
 refine ⟨by rw [List.length_set]; exact h.1, ?_⟩;rcases h.2 with ⟨hh, _⟩ | ⟨g', cap, cur, hv, hB, hh, hn, hm, hs, ht⟩
 ·simp at hh
 ·simp only [Value.slice.injEq, Option.some.injEq, Addr.mk.injEq, and_true, true_and] at hv;obtain ⟨rfl, rfl⟩ := hv;refine .inr ⟨g, c, cur.setIfInBounds j v, rfl, hB, zdg hh j v, hn, hm, by rw [Array.size_setIfInBounds]; exact hs, ?_⟩;rw [<- ht, Array.toList_setIfInBounds, List.take_set]
end
section
variable {w w1 w5 : World} {B g c n k m : Nat} {os : List LA} {x : LA}
end
end
section
open Go.RowKit Go.Sort
structure TextM (base : Nat) (w : World) (tp : Nat) (pv : Value) (l : List Int) (A : Option Addr) (c : Nat) (hd last : Int) : Prop where
 box : w.heap[tp]? = some (.cells #[pv, .slice A l.length c, .int .i64 hd, .int .i64 last] 194 (0, 0))
 own : w.ownsRow base 21 1 (.slice A l.length c) l.length (Rs l)
 tb : base <= tp
theorem zly : (21 : TypeId) ≠ 194 := by decide
section
variable {base tp c : Nat} {w w' : World} {pv : Value} {l : List Int} {A : Option Addr} {hd last : Int}
theorem TextM.below (h : TextM base w tp pv l A c hd last) (hb : Below w.heap.size w w') : TextM base w' tp pv l A c hd last := ⟨zd h.box hb, zl h.own hb, h.tb⟩
theorem TextM.lt (h : TextM base w tp pv l A c hd last) : tp < w.heap.size := (Array.getElem?_eq_some_iff.1 h.box).1
theorem TextM.ne (h : TextM base w tp pv l A c hd last) : ∀ g, (Value.slice A l.length c).ownBlock = some g -> g ≠ tp := by
 intro g hg e;subst e;rcases h.own.2 with ⟨hv, _⟩ | ⟨g', cap, cur, hv, _, hh, _⟩
 ·rw [hv] at hg; cases hg
 ·rw [hv] at hg;injection hg with hg;simp only [] at hg;subst hg;have h1 := h.box;rw [hh] at h1;injection h1 with h1;injection h1 with _ h1 _;exact zly h1
theorem zhf (h : TextM base w tp pv l A c hd last) (j : Nat) (v : Value) : (w.setCell ⟨tp, j, none⟩ v).ownsRow base 21 1 (.slice A l.length c) l.length (Rs l) :=
 zgd h.own fun g hg => Below.heap_setCell w ⟨tp, j, none⟩ v g (h.ne g hg)
theorem TextM.setHd (h : TextM base w tp pv l A c hd last) (x : Int) : TextM base (w.setCell ⟨tp, 2, none⟩ (.int .i64 x)) tp pv l A c x last := by
 refine ⟨?_, zhf h _ _, h.tb⟩;have := zdg h.box 2 (.int .i64 x);simpa using this
theorem TextM.setLast (h : TextM base w tp pv l A c hd last) (x : Int) : TextM base (w.setCell ⟨tp, 3, none⟩ (.int .i64 x)) tp pv l A c hd x := by
 refine ⟨?_, zhf h _ _, h.tb⟩;have := zdg h.box 3 (.int .i64 x);simpa using this
theorem TextM.grow {w2 : World} {A' : Option Addr} {c' : Nat} {r : Int} (h : TextM base w tp pv l A c hd last) (hown : w2.ownsRow base 21 1 (.slice A' (l.length + 1) c') (l.length + 1) (Rs l ++ [.int .i32 r])) (hg : w.grownBy w2 (Value.slice A l.length c).ownBlock) (hB : base <= w.heap.size) :
  TextM base (w2.setCell ⟨tp, 1, none⟩ (.slice A' (l.length + 1) c')) tp pv (l ++ [r]) A' c' hd last := by
 have hl : (l ++ [r]).length = l.length + 1 := (by simp);have hr : Rs (l ++ [r]) = Rs l ++ [.int .i32 r] := (by simp [Rs]);have hb2 := zt h.box hg (fun e => h.ne tp e rfl);have h2 : TextM base w2 tp pv (l ++ [r]) A' c' hd last -> True := fun _ => trivial;have hbox := zdg hb2 1 (.slice A' (l.length + 1) c');refine ⟨by rw [hl]; simpa using hbox, ?_, h.tb⟩;rw [hl, hr];refine zgd hown fun g hg2 => Below.heap_setCell w2 ⟨tp, 1, none⟩ _ g ?_;intro e;have e : g = tp := e;subst e;rcases hown.2 with ⟨hv, _⟩ | ⟨g', cap, cur, hv, _, hh, _⟩
 ·rw [hv] at hg2; cases hg2
 ·rw [hv] at hg2;injection hg2 with hg2;simp only [] at hg2;subst hg2;rw [hh] at hb2;injection hb2 with h1;injection h1 with _ h1 _;exact zly h1
theorem TextM.put {g k : Nat} (h : TextM base w tp pv l (some ⟨g, 0, none⟩) c hd last) (hk : k < l.length) (x : Int) : TextM base (w.setCell ⟨g, k, none⟩ (.int .i32 x)) tp pv (l.set k x) (some ⟨g, 0, none⟩) c hd last := by
 have hne : tp ≠ g := fun e => h.ne g rfl e.symm;have hl : (l.set k x).length = l.length := List.length_set;refine ⟨?_, ?_, h.tb⟩
 ·rw [hl];exact (Below.heap_setCell w ⟨g, k, none⟩ _ tp hne).trans h.box
 ·rw [hl];have h1 := own_setAt (j := k) h.own hk (.int .i32 x);have e : (Rs l).set k (.int .i32 x) = Rs (l.set k x) := (by simp [Rs, List.map_set]);rwa [e] at h1
theorem TextM.addr (h : TextM base w tp pv l A c hd last) (h0 : 0 < l.length) : ∃ g, A = some ⟨g, 0, none⟩ /\ base <= g := by
 rcases h.own.2 with ⟨hv, h1⟩ | ⟨g', cap, cur, hv, hg, _⟩
 ·omega
 ·injection hv with hv _ _;exact ⟨g', hv, hg⟩
theorem TextM.at_ {g : Nat} (h : TextM base w tp pv l (some ⟨g, 0, none⟩) c hd last) {k : Nat} {x : Int} (hx : l[k]? = some x) : w.cell? ⟨g, k, none⟩ = some (.int .i32 x) /\ w.frozen? ⟨g, k, none⟩ = false := by
 have hk := (List.getElem?_eq_some_iff.1 hx).1;rcases h.own.2 with ⟨hv, _⟩ | ⟨g', cap, cur, hv, _, hh, hn, hm, hs, ht⟩
 ·injection hv with hv; cases hv
 ·injection hv with hv;injection hv with hv;injection hv with hv;subst hv;refine ⟨?_, zc hh k⟩;refine za hh k ?_;have h1 : (Rs l)[k]? = some (.int .i32 x) := (by simp [Rs, hx]);rw [<- ht, List.getElem?_take, Nat.mul_one, if_pos hk] at h1;simpa using h1
end
end
section
open Go.RowKit Go.Lib
structure ArgSS (W : World) (A : Option Addr) (n : Nat) (ss : List ByteArray) : Prop where
 len : ss.length = n
 mx : n <= maxLen
 rd : Rd W A n (ss.map Value.string)
theorem ArgSS.below {w w' : World} {A : Option Addr} {n : Nat} {ss : List ByteArray} (h : ArgSS w A n ss) (hb : Below w.heap.size w w') : ArgSS w' A n ss := ⟨h.len, h.mx, h.rd.below hb⟩
theorem ArgSS.at_ {w : World} {A : Option Addr} {n : Nat} {ss : List ByteArray} (h : ArgSS w A n ss) {k : Nat} (hk : k < n) : ∃ b off s, A = some ⟨b, off, none⟩ /\ ss[k]? = some s /\ w.cell? ⟨b, off + k, none⟩ = some (.string s) := by
 obtain ⟨b, off, rfl, _, hc⟩ := h.rd.at_ (by omega);obtain ⟨s, hs⟩ : ∃ s, ss[k]? = some s := ⟨_, List.getElem?_eq_getElem (by rw [h.len]; exact hk)⟩;exact ⟨b, off, s, rfl, hs, hc k _ (by simp [hs])⟩
def SameT (w w' : World) : Prop := w = w'
def tfewB (ss : List ByteArray) : Bool := ss.all (fun s => decide (s.size <= 60)) && decide (ss.length <= 20)
theorem zkc {ss : List ByteArray} (h : tfewB ss = true) : ss.length <= 20 /\ ∀ s ∈ ss, s.size <= 60 := by
 unfold tfewB at h;rw [Bool.and_eq_true, List.all_eq_true] at h;exact ⟨by simpa using h.2, fun s hs => by simpa using h.1 s hs⟩
theorem tfew_any (A : Option Addr) (n c : Nat) (ss : List ByteArray) (w : World) (h : ArgSS w A n ss) : Calls Tryz.prog 6 #[.slice A n c] w fun e w' => e = .returned (.bool (tfewB ss)) /\ w = w' := by
 obtain ⟨R, hR⟩ : ∃ R, R = tfewB ss := ⟨_, rfl⟩;rw [<- hR];have HR := hz0q hR;have HA := hz0q h;have hmx : n <= 9223372036854775807 := Nat.le_trans h.mx (by decide);clear h hR;go_enter Tryz.func6, Tryz.ntmps6;go_wp2_with fail
 go_loopw [3] (fun i wr => ∃ k : Nat, k <= n /\ i = .int .i64 k /\ SameT w wr /\ Hid (∀ s ∈ ss.take k, s.size <= 60)) (fun i _ => n - (intOf i).toNat)
 case atStart => exact ⟨0, Nat.zero_le _, rfl, (rfl : w = w), hz0q (fun s hs => by simp at hs)⟩
 case round =>
  obtain ⟨k, hk, rfl, hsm, HK⟩ := hrel;obtain rfl : w = wr := hsm
  by_cases hlt : k < n
  ·have hki : (k : Int) < (n : Int) := (by omega);have hk0 : (0 : Int) <= (k : Int) := (by omega);have hwk : IntKind.i64.wrap ((k : Int) + 1) = (k : Int) + 1 := IntWalk.i64_in _ (by omega);obtain ⟨b, off, s, rfl, hs, hc⟩ := HA.out.at_ hlt;have HS := hz0q hs
   by_cases h60 : 60 < s.size
   ·have hs6 : (60 : Int) < (s.size : Int) := by omega
    have HV : Hid (R = false) := by
     show _ = _;rw [HR.out]
     cases hh : tfewB ss
     ·rfl
     ·have := (zkc hh).2 s (List.mem_of_getElem? hs);omega
    clear hs;go_wp2;go_returns;rw [HV.out];exact ⟨rfl, rfl⟩
   ·have hs6 : (s.size : Int) <= 60 := by omega
    have HK2 : Hid (∀ s ∈ ss.take (k + 1), s.size <= 60) := fun x hx => by
     rw [List.take_add_one, hs] at hx;rcases List.mem_append.1 hx with h | h
     ·exact HK.out x h
     ·have : x = s := (by simpa using h);subst this;omega
    clear hs;go_wp2;go_roundw
    case rel => exact ⟨k + 1, by omega, by go_num, (rfl : w = w), HK2⟩
    case measure => simp [intOf] <;> omega
  ·obtain rfl : k = n := (by omega);have hki : ¬ ((k : Int) < (k : Int)) := by omega
   have HV : Hid (R = decide ((k : Int) <= 20)) := by
    show _ = _;rw [HR.out];unfold tfewB
    have h1 : ss.all (fun s => decide (s.size <= 60)) = true := by
     rw [List.all_eq_true];intro s hs;have := HK.out s (by rw [List.take_of_length_le (by rw [HA.out.len]; exact Nat.le_refl _)]; exact hs);simpa using this
    rw [h1, Bool.true_and, HA.out.len];exact decide_eq_decide.2 (by omega)
   go_wp2;go_returns;rw [HV.out];exact ⟨rfl, rfl⟩
end
section
open Go.ChangeShapes Go.WideShapes Go.ChangeAt Go.RowKit Go.Lib
theorem way_c : Tryz.prog.cellsOf 27 = 4 := by kernel_rfl
theorem how3_c : Tryz.prog.cellsOf 25 = 3 := by kernel_rfl
theorem zlx : Tryz.prog.cellsOf 3 = 1 := by kernel_rfl
theorem way_cb : Tryz.prog.cellsOf 4 = 1 := by kernel_rfl
theorem open_way {H : Type} {enc : TypeId × Value -> H} {W : World} {base base' : Nat} {sp : Nat -> Bool} {held : Bool} {v : Value} {d : DataW H} {p : List MemPlace} (hv : Value.okWide Tryz.prog W .any base' 27 v)
  (h : DataW.Trod enc Tryz.prog W base sp held 27 v d p) : ∃ (k pl : Int) (g : Bool) (f : Int), v = .agg #[.int .i64 k, .int .i64 pl, .bool g, .int .i64 f] := by
 obtain ⟨cs, rfl, _⟩ := okWide_struct Tryz.underlying27 hv;obtain ⟨fuel, hf⟩ := h;obtain ⟨y0, y1, n, _, hl, g0, g1⟩ := Go.ChangeShapes.trod_struct2 Tryz.underlying27 hf;rw [way_c] at hl;obtain ⟨l⟩ := cs;have hcl : (Value.agg ⟨l⟩).cells.toList = l := (by simp [Value.cells]);rw [hcl] at hl g0 g1;match l, hl with
 | [a, b, c, e], _ =>
  have g0' : DataW.trod enc Tryz.prog W base sp held n 25 (([a, b, c, e].drop 0).take (Tryz.prog.cellsOf 25)) = some y0 := g0;have g1' : DataW.trod enc Tryz.prog W base sp held n 3 (([a, b, c, e].drop (Tryz.prog.cellsOf 25)).take (Tryz.prog.cellsOf 3)) = some y1 := g1;rw [how3_c] at g0' g1';rw [zlx] at g1';obtain ⟨z0, z1, z2, m, _, hl3, k0, k1, k2⟩ := Go.Deep.trod_struct3 Tryz.underlying25 g0';obtain ⟨f, e3, _⟩ := DataW.trod_int Tryz.underlying3 g1';have k0' : DataW.trod enc Tryz.prog W base sp held m 3 (([a, b, c].drop 0).take (Tryz.prog.cellsOf 3)) = some z0 := k0;have k1' : DataW.trod enc Tryz.prog W base sp held m 3 (([a, b, c].drop 1).take (Tryz.prog.cellsOf 3)) = some z1 := k1;have k2' : DataW.trod enc Tryz.prog W base sp held m 4 (([a, b, c].drop 2).take (Tryz.prog.cellsOf 4)) = some z2 := k2;rw [zlx] at k0' k1';rw [way_cb] at k2';obtain ⟨k, e0, _⟩ := DataW.trod_int Tryz.underlying3 k0';obtain ⟨pl, e1, _⟩ := DataW.trod_int Tryz.underlying3 k1';obtain ⟨g, e2, _⟩ := DataW.trod_bool Tryz.underlying4 k2';simp at e0 e1 e2 e3;subst e0 e1 e2 e3;exact ⟨k, pl, g, f, rfl⟩
theorem strs_c : Tryz.prog.cellsOf 9 = 1 := by kernel_rfl
theorem open_strs {H : Type} {enc : TypeId × Value -> H} {W : World} {base : Nat} {sp : Nat -> Bool} {held : Bool} {A : Option Addr} {n c : Nat} {d : DataW H} {p : List MemPlace}
  (h : DataW.Trod enc Tryz.prog W base sp held 28 (.slice A n c) d p) : ∃ ss, ArgSS W A n ss := by
 obtain ⟨fuel, hf⟩ := h;rcases open_strings Tryz.underlying28 Tryz.underlying9 strs_c hf with ⟨hcs, _⟩ | ⟨a, len, cap, ss, hcs, _, hl, hm, hz, _, hcell, _⟩
 ·have hcs : [Value.slice A n c] = [.slice none 0 0] := hcs;injection hcs with hcs _;injection hcs with e1 e2 e3;subst e1 e2 e3;exact ⟨[], rfl, Nat.zero_le _, Rd.nil _ _⟩
 ·have hcs : [Value.slice A n c] = [.slice (some a) len cap] := hcs;injection hcs with hcs _;injection hcs with e1 e2 e3;subst e1 e2 e3;have hlz : n <= ss.length := (by rw [hz]; split <;> omega);refine ⟨ss.take n, by simp; omega, Nat.le_trans hl hm, by simp; omega, fun hn => ?_⟩;obtain ⟨b, off, spot⟩ := a;have hc := hcell 0 (by omega);have hspot : spot = none := (by simpa [Addr.add] using World.cell?_spot hc);subst hspot;refine ⟨b, off, rfl, fun j u hu => ?_⟩;rw [List.getElem?_map] at hu;obtain ⟨y, hy, rfl⟩ := Option.map_eq_some_iff.1 hu;rw [List.getElem?_take] at hy;split at hy
  ·have hjl : j < ss.length := (List.getElem?_eq_some_iff.1 hy).1;have := hcell j hjl;rw [Addr.add_lit] at this;rw [this];simp [List.getD, hy]
  ·cases hy
theorem rws_g : Tryz.prog.globalNamed "inkhorn/utf8.rows" = some 0 := by kernel_rfl
theorem rws_t : (Tryz.prog.globals[0]?).map (·.type) = some 223 := by kernel_rfl
theorem rws_c4 : Tryz.prog.cellsOf 223 = 12 := by kernel_rfl
theorem zm2 : Tryz.prog.cellsOf 222 = 3 := by kernel_rfl
theorem rws_ci : Tryz.prog.cellsOf 21 = 1 := by kernel_rfl
theorem zdo {w : World} {fuel : Nat} {cs : List Value} {x : DataW Unit × List MemPlace} {a b c : Int}
  (h : DataW.trod (fun _ => ()) Tryz.prog w 0 (fun _ => true) false fuel 222 cs = some x) (hx : x.1 = .agg [.lit (.int .i32 a), .lit (.int .i64 b), .lit (.int .i64 c)]) : cs = [.int .i32 a, .int .i64 b, .int .i64 c] := by
 obtain ⟨y0, y1, y2, n, rfl, hl, h0, h1, h2⟩ := Go.Deep.trod_struct3 Tryz.underlying222 h;rw [zm2] at hl;match cs, hl with
 | [c0, c1, c2], _ =>
  obtain ⟨n0, e0, r0, _⟩ := DataW.trod_int Tryz.underlying21 (show DataW.trod _ _ _ _ _ _ n 21 (([c0, c1, c2].drop 0).take (Tryz.prog.cellsOf 21)) = some y0 from h0);obtain ⟨n1, e1, r1, _⟩ := DataW.trod_int Tryz.underlying3 (show DataW.trod _ _ _ _ _ _ n 3 (([c0, c1, c2].drop 1).take (Tryz.prog.cellsOf 3)) = some y1 from h1);obtain ⟨n2, e2, r2, _⟩ := DataW.trod_int Tryz.underlying3 (show DataW.trod _ _ _ _ _ _ n 3 (([c0, c1, c2].drop 2).take (Tryz.prog.cellsOf 3)) = some y2 from h2);rw [rws_ci] at e0;rw [zlx] at e1 e2;simp at e0 e1 e2;subst e0 e1 e2 r0 r1 r2;simp at hx;rw [hx.1, hx.2.1, hx.2.2]
theorem rows_of_laid {W : World} {a b : String × DataW Unit} {rest : List (String × DataW Unit)} (h : laidMet Tryz.prog (a :: b :: ("inkhorn/utf8.rows", Rows.laid_inkhorn_utf8_rows) :: rest) W) : RowsU W := by
 obtain ⟨ps, ⟨_, _, _, _, _, _, _, _, _, _, ⟨_, _, _, _, _, _, _, _, _, _, ⟨g, t, cs, fuel, p, q, hg, ht, hvar, hd, _, _⟩, _⟩, _⟩, _⟩ := h;obtain rfl := Option.some.inj (rws_g.symm.trans hg);obtain rfl := Option.some.inj (rws_t.symm.trans ht);obtain ⟨l⟩ := cs;obtain ⟨xs, m, _, hx, hl, hlen, hi⟩ := DataW.trod_array Tryz.underlying223 hd;rw [rws_c4] at hl;simp only [zm2] at hi;match xs, hlen with
 | [x0, x1, x2, x3], _ =>
  have i0 := hi 0 (by omega);have i1 := hi 1 (by omega);have i2 := hi 2 (by omega);have i3 := hi 3 (by omega);match l, hl with
  | [a0, a1, a2, b0, b1, b2, c0, c1, c2, d0, d1, d2], _ =>
   simp at i0 i1 i2 i3;simp only [Prod.mk.injEq, Rows.laid_inkhorn_utf8_rows, DataW.agg.injEq, List.map_cons, List.map_nil, List.cons.injEq, and_true] at hx;obtain ⟨⟨h0, h1, h2, h3⟩, _⟩ := hx;have j0 := zdo i0 h0.symm;have j1 := zdo i1 h1.symm;have j2 := zdo i2 h2.symm;have j3 := zdo i3 h3.symm;simp at j0 j1 j2 j3;obtain ⟨rfl, rfl, rfl⟩ := j0;obtain ⟨rfl, rfl, rfl⟩ := j1;obtain ⟨rfl, rfl, rfl⟩ := j2;obtain ⟨rfl, rfl, rfl⟩ := j3;exact ⟨World.var?_cell hg hvar 0, World.var?_cell hg hvar 1, World.var?_cell hg hvar 2, World.var?_cell hg hvar 3, World.var?_cell hg hvar 4, World.var?_cell hg hvar 5, World.var?_cell hg hvar 6, World.var?_cell hg hvar 7, World.var?_cell hg hvar 8, World.var?_cell hg hvar 9, World.var?_cell hg hvar 10, World.var?_cell hg hvar 11⟩
end
section
open Go.RowKit Go.Sort
section
variable {w0 : World} {q : Nat} {p : Option Addr} {B : BaseF}
theorem ord_mem {l : List Int} {x : Int} (h : x ∈ B.ordR l) : x ∈ l := by
 refine ((zgx (B := B) l).mem x).2 ?_;unfold BaseF.ord;exact List.mem_reverse.2 h
theorem order_any (HB : Hid (∀ W, Below q w0 W -> zar W (.pointer p) B)) (g off cap n : Nat) (xs : List Int) (hn : xs.length = n) (hx : ∀ x ∈ xs, R32 x) (w : World) (hb : Below q w0 w) (hq : q <= w.heap.size) (hg : q <= g) (hgl : g < w.heap.size) (hH : za5 w g off xs) (hn2 : n <= 20000000) :
  Calls Tryz.prog 88 #[.pointer p, .slice (some ⟨g, off, none⟩) n cap] w fun e w' => (∃ v, e = .returned v) /\ za5 w' g off (B.ord xs) /\ OrdW g w w' := by
 have HN := hz0q hn;have HX := hz0q hx;have CB : Hid (∀ W, OrdW g w W -> Below q w0 W) := fun W h => hb.trans (h.1.below (by rintro k rfl; exact hg) hq);have HS0 : Hid (za5 w g off ((B.ordR (xs.take 0)).reverse ++ xs.drop 0)) := hH;clear hn hx hb hH hq hg;go_enter Tryz.func88, Tryz.ntmps88;go_wp2
 go_loopw [10] (fun i wr => ∃ k : Nat, k <= n /\ i = .int .i64 k /\ Hid (za5 wr g off ((B.ordR (xs.take k)).reverse ++ xs.drop k)) /\ Hid (OrdW g w wr)) (fun i _ => n - (intOf i).toNat)
 case atStart => exact ⟨0, Nat.zero_le _, rfl, HS0, OrdW.refl _ _⟩
 case round =>
  obtain ⟨k, hk, rfl, HS, HW⟩ := hrel
  by_cases hlt : k < n
  ·obtain ⟨r, hr⟩ : ∃ r, xs[k]? = some r := ⟨_, List.getElem?_eq_getElem (by rw [HN.out]; exact hlt)⟩;obtain ⟨acc, hacc⟩ : ∃ acc, acc = B.ordR (xs.take k) := ⟨_, rfl⟩;obtain ⟨rest, hrest⟩ : ∃ rest, rest = xs.drop (k + 1) := ⟨_, rfl⟩
   have hdr : xs.drop k = r :: rest := by
    rw [hrest];have hkl := (List.getElem?_eq_some_iff.1 hr).1;rw [List.drop_eq_getElem_cons hkl, (List.getElem?_eq_some_iff.1 hr).2]
   have hal : acc.length = k := (by rw [hacc, ordR_len, List.length_take]; have := HN.out; omega);have HNX : Hid (B.ordR (xs.take (k + 1)) = B.ins acc r) := (by show _ = _; rw [ord_take_snoc hr, hacc]);have HR1 : Hid (xs.drop (k + 1) = rest) := hrest.symm;have hrR : R32 r := HX.out r (List.mem_of_getElem? hr);have HAR : Hid (∀ x ∈ acc, R32 x) := fun x hx => HX.out x (List.mem_of_mem_take (ord_mem (B := B) (by rw [<- hacc]; exact hx)))
   have HM : Hid (za5 wr g off (midL acc r rest)) := by
    have := HS.out;rw [<- hacc, hdr] at this;exact this
   have c0 := (HM.out k r (by rw [<- hal]; exact zme acc r rest)).1;have C1 := zdy (HB.out wr (CB.out wr HW.out)) r hrR;have hki : (k : Int) < (n : Int) := (by omega);have HAL := hz0q hal;obtain ⟨cr, hcr⟩ : ∃ cr, cr = B.cls r := ⟨_, rfl⟩;rw [<- hcr] at C1;have HCR := hz0q hcr;clear hr hacc hrest hdr hal hcr hrR HS;go_wp2_with fail;go_step3
   go_wp2_with fail;refine C1.mono ?_;rintro e w1 ⟨rfl, hb1⟩;have hW1 : Hid (OrdW g w w1) := HW.out.trans (.of_below hb1);have hM1 : Hid (za5 w1 g off (midL acc r rest)) := zde HM.out hb1;clear C1 c0 hb1
   by_cases hc0 : cr = 0
   ·have hcz : (cr == 0) = true := by simpa using hc0
    have HN1 : Hid (za5 w1 g off ((B.ordR (xs.take (k + 1))).reverse ++ xs.drop (k + 1))) := by
     show za5 _ _ _ _;have h1 := hM1.out;rw [HNX.out, HR1.out, zk3 (fun a t _ => .inl (by rw [<- HCR.out]; exact hc0))];simpa [midL] using h1
    clear hc0;go_wp2;(first | rw [Exit.noGoto_exit] | simp only [Exit.noGoto])
    go_wp2;go_roundw
    case rel => exact ⟨k + 1, by omega, by go_num, HN1, hW1⟩
    case measure => simp [intOf]; omega
   ·have hcz : (cr == 0) = false := (by simpa using hc0);have HC0 : Hid (B.cls r ≠ 0) := (by show _ ≠ _; rw [<- HCR.out]; exact hc0);clear hc0;go_wp2;go_step3
    go_wp2
    go_loopw [7] (fun j w2 => ∃ (Q A : List Int), Hid (acc = Q ++ A) /\ j = .int .i64 A.length /\ A.length <= k /\ Hid (∀ x ∈ Q, B.cls r < B.cls x) /\ Hid (za5 w2 g off (midL A r (Q.reverse ++ rest))) /\ Hid (OrdW g w w2)) (fun j _ => (intOf j).toNat)
    case atStart => exact ⟨[], acc, rfl, by rw [HAL.out], by rw [HAL.out]; exact Nat.le_refl _, fun x h => (by cases h), hM1, hW1⟩
    case round =>
     obtain ⟨Q, A, HQ, rfl, hAk, HLT, HMA, HWA⟩ := hrel
     have HEND : Hid ((∀ a t, A = a :: t -> B.cls r = 0 \/ B.cls a <= B.cls r) -> ∀ W, za5 W g off (midL A r (Q.reverse ++ rest)) -> za5 W g off ((B.ordR (xs.take (k + 1))).reverse ++ xs.drop (k + 1))) := fun h W hW => by
      rw [HNX.out, HR1.out, HQ.out, zk2 HC0.out A HLT.out, zk3 h];simpa [midL] using hW
     have HML : Hid ((midL A r (Q.reverse ++ rest)).length = n) := by
      show _ = _;have h1 := HAL.out;have h2 := congrArg List.length HR1.out;have h3 := HN.out;rw [HQ.out, List.length_append] at h1;rw [List.length_drop] at h2;rw [midL_len, List.length_append, List.length_reverse];omega
     cases A with
     | nil =>
      have HN1 : Hid (za5 wr g off ((B.ordR (xs.take (k + 1))).reverse ++ xs.drop (k + 1))) := HEND.out (fun a t h => (by cases h)) _ HMA.out;simp only [List.length_nil] at hAk ⊢;go_wp2;(try first | rw [Exit.noGoto_exit] | simp only [Exit.noGoto])
      go_wp2;go_roundw
      case rel => exact ⟨k + 1, by omega, by go_num, HN1, HWA⟩
      case measure => simp [intOf]; omega
     | cons a A =>
      obtain ⟨t, ht⟩ : ∃ t, t = A.length := ⟨_, rfl⟩;have hl1 : (a :: A).length = t + 1 := (by rw [ht]; rfl);rw [hl1] at hAk ⊢;obtain ⟨G, hG⟩ : ∃ G : Nat -> Int, ∀ i, G i = (midL (a :: A) r (Q.reverse ++ rest)).getD i 0 := ⟨fun i => _, fun _ => rfl⟩;have hGa : G t = a := (by rw [hG, List.getD_eq_getElem?_getD, ht, midL_ahead]; rfl);have hGr : G (t + 1) = r := by rw [hG, List.getD_eq_getElem?_getD, <- hl1, zme]; rfl
      have FAM : ∀ W, za5 W g off (midL (a :: A) r (Q.reverse ++ rest)) -> (∀ i, i < n -> W.cell? ⟨g, off + i, none⟩ = some (.int .i32 (G i))) /\ ∀ i, i < n -> W.frozen? ⟨g, off + i, none⟩ = false := fun W hW => by
       have key : ∀ i, i < n -> W.cell? ⟨g, off + i, none⟩ = some (.int .i32 (G i)) /\ W.frozen? ⟨g, off + i, none⟩ = false := fun i hi => by
        have h1 := List.getElem?_eq_getElem (l := midL (a :: A) r (Q.reverse ++ rest)) (i := i) (by rw [HML.out]; exact hi);rw [hG, List.getD_eq_getElem?_getD, h1];exact hW i _ h1
       exact ⟨fun i hi => (key i hi).1, fun i hi => (key i hi).2⟩
      obtain ⟨hcw, hfw⟩ := FAM _ HMA.out;have HF := hz0q FAM;have HT := hz0q ht;have haR : R32 (G t) := (by rw [hGa]; exact HAR.out a (by rw [HQ.out]; simp));have C2 := zdy (HB.out wr (CB.out wr HWA.out)) (G t) haR;have HGA := hz0q hGa;have HGR := hz0q hGr;obtain ⟨ca, hca⟩ : ∃ ca, ca = B.cls (G t) := ⟨_, rfl⟩;rw [<- hca] at C2;have HCA := hz0q hca;have htn : t + 1 < n := (by omega);clear hG hGa hGr FAM ht hl1 haR hca;go_wp2_with fail;refine C2.mono ?_;rintro e w3 ⟨rfl, hb3⟩;have hW3 : Hid (OrdW g w w3) := HWA.out.trans (.of_below hb3);have hM3 : Hid (za5 w3 g off (midL (a :: A) r (Q.reverse ++ rest))) := zde HMA.out hb3;obtain ⟨hcw, hfw⟩ := HF.out _ hM3.out;clear C2 hb3
      by_cases hle : ca <= cr
      ·have HN1 : Hid (za5 w3 g off ((B.ordR (xs.take (k + 1))).reverse ++ xs.drop (k + 1))) := HEND.out (fun a' t' h => by injection h with h1 _; subst h1; rw [<- HGA.out, <- HCA.out, <- HCR.out]; exact .inr hle) _ hM3.out;clear hcw hfw;go_wp2;(try first | rw [Exit.noGoto_exit] | simp only [Exit.noGoto])
       go_wp2;go_roundw
       case rel => exact ⟨k + 1, by omega, by go_num, HN1, hW3⟩
       case measure => simp [intOf]; omega
      ·have hdr : ∀ X : World, Below X.heap.size X X.drew := fun X => Drew.to ⟨1, rfl⟩
       have hSW : Hid (za5 ((w3.setCell ⟨g, off + t, none⟩ (.int .i32 (G (t + 1)))).setCell ⟨g, off + (t + 1), none⟩ (.int .i32 (G t))).drew g off (midL A r ((Q ++ [a]).reverse ++ rest))) := by
        show za5 _ _ _ _;have h1 := zhk (zhk hM3.out t (G (t + 1)) (by rw [HML.out]; omega)) (t + 1) (G t) (by rw [List.length_set, HML.out]; omega)
        have h2 : ((midL (a :: A) r (Q.reverse ++ rest)).set t (G (t + 1))).set (t + 1) (G t) = midL A r ((Q ++ [a]).reverse ++ rest) := by
         rw [HGR.out, HGA.out, HT.out, midL_swap];simp
        rw [h2] at h1;exact zde h1 (hdr _)
       have hWW : Hid (OrdW g w ((w3.setCell ⟨g, off + t, none⟩ (.int .i32 (G (t + 1)))).setCell ⟨g, off + (t + 1), none⟩ (.int .i32 (G t))).drew) :=
        ((hW3.out.trans (OrdW.setCell _ _ _)).trans (OrdW.setCell _ _ _)).trans (.of_below (hdr _))
       have hQA : Hid (acc = (Q ++ [a]) ++ A) := by show _ = _; rw [HQ.out]; simp
       have hQL : Hid (∀ x ∈ Q ++ [a], B.cls r < B.cls x) := fun x hx => by
        rcases List.mem_append.1 hx with hx | hx
        ·exact HLT.out x hx
        ·rw [List.mem_singleton] at hx;rw [hx, <- HGA.out, <- HCA.out, <- HCR.out];omega
       clear hdr;go_wp2
       go_region
       all_goals go_wp2
       go_roundw
       case rel => exact ⟨Q ++ [a], A, hQA, by rw [HT.out], by have := HT.out; omega, hQL, hSW, hWW⟩
       case measure => simp [intOf]
  ·obtain rfl : k = n := (by omega);have hki : (k : Int) <= (k : Int) := Int.le_refl _;go_wp2;go_end0;have h1 := HS.out;rw [List.take_of_length_le (by rw [HN.out]; exact Nat.le_refl _), List.drop_eq_nil_of_le (by rw [HN.out]; exact Nat.le_refl _), List.append_nil] at h1;exact ⟨⟨_, rfl⟩, h1, HW.out⟩
end
end
end Go.Proofs.YtolcabjkbefjgaaGreatDoor
