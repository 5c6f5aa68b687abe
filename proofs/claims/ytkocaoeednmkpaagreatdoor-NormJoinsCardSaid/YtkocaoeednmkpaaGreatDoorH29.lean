/- slices.BinarySearch at characters: whether one is on a rising list. What makes leaves standing, and what it fills: plain words on worlds. New: what it answers, and the ways that end ahead of the loops. New: the base taken, both loops, and what is made: the code. -/
import Derived.Test.YtkocaoeednmkpaaGreatDoorH28
set_option linter.unusedSimpArgs false
set_option linter.unusedVariables false
set_option maxRecDepth 20000
set_option maxHeartbeats 4000000
namespace Go.Proofs.YtkocaoeednmkpaaGreatDoor
section
open Go.RowKit Go.Lib Go.Maps
theorem cmpNaN_any (x : Int) (w : World) : Calls Tryz.prog 181 #[.int .i32 x] w fun e w' => e = .returned (.bool false) /\ w' = w := by
 go_enter Tryz.func181, Tryz.ntmps181;go_wp2;go_returns;exact ⟨rfl, rfl⟩
theorem zk8 (x : Int) (w : World) : Calls Tryz.prog 152 #[.int .i32 x] w fun e w' => e = .returned (.bool false) /\ w' = w := by
 go_enter Tryz.func152, Tryz.ntmps152;go_wp2;go_returns;exact ⟨rfl, rfl⟩
theorem zir (x y : Int) (w : World) : Calls Tryz.prog 151 #[.int .i32 x, .int .i32 y] w fun e w' => e = .returned (.bool (decide (x < y))) /\ w' = w := by
 go_enter Tryz.func151, Tryz.ntmps151;go_wp2_with (first | (go_at_call 181; refine (cmpNaN_any _ _).mono ?_; rintro e w' ⟨rfl, rfl⟩) | go_in)
 go_returns;exact ⟨rfl, rfl⟩
def Rises (ks : List Int) : Prop := ks.Pairwise (· < ·)
theorem Rises.lt {ks : List Int} (h : Rises ks) {i j : Nat} {x y : Int} (hx : ks[i]? = some x) (hy : ks[j]? = some y) (hij : i < j) : x < y := by
 obtain ⟨h1, rfl⟩ := List.getElem?_eq_some_iff.1 hx;obtain ⟨h2, rfl⟩ := List.getElem?_eq_some_iff.1 hy;exact List.pairwise_iff_getElem.1 h i j h1 h2 hij
theorem half_mid {lo hi : Nat} (h1 : lo < hi) (h2 : hi <= 1000000) : lo <= (lo + hi) / 2 /\ (lo + hi) / 2 < hi := by omega
theorem bsearch_any (A : Option Addr) (n c : Nat) (ks : List Int) (t : Int) (w : World) (hr : Rd w A n (Rs ks)) (hn : n <= 1000000) (hS : Rises ks) :
  Calls Tryz.prog 118 #[.slice A n c, .int .i32 t] w fun e w' => (∃ i : Int, e = .returned (.tuple #[.int .i64 i, .bool (decide (t ∈ ks))])) /\ w' = w := by
 have hll : ks.length = n := (by have := hr.1; simpa [Rs] using this);have HLL := hz0q hll;have HS := hz0q hS;clear hll hS;go_enter Tryz.func118, Tryz.ntmps118;go_wp2
 go_loopw [7, 8] (fun a b wr => ∃ lo hi : Nat, lo <= hi /\ hi <= n /\ a = .int .i64 lo /\ b = .int .i64 hi /\ Hid (∀ j x, j < lo -> ks[j]? = some x -> x < t) /\ Hid (∀ j x, hi <= j -> ks[j]? = some x -> t <= x) /\ wr = w) (fun a b _ => (intOf b - intOf a).toNat)
 case atStart => exact ⟨0, n, Nat.zero_le _, Nat.le_refl _, rfl, rfl, hz0q (fun j x h => absurd h (Nat.not_lt_zero _)), hz0q (fun j x h hx => by have := (List.getElem?_eq_some_iff.1 hx).1; have := HLL.out; omega), by trivial⟩
 case round =>
  obtain ⟨lo, hi, h1, h2, rfl, rfl, H1, H2, rfl⟩ := hrel
  by_cases hlt : lo < hi
  ·have hlt' : (lo : Int) < (hi : Int) := (by omega);obtain ⟨m1, m2⟩ := half_mid hlt (by omega);obtain ⟨m, hm⟩ : ∃ m, m = (lo + hi) / 2 := ⟨_, rfl⟩;rw [<- hm] at m1 m2;have hmq : ((lo : Int) + (hi : Int)) / 2 = (m : Int) := (by omega);have hmn : (m : Int) < (n : Int) := (by omega);obtain ⟨x, hx⟩ : ∃ x, ks[m]? = some x := ⟨_, List.getElem?_eq_getElem (by rw [HLL.out]; omega)⟩;obtain ⟨b, off, rfl, hbl, hcx⟩ := hr.at_ (by omega);have c0 : wr.cell? ⟨b, off + m, none⟩ = some (.int .i32 x) := hcx m _ (by simp [Rs, hx]);have HX := hz0q hx;clear hx hcx hbl hm
   by_cases hxt : x < t
   ·have HC := zir x t wr;rw [decide_eq_true hxt] at HC;have hmw : wrap64 ((m : Int) + 1) = (m : Int) + 1 := (by unfold wrap64; omega);go_wp2_with (first | (go_at_call 151; refine HC.mono ?_; rintro e w' ⟨rfl, rfl⟩) | go_in)
    go_roundw
    case rel => exact ⟨m + 1, hi, by omega, h2, by go_num, rfl, hz0q (fun j y hj hy => by
     by_cases e : j = m
     ·subst e; have := HX.out; rw [hy] at this; injection this with e2; rw [e2]; exact hxt
     ·have := HS.out.lt hy HX.out (by omega); omega), H2, by trivial⟩
    case measure => simp [intOf]; omega
   ·have HC := zir x t wr;rw [decide_eq_false hxt] at HC;go_wp2_with (first | (go_at_call 151; refine HC.mono ?_; rintro e w' ⟨rfl, rfl⟩) | go_in)
    go_roundw
    case rel => exact ⟨lo, m, by omega, by omega, rfl, by go_num, H1, hz0q (fun j y hj hy => by
     by_cases e : j = m
     ·subst e; have := HX.out; rw [hy] at this; injection this with e2; rw [e2]; omega
     ·have := HS.out.lt HX.out hy (by omega); omega), by trivial⟩
    case measure => simp [intOf]; omega
  ·obtain rfl : lo = hi := (by omega);have hnl : ¬ ((lo : Int) < (lo : Int)) := by omega
   by_cases hend : lo < n
   ·obtain ⟨x, hx⟩ : ∃ x, ks[lo]? = some x := ⟨_, List.getElem?_eq_getElem (by rw [HLL.out]; omega)⟩;obtain ⟨b, off, rfl, hbl, hcx⟩ := hr.at_ (by omega);have c0 : wr.cell? ⟨b, off + lo, none⟩ = some (.int .i32 x) := hcx lo _ (by simp [Rs, hx]);have HX := hz0q hx;have hln : (lo : Int) < (n : Int) := (by omega);have hge := H2.out lo x (Nat.le_refl _) hx;have N1 := zk8 x wr;have N2 := zk8 t wr;clear hx hcx hbl
    by_cases hxt : x = t
    ·subst hxt;have HM : Hid (decide (x ∈ ks) = true) := decide_eq_true (List.mem_of_getElem? HX.out);clear hge;go_wp2_with (first | (go_at_call 152; refine N1.mono ?_; rintro e w' ⟨rfl, rfl⟩) | go_in)
     go_returns;rw [HM.out];exact ⟨⟨_, by first | rfl | simp⟩, rfl⟩
    ·have HM : Hid (decide (t ∈ ks) = false) := decide_eq_false fun hm => by
      obtain ⟨j, hj⟩ := List.mem_iff_getElem?.1 hm;rcases Nat.lt_trichotomy j lo with h | h | h
      ·have := H1.out j t h hj; omega
      ·subst h; have := HX.out; rw [hj] at this; injection this with e; exact hxt e.symm
      ·have := HS.out.lt HX.out hj h; omega
     have hbq : (x == t) = false := (by simpa using hxt);clear hge;go_wp2_with (first | (go_at_call 152; first | (refine N1.mono ?_; rintro e w' ⟨rfl, rfl⟩) | (refine N2.mono ?_; rintro e w' ⟨rfl, rfl⟩)) | go_in)
     go_returns;rw [HM.out];exact ⟨⟨_, by first | rfl | simp⟩, rfl⟩
   ·obtain rfl : lo = n := by omega
    have HM : Hid (decide (t ∈ ks) = false) := decide_eq_false fun hm => by
     obtain ⟨j, hj⟩ := List.mem_iff_getElem?.1 hm;have h1 := (List.getElem?_eq_some_iff.1 hj).1;have := H1.out j t (by rw [HLL.out] at h1; exact h1) hj;omega
    go_wp2;go_returns;rw [HM.out];exact ⟨⟨_, by first | rfl | simp⟩, rfl⟩
end
section
open Go.RowKit Go.Lib Go.Maps
structure BAddr.Apart (a : BAddr) : Prop where
 b1 : a.mb ≠ a.m1
 b2 : a.mb ≠ a.m2
 b3 : a.mb ≠ a.m3
 b4 : a.mb ≠ a.m4
 p2 : a.m1 ≠ a.m2
 p3 : a.m1 ≠ a.m3
 p4 : a.m1 ≠ a.m4
 t23 : a.m2 ≠ a.m3
 t24 : a.m2 ≠ a.m4
 t34 : a.m3 ≠ a.m4
abbrev M234 (a : BAddr) (k : Nat) : Prop := k = a.m2 \/ k = a.m3 \/ k = a.m4
structure MkV (W : World) (a : BAddr) (n : Nat) (pr : Int × Int -> Option Int) (md : Int -> Option (Int × Int)) (sc : Int -> Option Int) : Prop where
 pr : MapF W Tryz.prog 179 zd9 R32P runeV a.m2 n pr
 md : MapF W Tryz.prog 21 z7 R32 pairV a.m3 n md
 sc : MapF W Tryz.prog 21 z7 R32 intV a.m4 n sc
structure MkC (W : World) (bp : Nat) (a : BAddr) (n : Nat) (cls : Int -> Int) (f : Int -> Option PV) (prt : Int -> Option (List UInt8 × List Int)) : Prop where
 box : W.heap[bp]? = some (.cells #[.pointer (some ⟨a.tb, 0, none⟩), .map (some a.m1), .map (some a.m2), .map (some a.m3), .map (some a.m4)] 114 (0, 0))
 tab : TabAt W a.tb a.mb a.tn cls
 map : MapF W Tryz.prog 21 z7 R32 partV a.m1 n f
 parts : ∀ r, R32 r -> ze7 W (f r) (prt r)
section
variable {w W W' : World} {bp n : Nat} {a : BAddr} {cls : Int -> Int} {prt : Int -> Option (List UInt8 × List Int)} {pr : Int × Int -> Option Int} {md : Int -> Option (Int × Int)} {sc : Int -> Option Int} {f : Int -> Option PV}
theorem zdy {p : Addr} {v : Value} (h : w.cell? p = some v) : ∃ cs t fr, w.heap[p.block]? = some (.cells cs t fr) := by
 unfold World.cell? at h
 cases hb : w.heap[p.block]? with
 | none => rw [hb] at h; simp at h
 | some o =>
  rw [hb] at h
  cases o with
  | cells cs t fr => exact ⟨cs, t, fr, rfl⟩
  | _ => simp at h
theorem ze7.wrote {S : Nat -> Prop} {p : Option PV} {q : Option (List UInt8 × List Int)} (h : ze7 w p q) (hW : Wrote S w W) (hS : ∀ k, S k -> ∀ cs t fr, w.heap[k]? ≠ some (.cells cs t fr)) : ze7 W p q := by
 cases p <;> cases q <;> first | exact h | (refine ⟨h.1, h.2.1, h.2.2.1, h.2.2.2.1.wrote hW fun h0 ad had hSk => ?_, h.2.2.2.2⟩)
 obtain ⟨b, off, e, _, hc⟩ := h.2.2.2.1.at_ h0;rw [had] at e;injection e with e;subst e;obtain ⟨cs, t, fr, hb⟩ := zdy (hc 0 _ (List.getElem?_eq_getElem (by have := h.2.2.2.1.1; omega)));exact hS _ hSk _ _ _ hb
theorem BaseM.cOf (h : BaseM w bp a n cls prt pr md sc) : ∃ f, MkC w bp a n cls f prt := by
 obtain ⟨h1, h2, ⟨f, h3, h4⟩, _⟩ := h;exact ⟨f, h1, h2, h3, h4⟩
theorem MkV.notCells (v : MkV w a n pr md sc) : ∀ k, M234 a k -> ∀ cs t fr, w.heap[k]? ≠ some (.cells cs t fr) := fun k hk cs t fr e => by
 rcases hk with rfl | rfl | rfl
 ·exact v.pr.ne_cells e rfl
 ·exact v.md.ne_cells e rfl
 ·exact v.sc.ne_cells e rfl
theorem MkC.wrote (h : MkC w bp a n cls f prt) (ap : a.Apart) (hn : ∀ k, M234 a k -> ∀ cs t fr, w.heap[k]? ≠ some (.cells cs t fr)) (hW : Wrote (M234 a) w W) : MkC W bp a n cls f prt := by
 obtain ⟨h1, ⟨i1, g, i2, i3⟩, h3, h4⟩ := h;refine ⟨hW.blk h1 (fun e => hn _ e _ _ _ h1), ⟨hW.blk i1 (fun e => hn _ e _ _ _ i1), g, i2.at (hW.block _ i2.lt ?_), i3⟩, h3.at (hW.block _ h3.lt ?_), fun r hr => (h4 r hr).wrote hW hn⟩
 ·rintro (e | e | e)
  ·exact ap.b2 e
  ·exact ap.b3 e
  ·exact ap.b4 e
 ·rintro (e | e | e)
  ·exact ap.p2 e
  ·exact ap.p3 e
  ·exact ap.p4 e
theorem MkC.toM {k : Nat} (h : MkC w bp a n cls f prt) (v : MkV w a k pr md sc) (hk : n <= k) : BaseM w bp a k cls prt pr md sc :=
 ⟨h.box, h.tab, ⟨f, h.map.mono hk, h.parts⟩, v.pr, v.md, v.sc⟩
theorem BaseM.vOf (h : BaseM w bp a n cls prt pr md sc) : MkV w a n pr md sc := ⟨h.pr, h.md, h.sc⟩
theorem MkV.mono {k : Nat} (v : MkV w a n pr md sc) (h : n <= k) : MkV w a k pr md sc := ⟨v.pr.mono h, v.md.mono h, v.sc.mono h⟩
theorem MkV.below (v : MkV w a n pr md sc) (hb : Below w.heap.size w W) : MkV W a n pr md sc := ⟨v.pr.below hb v.pr.lt, v.md.below hb v.md.lt, v.sc.below hb v.sc.lt⟩
theorem MkV.kept {r : Nat} (v : MkV w a n pr md sc) (hg : w.grownBy W (some r)) (h2 : a.m2 ≠ r) (h3 : a.m3 ≠ r) (h4 : a.m4 ≠ r) : MkV W a n pr md sc :=
 ⟨v.pr.kept hg (by simpa using h2), v.md.kept hg (by simpa using h3), v.sc.kept hg (by simpa using h4)⟩
theorem Wrote.grown_new {S : Nat -> Prop} {r : Nat} (h : Wrote S w W) (hg : W.grownBy W' (some r)) (hr : w.heap.size <= r) : Wrote S w W' := by
 have h2 : Wrote (fun k => k = r) W W' := Wrote.grown hg fun k e => by injection e with e; exact e.symm
 exact ⟨h2.os.trans h.os, h2.tape.trans h.tape, h2.output.trans h.output, Nat.le_trans h.size h2.size, fun k hk hs => (h2.block k (Nat.lt_of_lt_of_le hk h.size) (by omega)).trans (h.block k hk hs)⟩
end
theorem zl0 {cls : Int -> Int} {prt : Int -> Option (List UInt8 × List Int)} {out : List Int} {x u v : Int} (h : prt x = some ([], [u, v])) : madeQ cls prt out x = (!decide (x ∈ out) && !decide (0 < cls x) && !decide (0 < cls u)) := by unfold madeQ; rw [h]
theorem madeT_two {prt : Int -> Option (List UInt8 × List Int)} {x u v : Int} {k : List UInt8} (h : prt x = some (k, [u, v])) : zau prt x = (u, v) := by unfold zau; rw [h]
def MkR (a : BAddr) (cls : Int -> Int) (prt : Int -> Option (List UInt8 × List Int)) (f : Int -> Option PV) (out : List Int) (n rb : Nat) (W0 wr : World) (bad : Bool) (cnt : Nat) : Prop :=
 ∃ left ss pr md sc, MapR wr Tryz.prog 21 z7 R32 partV a.m1 rb n f left cnt /\ Came R32 f left ss /\ MkI (madeQ cls prt out) (zau prt) zee ss bad pr md sc /\ MkV wr a (n + ss.length) pr md sc /\ ss.length + cnt <= n /\ Wrote (M234 a) W0 wr
def zqu (bp n : Nat) (a : BAddr) (cls : Int -> Int) (prt : Int -> Option (List UInt8 × List Int)) (out : List Int) (w : World) (e : Ending) (w' : World) : Prop :=
 ∃ bad ss pr md sc, e = .returned (.int .i64 (if bad = true then 12 else 0)) /\ zfj R32 prt ss /\ MkI (madeQ cls prt out) (zau prt) zee ss bad pr md sc /\ BaseM w' bp a (n + ss.length) cls prt pr md sc /\ ss.length <= n /\ Wrote (M234 a) w w'
section
variable {w W : World} {bp n rb : Nat} {a : BAddr} {cls : Int -> Int} {prt : Int -> Option (List UInt8 × List Int)} {f : Int -> Option PV} {out : List Int}
theorem zjl {p : Option PV} {q : Option (List UInt8 × List Int)} (h : ze7 w p q) : p.isSome = q.isSome := by
 cases p <;> cases q <;> first | rfl | exact h.elim
theorem MkR.done {bad : Bool} (hC : MkC w bp a n cls f prt) (ap : a.Apart) (hn : ∀ k, M234 a k -> ∀ cs t fr, w.heap[k]? ≠ some (.cells cs t fr))
  {left : Int -> Bool} {ss : List Int} {pr : Int × Int -> Option Int} {md : Int -> Option (Int × Int)} {sc : Int -> Option Int}
  (hl0 : ∀ x, R32 x -> left x = false) (hCm : Came R32 f left ss) (hI : MkI (madeQ cls prt out) (zau prt) zee ss bad pr md sc) (hV : MkV W a (n + ss.length) pr md sc) (hle : ss.length <= n) (hW : Wrote (M234 a) w W) :
  zqu bp n a cls prt out w (.returned (.int .i64 (if bad = true then 12 else 0))) W := by
 have hA := hCm.all hl0;refine ⟨bad, ss, pr, md, sc, rfl, ⟨hA.1, fun x => ?_⟩, hI, (hC.wrote ap hn hW).toM hV (by omega), hle, hW⟩;rw [hA.2 x];constructor
 ·rintro ⟨h1, h2⟩; exact ⟨h1, by rw [<- zjl (hC.parts x h1)]; exact h2⟩
 ·rintro ⟨h1, h2⟩; exact ⟨h1, by rw [zjl (hC.parts x h1)]; exact h2⟩
theorem step_lookF {α β : Type} {P : Program} {K : TypeId} {mk : α -> Value} {lit : α -> Lit} {ok : α -> Prop} {mkV : β -> Value} {w : World} {b m0 : Nat} {g : α -> Option β} {ops : Array Oper} {o : Oper} {ac : Act} {Q : Exit -> Act -> World -> Prop}
  {K' : Act -> World -> Prop} {R : Prop} {t e : TypeId} {zv z : β} (hg : o.guard = none) (m x : Operand) (hop : o.op = Op.lookup t m x false) (B : KeyB P K mk lit ok) (ht : P.underlying t = some (.map K e)) (hz : (zeroValue e).run P w = .ok (mkV zv) w)
  (h : MapF w P K lit ok mkV b m0 g) {k : α} (hk : ok k) (hm : ac.eval m = .map (some b)) (hx : ac.eval x = mk k) (hzz : z = (g k).getD zv)
  (hK : K' (ac.put o.dst (mkV z)) w) : if Region.wanted o (yielded ops ac.tmps) = true then Oper.wp P o ac w K' Q else R := by
 rw [if_pos (by simp [Region.wanted, hg])];have hrun := h.look B ht hz hk false;unfold Oper.wp;simp [execOp, hop, hm, hx, hrun, Result.andThen];rw [<- hzz];exact hK
def Two (bp q2 : Nat) (a : BAddr) (u v : Int) (W : World) : Prop :=
 W.heap[bp]? = some (.cells #[.pointer (some ⟨a.tb, 0, none⟩), .map (some a.m1), .map (some a.m2), .map (some a.m3), .map (some a.m4)] 114 (0, 0)) /\ W.heap[q2]? = some (.cells #[.int .i32 u, .int .i32 v] 179 (0, 0))
theorem Two.below {q2 : Nat} {u v : Int} {W' : World} (h : Two bp q2 a u v W) (hb : Below W.heap.size W W') : Two bp q2 a u v W' := ⟨zd h.1 hb, zd h.2 hb⟩
theorem Two.grown {q2 r : Nat} {u v : Int} {W' : World} (h : Two bp q2 a u v W) (hg : W.grownBy W' (some r)) (h1 : bp ≠ r) (h2 : q2 ≠ r) : Two bp q2 a u v W' :=
 ⟨(hg.block _ (zbr h.1) (fun e => h1 (by injection e with e))).trans h.1, (hg.block _ (zbr h.2) (fun e => h2 (by injection e with e))).trans h.2⟩
theorem pairH_some {pr : Int × Int -> Option Int} {u v : Int} : (pairH pr u v).isSome = ((pr (u, v)).isSome || zee (u, v)) := by
 unfold pairH zee
 cases pr (u, v) with
 | some x => rfl
 | none =>
  simp only []
  cases (joinH u v).2 <;> simp
theorem MkR.made {w2 W6 w11 : World} {left : Int -> Bool} {ss : List Int} {pr : Int × Int -> Option Int} {md : Int -> Option (Int × Int)} {sc : Int -> Option Int} {bad is : Bool} {cnt : Nat} {x u v : Int}
  (hrg : MapR w2 Tryz.prog 21 z7 R32 partV a.m1 rb n f left cnt) (hCame : Came R32 f left (ss ++ [x])) (hM : MkI (madeQ cls prt out) (zau prt) zee ss bad pr md sc) (hx : x ∉ ss) (hQ : madeQ cls prt out x = true) (hT : zau prt x = (u, v))
  (hle : ss.length + 1 + cnt <= n) (hW : Wrote (M234 a) w w2) (h26 : Below w2.heap.size w2 W6) (hW' : Wrote (M234 a) W6 w11)
  (hpr : MapF w11 Tryz.prog 179 zd9 R32P runeV a.m2 (n + ss.length + 1) (upd pr (u, v) (some x))) (hmd : MapF w11 Tryz.prog 21 z7 R32 pairV a.m3 (n + ss.length + 1) (upd md x (some (u, v)))) (hsc : MapF w11 Tryz.prog 21 z7 R32 intV a.m4 (n + ss.length + 1) (upd sc v (some (gd sc v + 1))))
  (hrb : ¬ M234 a rb) (hm1 : ¬ M234 a a.m1) (his : (pairH pr u v).isSome = is) : MkR a cls prt f out n rb w w11 (bad || is) cnt /\ w11.rangeLeft a.m1 rb = cnt := by
 have l1 := hrg.owns.lt;have l2 := hrg.lt;have hs := h26.size;have hrg' := hrg.at ((hW'.block _ (by omega) hm1).trans (h26.block _ l1)) ((hW'.block _ (by omega) hrb).trans (h26.block _ l2));have hst := hM.step hx hQ;rw [hT] at hst;have e : (bad || (pr (u, v)).isSome || zee (u, v)) = (bad || is) := (by rw [<- his, pairH_some, Bool.or_assoc]);rw [e] at hst;have hl : n + (ss ++ [x]).length = n + ss.length + 1 := (by simp; omega);exact ⟨⟨_, ss ++ [x], _, _, _, hrg', hCame, hst, by rw [hl]; exact ⟨hpr, hmd, hsc⟩, by simp; omega, (hW.then_below h26).trans hW'⟩, hrg'.left_eq⟩
end
end
section
open Go.RowKit Go.Lib Go.Maps Go.Sort Go.Shelf
attribute [local go_sem] Oper.semAt_some
def NewC (s o : List UInt8) : Prop := (rowsS s).2.2 = 0 /\ (setsS o).2.2 = 0 /\ NewOk (rowsS s).1 (setsS o).1
theorem zh {W W' : World} {b : Nat} {t : TypeId} {v : Value} (h : Boxed W b t v) (hb : Below W.heap.size W W') : Boxed W' b t v := (hb.block b h.lt).trans h
theorem zt {W : World} {b c : Nat} {t : TypeId} {v : Value} (h : Boxed W b t v) (u : Value) (hne : b ≠ c) : Boxed (W.setCell ⟨c, 0, none⟩ u) b t v := h.kept (grownBy_setCell' W c u) (by simpa using hne)
def zmw (w : World) (e : Ending) (w' : World) : Prop := (∃ er : Int, er ≠ 0 /\ e = .returned (.tuple #[.pointer none, .int .i64 er])) /\ Below w.heap.size w w'
def znk (rows : List RowS) (out : List Int) (w : World) (e : Ending) (w' : World) : Prop :=
 ∃ bp a n ss pr md sc, e = .returned (.tuple #[.pointer (some ⟨bp, 0, none⟩), .int .i64 0]) /\ BaseM w' bp a n (clsL rows) (prtL rows) pr md sc /\ n <= 100000 /\ zfj R32 (prtL rows) ss /\ MkI (madeQ (clsL rows) (prtL rows) out) (zau (prtL rows)) zee ss false pr md sc /\ w.heap.size <= bp /\ Below w.heap.size w w'
def NewP (s o : List UInt8) (w : World) (e : Ending) (w' : World) : Prop := (¬ NewC s o /\ zmw w e w') \/ (NewC s o /\ znk (rowsS s).1 (setsS o).1 w e w')
theorem zla (s : List UInt8) : (setsS s).1.length <= 4096 := by
 have key : ∀ (ls : List (Int × List UInt8)) (out : List Int), out.length <= 4096 -> (setsW out ls).1.length <= 4096 := by
  intro ls;induction ls with
  | nil => intro out h; exact h
  | cons p ls ih =>
   intro out h
   by_cases he : (za0 out p.2).2 = 0
   ·rw [zep he]; exact ih _ (setStep_len h)
   ·rw [zb9 he]; simp
 unfold setsS setsE;split
 ·simp
 ·simp only [];rw [(zdm _).length_eq];exact key _ [] (by simp)
section
variable {w : World}
theorem new_rows (s o : ByteArray) (hE : Env w) (hs : s.size <= 1073741824) (hbad : (rowsS (bs s)).2.2 ≠ 0) : Calls Tryz.prog 44 #[.string s, .string o] w (zmw w) := by
 refine (callsIn_wide (n := 5)).1 ?_;have hro : Fence.wide.round = none := rfl;have h1 : 1 <= 5 := (by omega);refine callsIn_of_wp_marks Tryz.func44 rfl trivial ?_ hro;simp only [Tryz.ntmps44, List.size_toArray, List.length_cons, List.length_nil, Nat.reduceAdd, Nat.reduceSub, Array.replicate_succ, Array.replicate_zero, List.push_toArray, List.append_toArray, List.nil_append, List.cons_append];have RW := fun W (hb : Below w.heap.size w W) => zg7 s W (hE.below hb) hs;obtain ⟨⟨rows, ln, er⟩, hR⟩ : ∃ R, R = rowsS (bs s) := ⟨_, rfl⟩;rw [<- hR] at RW hbad;simp only [] at hbad;have hne : ((er : Int) != 0) = true := (by simpa using hbad);have HNE := hz0q hbad;clear hR hbad;obtain ⟨W0, hW0⟩ : ∃ W0, (w.alloc (.cells #[.pointer none] 24)).alloc (.cells #[.int .i64 0] 29) = W0 := ⟨_, rfl⟩;have hB0 : Below w.heap.size w W0 := (by rw [<- hW0]; exact ((Below.refl _ w).alloc (Nat.le_refl _) _).alloc (by simp) _);have bx1 : Boxed W0 w.heap.size 24 (.pointer none) := by rw [<- hW0]; exact (Boxed.new w _ _).alloc _
 have bx2 : Boxed W0 (w.heap.size + 1) 29 (.int .i64 0) := by
  rw [<- hW0];have := Boxed.new (w.alloc (.cells #[.pointer none] 24)) 29 (.int .i64 0);rwa [World.size_alloc] at this
 have RW0 := RW _ hB0;clear RW
 gi_wp2
 refine ⟨trivial, (callsIn_wide.2 RW0).mono ?_⟩;rintro e w1 ⟨os, A, c, ho, rfl, hat, hb1⟩;have b1 := zh bx1 hb1;have b2 := zh bx2 hb1;have c1 := (b1).cell;have f1 := (b1).frozen;have d1 := (zt (b2) (.pointer none) (show w.heap.size + 1 ≠ w.heap.size by omega)).cell;have f2 := (zt (b2) (.pointer none) (show w.heap.size + 1 ≠ w.heap.size by omega)).frozen;have hb := zb hB0 hb1;clear bx1 bx2 hb1 hat ho hB0 hW0 RW0
 gi_wp2
 have k1 := (zt ((b1).set (.pointer none)) (.int .i64 (er)) (show w.heap.size ≠ w.heap.size + 1 by omega)).cell;have k2 := ((zt (b2) (.pointer none) (show w.heap.size + 1 ≠ w.heap.size by omega)).set (.int .i64 (er))).cell;refine ⟨.tuple #[.pointer none, .int .i64 (er)], ?_, ⟨er, HNE.out, rfl⟩, ((hb).setCell (p := ⟨w.heap.size, 0, none⟩) (Nat.le_refl _) _).setCell (p := ⟨w.heap.size + 1, 0, none⟩) (by simp) _⟩;simp [results, Tryz.f44, go_sem, k1, k2]
theorem new_sets (s o : ByteArray) (hE : Env w) (hs : s.size <= 1073741824) (ho1 : o.size <= 1073741824) (h0 : (rowsS (bs s)).2.2 = 0) (hbad : (setsS (bs o)).2.2 ≠ 0) : Calls Tryz.prog 44 #[.string s, .string o] w (zmw w) := by
 refine (callsIn_wide (n := 5)).1 ?_;have hro : Fence.wide.round = none := rfl;have h1 : 1 <= 5 := (by omega);refine callsIn_of_wp_marks Tryz.func44 rfl trivial ?_ hro;simp only [Tryz.ntmps44, List.size_toArray, List.length_cons, List.length_nil, Nat.reduceAdd, Nat.reduceSub, Array.replicate_succ, Array.replicate_zero, List.push_toArray, List.append_toArray, List.nil_append, List.cons_append];have RW := fun W (hb : Below w.heap.size w W) => zg7 s W (hE.below hb) hs;have ST := fun W (hb : Below w.heap.size w W) => zkb o W (hE.below hb) ho1;obtain ⟨⟨rows, ln, e0⟩, hR⟩ : ∃ R, R = rowsS (bs s) := ⟨_, rfl⟩;rw [<- hR] at RW h0;simp only [] at h0;subst h0;obtain ⟨⟨out, ln2, er⟩, hS⟩ : ∃ R, R = setsS (bs o) := ⟨_, rfl⟩;rw [<- hS] at ST hbad;simp only [] at hbad;have hne : ((er : Int) != 0) = true := (by simpa using hbad);have HNE := hz0q hbad;clear hR hS hbad;obtain ⟨W0, hW0⟩ : ∃ W0, (w.alloc (.cells #[.pointer none] 24)).alloc (.cells #[.int .i64 0] 29) = W0 := ⟨_, rfl⟩;have hB0 : Below w.heap.size w W0 := (by rw [<- hW0]; exact ((Below.refl _ w).alloc (Nat.le_refl _) _).alloc (by simp) _);have bx1 : Boxed W0 w.heap.size 24 (.pointer none) := by rw [<- hW0]; exact (Boxed.new w _ _).alloc _
 have bx2 : Boxed W0 (w.heap.size + 1) 29 (.int .i64 0) := by
  rw [<- hW0];have := Boxed.new (w.alloc (.cells #[.pointer none] 24)) 29 (.int .i64 0);rwa [World.size_alloc] at this
 have RW0 := RW _ hB0;clear RW
 gi_wp2
 refine ⟨trivial, (callsIn_wide.2 RW0).mono ?_⟩;rintro e w1 ⟨os, A, c, ho, rfl, hat, hb1⟩;have hb := zb hB0 hb1;have ST1 := ST _ hb;have by1 := zh bx1 hb1;have by2 := zh bx2 hb1;clear ST bx1 bx2 hat ho hb1 hB0 hW0 RW0
 gi_wp2
 refine ⟨trivial, (callsIn_wide.2 ST1).mono ?_⟩;rintro e w2 ⟨A2, c2, rfl, hown2, hb2⟩;have b1 := zh by1 hb2;have b2 := zh by2 hb2;have hbb := zb hb hb2;have c1 := (b1).cell;have f1 := (b1).frozen;have d1 := (zt (b2) (.pointer none) (show w.heap.size + 1 ≠ w.heap.size by omega)).cell;have f2 := (zt (b2) (.pointer none) (show w.heap.size + 1 ≠ w.heap.size by omega)).frozen;clear by1 by2 hb hb2 hown2 ST1
 gi_wp2
 have k1 := (zt ((b1).set (.pointer none)) (.int .i64 (er)) (show w.heap.size ≠ w.heap.size + 1 by omega)).cell;have k2 := ((zt (b2) (.pointer none) (show w.heap.size + 1 ≠ w.heap.size by omega)).set (.int .i64 (er))).cell;refine ⟨.tuple #[.pointer none, .int .i64 (er)], ?_, ⟨er, HNE.out, rfl⟩, ((hbb).setCell (p := ⟨w.heap.size, 0, none⟩) (Nat.le_refl _) _).setCell (p := ⟨w.heap.size + 1, 0, none⟩) (by simp) _⟩;simp [results, Tryz.f44, go_sem, k1, k2]
theorem zjx {w2 w3 : World} {q : Nat} (tn : Nat) (hq : q = w2.heap.size) (hT : TabAt w3 (q + 1) q 0 (fun _ => 0)) (hb : Below w2.heap.size w2 w3) (hz : w3.heap.size = q + 2) :
  ∃ W, (((((w3.alloc (.map #[] 0)).alloc (.map #[] 0)).alloc (.map #[] 0)).alloc (.map #[] 0)).alloc (.cells #[.pointer (some ⟨q + 1, 0, none⟩), .map (some (q + 2)), .map (some (q + 3)), .map (some (q + 4)), .map (some (q + 5))] 114)).alloc (.cells #[.pointer (some ⟨q + 6, 0, none⟩)] 24) = W /\
   TInv w2 W (q + 6) ⟨q + 1, q, q + 2, q + 3, q + 4, q + 5, tn⟩ 0 [] W /\ MkV W ⟨q + 1, q, q + 2, q + 3, q + 4, q + 5, tn⟩ 0 (fun _ => none) (fun _ => none) (fun _ => none) /\ Boxed W (q + 7) 24 (.pointer (some ⟨q + 6, 0, none⟩)) /\ Below w2.heap.size w2 W /\ W.heap.size = q + 8 := by
 refine ⟨_, rfl, ?_⟩;have s1 : (w3.alloc (.map #[] 0)).heap.size = q + 3 := (by rw [World.size_alloc, hz]);have s2 : ((w3.alloc (.map #[] 0)).alloc (.map #[] 0)).heap.size = q + 4 := (by rw [World.size_alloc, s1]);have s3 : (((w3.alloc (.map #[] 0)).alloc (.map #[] 0)).alloc (.map #[] 0)).heap.size = q + 5 := (by rw [World.size_alloc, s2]);have s4 : ((((w3.alloc (.map #[] 0)).alloc (.map #[] 0)).alloc (.map #[] 0)).alloc (.map #[] 0)).heap.size = q + 6 := (by rw [World.size_alloc, s3]);have m1 := MapF.made w3 Tryz.prog 21 z7 R32 partV;have m2 := MapF.made (w3.alloc (.map #[] 0)) Tryz.prog 179 zd9 R32P runeV;have m3 := MapF.made ((w3.alloc (.map #[] 0)).alloc (.map #[] 0)) Tryz.prog 21 z7 R32 pairV;have m4 := MapF.made (((w3.alloc (.map #[] 0)).alloc (.map #[] 0)).alloc (.map #[] 0)) Tryz.prog 21 z7 R32 intV;rw [hz] at m1;rw [s1] at m2;rw [s2] at m3;rw [s3] at m4;have a3 := hb.size;have t4 := ((((hT.below ((Below.refl _ _).alloc (Nat.le_refl _) (.map #[] 0))).below ((Below.refl _ _).alloc (Nat.le_refl _) (.map #[] 0))).below ((Below.refl _ _).alloc (Nat.le_refl _) (.map #[] 0))).below ((Below.refl _ _).alloc (Nat.le_refl _) (.map #[] 0)));have hb4 : Below w2.heap.size w2 ((((w3.alloc (.map #[] 0)).alloc (.map #[] 0)).alloc (.map #[] 0)).alloc (.map #[] 0)) := (((hb.alloc (by omega) _).alloc (by rw [s1]; omega) _).alloc (by rw [s2]; omega) _).alloc (by rw [s3]; omega) _;have n1 := ((m1.alloc (.map #[] 0)).alloc (.map #[] 0)).alloc (.map #[] 0);have n2 := (m2.alloc (.map #[] 0)).alloc (.map #[] 0)
 have n3 := m3.alloc (.map #[] 0);clear m1 m2 m3 hT hb;generalize ((((w3.alloc (.map #[] 0)).alloc (.map #[] 0)).alloc (.map #[] 0)).alloc (.map #[] 0)) = W4 at *;have bx := zl W4 #[.pointer (some ⟨q + 1, 0, none⟩), .map (some (q + 2)), .map (some (q + 3)), .map (some (q + 4)), .map (some (q + 5))] 114;rw [s4] at bx;have s5 : (W4.alloc (.cells #[.pointer (some ⟨q + 1, 0, none⟩), .map (some (q + 2)), .map (some (q + 3)), .map (some (q + 4)), .map (some (q + 5))] 114)).heap.size = q + 7 := (by rw [World.size_alloc, s4]);have by1 := Boxed.new (W4.alloc (.cells #[.pointer (some ⟨q + 1, 0, none⟩), .map (some (q + 2)), .map (some (q + 3)), .map (some (q + 4)), .map (some (q + 5))] 114)) 24 (.pointer (some ⟨q + 6, 0, none⟩));rw [s5] at by1;have hb6 := (hb4.alloc (by omega) (.cells #[.pointer (some ⟨q + 1, 0, none⟩), .map (some (q + 2)), .map (some (q + 3)), .map (some (q + 4)), .map (some (q + 5))] 114)).alloc (by rw [s5]; omega) (.cells #[.pointer (some ⟨q + 6, 0, none⟩)] 24);refine ⟨⟨zbf _ bx, ?_, ⟨fun _ => none, (n1.alloc _).alloc _, fun r _ => trivial⟩, Wrote.refl _ _⟩, ⟨(n2.alloc _).alloc _, (n3.alloc _).alloc _, (m4.alloc _).alloc _⟩, by1, hb6, by rw [World.size_alloc, s5]⟩;exact (t4.below ((Below.refl _ _).alloc (Nat.le_refl _) _)).below ((Below.refl _ _).alloc (Nat.le_refl _) _)
end
end
section
open Go.RowKit Go.Lib Go.Maps Go.Sort Go.Shelf
attribute [local go_sem] Oper.semAt_some
theorem TInv.toM {W0 w w' : World} {bp n : Nat} {a : BAddr} {rows : List RowS} (h : TInv W0 w bp a n rows w') (hV : MkV w a 0 (fun _ => none) (fun _ => none) (fun _ => none)) (ap : a.Apart) (ht : a.tn = 4353 * n) (hb : Below W0.heap.size W0 w') : BaseM w' bp a n (clsL rows) (prtL rows) (fun _ => none) (fun _ => none) (fun _ => none) := by
 obtain ⟨h1, h2, ⟨f, h3, h4⟩, h5⟩ := h;refine ⟨h1, by rw [ht]; exact h2, ⟨f, h3, fun r hr => (h4 r hr).below hb⟩, ?_, ?_, ?_⟩
 ·exact (hV.pr.at (h5.block _ hV.pr.lt (by rintro (e | e); exact ap.b2 e.symm; exact ap.p2 e.symm))).mono (Nat.zero_le _)
 ·exact (hV.md.at (h5.block _ hV.md.lt (by rintro (e | e); exact ap.b3 e.symm; exact ap.p3 e.symm))).mono (Nat.zero_le _)
 ·exact (hV.sc.at (h5.block _ hV.sc.lt (by rintro (e | e); exact ap.b4 e.symm; exact ap.p4 e.symm))).mono (Nat.zero_le _)
theorem zik (q tn : Nat) : BAddr.Apart ⟨q + 1, q, q + 2, q + 3, q + 4, q + 5, tn⟩ := ⟨by simp, by simp, by simp, by simp, by simp, by simp, by simp, by simp, by simp, by simp⟩
theorem BaseM.wrote {w w' : World} {bp n : Nat} {a : BAddr} {cls : Int -> Int} {prt : Int -> Option (List UInt8 × List Int)} {pr : Int × Int -> Option Int} {md : Int -> Option (Int × Int)} {sc : Int -> Option Int} {S : Nat -> Prop} (h : BaseM w bp a n cls prt pr md sc) (hW : Wrote S w w')
  (hS : ∀ k, S k -> k ≠ bp /\ k ≠ a.tb /\ k ≠ a.mb /\ k ≠ a.m1 /\ k ≠ a.m2 /\ k ≠ a.m3 /\ k ≠ a.m4 /\ ∀ off z, w.cell? ⟨k, off, none⟩ ≠ some (.int .i32 z)) : BaseM w' bp a n cls prt pr md sc := by
 obtain ⟨h1, ⟨i1, g, i2, i3⟩, ⟨f, h3, h4⟩, h5, h6, h7⟩ := h;have ne : ∀ b, (∀ k, S k -> k ≠ b) -> ¬ S b := fun b hb hs => hb b hs rfl;refine ⟨hW.blk h1 (ne _ fun k hk => (hS k hk).1), ⟨hW.blk i1 (ne _ fun k hk => (hS k hk).2.1), g, i2.at (hW.block _ i2.lt (ne _ fun k hk => (hS k hk).2.2.1)), i3⟩, ⟨f, h3.at (hW.block _ h3.lt (ne _ fun k hk => (hS k hk).2.2.2.1)), fun r hr => ?_⟩, h5.at (hW.block _ h5.lt (ne _ fun k hk => (hS k hk).2.2.2.2.1)), h6.at (hW.block _ h6.lt (ne _ fun k hk => (hS k hk).2.2.2.2.2.1)), h7.at (hW.block _ h7.lt (ne _ fun k hk => (hS k hk).2.2.2.2.2.2.1))⟩;have hp := h4 r hr;generalize f r = p at hp;generalize prt r = q at hp
 cases p <;> cases q <;> first | exact hp | (refine ⟨hp.1, hp.2.1, hp.2.2.1, hp.2.2.2.1.wrote hW fun h0 ad had hSk => ?_, hp.2.2.2.2⟩)
 obtain ⟨b, off, e, _, hc⟩ := hp.2.2.2.1.at_ h0;rw [had] at e;injection e with e;subst e;have hl := hp.2.2.2.1.1;obtain ⟨u, hu⟩ : ∃ u, (Rs _)[0]? = some u := ⟨_, List.getElem?_eq_getElem (by rw [hl]; exact h0)⟩;have hc0 := hc 0 u hu;unfold Rs at hu;rw [List.getElem?_map] at hu;obtain ⟨z, _, rfl⟩ := Option.map_eq_some_iff.1 hu;exact (hS _ hSk).2.2.2.2.2.2.2 _ z hc0
theorem zmn {w : World} {b : Nat} {t : TypeId} {v : Value} (h : Boxed w b t v) (hv : ∀ z, v ≠ .int .i32 z) : ∀ off z, w.cell? ⟨b, off, none⟩ ≠ some (.int .i32 z) := fun off z e => by
 unfold World.cell? at e;rw [show w.heap[b]? = _ from h] at e;simp only [] at e;match off with
 | 0 => simp at e; exact hv z e
 | off + 1 => simp at e
theorem zpx {w : World} {b : Nat} {d : Option (List Deferred)} (h : w.heap[b]? = some (.deferred d)) : ∀ off z, w.cell? ⟨b, off, none⟩ ≠ some (.int .i32 z) := fun off z e => by
 unfold World.cell? at e;rw [h] at e;simp at e
section
variable {w : World}
theorem zlz (s o : ByteArray) (hE : Env w) (hs : s.size <= 1073741824) (ho1 : o.size <= 1073741824) (h0 : (rowsS (bs s)).2.2 = 0) (h01 : (setsS (bs o)).2.2 = 0) (hbad : (rowsS (bs s)).1.any zar = true \/ ((rowsS (bs s)).1.any zar = false /\ (rowsS (bs s)).1.any formB = true)) : Calls Tryz.prog 44 #[.string s, .string o] w (zmw w) := by
 refine (callsIn_wide (n := 5)).1 ?_;have hro : Fence.wide.round = none := rfl;have h1 : 1 <= 5 := (by omega);refine callsIn_of_wp_marks Tryz.func44 rfl trivial ?_ hro;simp only [Tryz.ntmps44, List.size_toArray, List.length_cons, List.length_nil, Nat.reduceAdd, Nat.reduceSub, Array.replicate_succ, Array.replicate_zero, List.push_toArray, List.append_toArray, List.nil_append, List.cons_append];have RW := fun W (hb : Below w.heap.size w W) => zg7 s W (hE.below hb) hs;have ST := fun W (hb : Below w.heap.size w W) => zkb o W (hE.below hb) ho1;have hrl := zh4 (bs s);obtain ⟨⟨rows, ln, e0⟩, hR⟩ : ∃ R, R = rowsS (bs s) := ⟨_, rfl⟩;rw [<- hR] at RW h0 hrl hbad;simp only [] at h0 hrl hbad;subst h0;obtain ⟨⟨out, ln2, er⟩, hS⟩ : ∃ R, R = setsS (bs o) := ⟨_, rfl⟩;rw [<- hS] at ST h01;simp only [] at h01;subst h01;clear hR hS;obtain ⟨W0, hW0⟩ : ∃ W0, (w.alloc (.cells #[.pointer none] 24)).alloc (.cells #[.int .i64 0] 29) = W0 := ⟨_, rfl⟩;have hB0 : Below w.heap.size w W0 := (by rw [<- hW0]; exact ((Below.refl _ w).alloc (Nat.le_refl _) _).alloc (by simp) _);have bx1 : Boxed W0 w.heap.size 24 (.pointer none) := by rw [<- hW0]; exact (Boxed.new w _ _).alloc _
 have bx2 : Boxed W0 (w.heap.size + 1) 29 (.int .i64 0) := by
  rw [<- hW0];have := Boxed.new (w.alloc (.cells #[.pointer none] 24)) 29 (.int .i64 0);rwa [World.size_alloc] at this
 have RW0 := RW _ hB0;clear RW
 gi_wp2
 refine ⟨trivial, (callsIn_wide.2 RW0).mono ?_⟩;rintro e w1 ⟨os, A, c, ho, rfl, hat, hb1⟩;have hb := zb hB0 hb1;have ST1 := ST _ hb;have by1 := zh bx1 hb1;have by2 := zh bx2 hb1;simp only [] at ho;clear ST bx1 bx2 hb1 hB0 hW0 RW0
 gi_wp2
 refine ⟨trivial, (callsIn_wide.2 ST1).mono ?_⟩;rintro e w2 ⟨A2, c2, rfl, hown2, hb2⟩;have b1 := zh by1 hb2;have b2 := zh by2 hb2;have hbb := zb hb hb2;have hatR := hat.rd.below hb2
 have hnil : ∀ x ∈ os, x.2.1 = none -> x.1.il.length = 0 /\ x.2.2 = 0 := fun x hx hx0 => by
  have := hat.into x hx;unfold zg4 at this;rcases this.2 with ⟨hv, hz⟩ | ⟨g, cap, cur, hv, _⟩
  ·injection hv with e1 e2 e3;exact ⟨hz, e3⟩
  ·injection hv with e1 e2 e3;rw [hx0] at e1
   cases e1
 have TN := zhp w2;clear by1 by2 hb hb2 ST1 hat
 gi_wp2
 refine ⟨trivial, (callsIn_wide.2 TN).mono ?_⟩;rintro e w3 ⟨rfl, hT3, hb3, hz3⟩;have HOL : Hid (os.length = rows.length) := (by show _ = _; rw [<- ho, List.length_map]);have hoo : os.length <= 4096 := (by rw [HOL.out]; exact hrl);have HO := hz0q ho;obtain ⟨q, hq⟩ : ∃ q, q = w2.heap.size := ⟨_, rfl⟩;rw [<- hq] at hT3 hz3;obtain ⟨W, hWd, hTI, hV, hbx11, hbW, hzW⟩ := zjx (4353 * rows.length) hq hT3 hb3 hz3;have b3 := zh b1 hbW;have b4 := zh b2 hbW;have hbbW := zb hbb hbW;have hcW := hbx11.cell;have HS3 := hz0q (And.intro hq hz3);have HZW := hz0q hzW;have HQW := hz0q hWd;simp only [<- hq];have hmm := @run_makeMap Tryz.prog;have BT := btakes_bad (bp := q + 6) hbW A os.length c os hatR rfl (by omega) (by rw [HO.out]; exact hbad);clear ho hbad hE hatR hown2 hnil hTI hV hT3 hb3 hq hzW TN hWd
 gi_wp2
 simp only [show q + 2 + 1 = q + 3 from rfl, show q + 3 + 1 = q + 4 from rfl, show q + 4 + 1 = q + 5 from rfl, show q + 5 + 1 = q + 6 from rfl, show q + 6 + 1 = q + 7 from rfl];rw [HQW.out];refine ⟨trivial, (callsIn_wide.2 BT).mono ?_⟩;rintro e w4 ⟨he, hb4⟩;have b5 := zh b3 hb4;have b6 := zh b4 hb4;have hbF := zb hbbW hb4;have c1 := (b5).cell;have f1 := (b5).frozen;have d1 := (zt (b6) (.pointer none) (show w.heap.size + 1 ≠ w.heap.size by omega)).cell;have f2 := (zt (b6) (.pointer none) (show w.heap.size + 1 ≠ w.heap.size by omega)).frozen;clear b1 b2 b3 b4 BT hb4 hbW hbbW hbx11 hcW;rcases he with rfl | rfl
 ·clear hmm
  gi_wp2
  have k1 := (zt ((b5).set (.pointer none)) (.int .i64 (12)) (show w.heap.size ≠ w.heap.size + 1 by omega)).cell;have k2 := ((zt (b6) (.pointer none) (show w.heap.size + 1 ≠ w.heap.size by omega)).set (.int .i64 (12))).cell;refine ⟨.tuple #[.pointer none, .int .i64 (12)], ?_, ⟨12, by decide, rfl⟩, ((hbF).setCell (p := ⟨w.heap.size, 0, none⟩) (Nat.le_refl _) _).setCell (p := ⟨w.heap.size + 1, 0, none⟩) (by simp) _⟩;simp [results, Tryz.f44, go_sem, k1, k2]
 ·clear hmm
  gi_wp2
  have k1 := (zt ((b5).set (.pointer none)) (.int .i64 (10)) (show w.heap.size ≠ w.heap.size + 1 by omega)).cell;have k2 := ((zt (b6) (.pointer none) (show w.heap.size + 1 ≠ w.heap.size by omega)).set (.int .i64 (10))).cell;refine ⟨.tuple #[.pointer none, .int .i64 (10)], ?_, ⟨10, by decide, rfl⟩, ((hbF).setCell (p := ⟨w.heap.size, 0, none⟩) (Nat.le_refl _) _).setCell (p := ⟨w.heap.size + 1, 0, none⟩) (by simp) _⟩;simp [results, Tryz.f44, go_sem, k1, k2]
end
end
end Go.Proofs.YtkocaoeednmkpaaGreatDoor
