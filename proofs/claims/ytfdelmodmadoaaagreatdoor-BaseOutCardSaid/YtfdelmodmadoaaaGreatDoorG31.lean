/- slices.BinarySearch at characters: whether one is on a rising list. What makes leaves standing, and what it fills: plain words on worlds. The pairs of a base, gone through: what the rounds keep is a relation of the caller's. -/
import Derived.WideKeyEntry
import Derived.Test.YtfdelmodmadoaaaGreatDoorG30
import Derived.RangeFuncBox
set_option linter.unusedSimpArgs false
set_option linter.unusedVariables false
set_option maxRecDepth 20000
set_option maxHeartbeats 4000000
namespace Go.Proofs.YtfdelmodmadoaaaGreatDoor
section
open Go.RowKit Go.Lib Go.Maps
theorem cmpNaN_any (x : Int) (w : World) : Calls Tryz.prog 148 #[.int .i32 x] w fun e w' => e = .returned (.bool false) /\ w' = w := by
 go_enter Tryz.func148, Tryz.ntmps148;go_wp2;go_returns;exact ⟨rfl, rfl⟩
theorem zgq (x : Int) (w : World) : Calls Tryz.prog 111 #[.int .i32 x] w fun e w' => e = .returned (.bool false) /\ w' = w := by
 go_enter Tryz.func111, Tryz.ntmps111;go_wp2;go_returns;exact ⟨rfl, rfl⟩
theorem ze6 (x y : Int) (w : World) : Calls Tryz.prog 110 #[.int .i32 x, .int .i32 y] w fun e w' => e = .returned (.bool (decide (x < y))) /\ w' = w := by
 go_enter Tryz.func110, Tryz.ntmps110;go_wp2_with (first | (go_at_call 148; refine (cmpNaN_any _ _).mono ?_; rintro e w' ⟨rfl, rfl⟩) | go_in)
 go_returns;exact ⟨rfl, rfl⟩
def Rises (ks : List Int) : Prop := ks.Pairwise (· < ·)
theorem Rises.lt {ks : List Int} (h : Rises ks) {i j : Nat} {x y : Int} (hx : ks[i]? = some x) (hy : ks[j]? = some y) (hij : i < j) : x < y := by
 obtain ⟨h1, rfl⟩ := List.getElem?_eq_some_iff.1 hx;obtain ⟨h2, rfl⟩ := List.getElem?_eq_some_iff.1 hy;exact List.pairwise_iff_getElem.1 h i j h1 h2 hij
theorem half_mid {lo hi : Nat} (h1 : lo < hi) (h2 : hi <= 1000000) : lo <= (lo + hi) / 2 /\ (lo + hi) / 2 < hi := by omega
theorem bsearch_any (A : Option Addr) (n c : Nat) (ks : List Int) (t : Int) (w : World) (hr : Rd w A n (Rs ks)) (hn : n <= 1000000) (hS : Rises ks) :
  Calls Tryz.prog 70 #[.slice A n c, .int .i32 t] w fun e w' => (∃ i : Int, e = .returned (.tuple #[.int .i64 i, .bool (decide (t ∈ ks))])) /\ w' = w := by
 have hll : ks.length = n := (by have := hr.1; simpa [Rs] using this);have HLL := hz0q hll;have HS := hz0q hS;clear hll hS;go_enter Tryz.func70, Tryz.ntmps70;go_wp2
 go_loopw [7, 8] (fun a b wr => ∃ lo hi : Nat, lo <= hi /\ hi <= n /\ a = .int .i64 lo /\ b = .int .i64 hi /\ Hid (∀ j x, j < lo -> ks[j]? = some x -> x < t) /\ Hid (∀ j x, hi <= j -> ks[j]? = some x -> t <= x) /\ wr = w) (fun a b _ => (intOf b - intOf a).toNat)
 case atStart => exact ⟨0, n, Nat.zero_le _, Nat.le_refl _, rfl, rfl, hz0q (fun j x h => absurd h (Nat.not_lt_zero _)), hz0q (fun j x h hx => by have := (List.getElem?_eq_some_iff.1 hx).1; have := HLL.out; omega), by trivial⟩
 case round =>
  obtain ⟨lo, hi, h1, h2, rfl, rfl, H1, H2, rfl⟩ := hrel
  by_cases hlt : lo < hi
  ·have hlt' : (lo : Int) < (hi : Int) := (by omega);obtain ⟨m1, m2⟩ := half_mid hlt (by omega);obtain ⟨m, hm⟩ : ∃ m, m = (lo + hi) / 2 := ⟨_, rfl⟩;rw [<- hm] at m1 m2;have hmq : ((lo : Int) + (hi : Int)) / 2 = (m : Int) := (by omega);have hmn : (m : Int) < (n : Int) := (by omega);obtain ⟨x, hx⟩ : ∃ x, ks[m]? = some x := ⟨_, List.getElem?_eq_getElem (by rw [HLL.out]; omega)⟩;obtain ⟨b, off, rfl, hbl, hcx⟩ := hr.at_ (by omega);have c0 : wr.cell? ⟨b, off + m, none⟩ = some (.int .i32 x) := hcx m _ (by simp [Rs, hx]);have HX := hz0q hx;clear hx hcx hbl hm
   by_cases hxt : x < t
   ·have HC := ze6 x t wr;rw [decide_eq_true hxt] at HC;have hmw : wrap64 ((m : Int) + 1) = (m : Int) + 1 := (by unfold wrap64; omega);go_wp2_with (first | (go_at_call 110; refine HC.mono ?_; rintro e w' ⟨rfl, rfl⟩) | go_in)
    go_roundw
    case rel => exact ⟨m + 1, hi, by omega, h2, by go_num, rfl, hz0q (fun j y hj hy => by
     by_cases e : j = m
     ·subst e; have := HX.out; rw [hy] at this; injection this with e2; rw [e2]; exact hxt
     ·have := HS.out.lt hy HX.out (by omega); omega), H2, by trivial⟩
    case measure => simp [intOf]; omega
   ·have HC := ze6 x t wr;rw [decide_eq_false hxt] at HC;go_wp2_with (first | (go_at_call 110; refine HC.mono ?_; rintro e w' ⟨rfl, rfl⟩) | go_in)
    go_roundw
    case rel => exact ⟨lo, m, by omega, by omega, rfl, by go_num, H1, hz0q (fun j y hj hy => by
     by_cases e : j = m
     ·subst e; have := HX.out; rw [hy] at this; injection this with e2; rw [e2]; omega
     ·have := HS.out.lt HX.out hy (by omega); omega), by trivial⟩
    case measure => simp [intOf]; omega
  ·obtain rfl : lo = hi := (by omega);have hnl : ¬ ((lo : Int) < (lo : Int)) := by omega
   by_cases hend : lo < n
   ·obtain ⟨x, hx⟩ : ∃ x, ks[lo]? = some x := ⟨_, List.getElem?_eq_getElem (by rw [HLL.out]; omega)⟩;obtain ⟨b, off, rfl, hbl, hcx⟩ := hr.at_ (by omega);have c0 : wr.cell? ⟨b, off + lo, none⟩ = some (.int .i32 x) := hcx lo _ (by simp [Rs, hx]);have HX := hz0q hx;have hln : (lo : Int) < (n : Int) := (by omega);have hge := H2.out lo x (Nat.le_refl _) hx;have N1 := zgq x wr;have N2 := zgq t wr;clear hx hcx hbl
    by_cases hxt : x = t
    ·subst hxt;have HM : Hid (decide (x ∈ ks) = true) := decide_eq_true (List.mem_of_getElem? HX.out);clear hge;go_wp2_with (first | (go_at_call 111; refine N1.mono ?_; rintro e w' ⟨rfl, rfl⟩) | go_in)
     go_returns;rw [HM.out];exact ⟨⟨_, by first | rfl | simp⟩, rfl⟩
    ·have HM : Hid (decide (t ∈ ks) = false) := decide_eq_false fun hm => by
      obtain ⟨j, hj⟩ := List.mem_iff_getElem?.1 hm;rcases Nat.lt_trichotomy j lo with h | h | h
      ·have := H1.out j t h hj; omega
      ·subst h; have := HX.out; rw [hj] at this; injection this with e; exact hxt e.symm
      ·have := HS.out.lt HX.out hj h; omega
     have hbq : (x == t) = false := (by simpa using hxt);clear hge;go_wp2_with (first | (go_at_call 111; first | (refine N1.mono ?_; rintro e w' ⟨rfl, rfl⟩) | (refine N2.mono ?_; rintro e w' ⟨rfl, rfl⟩)) | go_in)
     go_returns;rw [HM.out];exact ⟨⟨_, by first | rfl | simp⟩, rfl⟩
   ·obtain rfl : lo = n := by omega
    have HM : Hid (decide (t ∈ ks) = false) := decide_eq_false fun hm => by
     obtain ⟨j, hj⟩ := List.mem_iff_getElem?.1 hm;have h1 := (List.getElem?_eq_some_iff.1 hj).1;have := H1.out j t (by rw [HLL.out] at h1; exact h1) hj;omega
    go_wp2;go_returns;rw [HM.out];exact ⟨⟨_, by first | rfl | simp⟩, rfl⟩
end
section
open Go.RowKit Go.Lib Go.Maps
structure BAddr.Apart (a : BAddr) : Prop where
 b1 : a.mb ≠ a.m1
 b2 : a.mb ≠ a.m2
 b3 : a.mb ≠ a.m3
 b4 : a.mb ≠ a.m4
 p2 : a.m1 ≠ a.m2
 p3 : a.m1 ≠ a.m3
 p4 : a.m1 ≠ a.m4
 t23 : a.m2 ≠ a.m3
 t24 : a.m2 ≠ a.m4
 t34 : a.m3 ≠ a.m4
abbrev M234 (a : BAddr) (k : Nat) : Prop := k = a.m2 \/ k = a.m3 \/ k = a.m4
structure MkV (W : World) (a : BAddr) (n : Nat) (pr : Int × Int -> Option Int) (md : Int -> Option (Int × Int)) (sc : Int -> Option Int) : Prop where
 pr : MapF W Tryz.prog 92 zcb R32P runeV a.m2 n pr
 md : MapF W Tryz.prog 21 zj R32 pairV a.m3 n md
 sc : MapF W Tryz.prog 21 zj R32 intV a.m4 n sc
structure MkC (W : World) (bp : Nat) (a : BAddr) (n : Nat) (cls : Int -> Int) (f : Int -> Option PV) (prt : Int -> Option (List UInt8 × List Int)) : Prop where
 box : W.heap[bp]? = some (.cells #[.pointer (some ⟨a.tb, 0, none⟩), .map (some a.m1), .map (some a.m2), .map (some a.m3), .map (some a.m4)] 77 (0, 0))
 tab : TabAt W a.tb a.mb a.tn cls
 map : MapF W Tryz.prog 21 zj R32 partV a.m1 n f
 parts : ∀ r, R32 r -> zc0 W (f r) (prt r)
section
variable {w W W' : World} {bp n : Nat} {a : BAddr} {cls : Int -> Int} {prt : Int -> Option (List UInt8 × List Int)} {pr : Int × Int -> Option Int} {md : Int -> Option (Int × Int)} {sc : Int -> Option Int} {f : Int -> Option PV}
theorem zb2 {p : Addr} {v : Value} (h : w.cell? p = some v) : ∃ cs t fr, w.heap[p.block]? = some (.cells cs t fr) := by
 unfold World.cell? at h
 cases hb : w.heap[p.block]? with
 | none => rw [hb] at h; simp at h
 | some o =>
  rw [hb] at h
  cases o with
  | cells cs t fr => exact ⟨cs, t, fr, rfl⟩
  | _ => simp at h
theorem zc0.wrote {S : Nat -> Prop} {p : Option PV} {q : Option (List UInt8 × List Int)} (h : zc0 w p q) (hW : Wrote S w W) (hS : ∀ k, S k -> ∀ cs t fr, w.heap[k]? ≠ some (.cells cs t fr)) : zc0 W p q := by
 cases p <;> cases q <;> first | exact h | (refine ⟨h.1, h.2.1, h.2.2.1, h.2.2.2.1.wrote hW fun h0 ad had hSk => ?_, h.2.2.2.2⟩)
 obtain ⟨b, off, e, _, hc⟩ := h.2.2.2.1.at_ h0;rw [had] at e;injection e with e;subst e;obtain ⟨cs, t, fr, hb⟩ := zb2 (hc 0 _ (List.getElem?_eq_getElem (by have := h.2.2.2.1.1; omega)));exact hS _ hSk _ _ _ hb
theorem BaseM.cOf (h : BaseM w bp a n cls prt pr md sc) : ∃ f, MkC w bp a n cls f prt := by
 obtain ⟨h1, h2, ⟨f, h3, h4⟩, _⟩ := h;exact ⟨f, h1, h2, h3, h4⟩
theorem MkV.notCells (v : MkV w a n pr md sc) : ∀ k, M234 a k -> ∀ cs t fr, w.heap[k]? ≠ some (.cells cs t fr) := fun k hk cs t fr e => by
 rcases hk with rfl | rfl | rfl
 ·exact v.pr.ne_cells e rfl
 ·exact v.md.ne_cells e rfl
 ·exact v.sc.ne_cells e rfl
theorem MkC.wrote (h : MkC w bp a n cls f prt) (ap : a.Apart) (hn : ∀ k, M234 a k -> ∀ cs t fr, w.heap[k]? ≠ some (.cells cs t fr)) (hW : Wrote (M234 a) w W) : MkC W bp a n cls f prt := by
 obtain ⟨h1, ⟨i1, g, i2, i3⟩, h3, h4⟩ := h;refine ⟨hW.blk h1 (fun e => hn _ e _ _ _ h1), ⟨hW.blk i1 (fun e => hn _ e _ _ _ i1), g, i2.at (hW.block _ i2.lt ?_), i3⟩, h3.at (hW.block _ h3.lt ?_), fun r hr => (h4 r hr).wrote hW hn⟩
 ·rintro (e | e | e)
  ·exact ap.b2 e
  ·exact ap.b3 e
  ·exact ap.b4 e
 ·rintro (e | e | e)
  ·exact ap.p2 e
  ·exact ap.p3 e
  ·exact ap.p4 e
theorem MkC.toM {k : Nat} (h : MkC w bp a n cls f prt) (v : MkV w a k pr md sc) (hk : n <= k) : BaseM w bp a k cls prt pr md sc :=
 ⟨h.box, h.tab, ⟨f, h.map.mono hk, h.parts⟩, v.pr, v.md, v.sc⟩
theorem BaseM.vOf (h : BaseM w bp a n cls prt pr md sc) : MkV w a n pr md sc := ⟨h.pr, h.md, h.sc⟩
theorem MkV.mono {k : Nat} (v : MkV w a n pr md sc) (h : n <= k) : MkV w a k pr md sc := ⟨v.pr.mono h, v.md.mono h, v.sc.mono h⟩
theorem MkV.below (v : MkV w a n pr md sc) (hb : Below w.heap.size w W) : MkV W a n pr md sc := ⟨v.pr.below hb v.pr.lt, v.md.below hb v.md.lt, v.sc.below hb v.sc.lt⟩
theorem MkV.kept {r : Nat} (v : MkV w a n pr md sc) (hg : w.grownBy W (some r)) (h2 : a.m2 ≠ r) (h3 : a.m3 ≠ r) (h4 : a.m4 ≠ r) : MkV W a n pr md sc :=
 ⟨v.pr.kept hg (by simpa using h2), v.md.kept hg (by simpa using h3), v.sc.kept hg (by simpa using h4)⟩
theorem Wrote.grown_new {S : Nat -> Prop} {r : Nat} (h : Wrote S w W) (hg : W.grownBy W' (some r)) (hr : w.heap.size <= r) : Wrote S w W' := by
 have h2 : Wrote (fun k => k = r) W W' := Wrote.grown hg fun k e => by injection e with e; exact e.symm
 exact ⟨h2.os.trans h.os, h2.tape.trans h.tape, h2.output.trans h.output, Nat.le_trans h.size h2.size, fun k hk hs => (h2.block k (Nat.lt_of_lt_of_le hk h.size) (by omega)).trans (h.block k hk hs)⟩
end
theorem zg9 {cls : Int -> Int} {prt : Int -> Option (List UInt8 × List Int)} {out : List Int} {x u v : Int} (h : prt x = some ([], [u, v])) : madeQ cls prt out x = (!decide (x ∈ out) && !decide (0 < cls x) && !decide (0 < cls u)) := by unfold madeQ; rw [h]
theorem madeT_two {prt : Int -> Option (List UInt8 × List Int)} {x u v : Int} {k : List UInt8} (h : prt x = some (k, [u, v])) : zaj prt x = (u, v) := by unfold zaj; rw [h]
def MkR (a : BAddr) (cls : Int -> Int) (prt : Int -> Option (List UInt8 × List Int)) (f : Int -> Option PV) (out : List Int) (n rb : Nat) (W0 wr : World) (bad : Bool) (cnt : Nat) : Prop :=
 ∃ left ss pr md sc, MapR wr Tryz.prog 21 zj R32 partV a.m1 rb n f left cnt /\ Came R32 f left ss /\ MkI (madeQ cls prt out) (zaj prt) zce ss bad pr md sc /\ MkV wr a (n + ss.length) pr md sc /\ ss.length + cnt <= n /\ Wrote (M234 a) W0 wr
def zka (bp n : Nat) (a : BAddr) (cls : Int -> Int) (prt : Int -> Option (List UInt8 × List Int)) (out : List Int) (w : World) (e : Ending) (w' : World) : Prop :=
 ∃ bad ss pr md sc, e = .returned (.int .i64 (if bad = true then 12 else 0)) /\ zar R32 prt ss /\ MkI (madeQ cls prt out) (zaj prt) zce ss bad pr md sc /\ BaseM w' bp a (n + ss.length) cls prt pr md sc /\ ss.length <= n /\ Wrote (M234 a) w w'
section
variable {w W : World} {bp n rb : Nat} {a : BAddr} {cls : Int -> Int} {prt : Int -> Option (List UInt8 × List Int)} {f : Int -> Option PV} {out : List Int}
theorem zfn {p : Option PV} {q : Option (List UInt8 × List Int)} (h : zc0 w p q) : p.isSome = q.isSome := by
 cases p <;> cases q <;> first | rfl | exact h.elim
theorem MkR.done {bad : Bool} (hC : MkC w bp a n cls f prt) (ap : a.Apart) (hn : ∀ k, M234 a k -> ∀ cs t fr, w.heap[k]? ≠ some (.cells cs t fr))
  {left : Int -> Bool} {ss : List Int} {pr : Int × Int -> Option Int} {md : Int -> Option (Int × Int)} {sc : Int -> Option Int}
  (hl0 : ∀ x, R32 x -> left x = false) (hCm : Came R32 f left ss) (hI : MkI (madeQ cls prt out) (zaj prt) zce ss bad pr md sc) (hV : MkV W a (n + ss.length) pr md sc) (hle : ss.length <= n) (hW : Wrote (M234 a) w W) :
  zka bp n a cls prt out w (.returned (.int .i64 (if bad = true then 12 else 0))) W := by
 have hA := hCm.all hl0;refine ⟨bad, ss, pr, md, sc, rfl, ⟨hA.1, fun x => ?_⟩, hI, (hC.wrote ap hn hW).toM hV (by omega), hle, hW⟩;rw [hA.2 x];constructor
 ·rintro ⟨h1, h2⟩; exact ⟨h1, by rw [<- zfn (hC.parts x h1)]; exact h2⟩
 ·rintro ⟨h1, h2⟩; exact ⟨h1, by rw [zfn (hC.parts x h1)]; exact h2⟩
theorem step_lookF {α β : Type} {P : Program} {K : TypeId} {mk : α -> Value} {lit : α -> Lit} {ok : α -> Prop} {mkV : β -> Value} {w : World} {b m0 : Nat} {g : α -> Option β} {ops : Array Oper} {o : Oper} {ac : Act} {Q : Exit -> Act -> World -> Prop}
  {K' : Act -> World -> Prop} {R : Prop} {t e : TypeId} {zv z : β} (hg : o.guard = none) (m x : Operand) (hop : o.op = Op.lookup t m x false) (B : KeyB P K mk lit ok) (ht : P.underlying t = some (.map K e)) (hz : (zeroValue e).run P w = .ok (mkV zv) w)
  (h : MapF w P K lit ok mkV b m0 g) {k : α} (hk : ok k) (hm : ac.eval m = .map (some b)) (hx : ac.eval x = mk k) (hzz : z = (g k).getD zv)
  (hK : K' (ac.put o.dst (mkV z)) w) : if Region.wanted o (yielded ops ac.tmps) = true then Oper.wp P o ac w K' Q else R := by
 rw [if_pos (by simp [Region.wanted, hg])];have hrun := h.look B ht hz hk false;unfold Oper.wp;simp [execOp, hop, hm, hx, hrun, Result.andThen];rw [<- hzz];exact hK
def Two (bp q2 : Nat) (a : BAddr) (u v : Int) (W : World) : Prop :=
 W.heap[bp]? = some (.cells #[.pointer (some ⟨a.tb, 0, none⟩), .map (some a.m1), .map (some a.m2), .map (some a.m3), .map (some a.m4)] 77 (0, 0)) /\ W.heap[q2]? = some (.cells #[.int .i32 u, .int .i32 v] 92 (0, 0))
theorem Two.below {q2 : Nat} {u v : Int} {W' : World} (h : Two bp q2 a u v W) (hb : Below W.heap.size W W') : Two bp q2 a u v W' := ⟨zd h.1 hb, zd h.2 hb⟩
theorem Two.grown {q2 r : Nat} {u v : Int} {W' : World} (h : Two bp q2 a u v W) (hg : W.grownBy W' (some r)) (h1 : bp ≠ r) (h2 : q2 ≠ r) : Two bp q2 a u v W' :=
 ⟨(hg.block _ (za2 h.1) (fun e => h1 (by injection e with e))).trans h.1, (hg.block _ (za2 h.2) (fun e => h2 (by injection e with e))).trans h.2⟩
theorem pairH_some {pr : Int × Int -> Option Int} {u v : Int} : (pairH pr u v).isSome = ((pr (u, v)).isSome || zce (u, v)) := by
 unfold pairH zce
 cases pr (u, v) with
 | some x => rfl
 | none =>
  simp only []
  cases (joinH u v).2 <;> simp
theorem MkR.made {w2 W6 w11 : World} {left : Int -> Bool} {ss : List Int} {pr : Int × Int -> Option Int} {md : Int -> Option (Int × Int)} {sc : Int -> Option Int} {bad is : Bool} {cnt : Nat} {x u v : Int}
  (hrg : MapR w2 Tryz.prog 21 zj R32 partV a.m1 rb n f left cnt) (hCame : Came R32 f left (ss ++ [x])) (hM : MkI (madeQ cls prt out) (zaj prt) zce ss bad pr md sc) (hx : x ∉ ss) (hQ : madeQ cls prt out x = true) (hT : zaj prt x = (u, v))
  (hle : ss.length + 1 + cnt <= n) (hW : Wrote (M234 a) w w2) (h26 : Below w2.heap.size w2 W6) (hW' : Wrote (M234 a) W6 w11)
  (hpr : MapF w11 Tryz.prog 92 zcb R32P runeV a.m2 (n + ss.length + 1) (upd pr (u, v) (some x))) (hmd : MapF w11 Tryz.prog 21 zj R32 pairV a.m3 (n + ss.length + 1) (upd md x (some (u, v)))) (hsc : MapF w11 Tryz.prog 21 zj R32 intV a.m4 (n + ss.length + 1) (upd sc v (some (gd sc v + 1))))
  (hrb : ¬ M234 a rb) (hm1 : ¬ M234 a a.m1) (his : (pairH pr u v).isSome = is) : MkR a cls prt f out n rb w w11 (bad || is) cnt /\ w11.rangeLeft a.m1 rb = cnt := by
 have l1 := hrg.owns.lt;have l2 := hrg.lt;have hs := h26.size;have hrg' := hrg.at ((hW'.block _ (by omega) hm1).trans (h26.block _ l1)) ((hW'.block _ (by omega) hrb).trans (h26.block _ l2));have hst := hM.step hx hQ;rw [hT] at hst;have e : (bad || (pr (u, v)).isSome || zce (u, v)) = (bad || is) := (by rw [<- his, pairH_some, Bool.or_assoc]);rw [e] at hst;have hl : n + (ss ++ [x]).length = n + ss.length + 1 := (by simp; omega);exact ⟨⟨_, ss ++ [x], _, _, _, hrg', hCame, hst, by rw [hl]; exact ⟨hpr, hmd, hsc⟩, by simp; omega, (hW.then_below h26).trans hW'⟩, hrg'.left_eq⟩
end
end
section
open Go.RowKit Go.Lib Go.Maps Go.Sort Go.Shelf
attribute [local go_sem] Oper.semAt_some
section
variable {w : World} {bp n0 : Nat} {a : BAddr} {cls : Int -> Int} {prt : Int -> Option (List UInt8 × List Int)} {pr : Int × Int -> Option Int} {md : Int -> Option (Int × Int)} {sc : Int -> Option Int}
theorem pairs1K_in (n : Nat) (hn : 7 <= n) (S : Nat -> Prop) (Kp : World -> World -> Prop) (l Bs : Nat) (J Jx : List (Int × (Int × Int)) -> World -> Prop) (W : World) (h : BaseM W bp a n0 cls prt pr md sc) (hn0 : n0 <= 1000000) (hBs : W.heap[Bs]? = some (.cells #[.pointer (some ⟨bp, 0, none⟩)] 26 (0, 0)))
  (hS : ∀ k, S k -> k < W.heap.size /\ k ≠ bp /\ k ≠ a.m3 /\ k ≠ Bs) (hKr : ∀ V, Kp V V) (hKt : ∀ A B C, Kp A B -> Kp B C -> Kp A C) (hKk : ∀ V V', Below W.heap.size W V -> Kp V V' -> KpS S V V') (hJ : AbidesFrom W.heap.size J)
  (hY : ∀ pre x W1, J pre W1 -> pre.length < n0 -> YieldAt Fence.wide (n - 1) Tryz.prog l (prC x) W1 fun e W' => (e = .returned (.bool true) /\ J (pre ++ [x]) W' /\ Kp W1 W') \/ (e = .returned (.bool false) /\ Jx (pre ++ [x]) W')) (h0 : J [] W) :
  CallsIn Fence.wide n Tryz.prog 41 #[.func (.yield l) #[] #[], .pointer (some ⟨Bs, 0, none⟩)] W fun e W' => (∃ v, e = .returned v) /\
   ((∃ ys, (∃ ss, zar R32 md ss /\ ys = withM md (srt ss)) /\ J ys W') \/ (∃ pre, (∃ ss, zar R32 md ss /\ pre <+: withM md (srt ss)) /\ Jx pre W')) := by
 have hro : Fence.wide.round = none := rfl;have h1 : 1 <= n := (by omega);have c3 := za h.box 3 rfl;have cb := za hBs 0 rfl;have hm := h.md;have hbl := hm.lt;have KY := keysM_any (some a.m3) W;have ba : Below W.heap.size W (W.alloc (.cells #[.map (some a.m3)] 74)) := (Below.refl _ _).alloc (Nat.le_refl _) _;have hg := keysM_gives Fence.wide (n - 1 - 1 - 1 - 1) trivial rfl (by omega) W.heap.size a.m3 n0 md (W.alloc (.cells #[.map (some a.m3)] 74)) (by simp) (za (zp W _ _) 0 rfl) (hm.alloc _);have SO := zgp (n - 1) (by omega) 76 #[.pointer (some ⟨W.heap.size, 0, none⟩)] (enters_of Tryz.func76 (by kernel_rfl) rfl) _ n0 (by unfold maxLen; omega) (by omega) _ hg;have HB := hz0q h;have HY := hz0q hY;have HS := hz0q hS;have HKK := hz0q hKk;have HKT := hz0q hKt;clear hg hY hS hKk hKt;refine callsIn_of_wp Tryz.func41 rfl trivial ?_ hro;simp only [Tryz.ntmps41, List.size_toArray, List.length_cons, List.length_nil, Nat.reduceAdd, Nat.reduceSub, Array.replicate_succ, Array.replicate_zero, List.push_toArray, List.append_toArray, List.nil_append, List.cons_append]
 gi_wp2
 refine ⟨trivial, (callsIn_wide.2 KY).mono ?_⟩;rintro e w' ⟨rfl, rfl⟩
 gi_wp2
 refine ⟨trivial, SO.mono ?_⟩;rintro e w2 ⟨A, c, ss, rfl, hSS, hown, hA, hle, hb2⟩;have hb02 : Below W.heap.size W w2 := zb ba hb2;have hJ2 : J [] w2 := hJ _ _ _ none h0 (grown_of_below hb02) (fun r e => by cases e);obtain ⟨ks, hks⟩ : ∃ ks, ks = srt ss := ⟨_, rfl⟩;have hkl : ks.length = ss.length := (by rw [hks]; exact (zat ss).length_eq);have hkn : ks.length <= n0 := (by rw [hkl]; exact hle);have hkR : ∀ x ∈ ks, R32 x := fun x hx => by rw [hks, (zat ss).mem_iff] at hx; exact ((hSS.2 x).1 hx).1
 obtain ⟨A2, c2, hv2, _, _, hrd⟩ := Rd.of_own hown;injection hv2 with hA2 hn2 hc2;rw [<- hA2, <- hks, <- hkl] at hrd
 have HBk : Hid (∀ a', A = some a' -> W.heap.size <= a'.block /\ ∃ o : Obj, w2.heap[a'.block]? = some o /\ o.isCells = true) := fun a' ha => by
  rcases hown.2 with ⟨hv, _⟩ | ⟨g, cap, cur, hv, hbase, hgb, _⟩
  ·injection hv with e; rw [ha] at e; cases e
  ·injection hv with e _ _;rw [ha] at e;injection e with e;subst e;simp only [World.size_alloc] at hbase;exact ⟨by show W.heap.size <= g; omega, _, hgb, rfl⟩
 clear hn2 hc2 hA2;have HB02 := hz0q hb02;have hbB := zd hBs hb02;have hbX := zd h.box hb02;have hmB := hm.below hb02 hbl;have HSS := hz0q hSS;have HKS := hz0q hks;clear hown hb2 hSS hks SO KY ba cb c3 h hm hBs h0 hJ hbl hle hA
 gi_wp2
 gi_loopw [14] (fun i wr => ∃ k : Nat, k <= ks.length /\ i = .int .i64 k /\ J (withM md (ks.take k)) wr /\ Kp w2 wr) (fun i _ => ks.length - (intOf i).toNat)
 case atStart => exact ⟨0, Nat.zero_le _, rfl, hJ2, hKr _⟩
 case round =>
  obtain ⟨k, hk, rfl, hJs, hKq⟩ := hrel;have hKp := HKK.out _ _ HB02.out hKq
  by_cases hlt : k < ks.length
  ·obtain ⟨x, hx⟩ : ∃ x, ks[k]? = some x := ⟨_, List.getElem?_eq_getElem hlt⟩;have hxR := hkR x (List.mem_of_getElem? hx);obtain ⟨b, off, rfl, hbl, hcx⟩ := hrd.at_ (by omega);obtain ⟨hge, o, ho, hoc⟩ := HBk.out _ rfl;have hnS : ¬ S b := fun hs => by have := (HS.out b hs).1; simp only [] at hge; omega
   have c0 : wr.cell? ⟨b, off + k, none⟩ = some (.int .i32 x) := (World.cell?_of_block ((hKp.2 b o ho (.inl hoc) hnS).trans ho.symm)).trans (hcx k _ (by simp [Rs, hx]));have cb := za (hKp.cells hbB (fun hs => (HS.out _ hs).2.2.2 rfl)) 0 rfl;have c3 := za (hKp.cells hbX (fun hs => (HS.out _ hs).2.1 rfl)) 3 rfl;have hmW := hKp.mapF hmB (fun hs => (HS.out _ hs).2.2.1 rfl);have hi : (k : Int) < (ks.length : Int) := by omega
   have HTK : Hid (withM md (ks.take (k + 1)) = withM md (ks.take k) ++ [(x, (md x).getD (0, 0))]) := by
    show _ = _;rw [List.take_add_one, hx];unfold withM;simp
   have hll : (withM md (ks.take k)).length < n0 := (by unfold withM; rw [List.length_map, List.length_take]; omega);obtain ⟨fn, tmps, assign, body, hy, hR⟩ := HY.out _ (x, (md x).getD (0, 0)) wr hJs hll;obtain ⟨two, htwo⟩ : ∃ two, two = (md x).getD (0, 0) := ⟨_, rfl⟩;have HTW := hz0q htwo;rw [<- htwo] at hy hR HTK;dsimp only [prC, runeV, pairV] at hy;clear hx hcx hll htwo hbl ho hoc hge hnS hJs
   gi_wp2_with (first | (refine wpListIn_lookF rfl _ _ rfl zg madeT (zh4 _) hmW (k := x) hxR rfl rfl ?_; rw [<- HTW.out]) | gi_in)
   try rw [hy]
   gi_wp2
   refine hR.mono ?_;rintro e W3 (⟨rfl, hJ3, hk3⟩ | ⟨rfl, hJx3⟩)
   ·rw [<- HTK.out] at hJ3;have hn3 := HKT.out _ _ _ hKq hk3;clear hk3 hKp hKq hR hy
    gi_wp2
    go_roundw
    case rel => exact ⟨k + 1, by omega, by go_num, hJ3, hn3⟩
    case measure => simp [intOf]; omega
   ·rw [<- HTK.out] at hJx3;clear hKp hKq hR hy
    gi_wp2
    refine bodyPost_ret (results_none rfl _ _ _) rfl ?_;exact ⟨⟨_, rfl⟩, .inr ⟨_, ⟨ss, HSS.out, by rw [<- HKS.out, <- withM_take]; exact List.take_prefix _ _⟩, hJx3⟩⟩
  ·obtain rfl : k = ks.length := (by omega);have hki : (ks.length : Int) <= (ks.length : Int) := Int.le_refl _;rw [List.take_length] at hJs
   gi_wp2
   go_end0;exact ⟨⟨_, rfl⟩, .inl ⟨_, ⟨ss, HSS.out, by rw [HKS.out]⟩, hJs⟩⟩
theorem zd8 (n : Nat) (hn : 7 <= n) (S : Nat -> Prop) (Kp : World -> World -> Prop) (hKr : ∀ V, Kp V V) (hKt : ∀ A B C, Kp A B -> Kp B C -> Kp A C) (Bs : Nat) (h : BaseM w bp a n0 cls prt pr md sc) (hn0 : n0 <= 1000000) (hBs : w.heap[Bs]? = some (.cells #[.pointer (some ⟨bp, 0, none⟩)] 26 (0, 0)))
  (hKk : ∀ V V', Below w.heap.size w V -> Kp V V' -> KpS S V V') (hS : ∀ k, S k -> k < w.heap.size /\ k ≠ bp /\ k ≠ a.m3 /\ k ≠ Bs) :
  SeqStopsK Fence.wide n Tryz.prog 41 #[.pointer (some ⟨Bs, 0, none⟩)] prC Kp (fun ys => ∃ ss, zar R32 md ss /\ ys = withM md (srt ss)) (fun pre => ∃ ss, zar R32 md ss /\ pre <+: withM md (srt ss)) n0 w := fun l J Jx W hW hJ hJx hY h0 =>
 (pairs1K_in n hn S Kp l Bs J Jx W (h.below hW) hn0 (zd hBs hW) (fun k hk => by have := hS k hk; have := hW.size; exact ⟨by omega, by omega, by omega, by omega⟩) hKr hKt (fun V V' hb => hKk V V' (zb hW hb)) hJ hY h0).mono fun e W' ⟨he, hj⟩ => ⟨he, hj⟩
def rowAt (W : World) (bx : Nat) : Option Nat := (W.cell? ⟨bx, 0, none⟩).bind Value.ownBlock
def KpR (S : Nat -> Prop) (bx : Nat) (W W' : World) : Prop := W.heap.size <= W'.heap.size /\
 (∀ k o, W.heap[k]? = some o -> (o.isCells = true \/ o.isWalk = true) -> ¬ S k -> rowAt W bx ≠ some k -> W'.heap[k]? = some o) /\ ∀ g, rowAt W' bx = some g -> rowAt W bx = some g \/ W.heap.size <= g
theorem KpR.refl (S : Nat -> Prop) (bx : Nat) (W : World) : KpR S bx W W := ⟨Nat.le_refl _, fun _ _ h _ _ _ => h, fun _ h => .inl h⟩
theorem KpR.trans {S : Nat -> Prop} {bx : Nat} {A B C : World} (h : KpR S bx A B) (k : KpR S bx B C) : KpR S bx A C := by
 refine ⟨Nat.le_trans h.1 k.1, fun i o hi ho hn hr => k.2.1 i o (h.2.1 i o hi ho hn hr) ho hn ?_, fun g hg => ?_⟩
 ·intro e;rcases h.2.2 i e with e | e
  ·exact hr e
  ·have := (Array.getElem?_eq_some_iff.1 hi).1; omega
 ·rcases k.2.2 g hg with e | e
  ·exact h.2.2 g e
  ·exact .inr (Nat.le_trans h.1 e)
theorem KpR.put {S : Nat -> Prop} {bx B : Nat} (hB : bx < B) (W : World) (l : Nat) (o o' : Obj) (hb : B <= l) (hl : W.heap[l]? = some o) (h1 : o.isCells = false) (h2 : o.isWalk = false) : KpR S bx W (W.putObj l o') := by
 have hr : rowAt (W.putObj l o') bx = rowAt W bx := by
  unfold rowAt;have e : (W.putObj l o').heap[bx]? = W.heap[bx]? := World.putObj_heap_other (by omega);rw [World.cell?_of_block (a := ⟨bx, 0, none⟩) e]
 refine ⟨by simp [World.putObj], fun k u hk hu _ _ => ?_, fun g hg => .inl (by rw [<- hr]; exact hg)⟩;refine (World.putObj_heap_other ?_).trans hk;rintro rfl;rw [hl] at hk;injection hk with hk;subst hk;rcases hu with h | h
 ·rw [h1] at h; cases h
 ·rw [h2] at h; cases h
theorem KpR.kpS {S : Nat -> Prop} {bx : Nat} {W W' : World} (h : KpR S bx W W') (h0 : rowAt W bx = none) : KpS S W W' := ⟨h.1, fun k o hk ho hn => h.2.1 k o hk ho hn (by rw [h0]; simp)⟩
theorem KpR.app {S : Nat -> Prop} {bx : Nat} {W w1 : World} {v v' : Value} {tmp : Obj} {t : TypeId} (hS : S bx) (hv : Boxed W bx t v) (hg : (W.alloc tmp).grownBy w1 v.ownBlock) (hv' : Boxed (w1.setCell ⟨bx, 0, none⟩ v') bx t v') (hat : v'.ownBlock = v.ownBlock \/ v'.ownBlock = some (W.heap.size + 1)) : KpR S bx W (w1.setCell ⟨bx, 0, none⟩ v') := by
 have h1 : rowAt W bx = v.ownBlock := (by unfold rowAt; rw [hv.cell]; rfl);have h2 : rowAt (w1.setCell ⟨bx, 0, none⟩ v') bx = v'.ownBlock := (by unfold rowAt; rw [hv'.cell]; rfl);have hsz : W.heap.size <= w1.heap.size := (by have := hg.size; simp at this; omega);refine ⟨by simpa [World.setCell] using hsz, fun k o hk ho hn hr => ?_, fun g hg' => ?_⟩
 ·have hkl := (Array.getElem?_eq_some_iff.1 hk).1;have hkb : k ≠ bx := fun e => hn (by rw [e]; exact hS);rw [Below.heap_setCell w1 ⟨bx, 0, none⟩ v' k hkb, hg.block k (by simp; omega) (fun e => hr (by rw [h1, <- e]))];exact (Below.heap_alloc _ _ k hkl).trans hk
 ·rw [h2] at hg';rw [h1];rcases hat with e | e
  ·exact .inl (by rw [<- e]; exact hg')
  ·rw [e] at hg';injection hg' with hg';exact .inr (by omega)
end
end
end Go.Proofs.YtfdelmodmadoaaaGreatDoor
