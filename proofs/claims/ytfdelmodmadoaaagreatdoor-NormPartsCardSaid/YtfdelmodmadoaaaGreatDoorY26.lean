/- Which characters are made of two, and that what is noted of them is in order. Plain. slices.BinarySearch at characters: whether one is on a rising list. What makes leaves standing, and what it fills: plain words on worlds. Where no character leads back to itself, all comes to an end. Plain. -/
import Derived.Test.YtfdelmodmadoaaaGreatDoorY25
set_option linter.unusedSimpArgs false
set_option linter.unusedVariables false
set_option maxRecDepth 20000
set_option maxHeartbeats 4000000
namespace Go.Proofs.YtfdelmodmadoaaaGreatDoor
section
def madeQ (cls : Int -> Int) (prt : Int -> Option (List UInt8 × List Int)) (out : List Int) (r : Int) : Bool :=
 match prt r with
 | some ([], [x, _]) => !decide (r ∈ out) && !decide (0 < cls r) && !decide (0 < cls x)
 | _ => false
def zap (prt : Int -> Option (List UInt8 × List Int)) (r : Int) : Int × Int :=
 match prt r with
 | some (_, [x, y]) => (x, y)
 | _ => (0, 0)
def zdr (p : Int × Int) : Bool := (joinH p.1 p.2).2
theorem zcv {cls : Int -> Int} {prt : Int -> Option (List UInt8 × List Int)} {out : List Int} {r : Int} (h : madeQ cls prt out r = true) :
  prt r = some ([], [(zap prt r).1, (zap prt r).2]) /\ r ∉ out /\ ¬ 0 < cls r /\ ¬ 0 < cls (zap prt r).1 := by
 unfold madeQ at h;unfold zap;split at h
 ·rename_i x y hp;rw [hp];simp only [Bool.and_eq_true, Bool.not_eq_true', decide_eq_false_iff_not] at h;exact ⟨rfl, h.1.1, h.1.2, h.2⟩
 ·cases h
end
section
open Go.RowKit Go.Lib Go.Maps
theorem cmpNaN_any (x : Int) (w : World) : Calls Tryz.prog 148 #[.int .i32 x] w fun e w' => e = .returned (.bool false) /\ w' = w := by
 go_enter Tryz.func148, Tryz.ntmps148;go_wp2;go_returns;exact ⟨rfl, rfl⟩
theorem zjq (x : Int) (w : World) : Calls Tryz.prog 111 #[.int .i32 x] w fun e w' => e = .returned (.bool false) /\ w' = w := by
 go_enter Tryz.func111, Tryz.ntmps111;go_wp2;go_returns;exact ⟨rfl, rfl⟩
theorem zhs (x y : Int) (w : World) : Calls Tryz.prog 110 #[.int .i32 x, .int .i32 y] w fun e w' => e = .returned (.bool (decide (x < y))) /\ w' = w := by
 go_enter Tryz.func110, Tryz.ntmps110;go_wp2_with (first | (go_at_call 148; refine (cmpNaN_any _ _).mono ?_; rintro e w' ⟨rfl, rfl⟩) | go_in)
 go_returns;exact ⟨rfl, rfl⟩
def Rises (ks : List Int) : Prop := ks.Pairwise (· < ·)
theorem Rises.lt {ks : List Int} (h : Rises ks) {i j : Nat} {x y : Int} (hx : ks[i]? = some x) (hy : ks[j]? = some y) (hij : i < j) : x < y := by
 obtain ⟨h1, rfl⟩ := List.getElem?_eq_some_iff.1 hx;obtain ⟨h2, rfl⟩ := List.getElem?_eq_some_iff.1 hy;exact List.pairwise_iff_getElem.1 h i j h1 h2 hij
theorem half_mid {lo hi : Nat} (h1 : lo < hi) (h2 : hi <= 1000000) : lo <= (lo + hi) / 2 /\ (lo + hi) / 2 < hi := by omega
theorem bsearch_any (A : Option Addr) (n c : Nat) (ks : List Int) (t : Int) (w : World) (hr : Rd w A n (Rs ks)) (hn : n <= 1000000) (hS : Rises ks) :
  Calls Tryz.prog 70 #[.slice A n c, .int .i32 t] w fun e w' => (∃ i : Int, e = .returned (.tuple #[.int .i64 i, .bool (decide (t ∈ ks))])) /\ w' = w := by
 have hll : ks.length = n := (by have := hr.1; simpa [Rs] using this);have HLL := hz0q hll;have HS := hz0q hS;clear hll hS;go_enter Tryz.func70, Tryz.ntmps70;go_wp2
 go_loopw [7, 8] (fun a b wr => ∃ lo hi : Nat, lo <= hi /\ hi <= n /\ a = .int .i64 lo /\ b = .int .i64 hi /\ Hid (∀ j x, j < lo -> ks[j]? = some x -> x < t) /\ Hid (∀ j x, hi <= j -> ks[j]? = some x -> t <= x) /\ wr = w) (fun a b _ => (intOf b - intOf a).toNat)
 case atStart => exact ⟨0, n, Nat.zero_le _, Nat.le_refl _, rfl, rfl, hz0q (fun j x h => absurd h (Nat.not_lt_zero _)), hz0q (fun j x h hx => by have := (List.getElem?_eq_some_iff.1 hx).1; have := HLL.out; omega), by trivial⟩
 case round =>
  obtain ⟨lo, hi, h1, h2, rfl, rfl, H1, H2, rfl⟩ := hrel
  by_cases hlt : lo < hi
  ·have hlt' : (lo : Int) < (hi : Int) := (by omega);obtain ⟨m1, m2⟩ := half_mid hlt (by omega);obtain ⟨m, hm⟩ : ∃ m, m = (lo + hi) / 2 := ⟨_, rfl⟩;rw [<- hm] at m1 m2;have hmq : ((lo : Int) + (hi : Int)) / 2 = (m : Int) := (by omega);have hmn : (m : Int) < (n : Int) := (by omega);obtain ⟨x, hx⟩ : ∃ x, ks[m]? = some x := ⟨_, List.getElem?_eq_getElem (by rw [HLL.out]; omega)⟩;obtain ⟨b, off, rfl, hbl, hcx⟩ := hr.at_ (by omega);have c0 : wr.cell? ⟨b, off + m, none⟩ = some (.int .i32 x) := hcx m _ (by simp [Rs, hx]);have HX := hz0q hx;clear hx hcx hbl hm
   by_cases hxt : x < t
   ·have HC := zhs x t wr;rw [decide_eq_true hxt] at HC;have hmw : wrap64 ((m : Int) + 1) = (m : Int) + 1 := (by unfold wrap64; omega);go_wp2_with (first | (go_at_call 110; refine HC.mono ?_; rintro e w' ⟨rfl, rfl⟩) | go_in)
    go_roundw
    case rel => exact ⟨m + 1, hi, by omega, h2, by go_num, rfl, hz0q (fun j y hj hy => by
     by_cases e : j = m
     ·subst e; have := HX.out; rw [hy] at this; injection this with e2; rw [e2]; exact hxt
     ·have := HS.out.lt hy HX.out (by omega); omega), H2, by trivial⟩
    case measure => simp [intOf]; omega
   ·have HC := zhs x t wr;rw [decide_eq_false hxt] at HC;go_wp2_with (first | (go_at_call 110; refine HC.mono ?_; rintro e w' ⟨rfl, rfl⟩) | go_in)
    go_roundw
    case rel => exact ⟨lo, m, by omega, by omega, rfl, by go_num, H1, hz0q (fun j y hj hy => by
     by_cases e : j = m
     ·subst e; have := HX.out; rw [hy] at this; injection this with e2; rw [e2]; omega
     ·have := HS.out.lt HX.out hy (by omega); omega), by trivial⟩
    case measure => simp [intOf]; omega
  ·obtain rfl : lo = hi := (by omega);have hnl : ¬ ((lo : Int) < (lo : Int)) := by omega
   by_cases hend : lo < n
   ·obtain ⟨x, hx⟩ : ∃ x, ks[lo]? = some x := ⟨_, List.getElem?_eq_getElem (by rw [HLL.out]; omega)⟩;obtain ⟨b, off, rfl, hbl, hcx⟩ := hr.at_ (by omega);have c0 : wr.cell? ⟨b, off + lo, none⟩ = some (.int .i32 x) := hcx lo _ (by simp [Rs, hx]);have HX := hz0q hx;have hln : (lo : Int) < (n : Int) := (by omega);have hge := H2.out lo x (Nat.le_refl _) hx;have N1 := zjq x wr;have N2 := zjq t wr;clear hx hcx hbl
    by_cases hxt : x = t
    ·subst hxt;have HM : Hid (decide (x ∈ ks) = true) := decide_eq_true (List.mem_of_getElem? HX.out);clear hge;go_wp2_with (first | (go_at_call 111; refine N1.mono ?_; rintro e w' ⟨rfl, rfl⟩) | go_in)
     go_returns;rw [HM.out];exact ⟨⟨_, by first | rfl | simp⟩, rfl⟩
    ·have HM : Hid (decide (t ∈ ks) = false) := decide_eq_false fun hm => by
      obtain ⟨j, hj⟩ := List.mem_iff_getElem?.1 hm;rcases Nat.lt_trichotomy j lo with h | h | h
      ·have := H1.out j t h hj; omega
      ·subst h; have := HX.out; rw [hj] at this; injection this with e; exact hxt e.symm
      ·have := HS.out.lt HX.out hj h; omega
     have hbq : (x == t) = false := (by simpa using hxt);clear hge;go_wp2_with (first | (go_at_call 111; first | (refine N1.mono ?_; rintro e w' ⟨rfl, rfl⟩) | (refine N2.mono ?_; rintro e w' ⟨rfl, rfl⟩)) | go_in)
     go_returns;rw [HM.out];exact ⟨⟨_, by first | rfl | simp⟩, rfl⟩
   ·obtain rfl : lo = n := by omega
    have HM : Hid (decide (t ∈ ks) = false) := decide_eq_false fun hm => by
     obtain ⟨j, hj⟩ := List.mem_iff_getElem?.1 hm;have h1 := (List.getElem?_eq_some_iff.1 hj).1;have := H1.out j t (by rw [HLL.out] at h1; exact h1) hj;omega
    go_wp2;go_returns;rw [HM.out];exact ⟨⟨_, by first | rfl | simp⟩, rfl⟩
end
section
open Go.RowKit Go.Lib Go.Maps
structure BAddr.Apart (a : BAddr) : Prop where
 b1 : a.mb ≠ a.m1
 b2 : a.mb ≠ a.m2
 b3 : a.mb ≠ a.m3
 b4 : a.mb ≠ a.m4
 p2 : a.m1 ≠ a.m2
 p3 : a.m1 ≠ a.m3
 p4 : a.m1 ≠ a.m4
 t23 : a.m2 ≠ a.m3
 t24 : a.m2 ≠ a.m4
 t34 : a.m3 ≠ a.m4
abbrev M234 (a : BAddr) (k : Nat) : Prop := k = a.m2 \/ k = a.m3 \/ k = a.m4
structure MkV (W : World) (a : BAddr) (n : Nat) (pr : Int × Int -> Option Int) (md : Int -> Option (Int × Int)) (sc : Int -> Option Int) : Prop where
 pr : MapF W Tryz.prog 92 zdm R32P runeV a.m2 n pr
 md : MapF W Tryz.prog 21 z7 R32 pairV a.m3 n md
 sc : MapF W Tryz.prog 21 z7 R32 intV a.m4 n sc
structure MkC (W : World) (bp : Nat) (a : BAddr) (n : Nat) (cls : Int -> Int) (f : Int -> Option PV) (prt : Int -> Option (List UInt8 × List Int)) : Prop where
 box : W.heap[bp]? = some (.cells #[.pointer (some ⟨a.tb, 0, none⟩), .map (some a.m1), .map (some a.m2), .map (some a.m3), .map (some a.m4)] 77 (0, 0))
 tab : TabAt W a.tb a.mb a.tn cls
 map : MapF W Tryz.prog 21 z7 R32 partV a.m1 n f
 parts : ∀ r, R32 r -> zee W (f r) (prt r)
section
variable {w W W' : World} {bp n : Nat} {a : BAddr} {cls : Int -> Int} {prt : Int -> Option (List UInt8 × List Int)} {pr : Int × Int -> Option Int} {md : Int -> Option (Int × Int)} {sc : Int -> Option Int} {f : Int -> Option PV}
theorem zdc {p : Addr} {v : Value} (h : w.cell? p = some v) : ∃ cs t fr, w.heap[p.block]? = some (.cells cs t fr) := by
 unfold World.cell? at h
 cases hb : w.heap[p.block]? with
 | none => rw [hb] at h; simp at h
 | some o =>
  rw [hb] at h
  cases o with
  | cells cs t fr => exact ⟨cs, t, fr, rfl⟩
  | _ => simp at h
theorem zee.wrote {S : Nat -> Prop} {p : Option PV} {q : Option (List UInt8 × List Int)} (h : zee w p q) (hW : Wrote S w W) (hS : ∀ k, S k -> ∀ cs t fr, w.heap[k]? ≠ some (.cells cs t fr)) : zee W p q := by
 cases p <;> cases q <;> first | exact h | (refine ⟨h.1, h.2.1, h.2.2.1, h.2.2.2.1.wrote hW fun h0 ad had hSk => ?_, h.2.2.2.2⟩)
 obtain ⟨b, off, e, _, hc⟩ := h.2.2.2.1.at_ h0;rw [had] at e;injection e with e;subst e;obtain ⟨cs, t, fr, hb⟩ := zdc (hc 0 _ (List.getElem?_eq_getElem (by have := h.2.2.2.1.1; omega)));exact hS _ hSk _ _ _ hb
theorem BaseM.cOf (h : BaseM w bp a n cls prt pr md sc) : ∃ f, MkC w bp a n cls f prt := by
 obtain ⟨h1, h2, ⟨f, h3, h4⟩, _⟩ := h;exact ⟨f, h1, h2, h3, h4⟩
theorem MkV.notCells (v : MkV w a n pr md sc) : ∀ k, M234 a k -> ∀ cs t fr, w.heap[k]? ≠ some (.cells cs t fr) := fun k hk cs t fr e => by
 rcases hk with rfl | rfl | rfl
 ·exact v.pr.ne_cells e rfl
 ·exact v.md.ne_cells e rfl
 ·exact v.sc.ne_cells e rfl
theorem MkC.wrote (h : MkC w bp a n cls f prt) (ap : a.Apart) (hn : ∀ k, M234 a k -> ∀ cs t fr, w.heap[k]? ≠ some (.cells cs t fr)) (hW : Wrote (M234 a) w W) : MkC W bp a n cls f prt := by
 obtain ⟨h1, ⟨i1, g, i2, i3⟩, h3, h4⟩ := h;refine ⟨hW.blk h1 (fun e => hn _ e _ _ _ h1), ⟨hW.blk i1 (fun e => hn _ e _ _ _ i1), g, i2.at (hW.block _ i2.lt ?_), i3⟩, h3.at (hW.block _ h3.lt ?_), fun r hr => (h4 r hr).wrote hW hn⟩
 ·rintro (e | e | e)
  ·exact ap.b2 e
  ·exact ap.b3 e
  ·exact ap.b4 e
 ·rintro (e | e | e)
  ·exact ap.p2 e
  ·exact ap.p3 e
  ·exact ap.p4 e
theorem MkC.toM {k : Nat} (h : MkC w bp a n cls f prt) (v : MkV w a k pr md sc) (hk : n <= k) : BaseM w bp a k cls prt pr md sc :=
 ⟨h.box, h.tab, ⟨f, h.map.mono hk, h.parts⟩, v.pr, v.md, v.sc⟩
theorem BaseM.vOf (h : BaseM w bp a n cls prt pr md sc) : MkV w a n pr md sc := ⟨h.pr, h.md, h.sc⟩
theorem MkV.mono {k : Nat} (v : MkV w a n pr md sc) (h : n <= k) : MkV w a k pr md sc := ⟨v.pr.mono h, v.md.mono h, v.sc.mono h⟩
theorem MkV.below (v : MkV w a n pr md sc) (hb : Below w.heap.size w W) : MkV W a n pr md sc := ⟨v.pr.below hb v.pr.lt, v.md.below hb v.md.lt, v.sc.below hb v.sc.lt⟩
theorem MkV.kept {r : Nat} (v : MkV w a n pr md sc) (hg : w.grownBy W (some r)) (h2 : a.m2 ≠ r) (h3 : a.m3 ≠ r) (h4 : a.m4 ≠ r) : MkV W a n pr md sc :=
 ⟨v.pr.kept hg (by simpa using h2), v.md.kept hg (by simpa using h3), v.sc.kept hg (by simpa using h4)⟩
theorem Wrote.grown_new {S : Nat -> Prop} {r : Nat} (h : Wrote S w W) (hg : W.grownBy W' (some r)) (hr : w.heap.size <= r) : Wrote S w W' := by
 have h2 : Wrote (fun k => k = r) W W' := Wrote.grown hg fun k e => by injection e with e; exact e.symm
 exact ⟨h2.os.trans h.os, h2.tape.trans h.tape, h2.output.trans h.output, Nat.le_trans h.size h2.size, fun k hk hs => (h2.block k (Nat.lt_of_lt_of_le hk h.size) (by omega)).trans (h.block k hk hs)⟩
end
theorem zkb {cls : Int -> Int} {prt : Int -> Option (List UInt8 × List Int)} {out : List Int} {x u v : Int} (h : prt x = some ([], [u, v])) : madeQ cls prt out x = (!decide (x ∈ out) && !decide (0 < cls x) && !decide (0 < cls u)) := by unfold madeQ; rw [h]
theorem madeT_two {prt : Int -> Option (List UInt8 × List Int)} {x u v : Int} {k : List UInt8} (h : prt x = some (k, [u, v])) : zap prt x = (u, v) := by unfold zap; rw [h]
def MkR (a : BAddr) (cls : Int -> Int) (prt : Int -> Option (List UInt8 × List Int)) (f : Int -> Option PV) (out : List Int) (n rb : Nat) (W0 wr : World) (bad : Bool) (cnt : Nat) : Prop :=
 ∃ left ss pr md sc, MapR wr Tryz.prog 21 z7 R32 partV a.m1 rb n f left cnt /\ Came R32 f left ss /\ MkI (madeQ cls prt out) (zap prt) zdr ss bad pr md sc /\ MkV wr a (n + ss.length) pr md sc /\ ss.length + cnt <= n /\ Wrote (M234 a) W0 wr
def zoj (bp n : Nat) (a : BAddr) (cls : Int -> Int) (prt : Int -> Option (List UInt8 × List Int)) (out : List Int) (w : World) (e : Ending) (w' : World) : Prop :=
 ∃ bad ss pr md sc, e = .returned (.int .i64 (if bad = true then 12 else 0)) /\ zep R32 prt ss /\ MkI (madeQ cls prt out) (zap prt) zdr ss bad pr md sc /\ BaseM w' bp a (n + ss.length) cls prt pr md sc /\ ss.length <= n /\ Wrote (M234 a) w w'
section
variable {w W : World} {bp n rb : Nat} {a : BAddr} {cls : Int -> Int} {prt : Int -> Option (List UInt8 × List Int)} {f : Int -> Option PV} {out : List Int}
theorem zij {p : Option PV} {q : Option (List UInt8 × List Int)} (h : zee w p q) : p.isSome = q.isSome := by
 cases p <;> cases q <;> first | rfl | exact h.elim
theorem MkR.done {bad : Bool} (hC : MkC w bp a n cls f prt) (ap : a.Apart) (hn : ∀ k, M234 a k -> ∀ cs t fr, w.heap[k]? ≠ some (.cells cs t fr))
  {left : Int -> Bool} {ss : List Int} {pr : Int × Int -> Option Int} {md : Int -> Option (Int × Int)} {sc : Int -> Option Int}
  (hl0 : ∀ x, R32 x -> left x = false) (hCm : Came R32 f left ss) (hI : MkI (madeQ cls prt out) (zap prt) zdr ss bad pr md sc) (hV : MkV W a (n + ss.length) pr md sc) (hle : ss.length <= n) (hW : Wrote (M234 a) w W) :
  zoj bp n a cls prt out w (.returned (.int .i64 (if bad = true then 12 else 0))) W := by
 have hA := hCm.all hl0;refine ⟨bad, ss, pr, md, sc, rfl, ⟨hA.1, fun x => ?_⟩, hI, (hC.wrote ap hn hW).toM hV (by omega), hle, hW⟩;rw [hA.2 x];constructor
 ·rintro ⟨h1, h2⟩; exact ⟨h1, by rw [<- zij (hC.parts x h1)]; exact h2⟩
 ·rintro ⟨h1, h2⟩; exact ⟨h1, by rw [zij (hC.parts x h1)]; exact h2⟩
theorem step_lookF {α β : Type} {P : Program} {K : TypeId} {mk : α -> Value} {lit : α -> Lit} {ok : α -> Prop} {mkV : β -> Value} {w : World} {b m0 : Nat} {g : α -> Option β} {ops : Array Oper} {o : Oper} {ac : Act} {Q : Exit -> Act -> World -> Prop}
  {K' : Act -> World -> Prop} {R : Prop} {t e : TypeId} {zv z : β} (hg : o.guard = none) (m x : Operand) (hop : o.op = Op.lookup t m x false) (B : KeyB P K mk lit ok) (ht : P.underlying t = some (.map K e)) (hz : (zeroValue e).run P w = .ok (mkV zv) w)
  (h : MapF w P K lit ok mkV b m0 g) {k : α} (hk : ok k) (hm : ac.eval m = .map (some b)) (hx : ac.eval x = mk k) (hzz : z = (g k).getD zv)
  (hK : K' (ac.put o.dst (mkV z)) w) : if Region.wanted o (yielded ops ac.tmps) = true then Oper.wp P o ac w K' Q else R := by
 rw [if_pos (by simp [Region.wanted, hg])];have hrun := h.look B ht hz hk false;unfold Oper.wp;simp [execOp, hop, hm, hx, hrun, Result.andThen];rw [<- hzz];exact hK
def Two (bp q2 : Nat) (a : BAddr) (u v : Int) (W : World) : Prop :=
 W.heap[bp]? = some (.cells #[.pointer (some ⟨a.tb, 0, none⟩), .map (some a.m1), .map (some a.m2), .map (some a.m3), .map (some a.m4)] 77 (0, 0)) /\ W.heap[q2]? = some (.cells #[.int .i32 u, .int .i32 v] 92 (0, 0))
theorem Two.below {q2 : Nat} {u v : Int} {W' : World} (h : Two bp q2 a u v W) (hb : Below W.heap.size W W') : Two bp q2 a u v W' := ⟨zd h.1 hb, zd h.2 hb⟩
theorem Two.grown {q2 r : Nat} {u v : Int} {W' : World} (h : Two bp q2 a u v W) (hg : W.grownBy W' (some r)) (h1 : bp ≠ r) (h2 : q2 ≠ r) : Two bp q2 a u v W' :=
 ⟨(hg.block _ (zbj h.1) (fun e => h1 (by injection e with e))).trans h.1, (hg.block _ (zbj h.2) (fun e => h2 (by injection e with e))).trans h.2⟩
theorem pairH_some {pr : Int × Int -> Option Int} {u v : Int} : (pairH pr u v).isSome = ((pr (u, v)).isSome || zdr (u, v)) := by
 unfold pairH zdr
 cases pr (u, v) with
 | some x => rfl
 | none =>
  simp only []
  cases (joinH u v).2 <;> simp
theorem MkR.made {w2 W6 w11 : World} {left : Int -> Bool} {ss : List Int} {pr : Int × Int -> Option Int} {md : Int -> Option (Int × Int)} {sc : Int -> Option Int} {bad is : Bool} {cnt : Nat} {x u v : Int}
  (hrg : MapR w2 Tryz.prog 21 z7 R32 partV a.m1 rb n f left cnt) (hCame : Came R32 f left (ss ++ [x])) (hM : MkI (madeQ cls prt out) (zap prt) zdr ss bad pr md sc) (hx : x ∉ ss) (hQ : madeQ cls prt out x = true) (hT : zap prt x = (u, v))
  (hle : ss.length + 1 + cnt <= n) (hW : Wrote (M234 a) w w2) (h26 : Below w2.heap.size w2 W6) (hW' : Wrote (M234 a) W6 w11)
  (hpr : MapF w11 Tryz.prog 92 zdm R32P runeV a.m2 (n + ss.length + 1) (upd pr (u, v) (some x))) (hmd : MapF w11 Tryz.prog 21 z7 R32 pairV a.m3 (n + ss.length + 1) (upd md x (some (u, v)))) (hsc : MapF w11 Tryz.prog 21 z7 R32 intV a.m4 (n + ss.length + 1) (upd sc v (some (gd sc v + 1))))
  (hrb : ¬ M234 a rb) (hm1 : ¬ M234 a a.m1) (his : (pairH pr u v).isSome = is) : MkR a cls prt f out n rb w w11 (bad || is) cnt /\ w11.rangeLeft a.m1 rb = cnt := by
 have l1 := hrg.owns.lt;have l2 := hrg.lt;have hs := h26.size;have hrg' := hrg.at ((hW'.block _ (by omega) hm1).trans (h26.block _ l1)) ((hW'.block _ (by omega) hrb).trans (h26.block _ l2));have hst := hM.step hx hQ;rw [hT] at hst;have e : (bad || (pr (u, v)).isSome || zdr (u, v)) = (bad || is) := (by rw [<- his, pairH_some, Bool.or_assoc]);rw [e] at hst;have hl : n + (ss ++ [x]).length = n + ss.length + 1 := (by simp; omega);exact ⟨⟨_, ss ++ [x], _, _, _, hrg', hCame, hst, by rw [hl]; exact ⟨hpr, hmd, hsc⟩, by simp; omega, (hW.then_below h26).trans hW'⟩, hrg'.left_eq⟩
end
end
section
theorem zkr {α : Type} {p q : α -> Bool} (h : ∀ x, p x = true -> q x = true) (l : List α) : l.countP p <= l.countP q := List.countP_mono_left fun x _ => h x
theorem zkq {α : Type} {p q : α -> Bool} (h : ∀ x, p x = true -> q x = true) {r : α} (h1 : p r = false) (h2 : q r = true) : ∀ {l : List α}, r ∈ l -> l.countP p < l.countP q
 | a :: l, hr => by
  rw [List.countP_cons, List.countP_cons];have hle := zkr h l;rcases List.mem_cons.1 hr with rfl | hr
  ·rw [h1, h2]; simp; omega
  ·have := zkq h h1 h2 hr
   have h3 : (if p a = true then 1 else 0) <= (if q a = true then 1 else 0) := by
    by_cases hp : p a = true
    ·rw [if_pos hp, if_pos (h a hp)]; exact Nat.le_refl _
    ·rw [if_neg hp]; exact Nat.zero_le _
   omega
section
variable {prt : Int -> Option (List UInt8 × List Int)}
open Classical in
noncomputable def leads (prt : Int -> Option (List UInt8 × List Int)) (ks : List Int) (r : Int) : Nat := ks.countP fun k => decide (k = r \/ Down (fun x => (decH prt x).2) r k)
def lvlH (r : Int) : Nat := if 44032 <= r /\ r < 55204 then (if (r - 44032) % 28 = 0 then 1 else 2) else 0
theorem zho {D : Int -> List Int} {r y k : Int} (hy : y ∈ D r) (h : Down D y k) : Down D r k := by
 induction h with
 | one h => exact .more (.one hy) h
 | more _ hz ih => exact .more ih hz
open Classical in
theorem leads_le {ks : List Int} {r y : Int} (hy : y ∈ (decH prt r).2) : leads prt ks y <= leads prt ks r := by
 unfold leads;refine zkr (fun k hk => ?_) ks;rw [decide_eq_true_eq] at hk ⊢;rcases hk with rfl | hk
 ·exact .inr (.one hy)
 ·exact .inr (zho (D := fun x => (decH prt x).2) hy hk)
open Classical in
theorem ends_of_irr {ks : List Int} (hk : ∀ r, (prt r).isSome = true -> r ∈ ks) (hh : ∀ r, 44032 <= r /\ r < 55204 -> prt r = none) (hirr : ∀ r, (prt r).isSome = true -> ¬ Down (fun x => (decH prt x).2) r r) (r : Int) : Ends (fun x => (decH prt x).2) r := by
 have key : ∀ n r, 3 * leads prt ks r + lvlH r <= n -> Ends (fun x => (decH prt x).2) r := by
  intro n;induction n using Nat.strongRecOn with
  | _ n ih =>
   intro r hr;refine Ends.of fun y hy => ?_
   have hlt : 3 * leads prt ks y + lvlH y < 3 * leads prt ks r + lvlH r := by
    have hle := leads_le (ks := ks) hy
    by_cases hs : 44032 <= r /\ r < 55204
    ·rw [zd5 hs] at hy
     by_cases ht : (r - 44032) % 28 = 0
     ·obtain ⟨e1, e2⟩ := zet hs ht;rw [e1, e2] at hy;have l1 : lvlH r = 1 := by unfold lvlH; rw [if_pos hs, if_pos ht]
      have l0 : lvlH y = 0 := by
       unfold lvlH;simp only [List.mem_cons, List.not_mem_nil, or_false] at hy;rw [if_neg (by omega)]
      omega
     ·obtain ⟨e1, e2⟩ := zc5 hs ht;rw [e1, e2] at hy;have l1 : lvlH r = 2 := by unfold lvlH; rw [if_pos hs, if_neg ht]
      have l0 : lvlH y <= 1 := by
       unfold lvlH;simp only [List.mem_cons, List.not_mem_nil, or_false] at hy;split
       ·split
        ·exact Nat.le_refl _
        ·rename_i h1 h2;rcases hy with rfl | rfl
         ·exact absurd (by omega) h2
         ·omega
       ·exact Nat.zero_le _
      omega
    ·cases hp : prt r with
     | none =>
      rw [zfa hs, hp] at hy
      cases hy
     | some q =>
      have hsome : (prt r).isSome = true := (by rw [hp]; rfl);have hir := hirr r hsome
      have hl : leads prt ks y < leads prt ks r := by
       unfold leads;refine zkq (r := r) (fun k hk => ?_) ?_ ?_ (hk r hsome)
       ·rw [decide_eq_true_eq] at hk ⊢;rcases hk with rfl | hk
        ·exact .inr (.one hy)
        ·exact .inr (zho (D := fun x => (decH prt x).2) hy hk)
       ·rw [decide_eq_false_iff_not];rintro (e | e)
        ·exact hir (by rw [<- e] at hy; exact .one hy)
        ·exact hir (zho (D := fun x => (decH prt x).2) hy e)
       ·rw [decide_eq_true_eq]; exact .inl rfl
      have : lvlH y <= 2 := (by unfold lvlH; split <;> (try split) <;> omega);omega
   exact ih _ (by omega) y (Nat.le_refl _)
 exact key _ r (Nat.le_refl _)
end
end
end Go.Proofs.YtfdelmodmadoaaaGreatDoor
