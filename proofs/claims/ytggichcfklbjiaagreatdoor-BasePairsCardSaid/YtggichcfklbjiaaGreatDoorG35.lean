/- Pairs and Known: the iterators themselves; those of a nil base. What makes leaves standing, and what it fills: plain words on worlds. -/
import Derived.Test.YtggichcfklbjiaaGreatDoorG34
import Derived.Test.YtggichcfklbjiaaGreatDoorG33
section
set_option linter.unusedSimpArgs false
set_option linter.unusedVariables false
namespace Go.Proofs.YtggichcfklbjiaaGreatDoor
open Go.RowKit Go.Lib Go.Maps Go.Sort Go.Shelf
attribute [local go_sem] Oper.semAt_some

theorem pairs_any (p : Option Addr) (w : World) : Calls Tryz.prog 14 #[.pointer p] w fun e w' => e = .returned (.func (.func 34) #[] #[.pointer (some ⟨w.heap.size, 0, none⟩)]) ∧ w' = w.alloc (.cells #[.pointer p] 26) := by
  go_enter Tryz.func14, Tryz.ntmps14
  go_wp2
  go_returns
  exact ⟨rfl, rfl⟩
set_option maxRecDepth 100000 in
set_option maxHeartbeats 2000000 in
theorem pairs1_nil_in (n : Nat) (l Bs : Nat) (J : List (Int × (Int × Int)) → World → Prop) (W : World) (hBs : W.cell? ⟨Bs, 0, none⟩ = some (.pointer none)) (h0 : J [] W) :
    CallsIn Fence.wide n Tryz.prog 34 #[.func (.yield l) #[] #[], .pointer (some ⟨Bs, 0, none⟩)] W fun e W' => (∃ v, e = .returned v) ∧ J [] W' := by
  have hro : Fence.wide.round = none := rfl
  refine callsIn_of_wp Tryz.func34 rfl trivial ?_ hro
  simp only [Tryz.ntmps34, List.size_toArray, List.length_cons, List.length_nil, Nat.reduceAdd, Nat.reduceSub, Array.replicate_succ, Array.replicate_zero, List.push_toArray, List.append_toArray, List.nil_append, List.cons_append]
  gi_wp2
  refine bodyPost_ret (results_none rfl _ _ _) rfl ?_
  exact ⟨⟨_, rfl⟩, h0⟩
theorem pairs_stops_nil (n : Nat) (Bs : Nat) (Kp : World → World → Prop) (w : World) (hBs : w.cell? ⟨Bs, 0, none⟩ = some (.pointer none)) :
    SeqStopsK Fence.wide n Tryz.prog 34 #[.pointer (some ⟨Bs, 0, none⟩)] prC Kp (fun ys => ys = []) (fun _ => False) 0 w := fun l J Jx W hW hJ hJx hY h0 => by
  have hc : W.cell? ⟨Bs, 0, none⟩ = some (.pointer none) := (hW.cell (World.block_lt_of_cell? w _ hBs)).trans hBs
  exact (pairs1_nil_in n l Bs J W hc h0).mono fun e W' ⟨he, hj⟩ => ⟨he, .inl ⟨_, rfl, hj⟩⟩
set_option maxRecDepth 100000 in
set_option maxHeartbeats 2000000 in
theorem known_nil (w : World) : Calls Tryz.prog 10 #[.pointer none] w (KnownP (fun _ => none) 0 w) := by
  go_enter Tryz.func10, Tryz.ntmps10
  go_wp2_with (first | (go_at_call 29; refine (values_any _ _ _ _).mono ?_; rintro e w' ⟨rfl, rfl⟩) | go_in)
  go_returns
  exact ⟨w.heap.size, w.heap.size, [], rfl, ⟨by simp, .inl ⟨rfl, box_cell (box_new w _ _) 0 rfl⟩⟩, ⟨List.nodup_nil, fun x => by simp⟩, Nat.le_refl _, Nat.le_refl _, Nat.le_refl _, by simp, (Below.refl _ _).alloc (Nat.le_refl _) _⟩
section
variable {w : World} {bp n0 : Nat} {a : BAddr} {cls : Int → Int} {prt : Int → Option (List UInt8 × List Int)} {pr : Int × Int → Option Int} {md : Int → Option (Int × Int)} {sc : Int → Option Int}
/-- The pairs of a base, gone through: whatever the rounds write, but the base. -/
theorem pairs_stops (n : Nat) (hn : 7 ≤ n) (S : Nat → Prop) (Bs : Nat) (h : BaseM w bp a n0 cls prt pr md sc) (hn0 : n0 ≤ 1000000) (hBs : w.heap[Bs]? = some (.cells #[.pointer (some ⟨bp, 0, none⟩)] 26 (0, 0)))
    (hS : ∀ k, S k → k < w.heap.size ∧ k ≠ bp ∧ k ≠ a.m3 ∧ k ≠ Bs) :
    SeqStopsK Fence.wide n Tryz.prog 34 #[.pointer (some ⟨Bs, 0, none⟩)] prC (KpS S) (fun ys => ∃ ss, AllKeys R32 md ss ∧ ys = withM md (srt ss)) (fun _ => True) n0 w := fun l J Jx W hW hJ hJx hY h0 =>
  (pairs1_in n hn S l Bs J Jx W (h.below hW) hn0 (box_below hBs hW) (fun k hk => by have := hS k hk; have := hW.size; exact ⟨by omega, by omega, by omega, by omega⟩) hJ hY h0).mono fun e W' ⟨he, hj⟩ => ⟨he, by
    rcases hj with ⟨ys, h1, h2⟩ | ⟨pre, h2⟩
    · exact .inl ⟨ys, h1, h2⟩
    · exact .inr ⟨pre, trivial, h2⟩⟩
end
end Go.Proofs.YtggichcfklbjiaaGreatDoor
end

section
set_option linter.unusedSimpArgs false
set_option linter.unusedVariables false
namespace Go.Proofs.YtggichcfklbjiaaGreatDoor
open Go.RowKit Go.Lib Go.Maps
/-- The maps of a base lie apart. -/
structure BAddr.Apart (a : BAddr) : Prop where
  b1 : a.mb ≠ a.m1
  b2 : a.mb ≠ a.m2
  b3 : a.mb ≠ a.m3
  b4 : a.mb ≠ a.m4
  p2 : a.m1 ≠ a.m2
  p3 : a.m1 ≠ a.m3
  p4 : a.m1 ≠ a.m4
  t23 : a.m2 ≠ a.m3
  t24 : a.m2 ≠ a.m4
  t34 : a.m3 ≠ a.m4
abbrev M234 (a : BAddr) (k : Nat) : Prop := k = a.m2 ∨ k = a.m3 ∨ k = a.m4
/-- The maps that makes fills. -/
structure MkV (W : World) (a : BAddr) (n : Nat) (pr : Int × Int → Option Int) (md : Int → Option (Int × Int)) (sc : Int → Option Int) : Prop where
  pr : MapF W Tryz.prog 46 pairLit R32P runeV a.m2 n pr
  md : MapF W Tryz.prog 21 runeLit R32 pairV a.m3 n md
  sc : MapF W Tryz.prog 21 runeLit R32 intV a.m4 n sc
/-- What stands meanwhile. -/
structure MkC (W : World) (bp : Nat) (a : BAddr) (n : Nat) (cls : Int → Int) (f : Int → Option PV) (prt : Int → Option (List UInt8 × List Int)) : Prop where
  box : W.heap[bp]? = some (.cells #[.pointer (some ⟨a.tb, 0, none⟩), .map (some a.m1), .map (some a.m2), .map (some a.m3), .map (some a.m4)] 64 (0, 0))
  tab : TabAt W a.tb a.mb a.tn cls
  map : MapF W Tryz.prog 21 runeLit R32 partV a.m1 n f
  parts : ∀ r, R32 r → PartIs W (f r) (prt r)
section
variable {w W W' : World} {bp n : Nat} {a : BAddr} {cls : Int → Int} {prt : Int → Option (List UInt8 × List Int)} {pr : Int × Int → Option Int} {md : Int → Option (Int × Int)} {sc : Int → Option Int} {f : Int → Option PV}
theorem cell_is_cells {p : Addr} {v : Value} (h : w.cell? p = some v) : ∃ cs t fr, w.heap[p.block]? = some (.cells cs t fr) := by
  unfold World.cell? at h
  cases hb : w.heap[p.block]? with
  | none => rw [hb] at h; simp at h
  | some o =>
    rw [hb] at h
    cases o with
    | cells cs t fr => exact ⟨cs, t, fr, rfl⟩
    | _ => simp at h
theorem PartIs.wrote {S : Nat → Prop} {p : Option PV} {q : Option (List UInt8 × List Int)} (h : PartIs w p q) (hW : Wrote S w W) (hS : ∀ k, S k → ∀ cs t fr, w.heap[k]? ≠ some (.cells cs t fr)) : PartIs W p q := by
  cases p <;> cases q <;> first | exact h | (refine ⟨h.1, h.2.1, h.2.2.1, h.2.2.2.1.wrote hW fun h0 ad had hSk => ?_, h.2.2.2.2⟩)
  obtain ⟨b, off, e, _, hc⟩ := h.2.2.2.1.at_ h0
  rw [had] at e
  injection e with e
  subst e
  obtain ⟨cs, t, fr, hb⟩ := cell_is_cells (hc 0 _ (List.getElem?_eq_getElem (by have := h.2.2.2.1.1; omega)))
  exact hS _ hSk _ _ _ hb
theorem BaseM.cOf (h : BaseM w bp a n cls prt pr md sc) : ∃ f, MkC w bp a n cls f prt := by
  obtain ⟨h1, h2, ⟨f, h3, h4⟩, _⟩ := h
  exact ⟨f, h1, h2, h3, h4⟩
theorem MkV.notCells (v : MkV w a n pr md sc) : ∀ k, M234 a k → ∀ cs t fr, w.heap[k]? ≠ some (.cells cs t fr) := fun k hk cs t fr e => by
  rcases hk with rfl | rfl | rfl
  · exact v.pr.ne_cells e rfl
  · exact v.md.ne_cells e rfl
  · exact v.sc.ne_cells e rfl
theorem MkC.wrote (h : MkC w bp a n cls f prt) (ap : a.Apart) (hn : ∀ k, M234 a k → ∀ cs t fr, w.heap[k]? ≠ some (.cells cs t fr)) (hW : Wrote (M234 a) w W) : MkC W bp a n cls f prt := by
  obtain ⟨h1, ⟨i1, g, i2, i3⟩, h3, h4⟩ := h
  refine ⟨hW.blk h1 (fun e => hn _ e _ _ _ h1), ⟨hW.blk i1 (fun e => hn _ e _ _ _ i1), g, i2.at (hW.block _ i2.lt ?_), i3⟩, h3.at (hW.block _ h3.lt ?_), fun r hr => (h4 r hr).wrote hW hn⟩
  · rintro (e | e | e)
    · exact ap.b2 e
    · exact ap.b3 e
    · exact ap.b4 e
  · rintro (e | e | e)
    · exact ap.p2 e
    · exact ap.p3 e
    · exact ap.p4 e
theorem MkC.toM {k : Nat} (h : MkC w bp a n cls f prt) (v : MkV w a k pr md sc) (hk : n ≤ k) : BaseM w bp a k cls prt pr md sc :=
  ⟨h.box, h.tab, ⟨f, h.map.mono hk, h.parts⟩, v.pr, v.md, v.sc⟩
theorem BaseM.vOf (h : BaseM w bp a n cls prt pr md sc) : MkV w a n pr md sc := ⟨h.pr, h.md, h.sc⟩
theorem MkV.mono {k : Nat} (v : MkV w a n pr md sc) (h : n ≤ k) : MkV w a k pr md sc := ⟨v.pr.mono h, v.md.mono h, v.sc.mono h⟩
theorem MkV.below (v : MkV w a n pr md sc) (hb : Below w.heap.size w W) : MkV W a n pr md sc := ⟨v.pr.below hb v.pr.lt, v.md.below hb v.md.lt, v.sc.below hb v.sc.lt⟩
theorem MkV.kept {r : Nat} (v : MkV w a n pr md sc) (hg : w.grownBy W (some r)) (h2 : a.m2 ≠ r) (h3 : a.m3 ≠ r) (h4 : a.m4 ≠ r) : MkV W a n pr md sc :=
  ⟨v.pr.kept hg (by simpa using h2), v.md.kept hg (by simpa using h3), v.sc.kept hg (by simpa using h4)⟩
theorem Wrote.grown_new {S : Nat → Prop} {r : Nat} (h : Wrote S w W) (hg : W.grownBy W' (some r)) (hr : w.heap.size ≤ r) : Wrote S w W' := by
  have h2 : Wrote (fun k => k = r) W W' := Wrote.grown hg fun k e => by injection e with e; exact e.symm
  exact ⟨h2.os.trans h.os, h2.tape.trans h.tape, h2.output.trans h.output, Nat.le_trans h.size h2.size, fun k hk hs => (h2.block k (Nat.lt_of_lt_of_le hk h.size) (by omega)).trans (h.block k hk hs)⟩
end
theorem madeQ_two {cls : Int → Int} {prt : Int → Option (List UInt8 × List Int)} {out : List Int} {x u v : Int} (h : prt x = some ([], [u, v])) : madeQ cls prt out x = (!decide (x ∈ out) && !decide (0 < cls x) && !decide (0 < cls u)) := by unfold madeQ; rw [h]
theorem madeT_two {prt : Int → Option (List UInt8 × List Int)} {x u v : Int} {k : List UInt8} (h : prt x = some (k, [u, v])) : madeT2 prt x = (u, v) := by unfold madeT2; rw [h]
/-- Between two rounds: rb: the iterator; n: how many are parted. -/
def MkR (a : BAddr) (cls : Int → Int) (prt : Int → Option (List UInt8 × List Int)) (f : Int → Option PV) (out : List Int) (n rb : Nat) (W0 wr : World) (bad : Bool) (cnt : Nat) : Prop :=
  ∃ left ss pr md sc, MapR wr Tryz.prog 21 runeLit R32 partV a.m1 rb n f left cnt ∧ Came R32 f left ss ∧ MkI (madeQ cls prt out) (madeT2 prt) joinsB ss bad pr md sc ∧ MkV wr a (n + ss.length) pr md sc ∧ ss.length + cnt ≤ n ∧ Wrote (M234 a) W0 wr
/-- What makes answers, and fills. -/
def MakesP (bp n : Nat) (a : BAddr) (cls : Int → Int) (prt : Int → Option (List UInt8 × List Int)) (out : List Int) (w : World) (e : Ending) (w' : World) : Prop :=
  ∃ bad ss pr md sc, e = .returned (.int .i64 (if bad = true then 12 else 0)) ∧ AllKeys R32 prt ss ∧ MkI (madeQ cls prt out) (madeT2 prt) joinsB ss bad pr md sc ∧ BaseM w' bp a (n + ss.length) cls prt pr md sc ∧ ss.length ≤ n ∧ Wrote (M234 a) w w'
section
variable {w W : World} {bp n rb : Nat} {a : BAddr} {cls : Int → Int} {prt : Int → Option (List UInt8 × List Int)} {f : Int → Option PV} {out : List Int}
theorem parts_some {p : Option PV} {q : Option (List UInt8 × List Int)} (h : PartIs w p q) : p.isSome = q.isSome := by
  cases p <;> cases q <;> first | rfl | exact h.elim
theorem MkR.done {bad : Bool} (hC : MkC w bp a n cls f prt) (ap : a.Apart) (hn : ∀ k, M234 a k → ∀ cs t fr, w.heap[k]? ≠ some (.cells cs t fr))
    {left : Int → Bool} {ss : List Int} {pr : Int × Int → Option Int} {md : Int → Option (Int × Int)} {sc : Int → Option Int}
    (hl0 : ∀ x, R32 x → left x = false) (hCm : Came R32 f left ss) (hI : MkI (madeQ cls prt out) (madeT2 prt) joinsB ss bad pr md sc) (hV : MkV W a (n + ss.length) pr md sc) (hle : ss.length ≤ n) (hW : Wrote (M234 a) w W) :
    MakesP bp n a cls prt out w (.returned (.int .i64 (if bad = true then 12 else 0))) W := by
  have hA := hCm.all hl0
  refine ⟨bad, ss, pr, md, sc, rfl, ⟨hA.1, fun x => ?_⟩, hI, (hC.wrote ap hn hW).toM hV (by omega), hle, hW⟩
  rw [hA.2 x]
  constructor
  · rintro ⟨h1, h2⟩; exact ⟨h1, by rw [← parts_some (hC.parts x h1)]; exact h2⟩
  · rintro ⟨h1, h2⟩; exact ⟨h1, by rw [parts_some (hC.parts x h1)]; exact h2⟩
theorem step_lookF {α β : Type} {P : Program} {K : TypeId} {mk : α → Value} {lit : α → Lit} {ok : α → Prop} {mkV : β → Value} {w : World} {b m0 : Nat} {g : α → Option β} {ops : Array Oper} {o : Oper} {ac : Act} {Q : Exit → Act → World → Prop}
    {K' : Act → World → Prop} {R : Prop} {t e : TypeId} {zv z : β} (hg : o.guard = none) (m x : Operand) (hop : o.op = Op.lookup t m x false) (B : KeyB P K mk lit ok) (ht : P.underlying t = some (.map K e)) (hz : (zeroValue e).run P w = .ok (mkV zv) w)
    (h : MapF w P K lit ok mkV b m0 g) {k : α} (hk : ok k) (hm : ac.eval m = .map (some b)) (hx : ac.eval x = mk k) (hzz : z = (g k).getD zv)
    (hK : K' (ac.put o.dst (mkV z)) w) : if Region.wanted o (yielded ops ac.tmps) = true then Oper.wp P o ac w K' Q else R := by
  rw [if_pos (by simp [Region.wanted, hg])]
  have hrun := h.look B ht hz hk false
  unfold Oper.wp
  simp [execOp, hop, hm, hx, hrun, Result.andThen]
  rw [← hzz]
  exact hK
/-- The base's box, and the box of two characters. -/
def Two (bp q2 : Nat) (a : BAddr) (u v : Int) (W : World) : Prop :=
  W.heap[bp]? = some (.cells #[.pointer (some ⟨a.tb, 0, none⟩), .map (some a.m1), .map (some a.m2), .map (some a.m3), .map (some a.m4)] 64 (0, 0)) ∧ W.heap[q2]? = some (.cells #[.int .i32 u, .int .i32 v] 46 (0, 0))
theorem Two.below {q2 : Nat} {u v : Int} {W' : World} (h : Two bp q2 a u v W) (hb : Below W.heap.size W W') : Two bp q2 a u v W' := ⟨box_below h.1 hb, box_below h.2 hb⟩
theorem Two.grown {q2 r : Nat} {u v : Int} {W' : World} (h : Two bp q2 a u v W) (hg : W.grownBy W' (some r)) (h1 : bp ≠ r) (h2 : q2 ≠ r) : Two bp q2 a u v W' :=
  ⟨(hg.block _ (box_lt h.1) (fun e => h1 (by injection e with e))).trans h.1, (hg.block _ (box_lt h.2) (fun e => h2 (by injection e with e))).trans h.2⟩
theorem pairH_some {pr : Int × Int → Option Int} {u v : Int} : (pairH pr u v).isSome = ((pr (u, v)).isSome || joinsB (u, v)) := by
  unfold pairH joinsB
  cases pr (u, v) with
  | some x => rfl
  | none =>
    simp only []
    cases (joinH u v).2 <;> simp
theorem MkR.made {w2 W6 w11 : World} {left : Int → Bool} {ss : List Int} {pr : Int × Int → Option Int} {md : Int → Option (Int × Int)} {sc : Int → Option Int} {bad is : Bool} {cnt : Nat} {x u v : Int}
    (hrg : MapR w2 Tryz.prog 21 runeLit R32 partV a.m1 rb n f left cnt) (hCame : Came R32 f left (ss ++ [x])) (hM : MkI (madeQ cls prt out) (madeT2 prt) joinsB ss bad pr md sc) (hx : x ∉ ss) (hQ : madeQ cls prt out x = true) (hT : madeT2 prt x = (u, v))
    (hle : ss.length + 1 + cnt ≤ n) (hW : Wrote (M234 a) w w2) (h26 : Below w2.heap.size w2 W6) (hW' : Wrote (M234 a) W6 w11)
    (hpr : MapF w11 Tryz.prog 46 pairLit R32P runeV a.m2 (n + ss.length + 1) (upd pr (u, v) (some x))) (hmd : MapF w11 Tryz.prog 21 runeLit R32 pairV a.m3 (n + ss.length + 1) (upd md x (some (u, v)))) (hsc : MapF w11 Tryz.prog 21 runeLit R32 intV a.m4 (n + ss.length + 1) (upd sc v (some (gd sc v + 1))))
    (hrb : ¬ M234 a rb) (hm1 : ¬ M234 a a.m1) (his : (pairH pr u v).isSome = is) : MkR a cls prt f out n rb w w11 (bad || is) cnt ∧ w11.rangeLeft a.m1 rb = cnt := by
  have l1 := hrg.owns.lt
  have l2 := hrg.lt
  have hs := h26.size
  have hrg' := hrg.at ((hW'.block _ (by omega) hm1).trans (h26.block _ l1)) ((hW'.block _ (by omega) hrb).trans (h26.block _ l2))
  have hst := hM.step hx hQ
  rw [hT] at hst
  have e : (bad || (pr (u, v)).isSome || joinsB (u, v)) = (bad || is) := by rw [← his, pairH_some, Bool.or_assoc]
  rw [e] at hst
  have hl : n + (ss ++ [x]).length = n + ss.length + 1 := by simp; omega
  exact ⟨⟨_, ss ++ [x], _, _, _, hrg', hCame, hst, by rw [hl]; exact ⟨hpr, hmd, hsc⟩, by simp; omega, (hW.then_below h26).trans hW'⟩, hrg'.left_eq⟩
end
end Go.Proofs.YtggichcfklbjiaaGreatDoor
end
