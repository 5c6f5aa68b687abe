/- The pairs of a base, gone through, where it is known that each is one. BasePairs' law: what two characters make is parted into them. -/
import Derived.Test.YtggichcfklbjiaaGreatDoorG35
import Derived.Test.YtggichcfklbjiaaGreatDoorG42
import Derived.Sort.CutIn
section
set_option linter.unusedSimpArgs false
set_option linter.unusedVariables false
namespace Go.Proofs.YtggichcfklbjiaaGreatDoor
open Go.RowKit Go.Lib Go.Maps Go.Sort Go.Shelf
attribute [local go_sem] Oper.semAt_some

section
variable {w : World} {bp n0 : Nat} {a : BAddr} {cls : Int → Int} {prt : Int → Option (List UInt8 × List Int)} {pr : Int × Int → Option Int} {md : Int → Option (Int × Int)} {sc : Int → Option Int}
set_option maxRecDepth 100000 in
set_option maxHeartbeats 4000000 in
theorem pairs1S_in (n : Nat) (hn : 7 ≤ n) (S : Nat → Prop) (l Bs : Nat) (J Jx : List (Int × (Int × Int)) → World → Prop) (W : World) (h : BaseM W bp a n0 cls prt pr md sc) (hn0 : n0 ≤ 1000000) (hBs : W.heap[Bs]? = some (.cells #[.pointer (some ⟨bp, 0, none⟩)] 26 (0, 0)))
    (hS : ∀ k, S k → k < W.heap.size ∧ k ≠ bp ∧ k ≠ a.m3 ∧ k ≠ Bs) (hJ : AbidesFrom W.heap.size J)
    (hY : ∀ pre x W1, md x.1 = some x.2 → J pre W1 → pre.length < n0 → YieldAt Fence.wide (n - 1) Tryz.prog l (prC x) W1 fun e W' => (e = .returned (.bool true) ∧ J (pre ++ [x]) W' ∧ KpS S W1 W') ∨ (e = .returned (.bool false) ∧ Jx (pre ++ [x]) W')) (h0 : J [] W) :
    CallsIn Fence.wide n Tryz.prog 34 #[.func (.yield l) #[] #[], .pointer (some ⟨Bs, 0, none⟩)] W fun e W' => (∃ v, e = .returned v) ∧
      ((∃ ys, (∃ ss, AllKeys R32 md ss ∧ ys = withM md (srt ss)) ∧ J ys W') ∨ (∃ pre, Jx pre W')) := by
  have hro : Fence.wide.round = none := rfl
  have h1 : 1 ≤ n := by omega
  have c3 := box_cell h.box 3 rfl
  have cb := box_cell hBs 0 rfl
  have hm := h.md
  have hbl := hm.lt
  have KY := keysM_any (some a.m3) W
  have ba : Below W.heap.size W (W.alloc (.cells #[.map (some a.m3)] 61)) := (Below.refl _ _).alloc (Nat.le_refl _) _
  have hg := keysM_gives Fence.wide (n - 1 - 1 - 1 - 1) trivial rfl (by omega) W.heap.size a.m3 n0 md (W.alloc (.cells #[.map (some a.m3)] 61)) (by simp) (box_cell (box_new W _ _) 0 rfl) (hm.alloc _)
  have SO := sorted_in (n - 1) (by omega) 62 #[.pointer (some ⟨W.heap.size, 0, none⟩)] (enters_of Tryz.func62 (by kernel_rfl) rfl) _ n0 (by unfold maxLen; omega) (by omega) _ hg
  have HB := Lib.hid h
  have HY := Lib.hid hY
  have HS := Lib.hid hS
  clear hg hY hS
  refine callsIn_of_wp Tryz.func34 rfl trivial ?_ hro
  simp only [Tryz.ntmps34, List.size_toArray, List.length_cons, List.length_nil, Nat.reduceAdd, Nat.reduceSub, Array.replicate_succ, Array.replicate_zero, List.push_toArray, List.append_toArray, List.nil_append, List.cons_append]
  gi_wp2
  refine ⟨trivial, (callsIn_wide.2 KY).mono ?_⟩
  rintro e w' ⟨rfl, rfl⟩
  gi_wp2
  refine ⟨trivial, SO.mono ?_⟩
  rintro e w2 ⟨A, c, ss, rfl, hSS, hown, hA, hle, hb2⟩
  have hb02 : Below W.heap.size W w2 := below_then ba hb2
  have hJ2 : J [] w2 := hJ _ _ _ none h0 (grown_of_below hb02) (fun r e => by cases e)
  obtain ⟨ks, hks⟩ : ∃ ks, ks = srt ss := ⟨_, rfl⟩
  have hkl : ks.length = ss.length := by rw [hks]; exact (srt_perm ss).length_eq
  have hkn : ks.length ≤ n0 := by rw [hkl]; exact hle
  have hkR : ∀ x ∈ ks, R32 x := fun x hx => by rw [hks, (srt_perm ss).mem_iff] at hx; exact ((hSS.2 x).1 hx).1
  have hkM : ∀ x ∈ ks, md x = some ((md x).getD (0, 0)) := fun x hx => by
    rw [hks, (srt_perm ss).mem_iff] at hx
    obtain ⟨q, hq⟩ := Option.isSome_iff_exists.1 ((hSS.2 x).1 hx).2
    rw [hq]
    rfl
  obtain ⟨A2, c2, hv2, _, _, hrd⟩ := Rd.of_own hown
  injection hv2 with hA2 hn2 hc2
  rw [← hA2, ← hks, ← hkl] at hrd
  have HBk : Hid (∀ a', A = some a' → W.heap.size ≤ a'.block ∧ ∃ o : Obj, w2.heap[a'.block]? = some o ∧ o.isCells = true) := fun a' ha => by
    rcases hown.2 with ⟨hv, _⟩ | ⟨g, cap, cur, hv, hbase, hgb, _⟩
    · injection hv with e; rw [ha] at e; cases e
    · injection hv with e _ _
      rw [ha] at e
      injection e with e
      subst e
      simp only [World.size_alloc] at hbase
      exact ⟨by show W.heap.size ≤ g; omega, _, hgb, rfl⟩
  clear hn2 hc2 hA2
  have hbB := box_below hBs hb02
  have hbX := box_below h.box hb02
  have hmB := hm.below hb02 hbl
  have HSS := Lib.hid hSS
  have HKS := Lib.hid hks
  clear hown hb2 hSS hks SO KY ba cb c3 h hm hBs h0 hJ hbl hle hA
  gi_wp2
  gi_loopw [14] (fun i wr => ∃ k : Nat, k ≤ ks.length ∧ i = .int .i64 k ∧ J (withM md (ks.take k)) wr ∧ KpS S w2 wr) (fun i _ => ks.length - (intOf i).toNat)
  case atStart => exact ⟨0, Nat.zero_le _, rfl, hJ2, KpS.refl _ _⟩
  case round =>
    obtain ⟨k, hk, rfl, hJs, hKp⟩ := hrel
    by_cases hlt : k < ks.length
    · obtain ⟨x, hx⟩ : ∃ x, ks[k]? = some x := ⟨_, List.getElem?_eq_getElem hlt⟩
      have hxR := hkR x (List.mem_of_getElem? hx)
      have hxm : md x = some ((md x).getD (0, 0)) := hkM x (List.mem_of_getElem? hx)
      obtain ⟨b, off, rfl, hbl, hcx⟩ := hrd.at_ (by omega)
      obtain ⟨hge, o, ho, hoc⟩ := HBk.out _ rfl
      have hnS : ¬ S b := fun hs => by have := (HS.out b hs).1; simp only [] at hge; omega
      have c0 : wr.cell? ⟨b, off + k, none⟩ = some (.int .i32 x) := (World.cell?_of_block ((hKp.2 b o ho (.inl hoc) hnS).trans ho.symm)).trans (hcx k _ (by simp [Rs, hx]))
      have cb := box_cell (hKp.cells hbB (fun hs => (HS.out _ hs).2.2.2 rfl)) 0 rfl
      have c3 := box_cell (hKp.cells hbX (fun hs => (HS.out _ hs).2.1 rfl)) 3 rfl
      have hmW := hKp.mapF hmB (fun hs => (HS.out _ hs).2.2.1 rfl)
      have hi : (k : Int) < (ks.length : Int) := by omega
      have HTK : Hid (withM md (ks.take (k + 1)) = withM md (ks.take k) ++ [(x, (md x).getD (0, 0))]) := by
        show _ = _
        rw [List.take_add_one, hx]
        unfold withM
        simp
      have hll : (withM md (ks.take k)).length < n0 := by unfold withM; rw [List.length_map, List.length_take]; omega
      obtain ⟨fn, tmps, assign, body, hy, hR⟩ := HY.out _ (x, (md x).getD (0, 0)) wr hxm hJs hll
      obtain ⟨two, htwo⟩ : ∃ two, two = (md x).getD (0, 0) := ⟨_, rfl⟩
      have HTW := Lib.hid htwo
      rw [← htwo] at hy hR HTK
      dsimp only [prC, runeV, pairV] at hy
      clear hx hxm hcx hll htwo hbl ho hoc hge hnS hJs
      gi_wp2_with (first | (refine wpListIn_lookF rfl _ _ rfl rune_keyed madeT (zero_two _) hmW (k := x) hxR rfl rfl ?_; rw [← HTW.out]) | gi_in)
      try rw [hy]
      gi_wp2
      refine hR.mono ?_
      rintro e W3 (⟨rfl, hJ3, hk3⟩ | ⟨rfl, hJx3⟩)
      · rw [← HTK.out] at hJ3
        have hn3 := hKp.trans hk3
        clear hk3 hKp hR hy
        gi_wp2
        go_roundw
        case rel => exact ⟨k + 1, by omega, by go_num, hJ3, hn3⟩
        case measure => simp [intOf]; omega
      · clear hKp hR hy
        gi_wp2
        refine bodyPost_ret (results_none rfl _ _ _) rfl ?_
        exact ⟨⟨_, rfl⟩, .inr ⟨_, hJx3⟩⟩
    · obtain rfl : k = ks.length := by omega
      have hki : (ks.length : Int) ≤ (ks.length : Int) := Int.le_refl _
      rw [List.take_length] at hJs
      gi_wp2
      go_end0
      exact ⟨⟨_, rfl⟩, .inl ⟨_, ⟨ss, HSS.out, by rw [HKS.out]⟩, hJs⟩⟩
/-- Two characters, and what they make. -/
abbrev OkPr (md : Int → Option (Int × Int)) := {x : Int × (Int × Int) // md x.1 = some x.2}
theorem pairs_stopsS (n : Nat) (hn : 7 ≤ n) (S : Nat → Prop) (Bs : Nat) (h : BaseM w bp a n0 cls prt pr md sc) (hn0 : n0 ≤ 1000000) (hBs : w.heap[Bs]? = some (.cells #[.pointer (some ⟨bp, 0, none⟩)] 26 (0, 0)))
    (hS : ∀ k, S k → k < w.heap.size ∧ k ≠ bp ∧ k ≠ a.m3 ∧ k ≠ Bs) :
    SeqStopsK Fence.wide n Tryz.prog 34 #[.pointer (some ⟨Bs, 0, none⟩)] (fun x : OkPr md => prC x.1) (KpS S) (fun ys => ∃ ss, AllKeys R32 md ss ∧ ys.map (·.1) = withM md (srt ss)) (fun _ => True) n0 w := fun l J Jx W hW hJ hJx hY h0 =>
  (pairs1S_in n hn S l Bs (fun pre V => ∃ p : List (OkPr md), p.map (·.1) = pre ∧ J p V) (fun pre V => ∃ p : List (OkPr md), p.map (·.1) = pre ∧ Jx p V) W (h.below hW) hn0 (box_below hBs hW) (fun k hk => by have := hS k hk; have := hW.size; exact ⟨by omega, by omega, by omega, by omega⟩)
    (fun s V V' row ⟨p, e, hp⟩ hg hr => ⟨p, e, hJ p V V' row hp hg hr⟩)
    (fun pre x W1 hx ⟨p, e, hp⟩ hlt => by
      subst e
      obtain ⟨fn, tmps, assign, body, hy, hR⟩ := hY p ⟨x, hx⟩ W1 hp (by simpa using hlt)
      refine ⟨fn, tmps, assign, body, hy, hR.mono ?_⟩
      rintro e W3 (⟨he, hJ3, hk3⟩ | ⟨he, hJx3⟩)
      · exact .inl ⟨he, ⟨_, by simp, hJ3⟩, hk3⟩
      · exact .inr ⟨he, ⟨_, by simp, hJx3⟩⟩) ⟨[], rfl, h0⟩).mono fun e W' ⟨he, hj⟩ => ⟨he, by
    rcases hj with ⟨ys, ⟨ss, h1, h2⟩, p, e, h3⟩ | ⟨pre, p, e, h3⟩
    · exact .inl ⟨p, ⟨ss, h1, e.trans h2⟩, h3⟩
    · exact .inr ⟨p, trivial, h3⟩⟩
end
end Go.Proofs.YtggichcfklbjiaaGreatDoor
end

section
set_option linter.unusedSimpArgs false
set_option linter.unusedVariables false
namespace Go.Proofs.YtggichcfklbjiaaGreatDoor
open Go.RowKit Go.Lib Go.Maps Go.Sort Go.Shelf
attribute [local go_sem] Oper.semAt_some

theorem okPr_made {rows : List RowS} {out : List Int} (g : RowsG rows) (h : NewOk rows out) {ss : List Int} {pr : Int × Int → Option Int} {md : Int → Option (Int × Int)} {sc : Int → Option Int}
    (hI : MkI (madeQ (clsL rows) (prtL rows) out) (madeT2 (prtL rows)) joinsB ss false pr md sc) {c u v : Int} (hx : md c = some (u, v)) :
    R32 c ∧ R32 u ∧ R32 v ∧ (baseF g h).pair u v = some c ∧ (baseF g h).dec c = ([], [u, v]) ∧ (baseF g h).cls c = 0 ∧ (baseF g h).cls u = 0 ∧ (baseF g h).sec v = true := by
  rw [hI.md] at hx
  split at hx
  · rename_i hq
    injection hx with hx
    have h1 := madeQ_true hq.2
    rw [hx] at h1
    have hp : (baseF g h).pair u v = some c := by
      show pairH (prL rows out) u v = some c
      unfold pairH
      rw [(prL_some h).2 ⟨hq.2, hx⟩]
    have hm := (baseF g h).made u v c hp
    obtain ⟨a1, a2, _⟩ := g.into c _ h1.1
    refine ⟨allR_R a1, allR_R (a2 u (by simp)), allR_R (a2 v (by simp)), hp, hm.1, hm.2.1, ?_, hm.2.2⟩
    have h0 := (baseF g h).cls0 u
    have h4 := h1
    show clsL rows u = 0
    have h0 : 0 ≤ clsL rows u := h0
    simp only [] at h4
    omega
  · cases hx
/-- What is known of a base in memory. -/
structure PairsOk (bp : Nat) (a : BAddr) (n : Nat) (pr : Int × Int → Option Int) (md : Int → Option (Int × Int)) (sc : Int → Option Int) (cls : Int → Int) (prt : Int → Option (List UInt8 × List Int)) (B : BaseF) (w : World) : Prop where
  m : BaseM w bp a n cls prt pr md sc
  is : BaseIs w (.pointer (some ⟨bp, 0, none⟩)) B
  few : n ≤ 100000
  bd : BaseBd B
  okp : ∀ c u v, md c = some (u, v) → R32 c ∧ R32 u ∧ R32 v ∧ B.pair u v = some c ∧ B.dec c = ([], [u, v]) ∧ B.cls c = 0 ∧ B.cls u = 0 ∧ B.sec v = true
theorem PairsOk.below {bp : Nat} {a : BAddr} {n : Nat} {pr : Int × Int → Option Int} {md : Int → Option (Int × Int)} {sc : Int → Option Int} {cls : Int → Int} {prt : Int → Option (List UInt8 × List Int)} {B : BaseF} {w w' : World} (h : PairsOk bp a n pr md sc cls prt B w) (hb : Below w.heap.size w w') : PairsOk bp a n pr md sc cls prt B w' :=
  ⟨h.m.below hb, h.is.below hb, h.few, h.bd, h.okp⟩
theorem pairs_ok {rows : List RowS} {out : List Int} (g : RowsG rows) (h : NewOk rows out) {w w' : World} {e : Ending} (hG : NewGood rows out w e w') :
    ∃ bp a n pr md sc cls prt B, e = .returned (.tuple #[.pointer (some ⟨bp, 0, none⟩), .int .i64 0]) ∧ PairsOk bp a n pr md sc cls prt B w' ∧ Below w.heap.size w w' := by
  obtain ⟨bp, he, hB, hb⟩ := good_is g h hG
  obtain ⟨bp', a, n, ss, pr, md, sc, he', hM, hn, _, hI, _, _⟩ := hG
  rw [he] at he'
  have : bp = bp' := by
    injection he' with h1
    injection h1 with h1
    have := congrArg (fun x => x[0]?) h1
    simpa using this
  subst this
  exact ⟨bp, a, n, pr, md, sc, _, _, _, he, ⟨hM, hB, by omega, base_bd g h, fun c u v hx => okPr_made g h hI hx⟩, hb⟩
section
variable {w : World}
set_option maxRecDepth 100000 in
set_option maxHeartbeats 4000000 in
theorem basepairs_main (s o : ByteArray) (x y : Int) (hE : Env w) (hk : Kinds w) (hx : R32 x) (hy : R32 y) (hs : s.size ≤ 3000) (ho : o.size ≤ 500) (hC : NewC (bs s) (bs o)) :
    Calls Tryz.prog 5 #[.agg #[.string s, .string o], .int .i32 x, .int .i32 y] w fun e w' => e = .returned (.bool true) ∧ Below w.heap.size w w' := by
  refine (callsIn_wide (n := 9)).1 ?_
  have hro : Fence.wide.round = none := rfl
  have h1 : 1 ≤ 9 := by omega
  obtain ⟨W0, hW0⟩ : ∃ W0, (w.alloc (.cells #[.string s, .string o] 23)).alloc (.cells #[.bool false] 4) = W0 := ⟨_, rfl⟩
  have hsz : W0.heap.size = w.heap.size + 2 := by rw [← hW0]; simp
  have hB0 : Below w.heap.size w W0 := by
    rw [← hW0]
    exact ((Below.refl _ w).alloc (Nat.le_refl _) _).alloc (by simp) _
  have bx1 : W0.heap[w.heap.size]? = some (.cells #[.string s, .string o] 23 (0, 0)) := by
    rw [← hW0]
    exact (Below.heap_alloc _ _ _ (by simp)).trans (box_new w _ _)
  have bx2 : Boxed W0 (w.heap.size + 1) 4 (.bool false) := by
    rw [← hW0]
    have := Boxed.new (w.alloc (.cells #[.string s, .string o] 23)) 4 (.bool false)
    rwa [World.size_alloc] at this
  have FW := few8 s o W0 hs ho
  have hc0 := box_cell bx1 0 rfl
  have hc1 := box_cell bx1 1 rfl
  have NW := fun W1 (hb : Below W0.heap.size W0 W1) => new_any (w := W1) s o (hE.below (below_then hB0 hb)) (hk.below' (below_then hB0 hb)) (by omega) (by omega)
  refine callsIn_of_wp_marks Tryz.func5 rfl trivial ?_ hro
  simp only [Tryz.ntmps5, List.size_toArray, List.length_cons, List.length_nil, Nat.reduceAdd, Nat.reduceSub, Array.replicate_succ, Array.replicate_zero, List.push_toArray, List.append_toArray, List.nil_append, List.cons_append]
  have hnf : ∀ (f : Fn) (a c : Array Value) (w : World), Sem.run Tryz.prog (binOp BinOp.eql 39 (Value.func f a c) Value.nilFunc) w = .ok (.bool false) w := fun f a c w => by kernel_rfl
  clear hs ho
  gi_wp2
  clear hW0 hc0 hc1
  refine ⟨trivial, (callsIn_wide.2 FW).mono ?_⟩
  rintro e w1 ⟨rfl, hb1⟩
  have hc0 := (box_cell (box_below bx1 hb1) 0 rfl)
  have hc1 := (box_cell (box_below bx1 hb1) 1 rfl)
  have N1 := NW w1 hb1
  clear FW NW
  gi_wp2
  refine ⟨trivial, (callsIn_wide.2 N1).mono ?_⟩
  rintro e w2 hP
  rcases hP with ⟨hn, _⟩ | ⟨⟨_, _, hok⟩, hG⟩
  · exact absurd hC hn
  obtain ⟨bp, a, n, pr, md, sc, cls, prt, B, rfl, hB, hb2⟩ := pairs_ok (rows_g _) hok hG
  have hc0 := (box_cell (box_below (box_below bx1 hb1) hb2) 0 rfl)
  have hb02 := below_then hb1 hb2
  have hbw2 := below_then hB0 hb02
  have b6 := boxed_below bx2 hb02
  have b7 := Boxed.new w2 26 (.pointer (some ⟨bp, 0, none⟩))
  have hb7 : Below w2.heap.size w2 (w2.alloc (.cells #[.pointer (some ⟨bp, 0, none⟩)] 26)) := (Below.refl _ _).alloc (Nat.le_refl _) _
  obtain ⟨W3, hW3⟩ : ∃ W3, w2.alloc (.cells #[.pointer (some ⟨bp, 0, none⟩)] 26) = W3 := ⟨_, rfl⟩
  obtain ⟨qb, hqb⟩ : ∃ qb, w2.heap.size = qb := ⟨_, rfl⟩
  have hlt2 : w.heap.size + 1 < qb := by have := hb02.size; omega
  rw [hW3] at b7 hb7
  have hB3 := hB.below hb7
  have b63 := boxed_below b6 hb7
  have hbw3 := below_then hbw2 hb7
  rw [hqb] at b7
  have c7 := b7.cell
  obtain ⟨r, is, hri⟩ : ∃ r is, pairOf (B.pair x y) = .tuple #[.int .i32 r, .bool is] := ⟨_, _, rfl⟩
  obtain ⟨kd, il, hkl⟩ : ∃ kd il, B.dec r = (kd, il) := ⟨_, _, rfl⟩
  have hlen : il.length ≤ 18 := by have := hB.bd.declen r; rw [hkl] at this; exact this
  have hrR : R32 r := by
    cases hp : B.pair x y with
    | none => rw [hp] at hri; injection hri with e; injection e with e; injection e with e1 e2; injection e1 with _ e1; subst e1; unfold R32; simp
    | some c => rw [hp] at hri; have := hB.bd.pair x y c hx hy hp; injection hri with e; injection e with e; injection e with e1 e2; injection e1 with _ e1; subst e1; exact this
  have HFA : Hid ((is = false ∧ r = 0) ∨ (is = true ∧ kd = [] ∧ il = [x, y] ∧ B.cls r = 0 ∧ B.sec y = true)) := by
    show _ ∨ _
    cases hp : B.pair x y with
    | none => rw [hp] at hri; injection hri with e; injection e with e; injection e with e1 e2; injection e1 with _ e1; injection e2 with e2; injection e2 with e2; exact .inl ⟨e2.symm, e1.symm⟩
    | some c =>
      rw [hp] at hri
      injection hri with e
      injection e with e
      injection e with e1 e2
      injection e1 with _ e1
      injection e2 with e2
      injection e2 with e2
      have e1 : c = r := e1
      subst e1
      obtain ⟨m1, m2, m3⟩ := B.made x y c hp
      rw [hkl] at m1
      injection m1 with m4 m5
      exact .inr ⟨e2.symm, m4, m5, m2, m3⟩
  have P1 := pair_is hB3.is x y hx hy (hk.below' hbw3)
  rw [hri] at P1
  have HKL := Lib.hid hkl
  have HLEN := Lib.hid hlen
  have HB3 := Lib.hid hB3
  have HBW3 := Lib.hid hbw3
  have H63 := Lib.hid b63
  have H73 := Lib.hid b7
  have HKK := Lib.hid hk
  have HEE := Lib.hid hE
  have hqW : qb < W3.heap.size := b7.lt
  clear hc0 N1 hB hG hok b6 b63 b7 hb02 hbw2 hbw3 hb1 hb2 hb7 hri hkl hlen bx1 bx2 hB0 hC hB3 hc1 hk hE hsz
  gi_wp2
  refine ⟨trivial, (callsIn_wide.2 P1).mono ?_⟩
  rintro e w4 ⟨rfl, hb4⟩
  have D1 := decomp_is (HB3.out.is.below hb4) r hrR (HKK.out.below' (below_then HBW3.out hb4))
  rw [HKL.out] at D1
  have c7 := (boxed_below H73.out hb4).cell
  clear P1
  gi_wp2
  refine ⟨trivial, (callsIn_wide.2 D1).mono ?_⟩
  rintro e w5 ⟨A, cp, rfl, hown, hb5⟩
  obtain ⟨A1, c1, hv1, _, _, hrd1⟩ := Rd.of_own hown
  injection hv1 with e1 _ e3
  subst e1 e3
  have hb35 := below_then hb4 hb5
  have c7 := (boxed_below H73.out hb35).cell
  have HRD := Lib.hid hrd1
  have HB35 := Lib.hid hb35
  clear D1 hown hrd1 hb4 hb5 hb35
  gi_upto_region 8 with fail
  gi_cut [92] from 60 (fun s92 wx => s92 = .bool false ∧ ∃ W, W = wx ∧ Hid (Below W3.heap.size W3 W))
  case first =>
    have hte : (mk8 ([] : List UInt8)).toList.isEmpty = true := by rw [toList_bs, bs_mk8]; rfl
    rcases HFA.out with ⟨rfl, rfl⟩ | ⟨rfl, rfl, rfl, hc0, hs0⟩
    · gi_wp2
      try any_goals (rename_i hb _; exact absurd hb (by first | (intro e; injection e with e; cases e; done) | simp [undef]))
      refine ⟨trivial, ?_⟩
      gi_wp2
      try any_goals (rename_i hb _; exact absurd hb (by first | (intro e; injection e with e; cases e; done) | simp [undef]))
      refine ⟨trivial, ?_⟩
      gi_wp2
      try any_goals (rename_i hb _; exact absurd hb (by first | (intro e; injection e with e; cases e; done) | simp [undef]))
      refine ⟨trivial, ?_⟩
      gi_wp2
      try any_goals (rename_i hb _; exact absurd hb (by first | (intro e; injection e with e; cases e; done) | simp [undef]))
      gi_meet
      case rel => exact ⟨rfl, _, rfl, HB35.out⟩
    · have C1 := fun W (hb : Below W3.heap.size W3 W) => class_is (HB3.out.is.below hb) r hrR
      have S1 := fun W (hb : Below W3.heap.size W3 W) => sec_is (HB3.out.is.below hb) y hy (HKK.out.below' (below_then HBW3.out hb))
      rw [hc0] at C1
      rw [hs0] at S1
      have hbA : Below w5.heap.size w5 (w5.alloc (.cells #[.int .i32 x, .int .i32 y] 21)) := (Below.refl _ _).alloc (Nat.le_refl _) _
      have RN := runes_any A (some ⟨w5.heap.size, 0, none⟩) 2 2 cp 2 [x, y] [x, y] (w5.alloc (.cells #[.int .i32 x, .int .i32 y] 21)) (HRD.out.below hbA) (Rd.new _ _ [.int .i32 x, .int .i32 y]) (by omega) (by omega)
      rw [decide_eq_true (rfl : [x, y] = [x, y])] at RN
      have HBA := Lib.hid (HB35.out.trans (hbA.mono HB35.out.size))
      clear hbA hc0 hs0
      gi_wp2
      refine ⟨trivial, (callsIn_wide.2 RN).mono ?_⟩
      rintro e v1 ⟨rfl, hd⟩
      have hv1 := HBA.out.trans ((hd.below _).mono (Nat.le_refl _))
      have C2 := C1 v1 hv1
      have c7 := (boxed_below H73.out hv1).cell
      clear RN hd C1
      gi_wp2
      refine ⟨trivial, (callsIn_wide.2 C2).mono ?_⟩
      rintro e v2 ⟨rfl, hb2⟩
      have hv2 := below_then hv1 hb2
      have S2 := S1 v2 hv2
      have c7 := (boxed_below H73.out hv2).cell
      clear C2 S1 hv1 hb2
      gi_wp2
      refine ⟨trivial, (callsIn_wide.2 S2).mono ?_⟩
      rintro e v3 ⟨rfl, hb3⟩
      have hv3 := below_then hv2 hb3
      clear S2 hv2 hb3
      gi_wp2
      gi_meet
      case rel => exact ⟨rfl, _, rfl, hv3⟩
  case rest =>
    obtain ⟨rfl, W4, rfl, HB34⟩ := hcut
    have c7 := (boxed_below H73.out HB34.out).cell
    have PA := pairs_any (some ⟨bp, 0, none⟩) W4
    gi_wp2
    refine ⟨trivial, (callsIn_wide.2 PA).mono ?_⟩
    rintro e V0 ⟨rfl, hV0⟩
    have hBs : V0.heap[W4.heap.size]? = some (.cells #[.pointer (some ⟨bp, 0, none⟩)] 26 (0, 0)) := by rw [hV0]; exact box_new W4 _ _
    have hb40 : Below W4.heap.size W4 V0 := by rw [hV0]; exact (Below.refl _ _).alloc (Nat.le_refl _) _
    have hb30 := below_then HB34.out hb40
    have HB0 := Lib.hid (HB3.out.below hb30)
    have HB30 := Lib.hid hb30
    have hs30 : W3.heap.size ≤ V0.heap.size := hb30.size
    obtain ⟨q4, hq4⟩ : ∃ q4, W4.heap.size = q4 := ⟨_, rfl⟩
    rw [hq4] at hBs
    clear hV0 PA hb40 hb30
    rw [hq4]
    gi_wp2
    refine wpIn_rangeFunc_ownH hro h1 (gf := 34) (lb := #[.pointer (some ⟨q4, 0, none⟩)]) rfl trivial (enters_of Tryz.func34 (by kernel_rfl) rfl)
      (pairs_stopsS (9 - 1) (by omega) (fun _ => False) q4 HB0.out.m (by have := HB0.out.few; omega) hBs (fun k h => h.elim)) (fun h k => h.trans k) (fun W l o o' _ h1 h2 h3 => KpS.put W l o o' h1 h2 h3) (Below.refl _ _) (fun _ => rfl)
      (fun _ W => Below V0.heap.size V0 W) (fun _ (_ : List (OkPr md)) _ => False)
      (ownFrom_below (Nat.le_refl _) (Nat.le_refl _)) (fun _ _ _ _ _ hs _ _ => hs) (Below.refl _ _)
      (fun z a' W => ∃ q, V0.heap.size ≤ q ∧ a' = { tmps := #[Value.agg #[Value.string s, Value.string o], Value.int IntKind.i32 x, Value.int IntKind.i32 y, Value.pointer (some { block := w.heap.size, off := 0 }), undef, undef, Value.pointer (some { block := w.heap.size + 1, off := 0 }), Value.pointer (some { block := qb, off := 0 }), Value.int IntKind.i64 0, Value.int IntKind.i32 r, Value.bool is, Value.string (mk8 kd), Value.slice A il.length cp, Value.func (Fn.func 34) #[] #[Value.pointer (some { block := q4, off := 0 })], runeV z.1.1, Value.pointer (some { block := q, off := 0 }), undef, undef, undef, undef, Value.agg #[Value.string s, Value.string o], Value.bool true, Value.bool false, undef, Value.tuple #[Value.pointer (some { block := bp, off := 0 }), Value.int IntKind.i64 0], Value.pointer (some { block := w.heap.size, off := 0 }), Value.string s, Value.pointer (some { block := w.heap.size, off := 1 }), Value.string o, Value.tuple #[Value.pointer (some { block := bp, off := 0 }), Value.int IntKind.i64 0], Value.pointer (some { block := bp, off := 0 }), Value.int IntKind.i64 0, Value.int IntKind.i64 0, Value.bool false, Value.bool false, Value.pointer (some { block := bp, off := 0 }), Value.bool false, Value.bool false, undef, undef, undef, undef, undef, undef, undef, undef, undef, Value.tuple #[Value.int IntKind.i32 r, Value.bool is], Value.pointer (some { block := bp, off := 0 }), Value.int IntKind.i32 x, Value.int IntKind.i32 y, Value.tuple #[Value.int IntKind.i32 r, Value.bool is], Value.int IntKind.i32 r, Value.bool is, Value.tuple #[Value.string (mk8 kd), Value.slice A il.length cp], Value.pointer (some { block := bp, off := 0 }), Value.int IntKind.i32 r, Value.tuple #[Value.string (mk8 kd), Value.slice A il.length cp], Value.string (mk8 kd), Value.slice A il.length cp, u60, u61, u62, u63, u64, u65, u66, u67, u68, u69, u70, u71, u72, u73, u74, u75, u76, u77, u78, u79, u80, u81, u82, u83, u84, u85, u86, u87, u88, u89, u90, u91, Value.bool false, Value.pointer (some { block := bp, off := 0 }), Value.func (Fn.func 34) #[] #[Value.pointer (some { block := q4, off := 0 })], Value.func (Fn.func 34) #[] #[Value.pointer (some { block := q4, off := 0 })], Value.bool false, Value.func (Fn.func 34) #[] #[Value.pointer (some { block := q4, off := 0 })], runeV z.1.1, pairV z.1.2, u100, u101, u102, u103, u104, u105, u106, u107, u108, u109, u110, u111, u112, u113, u114, u115, u116, u117, u118, u119, u120, u121, u122, u123, u124, u125, u126, u127, u128, u129, u130, u131, u132, u133, u134, u135, u136, u137, u138, u139, u140, u141, u142, u143, u144, u145, u146, u147, u148, u149, u150, u151, u152, u153, u154, u155, u156], defers := [] } ∧ W.cell? ⟨q, 0, none⟩ = some (.int .i32 z.1.2.1) ∧ W.cell? ⟨q, 1, none⟩ = some (.int .i32 z.1.2.2))
      (fun x a' u W W' row ⟨q, hq, e, h1, h2⟩ hg hr => ⟨q, hq, e, cell_kept h1 hg (fun r e => (hr r e).2), cell_kept h2 hg (fun r e => (hr r e).2)⟩) ?assign ?body ?done ?stop
    case assign =>
      rintro l pre ⟨⟨c, u, v⟩, hxm⟩ W K hi hK
      gi_wp2
      refine hK _ _ (keeps_wrote (alloc_wrote W _ (fun _ => False)) (fun _ _ _ h => h)) (KpS.of_wrote (alloc_wrote W _ _)) (hi.alloc hi.size _) ⟨W.heap.size, hi.size, rfl, box_cell (box_new W #[.int .i32 u, .int .i32 v] 46) 0 rfl, box_cell (box_new W #[.int .i32 u, .int .i32 v] 46) 1 rfl⟩
    case body =>
      rintro l pre ⟨⟨c, u, v⟩, hxm⟩ a' W _ _ hi ⟨q, hq, rfl, e0, e1⟩ hlt
      simp only [] at e0 e1 hxm
      obtain ⟨hcR, huR, hvR, hp, hd, hcc, hcu, hsv⟩ := HB0.out.okp c u v hxm
      have hB3W : ∀ W', Below W.heap.size W W' → Below W3.heap.size W3 W' := fun W' h => (HB30.out.trans (hi.mono hs30)).trans (h.mono (by have := hi.size; omega))
      have hB0W : ∀ W', Below W.heap.size W W' → Below V0.heap.size V0 W' := fun W' h => below_then hi h
      have hte : (mk8 ([] : List UInt8)).toList.isEmpty = true := by rw [toList_bs, bs_mk8]; rfl
      have hqW2 := World.block_lt_of_cell? W _ e0
      have Q0 : Hid (∀ W', Below W.heap.size W W' → W'.cell? ⟨q, 0, none⟩ = some (.int .i32 u) ∧ W'.cell? ⟨q, 1, none⟩ = some (.int .i32 v)) := fun W' h => ⟨(h.cell (p := ⟨q, 0, none⟩) hqW2).trans e0, (h.cell (p := ⟨q, 1, none⟩) hqW2).trans e1⟩
      have c7 := (boxed_below H73.out (hB3W W (Below.refl _ _))).cell
      have KB : Hid (∀ W', Below W.heap.size W W' → Kinds W') := fun W' h => HKK.out.below' (below_then HBW3.out (hB3W W' h))
      have D1 := decomp_is (HB0.out.is.below (hB0W W (Below.refl _ _))) c hcR (KB.out W (Below.refl _ _))
      have P1 : Hid (∀ W', Below W.heap.size W W' → Calls Tryz.prog 17 #[.pointer (some ⟨bp, 0, none⟩), .int .i32 u, .int .i32 v] W' fun e w' => e = .returned (.tuple #[.int .i32 c, .bool true]) ∧ Below W'.heap.size W' w') := fun W' h => by
        have := pair_is (HB0.out.is.below (hB0W W' h)) u v huR hvR (KB.out W' h)
        rw [hp] at this
        exact this
      have C1 : Hid (∀ W', Below W.heap.size W W' → Calls Tryz.prog 16 #[.pointer (some ⟨bp, 0, none⟩), .int .i32 c] W' fun e w' => e = .returned (.int .i64 0) ∧ Below W'.heap.size W' w') := fun W' h => by
        have := class_is (HB0.out.is.below (hB0W W' h)) c hcR
        rw [hcc] at this
        exact this
      have C2 : Hid (∀ W', Below W.heap.size W W' → Calls Tryz.prog 16 #[.pointer (some ⟨bp, 0, none⟩), .int .i32 u] W' fun e w' => e = .returned (.int .i64 0) ∧ Below W'.heap.size W' w') := fun W' h => by
        have := class_is (HB0.out.is.below (hB0W W' h)) u huR
        rw [hcu] at this
        exact this
      have S1 : Hid (∀ W', Below W.heap.size W W' → Calls Tryz.prog 18 #[.pointer (some ⟨bp, 0, none⟩), .int .i32 v] W' fun e w' => e = .returned (.bool true) ∧ Below W'.heap.size W' w') := fun W' h => by
        have := sec_is (HB0.out.is.below (hB0W W' h)) v hvR (KB.out W' h)
        rw [hsv] at this
        exact this
      have BX : Hid (∀ W', Below W.heap.size W W' → W'.cell? ⟨qb, 0, none⟩ = some (.pointer (some ⟨bp, 0, none⟩))) := fun W' h => (boxed_below H73.out (hB3W W' h)).cell
      rw [hd] at D1
      have HIW := Lib.hid hB0W
      clear hcR huR hvR hp hd hcc hcu hsv hi hlt hB3W hB0W
      dsimp only [runeV, pairV]
      gi_wp2
      refine ⟨trivial, (CallsIn.inRound l (callsIn_wide.2 D1)).mono ?_⟩
      rintro e w1 ⟨A1, cp1, rfl, hown, hb1⟩
      obtain ⟨A2, c2, hv2, _, _, hrd⟩ := Rd.of_own hown
      injection hv2 with e2 _ e3
      subst e2 e3
      obtain ⟨q0, q1⟩ := Q0.out w1 hb1
      have c7 := BX.out w1 hb1
      have P2 := P1.out w1 hb1
      clear D1 e0 e1 hown
      gi_wp2
      refine ⟨trivial, (CallsIn.inRound l (callsIn_wide.2 P2)).mono ?_⟩
      rintro e w2 ⟨rfl, hb2⟩
      have hb12 := below_then hb1 hb2
      obtain ⟨q0, q1⟩ := Q0.out w2 hb12
      have hrd2 := hrd.below hb2
      have hbA : Below w2.heap.size w2 (w2.alloc (.cells #[.int .i32 u, .int .i32 v] 21)) := (Below.refl _ _).alloc (Nat.le_refl _) _
      have RN := runes_any A1 (some ⟨w2.heap.size, 0, none⟩) 2 2 cp1 2 [u, v] [u, v] (w2.alloc (.cells #[.int .i32 u, .int .i32 v] 21)) (hrd2.below hbA) (Rd.new _ _ [.int .i32 u, .int .i32 v]) (by omega) (by omega)
      rw [decide_eq_true (rfl : [u, v] = [u, v])] at RN
      have hb13 := below_then hb12 hbA
      have HB13 := Lib.hid hb13
      clear P2 hb1 hb2 hrd hrd2 hbA hb12 hb13
      gi_wp2
      refine ⟨trivial, (CallsIn.inRound l (callsIn_wide.2 RN)).mono ?_⟩
      rintro e w3 ⟨rfl, hd⟩
      have hb3 := HB13.out.trans ((hd.below _).mono HB13.out.size)
      obtain ⟨q0, q1⟩ := Q0.out w3 hb3
      have c7 := BX.out w3 hb3
      have CC := C1.out w3 hb3
      clear RN hd
      gi_wp2
      refine ⟨trivial, (CallsIn.inRound l (callsIn_wide.2 CC)).mono ?_⟩
      rintro e w4 ⟨rfl, hb4⟩
      have hb4 := below_then hb3 hb4
      obtain ⟨q0, q1⟩ := Q0.out w4 hb4
      have c7 := BX.out w4 hb4
      have CC2 := C2.out w4 hb4
      clear CC hb3
      gi_wp2
      refine ⟨trivial, (CallsIn.inRound l (callsIn_wide.2 CC2)).mono ?_⟩
      rintro e w5 ⟨rfl, hb5⟩
      have hb5 := below_then hb4 hb5
      obtain ⟨q0, q1⟩ := Q0.out w5 hb5
      have c7 := BX.out w5 hb5
      have SS := S1.out w5 hb5
      clear CC2 hb4
      gi_wp2
      refine ⟨trivial, (CallsIn.inRound l (callsIn_wide.2 SS)).mono ?_⟩
      rintro e w6 ⟨rfl, hb6⟩
      have hb6 := below_then hb5 hb6
      clear SS hb5
      gi_wp2
      exact ⟨keeps_wrote (S := fun _ => False) (Wrote.of_below hb6) (fun _ _ _ h => h), KpS.of_wrote (Wrote.of_below hb6), HIW.out _ hb6⟩
    case stop =>
      rintro D c pre W _ _ h
      exact h.elim
    case done =>
      rintro D1 ys W hD _ hW hK
      have hb3W : Below W3.heap.size W3 W := HB30.out.trans (hW.mono hs30)
      have HB3W := Lib.hid hb3W
      have HK := Lib.hid hK
      have hDl := (Array.getElem?_eq_some_iff.1 hK).1
      have hsW := hb3W.size
      have AW := awake8_any W (HEE.out.below (below_then HBW3.out hb3W)) (HKK.out.below' (below_then HBW3.out hb3W))
      clear hW hK hb3W hBs
      gi_wp2
      refine ⟨trivial, (callsIn_wide.2 AW).mono ?_⟩
      rintro e v ⟨rfl, hb⟩
      have b6 := boxed_below H63.out (below_then HB3W.out hb)
      have c6 := b6.cell
      have f6 := b6.frozen
      have HBV := Lib.hid hb
      have hsV := hb.size
      clear AW hb
      gi_wp2
      have z6 := b6.set (.bool true)
      have hWF : Wrote (fun k => k = w.heap.size + 1) v (v.setCell ⟨w.heap.size + 1, 0, none⟩ (.bool true)) := Wrote.setCell (S := fun k => k = w.heap.size + 1) (.inl rfl) _
      have hbF := (below_then HBW3.out (below_then HB3W.out HBV.out)).trans (hWF.below (B := w.heap.size) (by rintro k e; omega) (by omega))
      have e1 := hWF.blk ((HBV.out.block D1 hDl).trans HK.out) (by omega)
      generalize v.setCell ⟨w.heap.size + 1, 0, none⟩ (.bool true) = V2 at *
      have k6 := (z6.kept (grownBy_putObj' V2 D1 (.deferred none)) (by simp; omega)).cell
      have hbG : Below w.heap.size w (V2.putObj D1 (.deferred none)) := hbF.trans (belowK_b (w := w) (Nat.le_refl _) _ D1 _ _ (by omega) e1 rfl rfl)
      refine leave1 e1 ⟨.bool true, ?_, rfl, hbG⟩
      simp [results, Tryz.f5, go_sem, k6]
set_option maxRecDepth 100000 in
set_option maxHeartbeats 4000000 in
theorem basepairs_few (s o : ByteArray) (x y : Int) (hE : Env w) (hk : Kinds w) (hs : ¬ (s.size ≤ 3000 ∧ o.size ≤ 500)) :
    Calls Tryz.prog 5 #[.agg #[.string s, .string o], .int .i32 x, .int .i32 y] w fun e w' => e = .returned (.bool true) ∧ Below w.heap.size w w' := by
  refine (callsIn_wide (n := 9)).1 ?_
  have hro : Fence.wide.round = none := rfl
  have h1 : 1 ≤ 9 := by omega
  obtain ⟨W0, hW0⟩ : ∃ W0, (w.alloc (.cells #[.string s, .string o] 23)).alloc (.cells #[.bool false] 4) = W0 := ⟨_, rfl⟩
  have hsz : W0.heap.size = w.heap.size + 2 := by rw [← hW0]; simp
  have hB0 : Below w.heap.size w W0 := by
    rw [← hW0]
    exact ((Below.refl _ w).alloc (Nat.le_refl _) _).alloc (by simp) _
  have bx1 : W0.heap[w.heap.size]? = some (.cells #[.string s, .string o] 23 (0, 0)) := by
    rw [← hW0]
    exact (Below.heap_alloc _ _ _ (by simp)).trans (box_new w _ _)
  have bx2 : Boxed W0 (w.heap.size + 1) 4 (.bool false) := by
    rw [← hW0]
    have := Boxed.new (w.alloc (.cells #[.string s, .string o] 23)) 4 (.bool false)
    rwa [World.size_alloc] at this
  have FW := few8_not s o W0 hs
  have hc0 := box_cell bx1 0 rfl
  have hc1 := box_cell bx1 1 rfl
  refine callsIn_of_wp_marks Tryz.func5 rfl trivial ?_ hro
  simp only [Tryz.ntmps5, List.size_toArray, List.length_cons, List.length_nil, Nat.reduceAdd, Nat.reduceSub, Array.replicate_succ, Array.replicate_zero, List.push_toArray, List.append_toArray, List.nil_append, List.cons_append]
  have hnf : ∀ (f : Fn) (a c : Array Value) (w : World), Sem.run Tryz.prog (binOp BinOp.eql 39 (Value.func f a c) Value.nilFunc) w = .ok (.bool false) w := fun f a c w => by kernel_rfl
  gi_wp2
  clear hW0 hc0 hc1
  refine ⟨trivial, (callsIn_wide.2 FW).mono ?_⟩
  rintro e w1 ⟨rfl, hb1⟩
  have AW := awake8_any w1 (hE.below (below_then hB0 hb1)) (hk.below' (below_then hB0 hb1))
  clear FW
  gi_wp2
  refine ⟨trivial, (callsIn_wide.2 AW).mono ?_⟩
  rintro e v ⟨rfl, hb2⟩
  have hb3 := below_then hb1 hb2
  have hbV := below_then hB0 hb3
  have b6 := boxed_below bx2 hb3
  have c6 := b6.cell
  have f6 := b6.frozen
  clear AW bx1 bx2 hb1 hb2 hb3 hB0
  gi_wp2
  have z6 := b6.set (.bool true)
  have hWF : Wrote (fun k => k = w.heap.size + 1) v (v.setCell ⟨w.heap.size + 1, 0, none⟩ (.bool true)) := Wrote.setCell (S := fun k => k = w.heap.size + 1) (.inl rfl) _
  have hbF := hbV.trans (hWF.below (B := w.heap.size) (by rintro k e; omega) (by have := hbV.size; omega))
  have k6 := z6.cell
  refine ⟨.bool true, ?_, rfl, hbF⟩
  simp [results, Tryz.f5, go_sem, k6]
set_option maxRecDepth 100000 in
set_option maxHeartbeats 4000000 in
theorem basepairs_bad (s o : ByteArray) (x y : Int) (hE : Env w) (hk : Kinds w) (hs : s.size ≤ 3000) (ho : o.size ≤ 500) (hC : ¬ NewC (bs s) (bs o)) :
    Calls Tryz.prog 5 #[.agg #[.string s, .string o], .int .i32 x, .int .i32 y] w fun e w' => e = .returned (.bool true) ∧ Below w.heap.size w w' := by
  refine (callsIn_wide (n := 9)).1 ?_
  have hro : Fence.wide.round = none := rfl
  have h1 : 1 ≤ 9 := by omega
  obtain ⟨W0, hW0⟩ : ∃ W0, (w.alloc (.cells #[.string s, .string o] 23)).alloc (.cells #[.bool false] 4) = W0 := ⟨_, rfl⟩
  have hsz : W0.heap.size = w.heap.size + 2 := by rw [← hW0]; simp
  have hB0 : Below w.heap.size w W0 := by
    rw [← hW0]
    exact ((Below.refl _ w).alloc (Nat.le_refl _) _).alloc (by simp) _
  have bx1 : W0.heap[w.heap.size]? = some (.cells #[.string s, .string o] 23 (0, 0)) := by
    rw [← hW0]
    exact (Below.heap_alloc _ _ _ (by simp)).trans (box_new w _ _)
  have bx2 : Boxed W0 (w.heap.size + 1) 4 (.bool false) := by
    rw [← hW0]
    have := Boxed.new (w.alloc (.cells #[.string s, .string o] 23)) 4 (.bool false)
    rwa [World.size_alloc] at this
  have FW := few8 s o W0 hs ho
  have hc0 := box_cell bx1 0 rfl
  have hc1 := box_cell bx1 1 rfl
  have NW := fun W1 (hb : Below W0.heap.size W0 W1) => new_any (w := W1) s o (hE.below (below_then hB0 hb)) (hk.below' (below_then hB0 hb)) (by omega) (by omega)
  refine callsIn_of_wp_marks Tryz.func5 rfl trivial ?_ hro
  simp only [Tryz.ntmps5, List.size_toArray, List.length_cons, List.length_nil, Nat.reduceAdd, Nat.reduceSub, Array.replicate_succ, Array.replicate_zero, List.push_toArray, List.append_toArray, List.nil_append, List.cons_append]
  have hnf : ∀ (f : Fn) (a c : Array Value) (w : World), Sem.run Tryz.prog (binOp BinOp.eql 39 (Value.func f a c) Value.nilFunc) w = .ok (.bool false) w := fun f a c w => by kernel_rfl
  clear hs ho
  gi_wp2
  clear hW0 hc0 hc1
  refine ⟨trivial, (callsIn_wide.2 FW).mono ?_⟩
  rintro e w1 ⟨rfl, hb1⟩
  have hc0 := (box_cell (box_below bx1 hb1) 0 rfl)
  have hc1 := (box_cell (box_below bx1 hb1) 1 rfl)
  have N1 := NW w1 hb1
  clear FW NW
  gi_wp2
  refine ⟨trivial, (callsIn_wide.2 N1).mono ?_⟩
  rintro e w2 hP
  rcases hP with ⟨_, ⟨er, her, rfl⟩, hb2⟩ | ⟨hn, _⟩
  rotate_left
  · exact absurd hn hC
  have hb02 := below_then hb1 hb2
  have b7 := Boxed.new w2 26 (.pointer none)
  have hb7 : Below w2.heap.size w2 (w2.alloc (.cells #[.pointer none] 26)) := (Below.refl _ _).alloc (Nat.le_refl _) _
  have hb03 := below_then hb02 hb7
  have c7 := b7.cell
  have AW := awake8_any (w2.alloc (.cells #[.pointer none] 26)) (hE.below (below_then hB0 hb03)) (hk.below' (below_then hB0 hb03))
  have hne : (er == 0) = false := by simpa using her
  have hne2 : (er != 0) = true := by simpa using her
  clear N1 hb1 hb2 hb02 hb7 hC her
  gi_wp2
  refine ⟨trivial, (callsIn_wide.2 AW).mono ?_⟩
  rintro e v ⟨rfl, hb2⟩
  have hb3 := below_then hb03 hb2
  have hbV := below_then hB0 hb3
  have b6 := boxed_below bx2 hb3
  have c6 := b6.cell
  have f6 := b6.frozen
  clear AW bx1 bx2 hb2 hb3 hB0 hb03
  gi_wp2
  have z6 := b6.set (.bool true)
  have hWF : Wrote (fun k => k = w.heap.size + 1) v (v.setCell ⟨w.heap.size + 1, 0, none⟩ (.bool true)) := Wrote.setCell (S := fun k => k = w.heap.size + 1) (.inl rfl) _
  have hbF := hbV.trans (hWF.below (B := w.heap.size) (by rintro k e; omega) (by have := hbV.size; omega))
  have k6 := z6.cell
  refine ⟨.bool true, ?_, rfl, hbF⟩
  simp [results, Tryz.f5, go_sem, k6]
theorem basepairs_yes (s o : ByteArray) (x y : Int) (w : World) (hE : Env w) (hk : Kinds w) (hx1 : -2147483648 ≤ x) (hx2 : x < 2147483648) (hy1 : -2147483648 ≤ y) (hy2 : y < 2147483648) :
    Calls Tryz.prog 5 #[.agg #[.string s, .string o], .int .i32 x, .int .i32 y] w fun e w' => e = .returned (.bool true) ∧ Below w.heap.size w w' := by
  by_cases hf : s.size ≤ 3000 ∧ o.size ≤ 500
  · by_cases hC : NewC (bs s) (bs o)
    · exact basepairs_main s o x y hE hk ⟨hx1, hx2⟩ ⟨hy1, hy2⟩ hf.1 hf.2 hC
    · exact basepairs_bad s o x y hE hk hf.1 hf.2 hC
  · exact basepairs_few s o x y hE hk hf
end
end Go.Proofs.YtggichcfklbjiaaGreatDoor
end
