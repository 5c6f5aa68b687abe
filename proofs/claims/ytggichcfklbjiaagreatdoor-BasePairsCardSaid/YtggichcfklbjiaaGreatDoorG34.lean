/- slices.BinarySearch at characters: whether one is on a rising list. The pairs of a base, gone through. -/
import Derived.Test.YtggichcfklbjiaaGreatDoorG28
import Derived.Test.YtggichcfklbjiaaGreatDoorG04
section
set_option linter.unusedSimpArgs false
set_option linter.unusedVariables false
namespace Go.Proofs.YtggichcfklbjiaaGreatDoor
open Go.RowKit Go.Lib Go.Maps

theorem cmpNaN_any (x : Int) (w : World) : Calls Tryz.prog 105 #[.int .i32 x] w fun e w' => e = .returned (.bool false) ∧ w' = w := by
  go_enter Tryz.func105, Tryz.ntmps105
  go_wp2
  go_returns
  exact ⟨rfl, rfl⟩
theorem slNaN_any (x : Int) (w : World) : Calls Tryz.prog 84 #[.int .i32 x] w fun e w' => e = .returned (.bool false) ∧ w' = w := by
  go_enter Tryz.func84, Tryz.ntmps84
  go_wp2
  go_returns
  exact ⟨rfl, rfl⟩
theorem cmpLess_any (x y : Int) (w : World) : Calls Tryz.prog 83 #[.int .i32 x, .int .i32 y] w fun e w' => e = .returned (.bool (decide (x < y))) ∧ w' = w := by
  go_enter Tryz.func83, Tryz.ntmps83
  go_wp2_with (first | (go_at_call 105; refine (cmpNaN_any _ _).mono ?_; rintro e w' ⟨rfl, rfl⟩) | go_in)
  go_returns
  exact ⟨rfl, rfl⟩
/-- The list rises. -/
def Rises (ks : List Int) : Prop := ks.Pairwise (· < ·)
theorem Rises.lt {ks : List Int} (h : Rises ks) {i j : Nat} {x y : Int} (hx : ks[i]? = some x) (hy : ks[j]? = some y) (hij : i < j) : x < y := by
  obtain ⟨h1, rfl⟩ := List.getElem?_eq_some_iff.1 hx
  obtain ⟨h2, rfl⟩ := List.getElem?_eq_some_iff.1 hy
  exact List.pairwise_iff_getElem.1 h i j h1 h2 hij
theorem half_mid {lo hi : Nat} (h1 : lo < hi) (h2 : hi ≤ 1000000) : lo ≤ (lo + hi) / 2 ∧ (lo + hi) / 2 < hi := by omega
set_option maxRecDepth 100000 in
set_option maxHeartbeats 4000000 in
theorem bsearch_any (A : Option Addr) (n c : Nat) (ks : List Int) (t : Int) (w : World) (hr : Rd w A n (Rs ks)) (hn : n ≤ 1000000) (hS : Rises ks) :
    Calls Tryz.prog 56 #[.slice A n c, .int .i32 t] w fun e w' => (∃ i : Int, e = .returned (.tuple #[.int .i64 i, .bool (decide (t ∈ ks))])) ∧ w' = w := by
  have hll : ks.length = n := by have := hr.1; simpa [Rs] using this
  have HLL := Lib.hid hll
  have HS := Lib.hid hS
  clear hll hS
  go_enter Tryz.func56, Tryz.ntmps56
  go_wp2
  go_loopw [7, 8] (fun a b wr => ∃ lo hi : Nat, lo ≤ hi ∧ hi ≤ n ∧ a = .int .i64 lo ∧ b = .int .i64 hi ∧ Hid (∀ j x, j < lo → ks[j]? = some x → x < t) ∧ Hid (∀ j x, hi ≤ j → ks[j]? = some x → t ≤ x) ∧ wr = w) (fun a b _ => (intOf b - intOf a).toNat)
  case atStart => exact ⟨0, n, Nat.zero_le _, Nat.le_refl _, rfl, rfl, Lib.hid (fun j x h => absurd h (Nat.not_lt_zero _)), Lib.hid (fun j x h hx => by have := (List.getElem?_eq_some_iff.1 hx).1; have := HLL.out; omega), by trivial⟩
  case round =>
    obtain ⟨lo, hi, h1, h2, rfl, rfl, H1, H2, rfl⟩ := hrel
    by_cases hlt : lo < hi
    · have hlt' : (lo : Int) < (hi : Int) := by omega
      obtain ⟨m1, m2⟩ := half_mid hlt (by omega)
      obtain ⟨m, hm⟩ : ∃ m, m = (lo + hi) / 2 := ⟨_, rfl⟩
      rw [← hm] at m1 m2
      have hmq : ((lo : Int) + (hi : Int)) / 2 = (m : Int) := by omega
      have hmn : (m : Int) < (n : Int) := by omega
      obtain ⟨x, hx⟩ : ∃ x, ks[m]? = some x := ⟨_, List.getElem?_eq_getElem (by rw [HLL.out]; omega)⟩
      obtain ⟨b, off, rfl, hbl, hcx⟩ := hr.at_ (by omega)
      have c0 : wr.cell? ⟨b, off + m, none⟩ = some (.int .i32 x) := hcx m _ (by simp [Rs, hx])
      have HX := Lib.hid hx
      clear hx hcx hbl hm
      by_cases hxt : x < t
      · have HC := cmpLess_any x t wr
        rw [decide_eq_true hxt] at HC
        have hmw : wrap64 ((m : Int) + 1) = (m : Int) + 1 := by unfold wrap64; omega
        go_wp2_with (first | (go_at_call 83; refine HC.mono ?_; rintro e w' ⟨rfl, rfl⟩) | go_in)
        go_roundw
        case rel => exact ⟨m + 1, hi, by omega, h2, by go_num, rfl, Lib.hid (fun j y hj hy => by
          by_cases e : j = m
          · subst e; have := HX.out; rw [hy] at this; injection this with e2; rw [e2]; exact hxt
          · have := HS.out.lt hy HX.out (by omega); omega), H2, by trivial⟩
        case measure => simp [intOf]; omega
      · have HC := cmpLess_any x t wr
        rw [decide_eq_false hxt] at HC
        go_wp2_with (first | (go_at_call 83; refine HC.mono ?_; rintro e w' ⟨rfl, rfl⟩) | go_in)
        go_roundw
        case rel => exact ⟨lo, m, by omega, by omega, rfl, by go_num, H1, Lib.hid (fun j y hj hy => by
          by_cases e : j = m
          · subst e; have := HX.out; rw [hy] at this; injection this with e2; rw [e2]; omega
          · have := HS.out.lt HX.out hy (by omega); omega), by trivial⟩
        case measure => simp [intOf]; omega
    · obtain rfl : lo = hi := by omega
      have hnl : ¬ ((lo : Int) < (lo : Int)) := by omega
      by_cases hend : lo < n
      · obtain ⟨x, hx⟩ : ∃ x, ks[lo]? = some x := ⟨_, List.getElem?_eq_getElem (by rw [HLL.out]; omega)⟩
        obtain ⟨b, off, rfl, hbl, hcx⟩ := hr.at_ (by omega)
        have c0 : wr.cell? ⟨b, off + lo, none⟩ = some (.int .i32 x) := hcx lo _ (by simp [Rs, hx])
        have HX := Lib.hid hx
        have hln : (lo : Int) < (n : Int) := by omega
        have hge := H2.out lo x (Nat.le_refl _) hx
        have N1 := slNaN_any x wr
        have N2 := slNaN_any t wr
        clear hx hcx hbl
        by_cases hxt : x = t
        · subst hxt
          have HM : Hid (decide (x ∈ ks) = true) := decide_eq_true (List.mem_of_getElem? HX.out)
          clear hge
          go_wp2_with (first | (go_at_call 84; refine N1.mono ?_; rintro e w' ⟨rfl, rfl⟩) | go_in)
          go_returns
          rw [HM.out]
          exact ⟨⟨_, by first | rfl | simp⟩, rfl⟩
        · have HM : Hid (decide (t ∈ ks) = false) := decide_eq_false fun hm => by
            obtain ⟨j, hj⟩ := List.mem_iff_getElem?.1 hm
            rcases Nat.lt_trichotomy j lo with h | h | h
            · have := H1.out j t h hj; omega
            · subst h; have := HX.out; rw [hj] at this; injection this with e; exact hxt e.symm
            · have := HS.out.lt HX.out hj h; omega
          have hbq : (x == t) = false := by simpa using hxt
          clear hge
          go_wp2_with (first | (go_at_call 84; first | (refine N1.mono ?_; rintro e w' ⟨rfl, rfl⟩) | (refine N2.mono ?_; rintro e w' ⟨rfl, rfl⟩)) | go_in)
          go_returns
          rw [HM.out]
          exact ⟨⟨_, by first | rfl | simp⟩, rfl⟩
      · obtain rfl : lo = n := by omega
        have HM : Hid (decide (t ∈ ks) = false) := decide_eq_false fun hm => by
          obtain ⟨j, hj⟩ := List.mem_iff_getElem?.1 hm
          have h1 := (List.getElem?_eq_some_iff.1 hj).1
          have := H1.out j t (by rw [HLL.out] at h1; exact h1) hj
          omega
        go_wp2
        go_returns
        rw [HM.out]
        exact ⟨⟨_, by first | rfl | simp⟩, rfl⟩
end Go.Proofs.YtggichcfklbjiaaGreatDoor
end

section
set_option linter.unusedSimpArgs false
set_option linter.unusedVariables false
namespace Go.Proofs.YtggichcfklbjiaaGreatDoor
open Go.RowKit Go.Lib Go.Maps Go.Sort Go.Shelf
attribute [local go_sem] Oper.semAt_some

/-- All cells and maps stand but those of S. -/
def KpS (S : Nat → Prop) (W W' : World) : Prop := W.heap.size ≤ W'.heap.size ∧ ∀ k o, W.heap[k]? = some o → (o.isCells = true ∨ o.isWalk = true) → ¬ S k → W'.heap[k]? = some o
theorem KpS.refl (S : Nat → Prop) (W : World) : KpS S W W := ⟨Nat.le_refl _, fun _ _ h _ _ => h⟩
theorem KpS.trans {S : Nat → Prop} {A B C : World} (h : KpS S A B) (k : KpS S B C) : KpS S A C := ⟨Nat.le_trans h.1 k.1, fun i o hi ho hn => k.2 i o (h.2 i o hi ho hn) ho hn⟩
theorem KpS.put {S : Nat → Prop} (W : World) (l : Nat) (o o' : Obj) (hl : W.heap[l]? = some o) (h1 : o.isCells = false) (h2 : o.isWalk = false) : KpS S W (W.putObj l o') :=
  ⟨by simp [World.putObj], fun k u hk hu _ => by
    have : k ≠ l := fun e => by subst e; rw [hl] at hk; injection hk with hk; subst hk; rw [h1, h2] at hu; rcases hu with hu | hu <;> cases hu
    rw [World.putObj_heap_other this]; exact hk⟩
theorem KpS.of_wrote {S : Nat → Prop} {W W' : World} (h : Wrote S W W') : KpS S W W' := ⟨h.size, fun k o hk _ hn => h.blk hk hn⟩
theorem grown_of_below {W W' : World} (h : Below W.heap.size W W') : W.grownBy W' none := ⟨h.os, h.tape, h.output, h.size, fun k hk _ => h.block k hk⟩
theorem wpListIn_lookF {α β : Type} {P : Program} {K : TypeId} {mk : α → Value} {lit : α → Lit} {ok : α → Prop} {mkV : β → Value} {w : World} {b m : Nat} {f : α → Option β} {F : Fence} {n : Nat} {ops : Array Oper} {rest : List Oper} {o : Oper} {a : Act} {Q : Exit → Act → World → Prop}
    {t e : TypeId} {zv : β} {both : Bool} (hg : o.guard = none) (mm x : Operand) (hop : o.op = Op.lookup t mm x both) (B : KeyB P K mk lit ok) (ht : P.underlying t = some (.map K e)) (hz : (zeroValue e).run P w = .ok (mkV zv) w)
    (h : MapF w P K lit ok mkV b m f) {k : α} (hk : ok k) (hm : a.eval mm = .map (some b)) (hx : a.eval x = mk k)
    (hK : wpListIn F n P ops Q rest (a.put o.dst (if both then .tuple #[mkV ((f k).getD zv), .bool (f k).isSome] else mkV ((f k).getD zv))) w) : wpListIn F n P ops Q (o :: rest) a w := by
  refine wpListIn_plain hg fun K' hK' => ?_
  have hrun := h.look B ht hz hk both
  unfold Oper.wpIn
  refine ⟨by simp [Oper.about, hop], ?_⟩
  rw [Oper.semAt_plain F _ _ (by rw [hop]; intro c hc'; cases hc')]
  simp [execOp, hop, hm, hx, hrun, Result.andThen]
  exact hK' _ _ hK
theorem KpS.cells {S : Nat → Prop} {W W' : World} (h : KpS S W W') {g : Nat} {cs : Array Value} {t : TypeId} {fr : Nat × Nat} (hg : W.heap[g]? = some (.cells cs t fr)) (hn : ¬ S g) : W'.heap[g]? = some (.cells cs t fr) := h.2 g _ hg (.inl rfl) hn
theorem KpS.mapF {S : Nat → Prop} {W W' : World} (h : KpS S W W') {α β : Type} {P : Program} {K : TypeId} {lit : α → Lit} {ok : α → Prop} {mkV : β → Value} {b n : Nat} {f : α → Option β} (hm : MapF W P K lit ok mkV b n f) (hn : ¬ S b) : MapF W' P K lit ok mkV b n f := by
  obtain ⟨D, ⟨es, clock, hb, r⟩, s⟩ := hm
  exact ⟨D, ⟨es, clock, h.2 b _ hb (.inr rfl) hn, r⟩, s⟩
/-- A character and its two, as the iterator gives them. -/
abbrev prC (x : Int × (Int × Int)) : Array Value := #[runeV x.1, pairV x.2]
/-- What comes: the keys, each with what stands at it. -/
def withM (md : Int → Option (Int × Int)) (ks : List Int) : List (Int × (Int × Int)) := ks.map fun k => (k, (md k).getD (0, 0))
theorem withM_take (md : Int → Option (Int × Int)) (ks : List Int) (k : Nat) : (withM md ks).take k = withM md (ks.take k) := by unfold withM; rw [List.map_take]
section
variable {w : World} {bp n0 : Nat} {a : BAddr} {cls : Int → Int} {prt : Int → Option (List UInt8 × List Int)} {pr : Int × Int → Option Int} {md : Int → Option (Int × Int)} {sc : Int → Option Int}
set_option maxRecDepth 100000 in
set_option maxHeartbeats 4000000 in
theorem pairs1_in (n : Nat) (hn : 7 ≤ n) (S : Nat → Prop) (l Bs : Nat) (J Jx : List (Int × (Int × Int)) → World → Prop) (W : World) (h : BaseM W bp a n0 cls prt pr md sc) (hn0 : n0 ≤ 1000000) (hBs : W.heap[Bs]? = some (.cells #[.pointer (some ⟨bp, 0, none⟩)] 26 (0, 0)))
    (hS : ∀ k, S k → k < W.heap.size ∧ k ≠ bp ∧ k ≠ a.m3 ∧ k ≠ Bs) (hJ : AbidesFrom W.heap.size J)
    (hY : ∀ pre x W1, J pre W1 → pre.length < n0 → YieldAt Fence.wide (n - 1) Tryz.prog l (prC x) W1 fun e W' => (e = .returned (.bool true) ∧ J (pre ++ [x]) W' ∧ KpS S W1 W') ∨ (e = .returned (.bool false) ∧ Jx (pre ++ [x]) W')) (h0 : J [] W) :
    CallsIn Fence.wide n Tryz.prog 34 #[.func (.yield l) #[] #[], .pointer (some ⟨Bs, 0, none⟩)] W fun e W' => (∃ v, e = .returned v) ∧
      ((∃ ys, (∃ ss, AllKeys R32 md ss ∧ ys = withM md (srt ss)) ∧ J ys W') ∨ (∃ pre, Jx pre W')) := by
  have hro : Fence.wide.round = none := rfl
  have h1 : 1 ≤ n := by omega
  have c3 := box_cell h.box 3 rfl
  have cb := box_cell hBs 0 rfl
  have hm := h.md
  have hbl := hm.lt
  have KY := keysM_any (some a.m3) W
  have ba : Below W.heap.size W (W.alloc (.cells #[.map (some a.m3)] 61)) := (Below.refl _ _).alloc (Nat.le_refl _) _
  have hg := keysM_gives Fence.wide (n - 1 - 1 - 1 - 1) trivial rfl (by omega) W.heap.size a.m3 n0 md (W.alloc (.cells #[.map (some a.m3)] 61)) (by simp) (box_cell (box_new W _ _) 0 rfl) (hm.alloc _)
  have SO := sorted_in (n - 1) (by omega) 62 #[.pointer (some ⟨W.heap.size, 0, none⟩)] (enters_of Tryz.func62 (by kernel_rfl) rfl) _ n0 (by unfold maxLen; omega) (by omega) _ hg
  have HB := Lib.hid h
  have HY := Lib.hid hY
  have HS := Lib.hid hS
  clear hg hY hS
  refine callsIn_of_wp Tryz.func34 rfl trivial ?_ hro
  simp only [Tryz.ntmps34, List.size_toArray, List.length_cons, List.length_nil, Nat.reduceAdd, Nat.reduceSub, Array.replicate_succ, Array.replicate_zero, List.push_toArray, List.append_toArray, List.nil_append, List.cons_append]
  gi_wp2
  refine ⟨trivial, (callsIn_wide.2 KY).mono ?_⟩
  rintro e w' ⟨rfl, rfl⟩
  gi_wp2
  refine ⟨trivial, SO.mono ?_⟩
  rintro e w2 ⟨A, c, ss, rfl, hSS, hown, hA, hle, hb2⟩
  have hb02 : Below W.heap.size W w2 := below_then ba hb2
  have hJ2 : J [] w2 := hJ _ _ _ none h0 (grown_of_below hb02) (fun r e => by cases e)
  obtain ⟨ks, hks⟩ : ∃ ks, ks = srt ss := ⟨_, rfl⟩
  have hkl : ks.length = ss.length := by rw [hks]; exact (srt_perm ss).length_eq
  have hkn : ks.length ≤ n0 := by rw [hkl]; exact hle
  have hkR : ∀ x ∈ ks, R32 x := fun x hx => by rw [hks, (srt_perm ss).mem_iff] at hx; exact ((hSS.2 x).1 hx).1
  obtain ⟨A2, c2, hv2, _, _, hrd⟩ := Rd.of_own hown
  injection hv2 with hA2 hn2 hc2
  rw [← hA2, ← hks, ← hkl] at hrd
  have HBk : Hid (∀ a', A = some a' → W.heap.size ≤ a'.block ∧ ∃ o : Obj, w2.heap[a'.block]? = some o ∧ o.isCells = true) := fun a' ha => by
    rcases hown.2 with ⟨hv, _⟩ | ⟨g, cap, cur, hv, hbase, hgb, _⟩
    · injection hv with e; rw [ha] at e; cases e
    · injection hv with e _ _
      rw [ha] at e
      injection e with e
      subst e
      simp only [World.size_alloc] at hbase
      exact ⟨by show W.heap.size ≤ g; omega, _, hgb, rfl⟩
  clear hn2 hc2 hA2
  have hbB := box_below hBs hb02
  have hbX := box_below h.box hb02
  have hmB := hm.below hb02 hbl
  have HSS := Lib.hid hSS
  have HKS := Lib.hid hks
  clear hown hb2 hSS hks SO KY ba cb c3 h hm hBs h0 hJ hbl hle hA
  gi_wp2
  gi_loopw [14] (fun i wr => ∃ k : Nat, k ≤ ks.length ∧ i = .int .i64 k ∧ J (withM md (ks.take k)) wr ∧ KpS S w2 wr) (fun i _ => ks.length - (intOf i).toNat)
  case atStart => exact ⟨0, Nat.zero_le _, rfl, hJ2, KpS.refl _ _⟩
  case round =>
    obtain ⟨k, hk, rfl, hJs, hKp⟩ := hrel
    by_cases hlt : k < ks.length
    · obtain ⟨x, hx⟩ : ∃ x, ks[k]? = some x := ⟨_, List.getElem?_eq_getElem hlt⟩
      have hxR := hkR x (List.mem_of_getElem? hx)
      obtain ⟨b, off, rfl, hbl, hcx⟩ := hrd.at_ (by omega)
      obtain ⟨hge, o, ho, hoc⟩ := HBk.out _ rfl
      have hnS : ¬ S b := fun hs => by have := (HS.out b hs).1; simp only [] at hge; omega
      have c0 : wr.cell? ⟨b, off + k, none⟩ = some (.int .i32 x) := (World.cell?_of_block ((hKp.2 b o ho (.inl hoc) hnS).trans ho.symm)).trans (hcx k _ (by simp [Rs, hx]))
      have cb := box_cell (hKp.cells hbB (fun hs => (HS.out _ hs).2.2.2 rfl)) 0 rfl
      have c3 := box_cell (hKp.cells hbX (fun hs => (HS.out _ hs).2.1 rfl)) 3 rfl
      have hmW := hKp.mapF hmB (fun hs => (HS.out _ hs).2.2.1 rfl)
      have hi : (k : Int) < (ks.length : Int) := by omega
      have HTK : Hid (withM md (ks.take (k + 1)) = withM md (ks.take k) ++ [(x, (md x).getD (0, 0))]) := by
        show _ = _
        rw [List.take_add_one, hx]
        unfold withM
        simp
      have hll : (withM md (ks.take k)).length < n0 := by unfold withM; rw [List.length_map, List.length_take]; omega
      obtain ⟨fn, tmps, assign, body, hy, hR⟩ := HY.out _ (x, (md x).getD (0, 0)) wr hJs hll
      obtain ⟨two, htwo⟩ : ∃ two, two = (md x).getD (0, 0) := ⟨_, rfl⟩
      have HTW := Lib.hid htwo
      rw [← htwo] at hy hR HTK
      dsimp only [prC, runeV, pairV] at hy
      clear hx hcx hll htwo hbl ho hoc hge hnS hJs
      gi_wp2_with (first | (refine wpListIn_lookF rfl _ _ rfl rune_keyed madeT (zero_two _) hmW (k := x) hxR rfl rfl ?_; rw [← HTW.out]) | gi_in)
      try rw [hy]
      gi_wp2
      refine hR.mono ?_
      rintro e W3 (⟨rfl, hJ3, hk3⟩ | ⟨rfl, hJx3⟩)
      · rw [← HTK.out] at hJ3
        have hn3 := hKp.trans hk3
        clear hk3 hKp hR hy
        gi_wp2
        go_roundw
        case rel => exact ⟨k + 1, by omega, by go_num, hJ3, hn3⟩
        case measure => simp [intOf]; omega
      · clear hKp hR hy
        gi_wp2
        refine bodyPost_ret (results_none rfl _ _ _) rfl ?_
        exact ⟨⟨_, rfl⟩, .inr ⟨_, hJx3⟩⟩
    · obtain rfl : k = ks.length := by omega
      have hki : (ks.length : Int) ≤ (ks.length : Int) := Int.le_refl _
      rw [List.take_length] at hJs
      gi_wp2
      go_end0
      exact ⟨⟨_, rfl⟩, .inl ⟨_, ⟨ss, HSS.out, by rw [HKS.out]⟩, hJs⟩⟩
end
end Go.Proofs.YtggichcfklbjiaaGreatDoor
end
