/- slices.Values, gone through, where something is known of each character. New: both loops, and what is made: the code. -/
import Derived.Test.YtggichcfklbjiaaGreatDoorG27
import Derived.Test.YtggichcfklbjiaaGreatDoorG38
section
set_option linter.unusedSimpArgs false
set_option linter.unusedVariables false
namespace Go.Proofs.YtggichcfklbjiaaGreatDoor
open Go.RowKit Go.Lib Go.Maps Go.Sort Go.Shelf
attribute [local go_sem] Oper.semAt_some

/-- Characters of which something is known. -/
abbrev Ok32 (ok : Int → Prop) := {x : Int // ok x}
section
variable {ok : Int → Prop}
set_option maxRecDepth 100000 in
set_option maxHeartbeats 4000000 in
theorem values1S_in (F : Fence) (n : Nat) (hf : F.fn 57) (hro : F.round = none) (hn : 1 ≤ n) (l Bs b len cap : Nat) (ks : List (Ok32 ok)) (hlen : ks.length = len) (hreach : len ≤ 100000000) (J Jx : List (Ok32 ok) → World → Prop) (W : World)
    (hY : ∀ pre x W, J pre W → pre.length < len → YieldAt F (n - 1) Tryz.prog l #[runeV x.1] W fun e W' =>
      (e = .returned (.bool true) ∧ J (pre ++ [x]) W' ∧ KpV b W W') ∨ (e = .returned (.bool false) ∧ Jx (pre ++ [x]) W'))
    (hBs : W.cell? ⟨Bs, 0, none⟩ = some (.slice (some ⟨b, 0, none⟩) len cap)) (hc : ∀ j u, (Rs (ks.map (·.1)))[j]? = some u → W.cell? ⟨b, 0 + j, none⟩ = some u) (h0 : J [] W) :
    CallsIn F n Tryz.prog 57 #[.func (.yield l) #[] #[], .pointer (some ⟨Bs, 0, none⟩)] W fun e W' => (∃ v, e = .returned v) ∧
      ((∃ ys, ys = ks ∧ J ys W') ∨ (∃ pre, pre <+: ks ∧ Jx pre W')) := by
  refine callsIn_of_wp Tryz.func57 rfl hf ?_ hro
  simp only [Tryz.ntmps57, List.size_toArray, List.length_cons, List.length_nil, Nat.reduceAdd, Nat.reduceSub, Array.replicate_succ, Array.replicate_zero, List.push_toArray, List.append_toArray, List.nil_append, List.cons_append]
  gi_wp2
  gi_loopw [7] (fun i wr => ∃ k : Nat, k ≤ len ∧ i = .int .i64 k ∧ J (ks.take k) wr ∧ KpV b W wr)
    (fun i _ => len - (intOf i).toNat)
  case atStart => exact ⟨0, Nat.zero_le _, rfl, h0, KpV.refl _ _⟩
  case round =>
    obtain ⟨k, hk, rfl, hJs, hnx⟩ := hrel
    by_cases hlt : k < len
    · obtain ⟨x, hx⟩ : ∃ x, ks[k]? = some x := ⟨_, List.getElem?_eq_getElem (by omega)⟩
      have c0 : wr.cell? ⟨b, k, none⟩ = some (.int .i32 x.1) := by
        have := hnx.cell.trans (hc k (.int .i32 x.1) (by simp [Rs, hx]))
        simpa using this
      have hkk : (k : Int) < (len : Int) := by omega
      have hLk : ks.take (k + 1) = ks.take k ++ [x] := by rw [List.take_add_one]; simp [hx]
      have HLK := Lib.hid hLk
      have hll : (ks.take k).length < len := by rw [List.length_take]; omega
      have HX := Lib.hid (And.intro hx hll)
      obtain ⟨fn, tmps, assign, body, hy, hR⟩ := hY _ x _ hJs hll
      dsimp only [runeV] at hy
      clear hx hLk hc hll hY
      gi_wp2
      try rw [hy]
      gi_wp2
      refine hR.mono ?_
      rintro e W3 (⟨rfl, hJ3, hk3⟩ | ⟨rfl, hJx3⟩)
      · rw [← HLK.out] at hJ3
        have hn3 := hnx.trans hk3
        clear hk3 hnx hR hy
        gi_wp2
        go_roundw
        case rel => exact ⟨k + 1, by omega, by simp, hJ3, hn3⟩
        case measure => simp [intOf]; omega
      · rw [← HLK.out] at hJx3
        clear hnx hR hy
        gi_wp2
        refine bodyPost_ret (results_none rfl _ _ _) rfl ?_
        exact ⟨⟨_, rfl⟩, .inr ⟨_, List.take_prefix _ _, hJx3⟩⟩
    · obtain rfl : k = len := by omega
      have hki : (k : Int) ≤ (k : Int) := Int.le_refl _
      gi_wp2
      go_end0
      exact ⟨⟨_, rfl⟩, .inl ⟨_, rfl, by rwa [List.take_of_length_le (by omega)] at hJs⟩⟩
set_option maxRecDepth 100000 in
set_option maxHeartbeats 2000000 in
theorem values1S_nil_in (F : Fence) (n : Nat) (hf : F.fn 57) (hro : F.round = none) (l Bs : Nat) (J : List (Ok32 ok) → World → Prop) (W : World) (hBs : W.cell? ⟨Bs, 0, none⟩ = some (.slice none 0 0)) (h0 : J [] W) :
    CallsIn F n Tryz.prog 57 #[.func (.yield l) #[] #[], .pointer (some ⟨Bs, 0, none⟩)] W fun e W' => (∃ v, e = .returned v) ∧ J [] W' := by
  refine callsIn_of_wp Tryz.func57 rfl hf ?_ hro
  simp only [Tryz.ntmps57, List.size_toArray, List.length_cons, List.length_nil, Nat.reduceAdd, Nat.reduceSub, Array.replicate_succ, Array.replicate_zero, List.push_toArray, List.append_toArray, List.nil_append, List.cons_append]
  gi_wp2
  gi_loopw [7] (fun p wr => p = .int .i64 0 ∧ J [] wr) (fun _ _ => 0)
  case atStart => exact ⟨rfl, h0⟩
  case round =>
    obtain ⟨rfl, hj⟩ := hrel
    gi_wp2
    go_end0
    exact ⟨⟨_, rfl⟩, hj⟩
theorem values_stopsS (F : Fence) (n : Nat) (hf : F.fn 57) (hro : F.round = none) (hn : 1 ≤ n) (g Bs : Nat) (ks : List (Ok32 ok)) (hreach : ks.length ≤ 100000000) (w : World) (h : ItAt w g Bs (ks.map (·.1))) :
    SeqStopsK F n Tryz.prog 57 #[.pointer (some ⟨Bs, 0, none⟩)] (fun x : Ok32 ok => #[runeV x.1]) (KpV g) (fun ys => ys = ks) (fun pre => pre <+: ks) ks.length w := fun l J Jx W hW hJa _ hY h0 => by
  obtain ⟨h1, h2⟩ := h
  rcases h2 with ⟨e, h2⟩ | ⟨h2, cap, h3, h4⟩
  · obtain rfl : ks = [] := List.map_eq_nil_iff.1 e
    exact (values1S_nil_in F n hf hro l Bs J W ((hW.cell (p := ⟨Bs, 0, none⟩) h1).trans h2) h0).mono fun e W' ⟨he, hj⟩ => ⟨he, .inl ⟨_, rfl, hj⟩⟩
  · rw [List.length_map] at h3
    exact values1S_in F n hf hro hn l Bs g ks.length cap ks rfl hreach J Jx W hY ((hW.cell (p := ⟨Bs, 0, none⟩) h1).trans h3) (fun j u hu => (hW.cell (p := ⟨g, 0 + j, none⟩) h2).trans (h4 j u hu)) h0
end
end Go.Proofs.YtggichcfklbjiaaGreatDoor
end

section
set_option linter.unusedSimpArgs false
set_option linter.unusedVariables false
namespace Go.Proofs.YtggichcfklbjiaaGreatDoor
open Go.RowKit Go.Lib Go.Maps Go.Sort Go.Shelf
attribute [local go_sem] Oper.semAt_some

/-- Behind New's first loop's rounds. -/
def LpI (D : Int → List Int) (db : Nat) (w6 : World) (pre : List Int) (W : World) : Prop :=
  (∃ dn, MapF W Tryz.prog 21 runeLit R32 intV db 1114112 dn ∧ Marks dn ∧ ∀ x, gd dn x = 1 → Ends D x) ∧ (∀ x ∈ pre, Ends D x) ∧ Wrote (· = db) w6 W
theorem wrote_own {S : Nat → Prop} {w6 W W' : World} {row : Option Nat} (h : Wrote S w6 W) (hg : W.grownBy W' row) (hr : ∀ r, row = some r → w6.heap.size ≤ r) : Wrote S w6 W' := by
  cases row with
  | none => exact h.trans (Wrote.grown hg fun k e => by cases e)
  | some r => exact h.grown_new hg (hr r rfl)
theorem lpI_own (D : Int → List Int) (db : Nat) (w6 : World) (hdb : db < w6.heap.size) : OwnFrom w6.heap.size (LpI D db w6) := fun s W W' row h hg hr => by
  obtain ⟨⟨dn, h1, h2, h3⟩, h4, h5⟩ := h
  exact ⟨⟨dn, h1.kept hg (fun e => by have := (hr db e.symm).1; omega), h2, h3⟩, h4, wrote_own h5 hg fun r e => (hr r e).1⟩
/-- Where the loop is left: what stands in the results' boxes. -/
def LpX (Q : Prop) (S : Nat → Prop) (r4 r5 : Nat) (er : Int) (w6 : World) (c : Code) (pre : List Int) (W : World) : Prop :=
  c = .ret ∧ Q ∧ Wrote (fun k => S k ∨ k = r4 ∨ k = r5) w6 W ∧ Boxed W r4 26 (.pointer none) ∧ Boxed W r5 27 (.int .i64 er)
theorem lpX_own (Q : Prop) (S : Nat → Prop) (r4 r5 : Nat) (er : Int) (w6 : World) (h4 : r4 < w6.heap.size) (h5 : r5 < w6.heap.size) (c : Code) : OwnFrom w6.heap.size (LpX Q S r4 r5 er w6 c) := fun s W W' row h hg hr => by
  obtain ⟨h1, h2, h3, b1, b2⟩ := h
  exact ⟨h1, h2, wrote_own h3 hg fun r e => (hr r e).1, b1.kept hg (fun e => by have := (hr r4 e.symm).1; omega), b2.kept hg (fun e => by have := (hr r5 e.symm).1; omega)⟩
/-- Behind New's second loop's rounds. -/
def MnI (L : Int → Nat) (kb : Nat) (w6 : World) (pre : List Int) (W : World) : Prop := (∃ kn, KSt W kb L kn) ∧ (∀ x ∈ pre, L x ≤ 18) ∧ Wrote (· = kb) w6 W
theorem mnI_own (L : Int → Nat) (kb : Nat) (w6 : World) (hkb : kb < w6.heap.size) : OwnFrom w6.heap.size (MnI L kb w6) := fun s W W' row h hg hr => by
  obtain ⟨⟨kn, h1, h2, h3⟩, h4, h5⟩ := h
  exact ⟨⟨kn, h1.kept hg (fun e => by have := (hr kb e.symm).1; omega), h2, h3⟩, h4, wrote_own h5 hg fun r e => (hr r e).1⟩
theorem leave1 {F : Fence} {n : Nat} {P : Program} {fn : Func} {R : Ending → World → Prop} {tmps : Array Value} {W : World} {D1 : Nat} (h1 : W.heap[D1]? = some (.deferred (some []))) (h : LeavesInM F n P fn tmps R [] .returning (W.putObj D1 (.deferred none))) :
    LeavesInM F n P fn tmps R [{ target := .collected D1, args := #[] }] .returning W := ⟨by simp, .inl ⟨_, _, rfl, run_takeDeferred h1, h⟩⟩
theorem leave2 {F : Fence} {n : Nat} {P : Program} {fn : Func} {R : Ending → World → Prop} {tmps : Array Value} {W : World} {D1 D2 : Nat} (h1 : W.heap[D1]? = some (.deferred (some []))) (h2 : W.heap[D2]? = some (.deferred (some []))) (hne : D1 ≠ D2)
    (h : LeavesInM F n P fn tmps R [] .returning ((W.putObj D2 (.deferred none)).putObj D1 (.deferred none))) :
    LeavesInM F n P fn tmps R [{ target := .collected D2, args := #[] }, { target := .collected D1, args := #[] }] .returning W :=
  ⟨by simp, .inl ⟨_, _, rfl, run_takeDeferred h2, leave1 ((World.putObj_heap_other hne).trans h1) h⟩⟩
theorem cnt_ex (l : List Int) (f : Int → Option Int) : ∃ m, cntL l f < m := ⟨_, Nat.lt_succ_self _⟩
theorem keeps_wrote {S : Nat → Prop} {B : Nat} {W W' : World} (h : Wrote S W W') (hS : ∀ k, B ≤ k → k < W.heap.size → ¬ S k) : KeepsFrom B W W' := ⟨h.size, fun k o hB hk _ => h.blk hk (hS k hB (Array.getElem?_eq_some_iff.1 hk).1)⟩
theorem alloc_wrote (w : World) (o : Obj) (S : Nat → Prop) : Wrote S w (w.alloc o) := .of_below ((Below.refl _ _).alloc (Nat.le_refl _) _)
section
variable {w : World}
set_option maxRecDepth 100000 in
set_option maxHeartbeats 8000000 in
theorem new_main (s o : ByteArray) (hE : Env w) (hk : Kinds w) (hs : s.size ≤ 1073741824) (ho1 : o.size ≤ 1073741824) (h0 : (rowsS (bs s)).2.2 = 0) (h01 : (setsS (bs o)).2.2 = 0) (ht : (rowsS (bs s)).1.any thereB = false) (hf : (rowsS (bs s)).1.any formB = false) : Calls Tryz.prog 9 #[.string s, .string o] w (NewP (bs s) (bs o) w) := by
  have hg := rows_g (bs s)
  have hsv := sets_v (bs o)
  have hsl := setsS_len (bs o)
  refine (callsIn_wide (n := 5)).1 ?_
  have hro : Fence.wide.round = none := rfl
  have h1 : 1 ≤ 5 := by omega
  refine callsIn_of_wp_marks Tryz.func9 rfl trivial ?_ hro
  simp only [Tryz.ntmps9, List.size_toArray, List.length_cons, List.length_nil, Nat.reduceAdd, Nat.reduceSub, Array.replicate_succ, Array.replicate_zero, List.push_toArray, List.append_toArray, List.nil_append, List.cons_append]
  have RW := fun W (hb : Below w.heap.size w W) => rows_any s W (hE.below hb) hs
  have ST := fun W (hb : Below w.heap.size w W) => sets_any o W (hE.below hb) ho1
  have hrl := rowsS_len (bs s)
  obtain ⟨⟨rows, ln, e0⟩, hR⟩ : ∃ R, R = rowsS (bs s) := ⟨_, rfl⟩
  rw [← hR] at RW h0 hrl ht hf hg
  simp only [] at h0 hrl ht hf hg
  subst h0
  obtain ⟨⟨out, ln2, er⟩, hS⟩ : ∃ R, R = setsS (bs o) := ⟨_, rfl⟩
  rw [← hS] at ST h01 hsv hsl
  simp only [] at h01 hsv hsl
  subst h01
  have HG := Lib.hid hg
  have HSV := Lib.hid hsv
  have HP : Hid (∀ e w', (¬ NewOk rows out ∧ NewBad w e w') ∨ (NewOk rows out ∧ NewGood rows out w e w') → NewP (bs s) (bs o) w e w') := fun e w' h => by
    unfold NewP NewC
    rw [← hR, ← hS]
    rcases h with ⟨h1, h2⟩ | ⟨h1, h2⟩
    · exact .inl ⟨fun h => h1 h.2.2, h2⟩
    · exact .inr ⟨⟨rfl, rfl, h1⟩, h2⟩
  have HTH := Lib.hid ht
  have HFO := Lib.hid hf
  have HKW := Lib.hid hk
  clear hR hS hg hsv ht hf hk
  obtain ⟨W0, hW0⟩ : ∃ W0, (w.alloc (.cells #[.pointer none] 26)).alloc (.cells #[.int .i64 0] 27) = W0 := ⟨_, rfl⟩
  have hB0 : Below w.heap.size w W0 := by rw [← hW0]; exact ((Below.refl _ w).alloc (Nat.le_refl _) _).alloc (by simp) _
  have bx1 : Boxed W0 w.heap.size 26 (.pointer none) := by rw [← hW0]; exact (Boxed.new w _ _).alloc _
  have bx2 : Boxed W0 (w.heap.size + 1) 27 (.int .i64 0) := by
    rw [← hW0]
    have := Boxed.new (w.alloc (.cells #[.pointer none] 26)) 27 (.int .i64 0)
    rwa [World.size_alloc] at this
  have RW0 := RW _ hB0
  clear RW
  gi_wp2
  refine ⟨trivial, (callsIn_wide.2 RW0).mono ?_⟩
  rintro e w1 ⟨os, A, c, ho, rfl, hat, hb1⟩
  have hb := below_then hB0 hb1
  have ST1 := ST _ hb
  have by1 := boxed_below bx1 hb1
  have by2 := boxed_below bx2 hb1
  simp only [] at ho
  clear ST bx1 bx2 hb1 hB0 hW0 RW0
  gi_wp2
  refine ⟨trivial, (callsIn_wide.2 ST1).mono ?_⟩
  rintro e w2 ⟨A2, c2, rfl, hown2, hb2⟩
  have b1 := boxed_below by1 hb2
  have b2 := boxed_below by2 hb2
  have hbb := below_then hb hb2
  have hatR := hat.rd.below hb2
  have hnil : ∀ x ∈ os, x.2.1 = none → x.1.il.length = 0 ∧ x.2.2 = 0 := fun x hx hx0 => by
    have := hat.into x hx
    unfold IntoAt at this
    rcases this.2 with ⟨hv, hz⟩ | ⟨g, cap, cur, hv, _⟩
    · injection hv with e1 e2 e3
      exact ⟨hz, e3⟩
    · injection hv with e1 e2 e3
      rw [hx0] at e1
      cases e1
  have TN := trieNew_any w2
  clear by1 by2 hb hb2 ST1 hat
  gi_wp2
  refine ⟨trivial, (callsIn_wide.2 TN).mono ?_⟩
  rintro e w3 ⟨rfl, hT3, hb3, hz3⟩
  have HOL : Hid (os.length = rows.length) := by show _ = _; rw [← ho, List.length_map]
  have hoo : os.length ≤ 4096 := by rw [HOL.out]; exact hrl
  have HO := Lib.hid ho
  obtain ⟨q, hq⟩ : ∃ q, q = w2.heap.size := ⟨_, rfl⟩
  rw [← hq] at hT3 hz3
  obtain ⟨W, hWd, hTI, hV, hbx11, hbW, hzW⟩ := fresh_base (4353 * rows.length) hq hT3 hb3 hz3
  have b3 := boxed_below b1 hbW
  have b4 := boxed_below b2 hbW
  have hbbW := below_then hbb hbW
  have hcW := hbx11.cell
  have HS3 := Lib.hid (And.intro hq hz3)
  have HZW := Lib.hid hzW
  have HQW := Lib.hid hWd
  simp only [← hq]
  have hmm := @run_makeMap Tryz.prog
  have BT := btakes_any hTI hbW (by show w2.heap.size ≤ q; omega) (by show w2.heap.size ≤ q + 2; omega) (by show q ≠ q + 2; omega) A os.length c os hatR rfl (by omega) hnil (fun x hx => HG.out.rowT _ (by rw [← HO.out]; exact List.mem_map_of_mem hx)) (by rw [HO.out]; exact HTH.out) (by rw [HO.out]; exact HFO.out)
  rw [HO.out] at BT
  have HBW := Lib.hid hbW
  have HBBW := Lib.hid hbbW
  have HV := Lib.hid hV
  obtain ⟨A3, cap3, hv3, _, _, hrd2⟩ := Rd.of_own hown2
  injection hv3 with e1 _ _
  subst e1
  clear ho hE hatR hown2 hnil hTI hT3 hb3 hq hzW TN hWd hV hbbW hbW
  gi_wp2
  simp only [show q + 2 + 1 = q + 3 from rfl, show q + 3 + 1 = q + 4 from rfl, show q + 4 + 1 = q + 5 from rfl, show q + 5 + 1 = q + 6 from rfl, show q + 6 + 1 = q + 7 from rfl]
  rw [HQW.out]
  refine ⟨trivial, (callsIn_wide.2 BT).mono ?_⟩
  rintro e w4 ⟨rfl, hTI4⟩
  have hq2 : w2.heap.size = q := HS3.out.1.symm
  have hrq : w.heap.size + 1 < w2.heap.size := by
    have := b2.lt
    omega
  have hWr := hTI4.wrote
  have hbW4 : Below w2.heap.size w2 w4 := HBW.out.trans (hWr.below (by rintro k (rfl | rfl) <;> first | omega | (show w2.heap.size ≤ q; omega) | (show w2.heap.size ≤ q + 2; omega)) HBW.out.size)
  have hM4 := hTI4.toM HV.out (fresh_apart q _) (by rw [HOL.out]) hbW4
  have b5 : Boxed w4 w.heap.size 26 (.pointer none) := hWr.blk b3 (by rintro (e | e) <;> first | omega | (simp only [] at e; omega))
  have b6 : Boxed w4 (w.heap.size + 1) 27 (.int .i64 0) := hWr.blk b4 (by rintro (e | e) <;> first | omega | (simp only [] at e; omega))
  have b7 : Boxed w4 (q + 7) 26 (.pointer (some ⟨q + 6, 0, none⟩)) := hWr.blk hbx11 (by rintro (e | e) <;> first | omega | (simp only [] at e; omega))
  have hbw4 : Below w.heap.size w w4 := hbb.trans (hbW4.mono (by omega))
  have hrd4 := hrd2.below hbW4
  have hk4 := HKW.out.below' hbw4
  have hz4 : q + 8 ≤ w4.heap.size := by have := hWr.size; have := HZW.out; omega
  have c7 := b7.cell
  have HM4 := Lib.hid hM4
  have H5 := Lib.hid b5
  have H6 := Lib.hid b6
  have H7 := Lib.hid b7
  have HBW4 := Lib.hid hbw4
  have HRD4 := Lib.hid hrd4
  have HK4 := Lib.hid hk4
  have HQ2 := Lib.hid hq2
  have hb45 : Below w4.heap.size w4 ((w4.alloc (.map #[] 0)).alloc (.cells #[.map (some w4.heap.size)] 62)) := ((Below.refl _ _).alloc (Nat.le_refl _) _).alloc (by simp) _
  have hmd := (MapF.made w4 Tryz.prog 21 runeLit R32 intV).alloc (.cells #[.map (some w4.heap.size)] 62)
  have KN := known_any (hM4.below hb45) (by omega)
  have b8 : Boxed ((w4.alloc (.map #[] 0)).alloc (.cells #[.map (some w4.heap.size)] 62)) (w4.heap.size + 1) 62 (.map (some w4.heap.size)) := by
    have := Boxed.new (w4.alloc (.map #[] 0)) 62 (.map (some w4.heap.size))
    rwa [World.size_alloc] at this
  have HB45 := Lib.hid hb45
  have HZ5 : Hid (((w4.alloc (.map #[] 0)).alloc (.cells #[.map (some w4.heap.size)] 62)).heap.size = w4.heap.size + 2) := by show _ = _; rw [World.size_alloc, World.size_alloc]
  have cc7 := (boxed_below b7 hb45).cell
  clear hTI4 hWr hbW4 hM4 b5 b6 b7 hbw4 hrd4 hk4 hq2 hb45 b1 b2 b3 b4 BT hbb hbx11 hcW hrd2
  gi_wp2
  refine ⟨trivial, (callsIn_wide.2 KN).mono ?_⟩
  rintro e w6 ⟨g, Bs, ks, rfl, hIt, hAll, hkl, hBs, hg1, hg2, hb56⟩
  have hs56 := hb56.size
  rw [HZ5.out] at hs56 hBs hg1
  have hmd6 := hmd.below hb56 hmd.lt
  have HIN : Hid (∀ r q, prtL rows r = some q → r ∈ allR ∧ (∀ y ∈ q.2, y ∈ allR) ∧ q.2.length ≤ 18 ∧ q.2 ≠ []) := HG.out.into
  obtain ⟨D, hD⟩ : ∃ D, D = fun x => (decH (prtL rows) x).2 := ⟨_, rfl⟩
  have HD := Lib.hid hD
  have hka : ∀ x ∈ ks, x ∈ allR := fun x hx => by
    obtain ⟨_, h2⟩ := (hAll.2 x).1 hx
    obtain ⟨p, hp⟩ := Option.isSome_iff_exists.1 h2
    exact (HIN.out x p hp).1
  obtain ⟨ks', hks⟩ : ∃ ks' : List (Ok32 (· ∈ allR)), ks = ks'.map (·.1) := ⟨ks.attachWith _ hka, by simp⟩
  subst hks
  have HALL := Lib.hid hAll
  have b8' := boxed_below b8 hb56
  have hb46 : Below w4.heap.size w4 w6 := below_then HB45.out hb56
  have HB46 := Lib.hid hb46
  have H8 := Lib.hid b8'
  have hA1 : ∀ x ∈ allR, ∀ y ∈ (decH (prtL rows) x).2, y ∈ allR := fun x _ => decH_allR (fun r q hq => (HIN.out r q hq).2.1) x
  have hA2 : ∀ x, (decH (prtL rows) x).2.length ≤ 18 := decH_len fun r q hq => (HIN.out r q hq).2.2.1
  have LPC : Hid (∀ (W : World) (x : Int) (dn : Int → Option Int), x ∈ allR → Below w4.heap.size w4 W → MapF W Tryz.prog 21 runeLit R32 intV w4.heap.size 1114112 dn → Marks dn → (∀ x, gd dn x = 1 → Ends D x) →
      Calls Tryz.prog 26 #[.pointer (some ⟨q + 6, 0, none⟩), .int .i32 x, .map (some W.heap.size), .map (some w4.heap.size)] (W.alloc (.map #[] 0)) (LoopsP W.heap.size w4.heap.size D (fun _ => none) dn x (W.alloc (.map #[] 0)))) := fun W x dn hx hb hm hmk hok => by
    rw [HD.out] at hok ⊢
    have hsz := hb.size
    have hml := hm.lt
    obtain ⟨m0, hm0⟩ := cnt_ex allR (fun _ => none)
    refine loops_any HM4.out HK4.out hA1 hA2 (by omega) hsz (Nat.le_refl _) m0 (W.alloc (.map #[] 0)) x (fun _ => none) dn hx hm0 (below_then hb ((Below.refl _ _).alloc (Nat.le_refl _) _)) ⟨(MapF.made W _ _ _ _ _).mono (Nat.zero_le _), hm.alloc _, ⟨fun _ => .inl rfl, fun _ _ h => by cases h⟩, hmk, hok⟩ (fun y hy => by cases hy)
  have KPB : ∀ (W : World) (l : Nat) (o o' : Obj), w6.heap.size ≤ l → W.heap[l]? = some o → o.isCells = false → o.isWalk = false → KpV g W (W.putObj l o') := KpV.put hg2
  have hlp0 : LpI D w4.heap.size w6 [] w6 := ⟨⟨_, hmd6.mono (Nat.zero_le _), ⟨fun _ => .inl rfl, fun _ _ h => by cases h⟩, fun x h => by cases h⟩, by simp, Wrote.refl _ _⟩
  have hz6 : w4.heap.size + 2 ≤ w6.heap.size := hs56
  have hlt4 : w.heap.size + 1 < w4.heap.size := by have := HQ2.out; omega
  have hr6 : w.heap.size + 1 < w6.heap.size := by have := HQ2.out; omega
  rw [List.length_map] at hkl
  clear hmd hmd6 b8 hb56 hAll hD hka KN hA1 hA2 hmm cc7 c7 b8' hb46
  gi_wp2
  refine wpIn_rangeFunc_ownG hro h1 (gf := 57) (lb := #[.pointer (some ⟨Bs, 0, none⟩)]) rfl trivial (enters_of Tryz.func57 (by kernel_rfl) rfl)
    (values_stopsS Fence.wide (5 - 1) trivial hro (by omega) g Bs ks' (by omega) w6 hIt) (fun h k => h.trans k) KPB (Below.refl _ _) (fun _ => rfl)
    (fun pre W => LpI D w4.heap.size w6 (pre.map (·.1)) W) (fun c pre W => LpX (∃ x ∈ allR, ¬ Ends D x) (· = w4.heap.size) w.heap.size (w.heap.size + 1) 15 w6 c (pre.map (·.1)) W)
    (fun s A B row h hg hr => lpI_own D w4.heap.size w6 (by omega) _ A B row h hg hr) (fun c s A B row h hg hr => lpX_own (∃ x ∈ allR, ¬ Ends D x) (· = w4.heap.size) w.heap.size (w.heap.size + 1) 15 w6 (by omega) (by omega) c _ A B row h hg hr) hlp0
    (fun x => { tmps := #[Value.string s, Value.string o, undef, undef, Value.pointer (some { block := w.heap.size, off := 0 }), Value.pointer (some { block := w.heap.size + 1, off := 0 }), Value.slice A os.length c, Value.int IntKind.i64 ln, Value.int IntKind.i64 0, Value.slice A2 out.length cap3, Value.int IntKind.i64 ln2, Value.pointer (some { block := q + 7, off := 0 }), Value.int IntKind.i64 0, Value.pointer (some { block := w4.heap.size + 1, off := 0 }), runeV x.1, undef, undef, undef, Value.tuple #[Value.slice A os.length c, Value.int IntKind.i64 ln, Value.int IntKind.i64 0], Value.string s, Value.tuple #[Value.slice A os.length c, Value.int IntKind.i64 ln, Value.int IntKind.i64 0], Value.slice A os.length c, Value.int IntKind.i64 ln, Value.int IntKind.i64 0, Value.int IntKind.i64 0, Value.bool false, undef, Value.tuple #[Value.slice A2 out.length cap3, Value.int IntKind.i64 ln2, Value.int IntKind.i64 0], Value.string o, Value.tuple #[Value.slice A2 out.length cap3, Value.int IntKind.i64 ln2, Value.int IntKind.i64 0], Value.slice A2 out.length cap3, Value.int IntKind.i64 ln2, Value.int IntKind.i64 0, Value.int IntKind.i64 0, Value.bool false, undef, Value.pointer (some { block := q + 1, off := 0 }), Value.map (some (q + 2)), Value.map (some (q + 3)), Value.map (some (q + 4)), Value.map (some (q + 5)), Value.agg #[Value.pointer (some { block := q + 1, off := 0 }), Value.map (some (q + 2)), Value.map (some (q + 3)), Value.map (some (q + 4)), Value.map (some (q + 5))], Value.pointer (some { block := q + 6, off := 0 }), Value.pointer (some { block := q + 6, off := 0 }), Value.slice A os.length c, Value.int IntKind.i64 0, Value.int IntKind.i64 0, Value.bool false, undef, Value.map (some w4.heap.size), Value.pointer (some { block := q + 6, off := 0 }), Value.func (Fn.func 57) #[] #[Value.pointer (some { block := Bs, off := 0 })], runeV x.1, undef, undef, undef, undef, undef, undef, undef, undef, undef, undef, undef, undef, undef, undef, undef, undef, undef, undef, undef, undef, undef], defers := [] }) ?assign ?body ?done ?stop
  case assign =>
    intro l x W K hK
    gi_wp2
    exact hK
  case body =>
    rintro l pre x W ⟨⟨dn, hm, hmk, hok⟩, hpre, hW⟩ hlt
    have hb4W : Below w4.heap.size w4 W := HB46.out.trans (hW.below (by rintro k rfl; exact Nat.le_refl _) (by omega))
    have c7 := (boxed_below H7.out hb4W).cell
    have c8 := (show Boxed W (w4.heap.size + 1) _ _ from hW.blk H8.out (by omega)).cell
    have c9 := ((show Boxed W (w4.heap.size + 1) _ _ from hW.blk H8.out (by omega)).alloc (.map #[] 0)).cell
    have LP := LPC.out W x.1 dn x.2 hb4W hm hmk hok
    have hmm := @run_makeMap Tryz.prog
    have HPRE := Lib.hid hpre
    have HWW := Lib.hid hW
    have hml := hm.lt
    have hsW := hW.size
    have hB4W := Lib.hid hb4W
    clear hm hmk hok hpre hW hb4W
    have hB6 : w6.heap.size ≤ W.heap.size := hsW
    have y4 := boxed_below H5.out hB4W.out
    have y5 := boxed_below H6.out hB4W.out
    have HX := Lib.hid x.2
    gi_wp2
    refine ⟨trivial, (CallsIn.inRound l (callsIn_wide.2 LP)).mono ?_⟩
    rintro e W2 ⟨hW2, (⟨rfl, hex⟩ | ⟨rfl, wy', dn', hS, _, _, _, h4⟩)⟩
    · have x4 : Boxed W2 w.heap.size 26 (.pointer none) := hW2.blk (y4.alloc _) (by rintro (e | e) <;> omega)
      have x5 : Boxed W2 (w.heap.size + 1) 27 (.int .i64 0) := hW2.blk (y5.alloc _) (by rintro (e | e) <;> omega)
      have q4 := x4.cell
      have g4 := x4.frozen
      have q5 := (boxOther x5 (.pointer none) (show w.heap.size + 1 ≠ w.heap.size by omega)).cell
      have g5 := (boxOther x5 (.pointer none) (show w.heap.size + 1 ≠ w.heap.size by omega)).frozen
      have HXX := Lib.hid hex
      clear LP y4 y5 c7 c8 c9 hex hmm
      gi_wp2
      have k4 := boxOther (x4.set (.pointer none)) (.int .i64 15) (show w.heap.size ≠ w.heap.size + 1 by omega)
      have k5 := (boxOther x5 (.pointer none) (show w.heap.size + 1 ≠ w.heap.size by omega)).set (.int .i64 15)
      have hWF : Wrote (fun k => (k = W.heap.size ∨ k = w4.heap.size) ∨ k = w.heap.size ∨ k = w.heap.size + 1) W ((W2.setCell ⟨w.heap.size, 0, none⟩ (.pointer none)).setCell ⟨w.heap.size + 1, 0, none⟩ (.int .i64 15)) :=
        (((alloc_wrote W (.map #[] 0) _).trans (hW2.mono fun k _ h => .inl h)).trans (Wrote.setCell (.inl (.inr (.inl rfl))) _)).trans (Wrote.setCell (.inl (.inr (.inr rfl))) _)
      refine ⟨keeps_wrote hWF (by intro k h1 h2; rintro ((e | e) | e | e) <;> omega), rfl, HXX.out, ?_, k4, k5⟩
      exact ((HWW.out.mono (R := fun k => (k = W.heap.size ∨ k = w4.heap.size) ∨ k = w.heap.size ∨ k = w.heap.size + 1) fun k _ h => .inl (.inr h)).trans hWF).mono fun k hk h => by
        rcases h with (h | h) | h | h
        · omega
        · exact .inl h
        · exact .inr (.inl h)
        · exact .inr (.inr h)
    · have HSS := Lib.hid (And.intro hS h4)
      clear LP y4 y5 c7 c8 c9 hmm hS h4
      gi_wp2
      have hWF : Wrote (fun k => k = W.heap.size ∨ k = w4.heap.size) W W2 := (alloc_wrote W (.map #[] 0) _).trans hW2
      obtain ⟨hS, h4⟩ := HSS.out
      refine ⟨keeps_wrote hWF (by intro k h1 h2; rintro (e | e) <;> omega), ⟨hWF.size, hWF.block g (by omega) (by rintro (e | e) <;> omega)⟩, ⟨dn', hS.mdn, hS.md, hS.ok⟩, ?_, ?_⟩
      · intro y hy
        have hy' : y ∈ (pre ++ [x]).map (·.1) := hy
        rw [List.map_append, List.mem_append] at hy'
        rcases hy' with hy | hy
        · exact HPRE.out y hy
        · simp at hy
          subst hy
          exact hS.ok _ h4
      · exact ((HWW.out.mono (R := fun k => k = W.heap.size ∨ k = w4.heap.size) fun k _ h => .inr h).trans hWF).mono fun k hk h => by
          rcases h with h | h
          · omega
          · exact h
  case stop =>
    rintro D1 c pre W hD hpre ⟨rfl, ⟨y, hy, hne⟩, hW, x4, x5⟩ hK
    have hD1 : w.heap.size + 1 < D1 := by omega
    have k4 := (x4.kept (grownBy_putObj' W D1 (.deferred none)) (by simp; omega)).cell
    have k5 := (x5.kept (grownBy_putObj' W D1 (.deferred none)) (by simp; omega)).cell
    have hno : ¬ NewOk rows out := fun h => hne (by rw [HD.out]; exact new_ends h y)
    have hbF : Below w.heap.size w (W.putObj D1 (.deferred none)) := by
      have h1 : Below w.heap.size w W := (HBW4.out.trans (HB46.out.mono (by omega))).trans (hW.below (by
        intro k e
        rcases e with e | e | e
        · have : k = w4.heap.size := e
          omega
        · omega
        · omega) (by omega))
      exact h1.trans (belowK_b (w := w) (Nat.le_refl _) _ D1 _ _ (by omega) hK rfl rfl)
    gi_wp2
    refine leave1 hK ⟨.tuple #[.pointer none, .int .i64 15], ?_, HP.out _ _ (.inl ⟨hno, ⟨15, by decide, rfl⟩, hbF⟩)⟩
    simp [results, Tryz.f9, go_sem, k4, k5]
  case done =>
    rintro D1 ys W hD rfl ⟨⟨dn, hm, hmk, hok⟩, hpre, hW⟩ hK
    have hb4W : Below w4.heap.size w4 W := HB46.out.trans (hW.below (by rintro k rfl; exact Nat.le_refl _) (by omega))
    have hen : ∀ r, (prtL rows r).isSome = true → Ends (fun x => (decH (prtL rows) x).2) r := fun r hr => by
      rw [← HD.out]
      obtain ⟨p, hp⟩ := Option.isSome_iff_exists.1 hr
      exact hpre r ((HALL.out.2 r).2 ⟨allR_R (HIN.out r p hp).1, hr⟩)
    have HEN := Lib.hid hen
    have hDl1 : W.heap[D1]? = some (.deferred (some [])) := hK
    have hD1 := (Array.getElem?_eq_some_iff.1 hK).1
    have HB4W := Lib.hid hb4W
    have hbA : Below W.heap.size W ((W.alloc (.map #[] 0)).alloc (.cells #[.map (some W.heap.size)] 62)) := ((Below.refl _ _).alloc (Nat.le_refl _) _).alloc (by simp) _
    have KN2 := known_any (HM4.out.below (below_then hb4W hbA)) (by omega)
    have cc7 := (boxed_below H7.out (below_then hb4W hbA)).cell
    have hmd := (MapF.made W Tryz.prog 21 runeLit R32 intV).alloc (.cells #[.map (some W.heap.size)] 62)
    have b8 : Boxed ((W.alloc (.map #[] 0)).alloc (.cells #[.map (some W.heap.size)] 62)) (W.heap.size + 1) 62 (.map (some W.heap.size)) := by
      have := Boxed.new (W.alloc (.map #[] 0)) 62 (.map (some W.heap.size))
      rwa [World.size_alloc] at this
    have HZ8 : Hid (((W.alloc (.map #[] 0)).alloc (.cells #[.map (some W.heap.size)] 62)).heap.size = W.heap.size + 2) := by show _ = _; rw [World.size_alloc, World.size_alloc]
    have HBA := Lib.hid hbA
    have HDL := Lib.hid hDl1
    have hsW := hb4W.size
    have hmm := @run_makeMap Tryz.prog
    clear hm hmk hok hpre hW hen hK hDl1 hb4W hbA LPC hlp0 KPB hIt
    gi_wp2
    refine ⟨trivial, (callsIn_wide.2 KN2).mono ?_⟩
    rintro e w9 ⟨g2, Bs2, ks2, rfl, hIt2, hAll2, hkl2, hBs2, hg3, hg4, hb89⟩
    obtain ⟨wf, hwf⟩ : ∃ wf : WellFounded fun y x => y ∈ (decH (prtL rows) x).2, True := ⟨wf_of (ends_all HEN.out), trivial⟩
    obtain ⟨L, hL⟩ : ∃ L, L = lenD (fun x => (decH (prtL rows) x).2) wf := ⟨_, rfl⟩
    have HL := Lib.hid hL
    have hka2 : ∀ x ∈ ks2, x ∈ allR ∧ (prtL rows x).isSome = true := fun x hx => by
      obtain ⟨_, h2⟩ := (hAll2.2 x).1 hx
      obtain ⟨p, hp⟩ := Option.isSome_iff_exists.1 h2
      exact ⟨(HIN.out x p hp).1, h2⟩
    obtain ⟨ks3, hks3⟩ : ∃ ks3 : List (Ok32 fun x => x ∈ allR ∧ (prtL rows x).isSome = true), ks2 = ks3.map (·.1) := ⟨ks2.attachWith _ hka2, by simp⟩
    subst hks3
    have HALL2 := Lib.hid hAll2
    have hs89 := hb89.size
    rw [HZ8.out] at hs89 hBs2 hg3
    have hmd9 := hmd.below hb89 hmd.lt
    have b9 := boxed_below b8 hb89
    have H9 := Lib.hid b9
    have hb49 : Below w4.heap.size w4 w9 := HB4W.out.trans ((below_then HBA.out hb89).mono (by omega))
    have HB49 := Lib.hid hb49
    have hd9 : w9.heap[D1]? = some (.deferred (some [])) := ((below_then HBA.out hb89).block D1 hD1).trans HDL.out
    have HD9 := Lib.hid hd9
    have hA1 : ∀ x ∈ allR, ∀ y ∈ (decH (prtL rows) x).2, y ∈ allR := fun x _ => decH_allR (fun r q hq => (HIN.out r q hq).2.1) x
    have hA2 : ∀ x, (decH (prtL rows) x).2.length ≤ 18 := decH_len fun r q hq => (HIN.out r q hq).2.2.1
    have MNC : Hid (∀ (V : World) (x : Int) (kn : Int → Option Int), x ∈ allR → Below w4.heap.size w4 V → KSt V W.heap.size L kn →
        Calls Tryz.prog 27 #[.pointer (some ⟨q + 6, 0, none⟩), .int .i32 x, .map (some W.heap.size)] V (ManyP W.heap.size L x V)) := fun V x kn hx hb hK => by
      rw [HL.out] at hK ⊢
      exact many_any HM4.out HK4.out hA1 hA2 hsW _ (lenD_eq _ wf) (lenD_pos _ wf) x (ends_all HEN.out x) V kn hx hb hK
    have KPB : ∀ (V : World) (l : Nat) (o o' : Obj), w9.heap.size ≤ l → V.heap[l]? = some o → o.isCells = false → o.isWalk = false → KpV g2 V (V.putObj l o') := KpV.put hg4
    have hmn0 : MnI L W.heap.size w9 [] w9 := ⟨⟨_, hmd9.mono (Nat.zero_le _), fun _ _ h => (by cases h), fun x => Or.inl rfl⟩, by simp, Wrote.refl _ _⟩
    have hr9 : w.heap.size + 1 < w9.heap.size := by omega
    rw [List.length_map] at hkl2
    clear hmd hmd9 b8 hb89 hAll2 hL hka2 KN2 hA1 hA2 hmm cc7 b9 hb49 hd9 hwf
    gi_wp2
    refine wpIn_rangeFunc_ownG hro h1 (gf := 57) (lb := #[.pointer (some ⟨Bs2, 0, none⟩)]) rfl trivial (enters_of Tryz.func57 (by kernel_rfl) rfl)
      (values_stopsS Fence.wide (5 - 1) trivial hro (by omega) g2 Bs2 ks3 (by omega) w9 hIt2) (fun h k => h.trans k) KPB (Below.refl _ _) (fun _ => rfl)
      (fun pre V => MnI L W.heap.size w9 (pre.map (·.1)) V) (fun c pre V => LpX (¬ NewOk rows out) (· = W.heap.size) w.heap.size (w.heap.size + 1) 14 w9 c (pre.map (·.1)) V)
      (fun s A B row h hg hr => mnI_own L W.heap.size w9 (by omega) _ A B row h hg hr) (fun c s A B row h hg hr => lpX_own (¬ NewOk rows out) (· = W.heap.size) w.heap.size (w.heap.size + 1) 14 w9 (by omega) (by omega) c _ A B row h hg hr) hmn0
      (fun x => { tmps := #[Value.string s, Value.string o, undef, undef, Value.pointer (some { block := w.heap.size, off := 0 }), Value.pointer (some { block := w.heap.size + 1, off := 0 }), Value.slice A os.length c, Value.int IntKind.i64 ln, Value.int IntKind.i64 0, Value.slice A2 out.length cap3, Value.int IntKind.i64 ln2, Value.pointer (some { block := q + 7, off := 0 }), Value.int IntKind.i64 0, Value.pointer (some { block := w4.heap.size + 1, off := 0 }), undef, .pointer (some ⟨W.heap.size + 1, 0, none⟩), runeV x.1, undef, Value.tuple #[Value.slice A os.length c, Value.int IntKind.i64 ln, Value.int IntKind.i64 0], Value.string s, Value.tuple #[Value.slice A os.length c, Value.int IntKind.i64 ln, Value.int IntKind.i64 0], Value.slice A os.length c, Value.int IntKind.i64 ln, Value.int IntKind.i64 0, Value.int IntKind.i64 0, Value.bool false, undef, Value.tuple #[Value.slice A2 out.length cap3, Value.int IntKind.i64 ln2, Value.int IntKind.i64 0], Value.string o, Value.tuple #[Value.slice A2 out.length cap3, Value.int IntKind.i64 ln2, Value.int IntKind.i64 0], Value.slice A2 out.length cap3, Value.int IntKind.i64 ln2, Value.int IntKind.i64 0, Value.int IntKind.i64 0, Value.bool false, undef, Value.pointer (some { block := q + 1, off := 0 }), Value.map (some (q + 2)), Value.map (some (q + 3)), Value.map (some (q + 4)), Value.map (some (q + 5)), Value.agg #[Value.pointer (some { block := q + 1, off := 0 }), Value.map (some (q + 2)), Value.map (some (q + 3)), Value.map (some (q + 4)), Value.map (some (q + 5))], Value.pointer (some { block := q + 6, off := 0 }), Value.pointer (some { block := q + 6, off := 0 }), Value.slice A os.length c, Value.int IntKind.i64 0, Value.int IntKind.i64 0, Value.bool false, undef, Value.map (some w4.heap.size), Value.pointer (some { block := q + 6, off := 0 }), Value.func (Fn.func 57) #[] #[Value.pointer (some { block := Bs, off := 0 })], undef, undef, undef, undef, undef, undef, .map (some W.heap.size), .pointer (some ⟨q + 6, 0, none⟩), .func (.func 57) #[] #[.pointer (some ⟨Bs2, 0, none⟩)], runeV x.1, undef, undef, undef, undef, undef, undef, undef, undef, undef, undef, undef, undef], defers := [] }) ?assign2 ?body2 ?done2 ?stop2
    case assign2 =>
      intro l x V K hK
      gi_wp2
      exact hK
    case body2 =>
      rintro l pre x V ⟨⟨kn, hkn⟩, hpre, hW⟩ hlt
      have hb4V : Below w4.heap.size w4 V := HB49.out.trans (hW.below (by rintro k rfl; exact hsW) (by omega))
      have c7 := (boxed_below H7.out hb4V).cell
      have c8 := (show Boxed V (W.heap.size + 1) _ _ from hW.blk H9.out (by omega)).cell
      have MN := MNC.out V x.1 kn x.2.1 hb4V hkn
      have HPRE := Lib.hid hpre
      have HWW := Lib.hid hW
      have hml := hkn.mkn.lt
      have hsV := hW.size
      have y4 := boxed_below H5.out hb4V
      have y5 := boxed_below H6.out hb4V
      have HX := Lib.hid x.2
      obtain ⟨v, hv⟩ : ∃ v : Int, v = ((min (L x.1) 19 : Nat) : Int) := ⟨_, rfl⟩
      unfold ManyP at MN
      rw [← hv] at MN
      have HVV := Lib.hid hv
      clear hkn hpre hW hb4V hv
      gi_wp2
      refine ⟨trivial, (CallsIn.inRound l (callsIn_wide.2 MN)).mono ?_⟩
      rintro e W2 ⟨rfl, hW2, kn2, hk2⟩
      have hWL := hW2.size
      by_cases hbig : 18 < v
      · have x4 : Boxed W2 w.heap.size 26 (.pointer none) := hW2.blk y4 (by omega)
        have x5 : Boxed W2 (w.heap.size + 1) 27 (.int .i64 0) := hW2.blk y5 (by omega)
        have q4 := x4.cell
        have g4 := x4.frozen
        have q5 := (boxOther x5 (.pointer none) (show w.heap.size + 1 ≠ w.heap.size by omega)).cell
        have g5 := (boxOther x5 (.pointer none) (show w.heap.size + 1 ≠ w.heap.size by omega)).frozen
        have HNO : Hid (¬ NewOk rows out) := fun h => by
          have h1 := h.few wf x.1 HX.out.2
          rw [← HL.out] at h1
          have := HVV.out
          omega
        have HW2 := Lib.hid hW2
        clear MN y4 y5 c7 c8 hk2 hW2
        gi_wp2
        have k4 := boxOther (x4.set (.pointer none)) (.int .i64 14) (show w.heap.size ≠ w.heap.size + 1 by omega)
        have k5 := (boxOther x5 (.pointer none) (show w.heap.size + 1 ≠ w.heap.size by omega)).set (.int .i64 14)
        have hWF : Wrote (fun k => (k = W.heap.size) ∨ k = w.heap.size ∨ k = w.heap.size + 1) V ((W2.setCell ⟨w.heap.size, 0, none⟩ (.pointer none)).setCell ⟨w.heap.size + 1, 0, none⟩ (.int .i64 14)) :=
          ((HW2.out.mono fun k _ h => .inl h).trans (Wrote.setCell (.inl (.inr (.inl rfl))) _)).trans (Wrote.setCell (.inl (.inr (.inr rfl))) _)
        refine ⟨keeps_wrote hWF (by intro k h1 h2; rintro (e | e | e) <;> omega), rfl, HNO.out, ?_, k4, k5⟩
        exact (HWW.out.mono (R := fun k => (k = W.heap.size) ∨ k = w.heap.size ∨ k = w.heap.size + 1) fun k _ h => .inl h).trans hWF
      · have hv2 : v ≤ 18 := by omega
        have HW2 := Lib.hid hW2
        have HK2 := Lib.hid hk2
        clear MN y4 y5 c7 c8 hk2 hW2 hbig
        gi_wp2
        refine ⟨keeps_wrote HW2.out (by intro k h1 h2 e; omega), ⟨HW2.out.size, HW2.out.block g2 (by omega) (by omega)⟩, ⟨kn2, HK2.out⟩, ?_, HWW.out.trans HW2.out⟩
        intro y hy
        have hy' : y ∈ (pre ++ [x]).map (·.1) := hy
        rw [List.map_append, List.mem_append] at hy'
        rcases hy' with hy | hy
        · exact HPRE.out y hy
        · simp at hy
          subst hy
          have := HVV.out
          omega
    case stop2 =>
      rintro D2 c pre V hD2 hpre ⟨rfl, hno, hW, x4, x5⟩ hK
      have hd1 : V.heap[D1]? = some (.deferred (some [])) := hW.blk HD9.out (by
        rintro (e | e | e)
        · have : D1 = W.heap.size := e
          omega
        · omega
        · omega)
      have hne : D1 ≠ D2 := by
        have := (Array.getElem?_eq_some_iff.1 HD9.out).1
        omega
      have k4 := ((x4.kept (grownBy_putObj' V D2 (.deferred none)) (by simp; omega)).kept (grownBy_putObj' _ D1 (.deferred none)) (by simp; omega)).cell
      have k5 := ((x5.kept (grownBy_putObj' V D2 (.deferred none)) (by simp; omega)).kept (grownBy_putObj' _ D1 (.deferred none)) (by simp; omega)).cell
      have hbF : Below w.heap.size w ((V.putObj D2 (.deferred none)).putObj D1 (.deferred none)) := by
        have h1 : Below w.heap.size w V := (HBW4.out.trans (HB49.out.mono (by omega))).trans (hW.below (by
          intro k e
          rcases e with e | e | e
          · have : k = W.heap.size := e
            omega
          · omega
          · omega) (by omega))
        exact (h1.trans (belowK_b (w := w) (Nat.le_refl _) _ D2 _ _ (by omega) hK rfl rfl)).trans (belowK_b (w := w) (Nat.le_refl _) _ D1 _ _ (by omega) ((World.putObj_heap_other hne).trans hd1) rfl rfl)
      gi_wp2
      refine leave2 hd1 hK hne ⟨.tuple #[.pointer none, .int .i64 14], ?_, HP.out _ _ (.inl ⟨hno, ⟨14, by decide, rfl⟩, hbF⟩)⟩
      simp [results, Tryz.f9, go_sem, k4, k5]
    case done2 =>
      rintro D2 ys V hD2 rfl ⟨⟨kn, hkn⟩, hpre, hW⟩ hK
      have hb4V : Below w4.heap.size w4 V := HB49.out.trans (hW.below (by rintro k rfl; exact hsW) (by omega))
      have hd1 : V.heap[D1]? = some (.deferred (some [])) := hW.blk HD9.out (by omega)
      have hne : D1 ≠ D2 := by
        have := (Array.getElem?_eq_some_iff.1 HD9.out).1
        omega
      have hfew : ∀ r, (prtL rows r).isSome = true → lenD (fun x => (decH (prtL rows) x).2) wf r ≤ 18 := fun r hr => by
        obtain ⟨p, hp⟩ := Option.isSome_iff_exists.1 hr
        rw [← HL.out]
        exact hpre r ((HALL2.out.2 r).2 ⟨allR_R (HIN.out r p hp).1, hr⟩)
      have MK := makes_any (HM4.out.below hb4V) (fresh_apart q _) (by omega) A2 cap3 out (HRD4.out.below hb4V) HSV.out.2 (by omega) (HK4.out.below' hb4V) (fun r p hp y hy => allR_R ((HIN.out r p hp).2.1 y hy))
      have c7 := (boxed_below H7.out hb4V).cell
      have y4 := boxed_below H5.out hb4V
      have y5 := boxed_below H6.out hb4V
      have y7 := boxed_below H7.out hb4V
      have hbV : Below w.heap.size w V := HBW4.out.trans (hb4V.mono (by omega))
      have HKD := Lib.hid hK
      have HD1 := Lib.hid hd1
      have HFEW := Lib.hid hfew
      have hsV := hW.size
      have HBV := Lib.hid hbV
      clear hpre hW hkn hK hd1 hfew hb4V hbV hmn0 KPB MNC
      gi_wp2
      refine ⟨trivial, (callsIn_wide.2 MK).mono ?_⟩
      rintro e w11 ⟨bad, ss, pr, md, sc, rfl, hkeys, hMk, hM11, hssl, hW11⟩
      have nM : ∀ k, k < q ∨ q + 6 < k → ¬ M234 ⟨q + 1, q, q + 2, q + 3, q + 4, q + 5, 4353 * rows.length⟩ k := fun k hk e => by
        rcases e with e | e | e
        · have : k = q + 3 := e
          omega
        · have : k = q + 4 := e
          omega
        · have : k = q + 5 := e
          omega
      have hrq2 : w.heap.size + 1 < q := by have := HQ2.out; omega
      have x4 : Boxed w11 w.heap.size 26 (.pointer none) := hW11.blk y4 (nM _ (by omega))
      have x5 : Boxed w11 (w.heap.size + 1) 27 (.int .i64 0) := hW11.blk y5 (nM _ (by omega))
      have x7 : Boxed w11 (q + 7) 26 (.pointer (some ⟨q + 6, 0, none⟩)) := hW11.blk y7 (nM _ (by omega))
      have hd1 : w11.heap[D1]? = some (.deferred (some [])) := hW11.blk HD1.out (nM _ (by omega))
      have hd2 : w11.heap[D2]? = some (.deferred (some [])) := hW11.blk HKD.out (nM _ (by omega))
      have hb11 : Below w.heap.size w w11 := HBV.out.trans (hW11.below (by
        intro k e
        rcases e with e | e | e
        · have : k = q + 3 := e
          omega
        · have : k = q + 4 := e
          omega
        · have : k = q + 5 := e
          omega) (by omega))
      have q4 := x4.cell
      have g4 := x4.frozen
      have q7 := x7.cell
      have HX4 := Lib.hid x4
      have HX5 := Lib.hid x5
      have HD1' := Lib.hid hd1
      have HD2' := Lib.hid hd2
      have HMK := Lib.hid hMk
      have HKY := Lib.hid hkeys
      have HM11 := Lib.hid hM11
      have HB11 := Lib.hid hb11
      have hs11 := hW11.size
      have hin : Hid (∀ x, madeQ (clsL rows) (prtL rows) out x = true → x ∈ ss) := fun x hx => by
        have h1 := (madeQ_true hx).1
        exact (HKY.out.2 x).2 ⟨allR_R (HIN.out x _ h1).1, by rw [h1]; rfl⟩
      cases bad with
      | true =>
        have HNO : Hid (¬ NewOk rows out) := fun h => by
          rcases HMK.out.no rfl with ⟨x, _, h2, h3⟩ | ⟨x, _, y, _, h2, h3, h4, h5⟩
          · rw [h.join x h2] at h3; cases h3
          · exact h5 (h.one x y h2 h3 h4)
        have q5 := (boxOther x5 (.pointer none) (show w.heap.size + 1 ≠ w.heap.size by omega)).cell
        have g5 := (boxOther x5 (.pointer none) (show w.heap.size + 1 ≠ w.heap.size by omega)).frozen
        clear MK y4 y5 y7 c7 hMk hkeys hM11 hb11 x7 hd1 hd2 hW11
        gi_wp2
        have z4 := boxOther (x4.set (.pointer none)) (.int .i64 12) (show w.heap.size ≠ w.heap.size + 1 by omega)
        have z5 := (boxOther x5 (.pointer none) (show w.heap.size + 1 ≠ w.heap.size by omega)).set (.int .i64 12)
        have hWF : Wrote (fun k => k = w.heap.size ∨ k = w.heap.size + 1) w11 ((w11.setCell ⟨w.heap.size, 0, none⟩ (.pointer none)).setCell ⟨w.heap.size + 1, 0, none⟩ (.int .i64 12)) := (Wrote.setCell (.inl (.inl rfl)) _).trans (Wrote.setCell (.inl (.inr rfl)) _)
        have hbF := HB11.out.trans (hWF.below (B := w.heap.size) (by rintro k (e | e) <;> omega) (by omega))
        have e1 := hWF.blk HD1'.out (by omega)
        have e2 := hWF.blk HD2'.out (by omega)
        generalize ((w11.setCell ⟨w.heap.size, 0, none⟩ (.pointer none)).setCell ⟨w.heap.size + 1, 0, none⟩ (.int .i64 12)) = V2 at *
        have k4 := ((z4.kept (grownBy_putObj' V2 D2 (.deferred none)) (by simp; omega)).kept (grownBy_putObj' _ D1 (.deferred none)) (by simp; omega)).cell
        have k5 := ((z5.kept (grownBy_putObj' V2 D2 (.deferred none)) (by simp; omega)).kept (grownBy_putObj' _ D1 (.deferred none)) (by simp; omega)).cell
        have hbG : Below w.heap.size w ((V2.putObj D2 (.deferred none)).putObj D1 (.deferred none)) := (hbF.trans (belowK_b (w := w) (Nat.le_refl _) _ D2 _ _ (by omega) e2 rfl rfl)).trans (belowK_b (w := w) (Nat.le_refl _) _ D1 _ _ (by omega) ((World.putObj_heap_other hne).trans e1) rfl rfl)
        refine leave2 e1 e2 hne ⟨.tuple #[.pointer none, .int .i64 12], ?_, HP.out _ _ (.inl ⟨HNO.out, ⟨12, by decide, rfl⟩, hbG⟩)⟩
        simp [results, Tryz.f9, go_sem, k4, k5]
      | false =>
        have HOK : Hid (NewOk rows out) := ⟨HTH.out, HFO.out, HEN.out, fun _ => HFEW.out, fun x hx => (HMK.out.ok rfl).1 x (hin.out x hx) hx, fun x y hx hy e => (HMK.out.ok rfl).2 x (hin.out x hx) y (hin.out y hy) hx hy e⟩
        have q5 := (boxOther x5 (.pointer (some ⟨q + 6, 0, none⟩)) (show w.heap.size + 1 ≠ w.heap.size by omega)).cell
        have g5 := (boxOther x5 (.pointer (some ⟨q + 6, 0, none⟩)) (show w.heap.size + 1 ≠ w.heap.size by omega)).frozen
        clear MK y4 y5 y7 c7 hMk hkeys hM11 hb11 x7 hd1 hd2 hW11
        gi_wp2
        have z4 := boxOther (x4.set (.pointer (some ⟨q + 6, 0, none⟩))) (.int .i64 0) (show w.heap.size ≠ w.heap.size + 1 by omega)
        have z5 := (boxOther x5 (.pointer (some ⟨q + 6, 0, none⟩)) (show w.heap.size + 1 ≠ w.heap.size by omega)).set (.int .i64 0)
        have hWF : Wrote (fun k => (k = w.heap.size ∨ k = w.heap.size + 1) ∨ k = D1 ∨ k = D2) w11 ((w11.setCell ⟨w.heap.size, 0, none⟩ (.pointer (some ⟨q + 6, 0, none⟩))).setCell ⟨w.heap.size + 1, 0, none⟩ (.int .i64 0)) := (Wrote.setCell (.inl (.inl (.inl rfl))) _).trans (Wrote.setCell (.inl (.inl (.inr rfl))) _)
        have hWS : Wrote (fun k => k = w.heap.size ∨ k = w.heap.size + 1) w11 ((w11.setCell ⟨w.heap.size, 0, none⟩ (.pointer (some ⟨q + 6, 0, none⟩))).setCell ⟨w.heap.size + 1, 0, none⟩ (.int .i64 0)) := (Wrote.setCell (.inl (.inl rfl)) _).trans (Wrote.setCell (.inl (.inr rfl)) _)
        have hbF := HB11.out.trans (hWS.below (B := w.heap.size) (by rintro k (e | e) <;> omega) (by omega))
        have e1 := hWS.blk HD1'.out (by omega)
        have e2 := hWS.blk HD2'.out (by omega)
        generalize ((w11.setCell ⟨w.heap.size, 0, none⟩ (.pointer (some ⟨q + 6, 0, none⟩))).setCell ⟨w.heap.size + 1, 0, none⟩ (.int .i64 0)) = V2 at *
        have k4 := ((z4.kept (grownBy_putObj' V2 D2 (.deferred none)) (by simp; omega)).kept (grownBy_putObj' _ D1 (.deferred none)) (by simp; omega)).cell
        have k5 := ((z5.kept (grownBy_putObj' V2 D2 (.deferred none)) (by simp; omega)).kept (grownBy_putObj' _ D1 (.deferred none)) (by simp; omega)).cell
        have hbG : Below w.heap.size w ((V2.putObj D2 (.deferred none)).putObj D1 (.deferred none)) := (hbF.trans (belowK_b (w := w) (Nat.le_refl _) _ D2 _ _ (by omega) e2 rfl rfl)).trans (belowK_b (w := w) (Nat.le_refl _) _ D1 _ _ (by omega) ((World.putObj_heap_other hne).trans e1) rfl rfl)
        have hWG : Wrote (fun k => (k = w.heap.size ∨ k = w.heap.size + 1) ∨ k = D1 ∨ k = D2) w11 ((V2.putObj D2 (.deferred none)).putObj D1 (.deferred none)) :=
          (hWF.trans (Wrote.grown (grownBy_putObj' V2 D2 (.deferred none)) fun k e => .inr (.inr (by injection e with e; exact e.symm)))).trans (Wrote.grown (grownBy_putObj' _ D1 (.deferred none)) fun k e => .inr (.inl (by injection e with e; exact e.symm)))
        have hMF := HM11.out.wrote hWG (by
          intro k hk
          have hn : k ≠ q + 6 ∧ k ≠ q + 1 ∧ k ≠ q ∧ k ≠ q + 2 ∧ k ≠ q + 3 ∧ k ≠ q + 4 ∧ k ≠ q + 5 := by
            rcases hk with (e | e) | e | e <;> omega
          refine ⟨hn.1, hn.2.1, hn.2.2.1, hn.2.2.2.1, hn.2.2.2.2.1, hn.2.2.2.2.2.1, hn.2.2.2.2.2.2, ?_⟩
          rcases hk with (e | e) | e | e
          · rw [e]; exact boxed_not HX4.out (by intro z h; cases h)
          · rw [e]; exact boxed_not HX5.out (by intro z h; cases h)
          · rw [e]; exact def_not HD1'.out
          · rw [e]; exact def_not HD2'.out)
        refine leave2 e1 e2 hne ⟨.tuple #[.pointer (some ⟨q + 6, 0, none⟩), .int .i64 0], ?_, HP.out _ _ (.inr ⟨HOK.out, q + 6, _, _, ss, pr, md, sc, rfl, hMF, by omega, HKY.out, HMK.out, by omega, hbG⟩)⟩
        simp [results, Tryz.f9, go_sem, k4, k5]
theorem new_any (s o : ByteArray) (hE : Env w) (hk : Kinds w) (hs : s.size ≤ 1073741824) (ho1 : o.size ≤ 1073741824) : Calls Tryz.prog 9 #[.string s, .string o] w (NewP (bs s) (bs o) w) := by
  by_cases h0 : (rowsS (bs s)).2.2 = 0
  · by_cases h1 : (setsS (bs o)).2.2 = 0
    · cases h2 : (rowsS (bs s)).1.any thereB with
      | true => exact (new_takes s o hE hs ho1 h0 h1 (.inl h2)).mono fun e w' h => .inl ⟨fun hc => (by have := hc.2.2.there; rw [h2] at this; cases this), h⟩
      | false =>
        cases h3 : (rowsS (bs s)).1.any formB with
        | true => exact (new_takes s o hE hs ho1 h0 h1 (.inr ⟨h2, h3⟩)).mono fun e w' h => .inl ⟨fun hc => (by have := hc.2.2.form; rw [h3] at this; cases this), h⟩
        | false => exact new_main s o hE hk hs ho1 h0 h1 h2 h3
    · exact (new_sets s o hE hs ho1 h0 h1).mono fun e w' h => .inl ⟨fun hc => h1 hc.2.1, h⟩
  · exact (new_rows s o hE hs h0).mono fun e w' h => .inl ⟨fun hc => h0 hc.1, h⟩
end
end Go.Proofs.YtggichcfklbjiaaGreatDoor
end
