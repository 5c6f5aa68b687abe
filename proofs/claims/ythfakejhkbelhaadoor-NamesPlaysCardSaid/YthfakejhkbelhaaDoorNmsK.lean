/- The things gone through: the iterator. -/
import Derived.Test.YthfakejhkbelhaaDoorNmsJ
import Derived.RangeFuncBox
set_option linter.unusedSimpArgs false
set_option linter.unusedVariables false
namespace Go.Proofs.YthfakejhkbelhaaDoor
open Go.RowKit Go.Lib Go.Shelf
attribute [local go_sem] Oper.semAt_some

abbrev thC (t : Thg) : Array Value := #[.string (mk8 t.nm), .int .i64 t.x]
set_option maxRecDepth 100000 in
set_option maxHeartbeats 4000000 in
theorem all1_in (F : Fence) (n : Nat) (hf : F.fn 56) (hro : F.round = none) (hn : 1 ≤ n) (l Bs n₀ b off len cap : Nat) (os : List TA) (hlen : os.length = len) (hreach : len ≤ 1000000) (hb : b < n₀) (J Jx : List Thg → World → Prop) (W : World) (hJa : AbidesFrom W.heap.size J)
    (hY : ∀ pre x W, J pre W → pre.length < len → YieldAt F (n - 1) Tryd.prog l (thC x) W fun e W' =>
      (e = .returned (.bool true) ∧ J (pre ++ [x]) W' ∧ Below n₀ W W') ∨ (e = .returned (.bool false) ∧ Jx (pre ++ [x]) W'))
    (hBs : W.cell? ⟨Bs, 0, none⟩ = some (.slice (some ⟨b, off, none⟩) len cap)) (hc : ∀ j u, (Ts os)[j]? = some u → W.cell? ⟨b, off + j, none⟩ = some u) (hn₀ : n₀ ≤ W.heap.size) (h0 : J [] W) :
    CallsIn F n Tryd.prog 56 #[.func (.yield l) #[] #[], .pointer (some ⟨Bs, 0, none⟩)] W fun e W' => (∃ v, e = .returned v) ∧
      ((∃ ys, ys = os.map (·.1) ∧ J ys W') ∨ (∃ pre, pre <+: os.map (·.1) ∧ Jx pre W')) := by
  refine callsIn_of_wp Tryd.func56 rfl hf ?_ hro
  simp only [Tryd.ntmps56, List.size_toArray, List.length_cons, List.length_nil, Nat.reduceAdd, Nat.reduceSub, Array.replicate_succ, Array.replicate_zero, List.push_toArray, List.append_toArray, List.nil_append, List.cons_append]
  gi_wp2
  gi_loopw [7] (fun i wr => ∃ k : Nat, k ≤ len ∧ i = .int .i64 k ∧ J ((os.map (·.1)).take k) wr ∧ Below n₀ W wr)
    (fun i _ => len - (intOf i).toNat)
  case atStart => exact ⟨0, Nat.zero_le _, rfl, h0, Below.refl _ _⟩
  case round =>
    obtain ⟨k, hk, rfl, hJs, hnx⟩ := hrel
    by_cases hlt : k < len
    · obtain ⟨⟨t, At, ct⟩, hx⟩ : ∃ x, os[k]? = some x := ⟨_, List.getElem?_eq_getElem (by omega)⟩
      have hcw : ∀ j u, (Ts os)[j]? = some u → wr.cell? ⟨b, off + j, none⟩ = some u := fun j u h => (hnx.cell (p := ⟨b, off + j, none⟩) hb).trans (hc j u h)
      obtain ⟨c0, c1, c2⟩ := th_cells hx hcw
      have hkk : (k : Int) < (len : Int) := by omega
      have hLk : (os.map (·.1)).take (k + 1) = (os.map (·.1)).take k ++ [t] := by rw [List.take_add_one]; simp [hx]
      have HLK := Lib.hid hLk
      have hll : ((os.map (·.1)).take k).length < len := by rw [List.length_take, List.length_map]; omega
      have HX := Lib.hid (And.intro hx hll)
      have hJn : J ((os.map (·.1)).take k) (wr.alloc (.cells #[.int .i64 t.x, .string (mk8 t.nm), .slice At t.ot.length ct] 71)) := hJa _ _ _ none hJs (World.grownBy_alloc _ _ none) (fun r e => by cases e)
      have hnn : Below n₀ W (wr.alloc (.cells #[.int .i64 t.x, .string (mk8 t.nm), .slice At t.ot.length ct] 71)) := hnx.alloc (by have := hnx.size; omega) _
      obtain ⟨fn, tmps, assign, body, hy, hR⟩ := hY _ t _ hJn hll
      dsimp only [thC] at hy
      clear hx hcw hLk hc hll hJn hY
      gi_wp2
      refine hR.mono ?_
      rintro e W3 (⟨rfl, hJ3, hk3⟩ | ⟨rfl, hJx3⟩)
      · rw [← HLK.out] at hJ3
        have hn3 := hnn.trans hk3
        clear hk3 hnn hR hy
        gi_wp2
        go_roundw
        case rel => exact ⟨k + 1, by omega, by simp, hJ3, hn3⟩
        case measure => simp [intOf]; omega
      · rw [← HLK.out] at hJx3
        clear hnn hR hy
        gi_wp2
        refine bodyPost_ret (results_none rfl _ _ _) rfl ?_
        exact ⟨⟨_, rfl⟩, .inr ⟨_, List.take_prefix _ _, hJx3⟩⟩
    · obtain rfl : k = len := by omega
      have hki : (k : Int) ≤ (k : Int) := Int.le_refl _
      gi_wp2
      go_end0
      exact ⟨⟨_, rfl⟩, .inl ⟨_, rfl, by rwa [List.take_of_length_le (by rw [List.length_map]; omega)] at hJs⟩⟩
set_option maxRecDepth 100000 in
set_option maxHeartbeats 2000000 in
theorem all1_nil_in (F : Fence) (n : Nat) (hf : F.fn 56) (hro : F.round = none) (l Bs : Nat) (J : List Thg → World → Prop) (W : World) (hBs : W.cell? ⟨Bs, 0, none⟩ = some (.slice none 0 0)) (h0 : J [] W) :
    CallsIn F n Tryd.prog 56 #[.func (.yield l) #[] #[], .pointer (some ⟨Bs, 0, none⟩)] W fun e W' => (∃ v, e = .returned v) ∧ J [] W' := by
  refine callsIn_of_wp Tryd.func56 rfl hf ?_ hro
  simp only [Tryd.ntmps56, List.size_toArray, List.length_cons, List.length_nil, Nat.reduceAdd, Nat.reduceSub, Array.replicate_succ, Array.replicate_zero, List.push_toArray, List.append_toArray, List.nil_append, List.cons_append]
  gi_wp2
  gi_loopw [7] (fun p wr => p = .int .i64 0 ∧ J [] wr) (fun _ _ => 0)
  case atStart => exact ⟨rfl, h0⟩
  case round =>
    obtain ⟨rfl, hj⟩ := hrel
    gi_wp2
    go_end0
    exact ⟨⟨_, rfl⟩, hj⟩
theorem all_stops (F : Fence) (n : Nat) (hf : F.fn 56) (hro : F.round = none) (hn : 1 ≤ n) (Bs n₀ : Nat) (A' : Option Addr) (c' : Nat) (os : List TA) (hreach : os.length ≤ 1000000) (w : World) (hn₀ : n₀ = w.heap.size)
    (hc : w.cell? ⟨Bs, 0, none⟩ = some (.slice A' os.length c')) {B : Nat} (hown : w.ownsRow B 71 3 (.slice A' os.length c') os.length (Ts os)) :
    SeqStopsK F n Tryd.prog 56 #[.pointer (some ⟨Bs, 0, none⟩)] thC (Below n₀) (fun ys => ys = os.map (·.1)) (fun pre => pre <+: os.map (·.1)) os.length w := fun l J Jx W hW hJa _ hY h0 => by
  have hc' := cell_belowU hc hW
  rcases hown.2 with ⟨hv, h0n⟩ | ⟨g, cap, cur, hv, hg, hh, _⟩
  · injection hv with h1 h2 h3
    subst h1 h3
    have hos : os = [] := List.eq_nil_of_length_eq_zero h2
    subst hos
    exact (all1_nil_in F n hf hro l Bs J W hc' h0).mono fun e W' ⟨he, hj⟩ => ⟨he, .inl ⟨_, rfl, hj⟩⟩
  · injection hv with h1 _ _
    subst h1
    have hgl := box_lt hh
    have hrd : RdK w (some ⟨g, 0, none⟩) os.length 3 (Ts os) := by
      obtain ⟨A2, c2, hv2, _, _, hr⟩ := RdK.of_own hown
      injection hv2 with h1 _ _
      rw [h1]
      exact hr
    by_cases hz : os.length = 0
    · have hos : os = [] := List.eq_nil_of_length_eq_zero hz
      subst hos
      exact all1_in F n hf hro hn l Bs n₀ g 0 0 c' [] rfl (by omega) (by omega) J Jx W hJa hY hc' (fun j u h => by simp [Ts] at h) (by rw [hn₀]; exact hW.size) h0
    · obtain ⟨b, off, he, hbl, hcx⟩ := (hrd.below (by omega) hW).at_ (by omega) (by omega)
      injection he with he
      injection he with he1 he2
      subst he1 he2
      exact all1_in F n hf hro hn l Bs n₀ g 0 os.length c' os rfl hreach (by omega) J Jx W hJa hY hc' hcx (by rw [hn₀]; exact hW.size) h0
end Go.Proofs.YthfakejhkbelhaaDoor
