/- slices.BinarySearch at characters: whether one is on a rising list. slices.Values, gone through, where something is known of each character. -/
import Derived.Test.YtolcabjkbefjgaaGreatDoorZ25
set_option linter.unusedSimpArgs false
set_option linter.unusedVariables false
set_option maxRecDepth 20000
set_option maxHeartbeats 4000000
namespace Go.Proofs.YtolcabjkbefjgaaGreatDoor
section
open Go.RowKit Go.Lib Go.Maps
theorem cmpNaN_any (x : Int) (w : World) : Calls Tryz.prog 167 #[.int .i32 x] w fun e w' => e = .returned (.bool false) /\ w' = w := by
 go_enter Tryz.func167, Tryz.ntmps167;go_wp2;go_returns;exact ⟨rfl, rfl⟩
theorem zin (x : Int) (w : World) : Calls Tryz.prog 119 #[.int .i32 x] w fun e w' => e = .returned (.bool false) /\ w' = w := by
 go_enter Tryz.func119, Tryz.ntmps119;go_wp2;go_returns;exact ⟨rfl, rfl⟩
theorem zgz (x y : Int) (w : World) : Calls Tryz.prog 118 #[.int .i32 x, .int .i32 y] w fun e w' => e = .returned (.bool (decide (x < y))) /\ w' = w := by
 go_enter Tryz.func118, Tryz.ntmps118;go_wp2_with (first | (go_at_call 167; refine (cmpNaN_any _ _).mono ?_; rintro e w' ⟨rfl, rfl⟩) | go_in)
 go_returns;exact ⟨rfl, rfl⟩
def Rises (ks : List Int) : Prop := ks.Pairwise (· < ·)
theorem Rises.lt {ks : List Int} (h : Rises ks) {i j : Nat} {x y : Int} (hx : ks[i]? = some x) (hy : ks[j]? = some y) (hij : i < j) : x < y := by
 obtain ⟨h1, rfl⟩ := List.getElem?_eq_some_iff.1 hx;obtain ⟨h2, rfl⟩ := List.getElem?_eq_some_iff.1 hy;exact List.pairwise_iff_getElem.1 h i j h1 h2 hij
theorem half_mid {lo hi : Nat} (h1 : lo < hi) (h2 : hi <= 1000000) : lo <= (lo + hi) / 2 /\ (lo + hi) / 2 < hi := by omega
theorem bsearch_any (A : Option Addr) (n c : Nat) (ks : List Int) (t : Int) (w : World) (hr : Rd w A n (Rs ks)) (hn : n <= 1000000) (hS : Rises ks) :
  Calls Tryz.prog 74 #[.slice A n c, .int .i32 t] w fun e w' => (∃ i : Int, e = .returned (.tuple #[.int .i64 i, .bool (decide (t ∈ ks))])) /\ w' = w := by
 have hll : ks.length = n := (by have := hr.1; simpa [Rs] using this);have HLL := hz0q hll;have HS := hz0q hS;clear hll hS;go_enter Tryz.func74, Tryz.ntmps74;go_wp2
 go_loopw [7, 8] (fun a b wr => ∃ lo hi : Nat, lo <= hi /\ hi <= n /\ a = .int .i64 lo /\ b = .int .i64 hi /\ Hid (∀ j x, j < lo -> ks[j]? = some x -> x < t) /\ Hid (∀ j x, hi <= j -> ks[j]? = some x -> t <= x) /\ wr = w) (fun a b _ => (intOf b - intOf a).toNat)
 case atStart => exact ⟨0, n, Nat.zero_le _, Nat.le_refl _, rfl, rfl, hz0q (fun j x h => absurd h (Nat.not_lt_zero _)), hz0q (fun j x h hx => by have := (List.getElem?_eq_some_iff.1 hx).1; have := HLL.out; omega), by trivial⟩
 case round =>
  obtain ⟨lo, hi, h1, h2, rfl, rfl, H1, H2, rfl⟩ := hrel
  by_cases hlt : lo < hi
  ·have hlt' : (lo : Int) < (hi : Int) := (by omega);obtain ⟨m1, m2⟩ := half_mid hlt (by omega);obtain ⟨m, hm⟩ : ∃ m, m = (lo + hi) / 2 := ⟨_, rfl⟩;rw [<- hm] at m1 m2;have hmq : ((lo : Int) + (hi : Int)) / 2 = (m : Int) := (by omega);have hmn : (m : Int) < (n : Int) := (by omega);obtain ⟨x, hx⟩ : ∃ x, ks[m]? = some x := ⟨_, List.getElem?_eq_getElem (by rw [HLL.out]; omega)⟩;obtain ⟨b, off, rfl, hbl, hcx⟩ := hr.at_ (by omega);have c0 : wr.cell? ⟨b, off + m, none⟩ = some (.int .i32 x) := hcx m _ (by simp [Rs, hx]);have HX := hz0q hx;clear hx hcx hbl hm
   by_cases hxt : x < t
   ·have HC := zgz x t wr;rw [decide_eq_true hxt] at HC;have hmw : wrap64 ((m : Int) + 1) = (m : Int) + 1 := (by unfold wrap64; omega);go_wp2_with (first | (go_at_call 118; refine HC.mono ?_; rintro e w' ⟨rfl, rfl⟩) | go_in)
    go_roundw
    case rel => exact ⟨m + 1, hi, by omega, h2, by go_num, rfl, hz0q (fun j y hj hy => by
     by_cases e : j = m
     ·subst e; have := HX.out; rw [hy] at this; injection this with e2; rw [e2]; exact hxt
     ·have := HS.out.lt hy HX.out (by omega); omega), H2, by trivial⟩
    case measure => simp [intOf]; omega
   ·have HC := zgz x t wr;rw [decide_eq_false hxt] at HC;go_wp2_with (first | (go_at_call 118; refine HC.mono ?_; rintro e w' ⟨rfl, rfl⟩) | go_in)
    go_roundw
    case rel => exact ⟨lo, m, by omega, by omega, rfl, by go_num, H1, hz0q (fun j y hj hy => by
     by_cases e : j = m
     ·subst e; have := HX.out; rw [hy] at this; injection this with e2; rw [e2]; omega
     ·have := HS.out.lt HX.out hy (by omega); omega), by trivial⟩
    case measure => simp [intOf]; omega
  ·obtain rfl : lo = hi := (by omega);have hnl : ¬ ((lo : Int) < (lo : Int)) := by omega
   by_cases hend : lo < n
   ·obtain ⟨x, hx⟩ : ∃ x, ks[lo]? = some x := ⟨_, List.getElem?_eq_getElem (by rw [HLL.out]; omega)⟩;obtain ⟨b, off, rfl, hbl, hcx⟩ := hr.at_ (by omega);have c0 : wr.cell? ⟨b, off + lo, none⟩ = some (.int .i32 x) := hcx lo _ (by simp [Rs, hx]);have HX := hz0q hx;have hln : (lo : Int) < (n : Int) := (by omega);have hge := H2.out lo x (Nat.le_refl _) hx;have N1 := zin x wr;have N2 := zin t wr;clear hx hcx hbl
    by_cases hxt : x = t
    ·subst hxt;have HM : Hid (decide (x ∈ ks) = true) := decide_eq_true (List.mem_of_getElem? HX.out);clear hge;go_wp2_with (first | (go_at_call 119; refine N1.mono ?_; rintro e w' ⟨rfl, rfl⟩) | go_in)
     go_returns;rw [HM.out];exact ⟨⟨_, by first | rfl | simp⟩, rfl⟩
    ·have HM : Hid (decide (t ∈ ks) = false) := decide_eq_false fun hm => by
      obtain ⟨j, hj⟩ := List.mem_iff_getElem?.1 hm;rcases Nat.lt_trichotomy j lo with h | h | h
      ·have := H1.out j t h hj; omega
      ·subst h; have := HX.out; rw [hj] at this; injection this with e; exact hxt e.symm
      ·have := HS.out.lt HX.out hj h; omega
     have hbq : (x == t) = false := (by simpa using hxt);clear hge;go_wp2_with (first | (go_at_call 119; first | (refine N1.mono ?_; rintro e w' ⟨rfl, rfl⟩) | (refine N2.mono ?_; rintro e w' ⟨rfl, rfl⟩)) | go_in)
     go_returns;rw [HM.out];exact ⟨⟨_, by first | rfl | simp⟩, rfl⟩
   ·obtain rfl : lo = n := by omega
    have HM : Hid (decide (t ∈ ks) = false) := decide_eq_false fun hm => by
     obtain ⟨j, hj⟩ := List.mem_iff_getElem?.1 hm;have h1 := (List.getElem?_eq_some_iff.1 hj).1;have := H1.out j t (by rw [HLL.out] at h1; exact h1) hj;omega
    go_wp2;go_returns;rw [HM.out];exact ⟨⟨_, by first | rfl | simp⟩, rfl⟩
end
section
open Go.RowKit Go.Lib Go.Maps Go.Sort Go.Shelf
attribute [local go_sem] Oper.semAt_some
abbrev Ok32 (ok : Int -> Prop) := {x : Int // ok x}
section
variable {ok : Int -> Prop}
theorem values1S_in (F : Fence) (n : Nat) (hf : F.fn 114) (hro : F.round = none) (hn : 1 <= n) (l Bs b len cap : Nat) (ks : List (Ok32 ok)) (hlen : ks.length = len) (hreach : len <= 100000000) (J Jx : List (Ok32 ok) -> World -> Prop) (W : World)
  (hY : ∀ pre x W, J pre W -> pre.length < len -> YieldAt F (n - 1) Tryz.prog l #[runeV x.1] W fun e W' =>
   (e = .returned (.bool true) /\ J (pre ++ [x]) W' /\ KpV b W W') \/ (e = .returned (.bool false) /\ Jx (pre ++ [x]) W'))
  (hBs : W.cell? ⟨Bs, 0, none⟩ = some (.slice (some ⟨b, 0, none⟩) len cap)) (hc : ∀ j u, (Rs (ks.map (·.1)))[j]? = some u -> W.cell? ⟨b, 0 + j, none⟩ = some u) (h0 : J [] W) :
  CallsIn F n Tryz.prog 114 #[.func (.yield l) #[] #[], .pointer (some ⟨Bs, 0, none⟩)] W fun e W' => (∃ v, e = .returned v) /\
   ((∃ ys, ys = ks /\ J ys W') \/ (∃ pre, pre <+: ks /\ Jx pre W')) := by
 refine callsIn_of_wp Tryz.func114 rfl hf ?_ hro;simp only [Tryz.ntmps114, List.size_toArray, List.length_cons, List.length_nil, Nat.reduceAdd, Nat.reduceSub, Array.replicate_succ, Array.replicate_zero, List.push_toArray, List.append_toArray, List.nil_append, List.cons_append]
 gi_wp2
 gi_loopw [7] (fun i wr => ∃ k : Nat, k <= len /\ i = .int .i64 k /\ J (ks.take k) wr /\ KpV b W wr)
  (fun i _ => len - (intOf i).toNat)
 case atStart => exact ⟨0, Nat.zero_le _, rfl, h0, KpV.refl _ _⟩
 case round =>
  obtain ⟨k, hk, rfl, hJs, hnx⟩ := hrel
  by_cases hlt : k < len
  ·obtain ⟨x, hx⟩ : ∃ x, ks[k]? = some x := ⟨_, List.getElem?_eq_getElem (by omega)⟩
   have c0 : wr.cell? ⟨b, k, none⟩ = some (.int .i32 x.1) := by
    have := hnx.cell.trans (hc k (.int .i32 x.1) (by simp [Rs, hx]));simpa using this
   have hkk : (k : Int) < (len : Int) := (by omega);have hLk : ks.take (k + 1) = ks.take k ++ [x] := (by rw [List.take_add_one]; simp [hx]);have HLK := hz0q hLk;have hll : (ks.take k).length < len := (by rw [List.length_take]; omega);have HX := hz0q (And.intro hx hll);obtain ⟨fn, tmps, assign, body, hy, hR⟩ := hY _ x _ hJs hll;dsimp only [runeV] at hy;clear hx hLk hc hll hY
   gi_wp2
   try rw [hy]
   gi_wp2
   refine hR.mono ?_;rintro e W3 (⟨rfl, hJ3, hk3⟩ | ⟨rfl, hJx3⟩)
   ·rw [<- HLK.out] at hJ3;have hn3 := hnx.trans hk3;clear hk3 hnx hR hy
    gi_wp2
    go_roundw
    case rel => exact ⟨k + 1, by omega, by simp, hJ3, hn3⟩
    case measure => simp [intOf]; omega
   ·rw [<- HLK.out] at hJx3;clear hnx hR hy
    gi_wp2
    refine bodyPost_ret (results_none rfl _ _ _) rfl ?_;exact ⟨⟨_, rfl⟩, .inr ⟨_, List.take_prefix _ _, hJx3⟩⟩
  ·obtain rfl : k = len := (by omega);have hki : (k : Int) <= (k : Int) := Int.le_refl _
   gi_wp2
   go_end0;exact ⟨⟨_, rfl⟩, .inl ⟨_, rfl, by rwa [List.take_of_length_le (by omega)] at hJs⟩⟩
theorem values1S_nil_in (F : Fence) (n : Nat) (hf : F.fn 114) (hro : F.round = none) (l Bs : Nat) (J : List (Ok32 ok) -> World -> Prop) (W : World) (hBs : W.cell? ⟨Bs, 0, none⟩ = some (.slice none 0 0)) (h0 : J [] W) :
  CallsIn F n Tryz.prog 114 #[.func (.yield l) #[] #[], .pointer (some ⟨Bs, 0, none⟩)] W fun e W' => (∃ v, e = .returned v) /\ J [] W' := by
 refine callsIn_of_wp Tryz.func114 rfl hf ?_ hro;simp only [Tryz.ntmps114, List.size_toArray, List.length_cons, List.length_nil, Nat.reduceAdd, Nat.reduceSub, Array.replicate_succ, Array.replicate_zero, List.push_toArray, List.append_toArray, List.nil_append, List.cons_append]
 gi_wp2
 gi_loopw [7] (fun p wr => p = .int .i64 0 /\ J [] wr) (fun _ _ => 0)
 case atStart => exact ⟨rfl, h0⟩
 case round =>
  obtain ⟨rfl, hj⟩ := hrel
  gi_wp2
  go_end0;exact ⟨⟨_, rfl⟩, hj⟩
theorem zei (F : Fence) (n : Nat) (hf : F.fn 114) (hro : F.round = none) (hn : 1 <= n) (g Bs : Nat) (ks : List (Ok32 ok)) (hreach : ks.length <= 100000000) (w : World) (h : ItAt w g Bs (ks.map (·.1))) :
  SeqStopsK F n Tryz.prog 114 #[.pointer (some ⟨Bs, 0, none⟩)] (fun x : Ok32 ok => #[runeV x.1]) (KpV g) (fun ys => ys = ks) (fun pre => pre <+: ks) ks.length w := fun l J Jx W hW hJa _ hY h0 => by
 obtain ⟨h1, h2⟩ := h;rcases h2 with ⟨e, h2⟩ | ⟨h2, cap, h3, h4⟩
 ·obtain rfl : ks = [] := List.map_eq_nil_iff.1 e;exact (values1S_nil_in F n hf hro l Bs J W ((hW.cell (p := ⟨Bs, 0, none⟩) h1).trans h2) h0).mono fun e W' ⟨he, hj⟩ => ⟨he, .inl ⟨_, rfl, hj⟩⟩
 ·rw [List.length_map] at h3;exact values1S_in F n hf hro hn l Bs g ks.length cap ks rfl hreach J Jx W hY ((hW.cell (p := ⟨Bs, 0, none⟩) h1).trans h3) (fun j u hu => (hW.cell (p := ⟨g, 0 + j, none⟩) h2).trans (h4 j u hu)) h0
end
end
end Go.Proofs.YtolcabjkbefjgaaGreatDoor
