/- slices.Values, gone through, where something is known of each character. -/
import Derived.Test.YtfdelmodmadoaaaGreatDoorG27
set_option linter.unusedSimpArgs false
set_option linter.unusedVariables false
set_option maxRecDepth 20000
set_option maxHeartbeats 4000000
namespace Go.Proofs.YtfdelmodmadoaaaGreatDoor
section
open Go.RowKit Go.Lib Go.Maps Go.Sort Go.Shelf
attribute [local go_sem] Oper.semAt_some
abbrev Ok32 (ok : Int -> Prop) := {x : Int // ok x}
section
variable {ok : Int -> Prop}
theorem values1S_in (F : Fence) (n : Nat) (hf : F.fn 71) (hro : F.round = none) (hn : 1 <= n) (l Bs b len cap : Nat) (ks : List (Ok32 ok)) (hlen : ks.length = len) (hreach : len <= 100000000) (J Jx : List (Ok32 ok) -> World -> Prop) (W : World)
  (hY : ∀ pre x W, J pre W -> pre.length < len -> YieldAt F (n - 1) Tryz.prog l #[runeV x.1] W fun e W' =>
   (e = .returned (.bool true) /\ J (pre ++ [x]) W' /\ KpV b W W') \/ (e = .returned (.bool false) /\ Jx (pre ++ [x]) W'))
  (hBs : W.cell? ⟨Bs, 0, none⟩ = some (.slice (some ⟨b, 0, none⟩) len cap)) (hc : ∀ j u, (Rs (ks.map (·.1)))[j]? = some u -> W.cell? ⟨b, 0 + j, none⟩ = some u) (h0 : J [] W) :
  CallsIn F n Tryz.prog 71 #[.func (.yield l) #[] #[], .pointer (some ⟨Bs, 0, none⟩)] W fun e W' => (∃ v, e = .returned v) /\
   ((∃ ys, ys = ks /\ J ys W') \/ (∃ pre, pre <+: ks /\ Jx pre W')) := by
 refine callsIn_of_wp Tryz.func71 rfl hf ?_ hro;simp only [Tryz.ntmps71, List.size_toArray, List.length_cons, List.length_nil, Nat.reduceAdd, Nat.reduceSub, Array.replicate_succ, Array.replicate_zero, List.push_toArray, List.append_toArray, List.nil_append, List.cons_append]
 gi_wp2
 gi_loopw [7] (fun i wr => ∃ k : Nat, k <= len /\ i = .int .i64 k /\ J (ks.take k) wr /\ KpV b W wr)
  (fun i _ => len - (intOf i).toNat)
 case atStart => exact ⟨0, Nat.zero_le _, rfl, h0, KpV.refl _ _⟩
 case round =>
  obtain ⟨k, hk, rfl, hJs, hnx⟩ := hrel
  by_cases hlt : k < len
  ·obtain ⟨x, hx⟩ : ∃ x, ks[k]? = some x := ⟨_, List.getElem?_eq_getElem (by omega)⟩
   have c0 : wr.cell? ⟨b, k, none⟩ = some (.int .i32 x.1) := by
    have := hnx.cell.trans (hc k (.int .i32 x.1) (by simp [Rs, hx]));simpa using this
   have hkk : (k : Int) < (len : Int) := (by omega);have hLk : ks.take (k + 1) = ks.take k ++ [x] := (by rw [List.take_add_one]; simp [hx]);have HLK := hz0q hLk;have hll : (ks.take k).length < len := (by rw [List.length_take]; omega);have HX := hz0q (And.intro hx hll);obtain ⟨fn, tmps, assign, body, hy, hR⟩ := hY _ x _ hJs hll;dsimp only [runeV] at hy;clear hx hLk hc hll hY
   gi_wp2
   try rw [hy]
   gi_wp2
   refine hR.mono ?_;rintro e W3 (⟨rfl, hJ3, hk3⟩ | ⟨rfl, hJx3⟩)
   ·rw [<- HLK.out] at hJ3;have hn3 := hnx.trans hk3;clear hk3 hnx hR hy
    gi_wp2
    go_roundw
    case rel => exact ⟨k + 1, by omega, by simp, hJ3, hn3⟩
    case measure => simp [intOf]; omega
   ·rw [<- HLK.out] at hJx3;clear hnx hR hy
    gi_wp2
    refine bodyPost_ret (results_none rfl _ _ _) rfl ?_;exact ⟨⟨_, rfl⟩, .inr ⟨_, List.take_prefix _ _, hJx3⟩⟩
  ·obtain rfl : k = len := (by omega);have hki : (k : Int) <= (k : Int) := Int.le_refl _
   gi_wp2
   go_end0;exact ⟨⟨_, rfl⟩, .inl ⟨_, rfl, by rwa [List.take_of_length_le (by omega)] at hJs⟩⟩
theorem values1S_nil_in (F : Fence) (n : Nat) (hf : F.fn 71) (hro : F.round = none) (l Bs : Nat) (J : List (Ok32 ok) -> World -> Prop) (W : World) (hBs : W.cell? ⟨Bs, 0, none⟩ = some (.slice none 0 0)) (h0 : J [] W) :
  CallsIn F n Tryz.prog 71 #[.func (.yield l) #[] #[], .pointer (some ⟨Bs, 0, none⟩)] W fun e W' => (∃ v, e = .returned v) /\ J [] W' := by
 refine callsIn_of_wp Tryz.func71 rfl hf ?_ hro;simp only [Tryz.ntmps71, List.size_toArray, List.length_cons, List.length_nil, Nat.reduceAdd, Nat.reduceSub, Array.replicate_succ, Array.replicate_zero, List.push_toArray, List.append_toArray, List.nil_append, List.cons_append]
 gi_wp2
 gi_loopw [7] (fun p wr => p = .int .i64 0 /\ J [] wr) (fun _ _ => 0)
 case atStart => exact ⟨rfl, h0⟩
 case round =>
  obtain ⟨rfl, hj⟩ := hrel
  gi_wp2
  go_end0;exact ⟨⟨_, rfl⟩, hj⟩
theorem zbw (F : Fence) (n : Nat) (hf : F.fn 71) (hro : F.round = none) (hn : 1 <= n) (g Bs : Nat) (ks : List (Ok32 ok)) (hreach : ks.length <= 100000000) (w : World) (h : ItAt w g Bs (ks.map (·.1))) :
  SeqStopsK F n Tryz.prog 71 #[.pointer (some ⟨Bs, 0, none⟩)] (fun x : Ok32 ok => #[runeV x.1]) (KpV g) (fun ys => ys = ks) (fun pre => pre <+: ks) ks.length w := fun l J Jx W hW hJa _ hY h0 => by
 obtain ⟨h1, h2⟩ := h;rcases h2 with ⟨e, h2⟩ | ⟨h2, cap, h3, h4⟩
 ·obtain rfl : ks = [] := List.map_eq_nil_iff.1 e;exact (values1S_nil_in F n hf hro l Bs J W ((hW.cell (p := ⟨Bs, 0, none⟩) h1).trans h2) h0).mono fun e W' ⟨he, hj⟩ => ⟨he, .inl ⟨_, rfl, hj⟩⟩
 ·rw [List.length_map] at h3;exact values1S_in F n hf hro hn l Bs g ks.length cap ks rfl hreach J Jx W hY ((hW.cell (p := ⟨Bs, 0, none⟩) h1).trans h3) (fun j u hu => (hW.cell (p := ⟨g, 0 + j, none⟩) h2).trans (h4 j u hu)) h0
end
end
end Go.Proofs.YtfdelmodmadoaaaGreatDoor
