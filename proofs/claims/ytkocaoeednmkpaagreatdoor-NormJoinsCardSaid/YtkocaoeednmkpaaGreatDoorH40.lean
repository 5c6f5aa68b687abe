/- slices.Values, gone through, where something is known of each character. The document's Head, Blocked and Join: the code. -/
import Derived.Test.YtkocaoeednmkpaaGreatDoorH39
set_option linter.unusedSimpArgs false
set_option linter.unusedVariables false
set_option maxRecDepth 20000
set_option maxHeartbeats 4000000
namespace Go.Proofs.YtkocaoeednmkpaaGreatDoor
section
open Go.RowKit Go.Lib Go.Maps Go.Sort Go.Shelf
attribute [local go_sem] Oper.semAt_some
abbrev Ok32 (ok : Int -> Prop) := {x : Int // ok x}
section
variable {ok : Int -> Prop}
theorem values1S_in (F : Fence) (n : Nat) (hf : F.fn 147) (hro : F.round = none) (hn : 1 <= n) (l Bs b len cap : Nat) (ks : List (Ok32 ok)) (hlen : ks.length = len) (hreach : len <= 100000000) (J Jx : List (Ok32 ok) -> World -> Prop) (W : World)
  (hY : ∀ pre x W, J pre W -> pre.length < len -> YieldAt F (n - 1) Tryz.prog l #[runeV x.1] W fun e W' =>
   (e = .returned (.bool true) /\ J (pre ++ [x]) W' /\ KpV b W W') \/ (e = .returned (.bool false) /\ Jx (pre ++ [x]) W'))
  (hBs : W.cell? ⟨Bs, 0, none⟩ = some (.slice (some ⟨b, 0, none⟩) len cap)) (hc : ∀ j u, (Rs (ks.map (·.1)))[j]? = some u -> W.cell? ⟨b, 0 + j, none⟩ = some u) (h0 : J [] W) :
  CallsIn F n Tryz.prog 147 #[.func (.yield l) #[] #[], .pointer (some ⟨Bs, 0, none⟩)] W fun e W' => (∃ v, e = .returned v) /\
   ((∃ ys, ys = ks /\ J ys W') \/ (∃ pre, pre <+: ks /\ Jx pre W')) := by
 refine callsIn_of_wp Tryz.func147 rfl hf ?_ hro;simp only [Tryz.ntmps147, List.size_toArray, List.length_cons, List.length_nil, Nat.reduceAdd, Nat.reduceSub, Array.replicate_succ, Array.replicate_zero, List.push_toArray, List.append_toArray, List.nil_append, List.cons_append]
 gi_wp2
 gi_loopw [7] (fun i wr => ∃ k : Nat, k <= len /\ i = .int .i64 k /\ J (ks.take k) wr /\ KpV b W wr)
  (fun i _ => len - (intOf i).toNat)
 case atStart => exact ⟨0, Nat.zero_le _, rfl, h0, KpV.refl _ _⟩
 case round =>
  obtain ⟨k, hk, rfl, hJs, hnx⟩ := hrel
  by_cases hlt : k < len
  ·obtain ⟨x, hx⟩ : ∃ x, ks[k]? = some x := ⟨_, List.getElem?_eq_getElem (by omega)⟩
   have c0 : wr.cell? ⟨b, k, none⟩ = some (.int .i32 x.1) := by
    have := hnx.cell.trans (hc k (.int .i32 x.1) (by simp [Rs, hx]));simpa using this
   have hkk : (k : Int) < (len : Int) := (by omega);have hLk : ks.take (k + 1) = ks.take k ++ [x] := (by rw [List.take_add_one]; simp [hx]);have HLK := hz0q hLk;have hll : (ks.take k).length < len := (by rw [List.length_take]; omega);have HX := hz0q (And.intro hx hll);obtain ⟨fn, tmps, assign, body, hy, hR⟩ := hY _ x _ hJs hll;dsimp only [runeV] at hy;clear hx hLk hc hll hY
   gi_wp2
   try rw [hy]
   gi_wp2
   refine hR.mono ?_;rintro e W3 (⟨rfl, hJ3, hk3⟩ | ⟨rfl, hJx3⟩)
   ·rw [<- HLK.out] at hJ3;have hn3 := hnx.trans hk3;clear hk3 hnx hR hy
    gi_wp2
    go_roundw
    case rel => exact ⟨k + 1, by omega, by simp, hJ3, hn3⟩
    case measure => simp [intOf]; omega
   ·rw [<- HLK.out] at hJx3;clear hnx hR hy
    gi_wp2
    refine bodyPost_ret (results_none rfl _ _ _) rfl ?_;exact ⟨⟨_, rfl⟩, .inr ⟨_, List.take_prefix _ _, hJx3⟩⟩
  ·obtain rfl : k = len := (by omega);have hki : (k : Int) <= (k : Int) := Int.le_refl _
   gi_wp2
   go_end0;exact ⟨⟨_, rfl⟩, .inl ⟨_, rfl, by rwa [List.take_of_length_le (by omega)] at hJs⟩⟩
theorem values1S_nil_in (F : Fence) (n : Nat) (hf : F.fn 147) (hro : F.round = none) (l Bs : Nat) (J : List (Ok32 ok) -> World -> Prop) (W : World) (hBs : W.cell? ⟨Bs, 0, none⟩ = some (.slice none 0 0)) (h0 : J [] W) :
  CallsIn F n Tryz.prog 147 #[.func (.yield l) #[] #[], .pointer (some ⟨Bs, 0, none⟩)] W fun e W' => (∃ v, e = .returned v) /\ J [] W' := by
 refine callsIn_of_wp Tryz.func147 rfl hf ?_ hro;simp only [Tryz.ntmps147, List.size_toArray, List.length_cons, List.length_nil, Nat.reduceAdd, Nat.reduceSub, Array.replicate_succ, Array.replicate_zero, List.push_toArray, List.append_toArray, List.nil_append, List.cons_append]
 gi_wp2
 gi_loopw [7] (fun p wr => p = .int .i64 0 /\ J [] wr) (fun _ _ => 0)
 case atStart => exact ⟨rfl, h0⟩
 case round =>
  obtain ⟨rfl, hj⟩ := hrel
  gi_wp2
  go_end0;exact ⟨⟨_, rfl⟩, hj⟩
theorem zfk (F : Fence) (n : Nat) (hf : F.fn 147) (hro : F.round = none) (hn : 1 <= n) (g Bs : Nat) (ks : List (Ok32 ok)) (hreach : ks.length <= 100000000) (w : World) (h : ItAt w g Bs (ks.map (·.1))) :
  SeqStopsK F n Tryz.prog 147 #[.pointer (some ⟨Bs, 0, none⟩)] (fun x : Ok32 ok => #[runeV x.1]) (KpV g) (fun ys => ys = ks) (fun pre => pre <+: ks) ks.length w := fun l J Jx W hW hJa _ hY h0 => by
 obtain ⟨h1, h2⟩ := h;rcases h2 with ⟨e, h2⟩ | ⟨h2, cap, h3, h4⟩
 ·obtain rfl : ks = [] := List.map_eq_nil_iff.1 e;exact (values1S_nil_in F n hf hro l Bs J W ((hW.cell (p := ⟨Bs, 0, none⟩) h1).trans h2) h0).mono fun e W' ⟨he, hj⟩ => ⟨he, .inl ⟨_, rfl, hj⟩⟩
 ·rw [List.length_map] at h3;exact values1S_in F n hf hro hn l Bs g ks.length cap ks rfl hreach J Jx W hY ((hW.cell (p := ⟨Bs, 0, none⟩) h1).trans h3) (fun j u hu => (hW.cell (p := ⟨g, 0 + j, none⟩) h2).trans (h4 j u hu)) h0
end
end
section
open Go.RowKit Go.Sort
def SameW (a b : World) : Prop := a = b
section
variable {w : World} {pv : Value} {B : BaseF}
theorem zlm (hR : RefIs w pv B) (A : Option Addr) (n cp : Nat) (xs : List Int) (hrd : Rd w A n (Rs xs)) (hn : xs.length = n) (hn2 : n <= 1000000) (i : Nat) (hi : i <= n) :
  Calls Tryz.prog 84 #[pv, .slice A n cp, .int .i64 i] w fun e w' => e = .returned (.int .i64 (B.findS (xs.take i)).1) /\ w = w' := by
 have HN := hz0q hn;have HR := hz0q hR;have HRD := hz0q hrd;have hwn : IntKind.i64.wrap ((i : Int) - 1) = (i : Int) - 1 := IntWalk.i64_in _ (by omega);have HS0 : Hid ((B.findS (xs.take i)).1 = (B.findR ((xs.take i).take i).reverse 0).1) := (by show _ = _; rw [List.take_take, Nat.min_self]; rfl);have HW0 : Hid (SameW w w) := rfl;clear hrd hn hR;go_enter Tryz.func84, Tryz.ntmps84;go_wp2
 go_loopw [7] (fun s7 wr => ∃ (j : Nat) (z : Int), z + 1 = j /\ j <= i /\ s7 = .int .i64 z /\ Hid ((B.findS (xs.take i)).1 = (B.findR ((xs.take i).take j).reverse 0).1) /\ Hid (SameW w wr)) (fun s7 _ => (intOf s7 + 1).toNat)
 case atStart => exact ⟨i, (i : Int) - 1, by omega, Nat.le_refl _, rfl, HS0, HW0⟩
 case round =>
  obtain ⟨j, z, hzj, hji, rfl, HS, HWW⟩ := hrel;have hweq : w = wr := HWW.out;subst hweq
  by_cases hz : 0 <= z
  ·obtain ⟨m, rfl⟩ : ∃ m : Nat, z = m := ⟨z.toNat, by omega⟩;obtain rfl : j = m + 1 := (by omega);obtain ⟨r, hr⟩ : ∃ r, xs[m]? = some r := ⟨_, List.getElem?_eq_getElem (by rw [HN.out]; omega)⟩;have hr2 : (xs.take i)[m]? = some r := (by rw [List.getElem?_take, if_pos (by omega)]; exact hr);have HST := hz0q (find_step (B := B) hr2 0);obtain ⟨b, off, rfl, hbl, hcx⟩ := HRD.out.at_ (by omega);have cx := hcx m (.int .i32 r) (by simp [Rs, hr]);have C1 := zca HR.out r;obtain ⟨cl, hcl⟩ : ∃ cl, cl = B.cls r := ⟨_, rfl⟩;rw [<- hcl] at C1;have HCL := hz0q hcl;have hmi : (0 : Int) <= (m : Int) := (by omega);have hmn : (m : Int) < (n : Int) := (by omega);have hwm : IntKind.i64.wrap ((m : Int) - 1) = (m : Int) - 1 := IntWalk.i64_in _ (by omega);clear hr hr2 hcx hcl hbl hz;go_wp2_with fail;refine C1.mono ?_;rintro e w1 ⟨rfl, rfl⟩;clear C1
   by_cases h0 : cl = 0
   ·subst h0;have HF : Hid ((B.findS (xs.take i)).1 = (m : Int)) := (by show _ = _; rw [HS.out, HST.out, if_pos HCL.out.symm]);go_wp2;go_returns;exact ⟨by rw [HF.out]; rfl, HWW.out⟩
   ·have hcb : (cl == 0) = false := (by simpa using h0);have HS2 : Hid ((B.findS (xs.take i)).1 = (B.findR ((xs.take i).take m).reverse 0).1) := (by show _ = _; rw [HS.out, HST.out, if_neg (fun e => h0 (HCL.out.trans e))]; exact zmf _ _ _);clear h0;go_wp2;go_roundw
    case rel => exact ⟨m, (m : Int) - 1, by omega, by omega, rfl, HS2, HWW⟩
    case measure => simp [intOf] <;> omega
  ·obtain rfl : z = -1 := (by omega);obtain rfl : j = 0 := (by omega);have HF : Hid ((B.findS (xs.take i)).1 = -1) := (by show _ = _; rw [HS.out]; rfl);go_wp2;go_returns;exact ⟨by rw [HF.out]; rfl, HWW.out⟩
theorem rblocked_any (hR : RefIs w pv B) (A : Option Addr) (n cp : Nat) (xs : List Int) (hrd : Rd w A n (Rs xs)) (hn : xs.length = n) (hn2 : n <= 1000000) (z : Int) :
  Calls Tryz.prog 83 #[pv, .slice A n cp, .int .i64 z] w fun e w' => e = .returned (.bool (B.blocked xs z)) /\ Drew w w' := by
 have HN := hz0q hn
 by_cases hz0 : z < 0
 ·have HF : Hid (B.blocked xs z = true) := ziv xs z (.inl hz0);clear hn hrd hR;go_enter Tryz.func83, Tryz.ntmps83;go_wp2;go_returns;exact ⟨by rw [HF.out]; rfl, Drew.refl _⟩
 by_cases hzn : (n : Int) <= z
 ·have HF : Hid (B.blocked xs z = true) := ziv xs z (.inr (by rw [hn]; exact hzn));clear hn hrd hR;go_enter Tryz.func83, Tryz.ntmps83;go_wp2;go_returns;exact ⟨by rw [HF.out]; rfl, Drew.refl _⟩
 obtain ⟨i, rfl⟩ : ∃ i : Nat, z = i := ⟨z.toNat, by omega⟩;have hin : i < n := (by omega);obtain ⟨y, hy⟩ : ∃ y, xs[i]? = some y := ⟨_, List.getElem?_eq_getElem (by rw [hn]; exact hin)⟩;have HBK : Hid (B.blocked xs (i : Int) = B.blk (xs.take i) (B.cls y)) := zj4 hy;have HD1 := zlm (cp := cp) hR A n xs hrd hn hn2 i (by omega);have hqlen : (xs.take i).length = i := (by rw [List.length_take, hn]; omega);rcases find_place (B := B) (xs.take i) with h1 | ⟨h, hh, hhi⟩
 ·have HF : Hid (B.blocked xs (i : Int) = true) := (by show _ = _; rw [HBK.out]; exact blk_no _ _ h1);rw [h1] at HD1;clear hn hrd hR h1 hy hqlen;go_enter Tryz.func83, Tryz.ntmps83;go_wp2_with fail;refine HD1.mono ?_;rintro e w1 ⟨rfl, rfl⟩;clear HD1;go_wp2;go_returns;exact ⟨by rw [HF.out]; rfl, Drew.refl _⟩
 rw [hqlen] at hhi;rw [hh] at HD1;have HBD : Hid (B.blocked xs (i : Int) = ((xs.take i).drop (h + 1)).any fun m => decide (B.cls y <= B.cls m)) := (by show _ = _; rw [HBK.out]; exact blk_drop _ _ hh);have hh0 : ¬ ((h : Int) < 0) := (by omega);have hwh : IntKind.i64.wrap ((h : Int) + 1) = (h : Int) + 1 := IntWalk.i64_in _ (by omega);obtain ⟨b, off, rfl, hbl, hcx⟩ := hrd.at_ (by omega);have cy := hcx i (.int .i32 y) (by simp [Rs, hy]);have HCX : Hid (∀ k u, xs[k]? = some u -> w.cell? ⟨b, off + k, none⟩ = some (.int .i32 u)) := fun k u hu => hcx k (.int .i32 u) (by simp [Rs, hu]);have CY := fun W (hb : Below w.heap.size w W) => zca (hR.below hb) y;have HR := hz0q hR;obtain ⟨ci, hci⟩ : ∃ ci, ci = B.cls y := ⟨_, rfl⟩;have HCI := hz0q hci;have HQL := hz0q hqlen;rw [<- hci] at CY;rw [<- hci] at HBD;have HCY := hz0q CY;have hini : (i : Int) < (n : Int) := (by omega);clear hn hrd hR hh hy hqlen hcx CY hci hzn;go_enter Tryz.func83, Tryz.ntmps83;go_wp2_with fail;refine HD1.mono ?_;rintro e w1 ⟨rfl, rfl⟩;clear HD1;have HD0 : Hid (Drew w w) := Drew.refl _;go_wp2
 go_loopw [8] (fun s8 wr => ∃ k : Nat, k <= i /\ s8 = .int .i64 k /\ Hid (B.blocked xs (i : Int) = ((xs.take i).drop k).any fun m => decide (ci <= B.cls m)) /\ Hid (Drew w wr)) (fun s8 _ => i - (intOf s8).toNat)
 case atStart => exact ⟨h + 1, by omega, by go_num, HBD, HD0⟩
 case round =>
  obtain ⟨k, hk, rfl, HSB, HDW⟩ := hrel
  by_cases hlt : k < i
  ·obtain ⟨u, hu⟩ : ∃ u, xs[k]? = some u := ⟨_, List.getElem?_eq_getElem (by rw [HN.out]; omega)⟩;have hki : (k : Int) < (i : Int) := (by omega);have hkn : (k : Int) < (n : Int) := by omega
   have HSN : Hid (((xs.take i).drop k).any (fun m => decide (ci <= B.cls m)) = (decide (ci <= B.cls u) || ((xs.take i).drop (k + 1)).any fun m => decide (ci <= B.cls m))) := by
    show _ = _;have h1 : (xs.take i)[k]? = some u := (by rw [List.getElem?_take, if_pos hlt]; exact hu);obtain ⟨hkl, he⟩ := List.getElem?_eq_some_iff.1 h1;rw [List.drop_eq_getElem_cons hkl, he, List.any_cons]
   obtain ⟨cu, hcu⟩ : ∃ cu, cu = B.cls u := ⟨_, rfl⟩;have CU : Hid (∀ W, Below wr.heap.size wr W -> Calls Tryz.prog 53 #[pv, .int .i32 u] W fun e w' => e = .returned (.int .i64 (B.cls u)) /\ W = w') := fun W h => zca (HR.out.below (zb (HDW.out.below _) h)) u;have CI : Hid (∀ W, Below wr.heap.size wr W -> Calls Tryz.prog 53 #[pv, .int .i32 y] W fun e w' => e = .returned (.int .i64 ci) /\ W = w') := fun W h => HCY.out _ (zb (HDW.out.below _) h);rw [<- hcu] at CU;rw [<- hcu] at HSN
   have HMK : Hid (∀ w', Below wr.heap.size wr w' -> (w'.cell? ⟨b, off + k, none⟩ = some (.int .i32 u) /\ w'.cell? ⟨b, off + i, none⟩ = some (.int .i32 y)) /\ Below wr.heap.size wr w') := fun w' h =>
    ⟨⟨((zb (HDW.out.below _) h).cell (p := ⟨b, off + k, none⟩) hbl).trans (HCX.out k u hu), ((zb (HDW.out.below _) h).cell (p := ⟨b, off + i, none⟩) hbl).trans cy⟩, h⟩
   have HDQ : Hid (Drew w wr.drew) := HDW.out.trans ⟨1, rfl⟩;clear hu hcu
   by_cases hle : ci <= cu
   ·have HF : Hid (B.blocked xs (i : Int) = true) := (by show _ = _; rw [HSB.out, HSN.out, decide_eq_true hle]; rfl);go_upto_region 9 with fail;refine wp_region_held_drew (S := fun w' => (w'.cell? ⟨b, off + k, none⟩ = some (.int .i32 u) /\ w'.cell? ⟨b, off + i, none⟩ = some (.int .i32 y)) /\ Below wr.heap.size wr w') (by kernel_rfl) (HMK.out _ (Drew.to ⟨1, rfl⟩)) (fun hH0 => ?_);refine tkH 0 pv rfl hH0 ?_;try simp only [gA, gB, gC, Act.put, gD, gE, gF]
    refine tkH 1 (.slice (some ⟨b, off, none⟩) n cp) rfl hH0 ?_;try simp only [gA, gB, gC, Act.put, gD, gE, gF]
    refine tkH 2 (.int .i64 k) rfl hH0 ?_;try simp only [gA, gB, gC, Act.put, gD, gE, gF]
    refine tkH 3 (.pointer (some ⟨b, off + k, none⟩)) rfl hH0 ?_;try simp only [gA, gB, gC, Act.put, gD, gE, gF]
    refine tkH 4 (.int .i32 u) rfl hH0 ?_;try simp only [gA, gB, gC, Act.put, gD, gE, gF]
    refine tkH 6 pv rfl hH0 ?_;try simp only [gA, gB, gC, Act.put, gD, gE, gF]
    refine tkH 7 (.slice (some ⟨b, off, none⟩) n cp) rfl hH0 ?_;try simp only [gA, gB, gC, Act.put, gD, gE, gF]
    refine tkH 8 (.int .i64 i) rfl hH0 ?_;try simp only [gA, gB, gC, Act.put, gD, gE, gF]
    refine tkH 9 (.pointer (some ⟨b, off + i, none⟩)) rfl hH0 ?_;try simp only [gA, gB, gC, Act.put, gD, gE, gF]
    refine tkH 10 (.int .i32 y) rfl hH0 ?_;try simp only [gA, gB, gC, Act.put, gD, gE, gF]
    refine wpAnyH_ready (rs := [5]) (by kernel_rfl) (by simp) ?_;refine AllReadyH.cons rfl (fun K hK => ?_) AllReadyH.nil;go_simp
    refine (CU.out _ hH0.2).mono ?_;rintro e w50 ⟨rfl, rfl⟩;refine hK.out _ _ (hH0) (fun hH1 => ?_);clear hK K hH0;try simp only [gA, gB, gC, Act.put, gD, gE, gF]
    refine wpAnyH_ready (rs := [11]) (by kernel_rfl) (by simp) ?_;refine AllReadyH.cons rfl (fun K hK => ?_) AllReadyH.nil;go_simp
    refine (CI.out _ hH1.2).mono ?_;rintro e w51 ⟨rfl, rfl⟩;refine hK.out _ _ (hH1) (fun hH2 => ?_);clear hK K hH1;try simp only [gA, gB, gC, Act.put, gD, gE, gF]
    refine tkH 12 (.bool true) rfl hH2 ?_;try simp only [gA, gB, gC, Act.put, gD, gE, gF]
    refine wpAnyH_done (by kernel_rfl) ?_ _;clear hH2;go_wp2;go_returns;exact ⟨by rw [HF.out]; rfl, HDQ.out⟩
   ·have HS2 : Hid (B.blocked xs (i : Int) = ((xs.take i).drop (k + 1)).any fun m => decide (ci <= B.cls m)) := (by show _ = _; rw [HSB.out, HSN.out, decide_eq_false hle, Bool.false_or]);go_upto_region 9 with fail;refine wp_region_held_drew (S := fun w' => (w'.cell? ⟨b, off + k, none⟩ = some (.int .i32 u) /\ w'.cell? ⟨b, off + i, none⟩ = some (.int .i32 y)) /\ Below wr.heap.size wr w') (by kernel_rfl) (HMK.out _ (Drew.to ⟨1, rfl⟩)) (fun hH0 => ?_);refine tkH 0 pv rfl hH0 ?_;try simp only [gA, gB, gC, Act.put, gD, gE, gF]
    refine tkH 1 (.slice (some ⟨b, off, none⟩) n cp) rfl hH0 ?_;try simp only [gA, gB, gC, Act.put, gD, gE, gF]
    refine tkH 2 (.int .i64 k) rfl hH0 ?_;try simp only [gA, gB, gC, Act.put, gD, gE, gF]
    refine tkH 3 (.pointer (some ⟨b, off + k, none⟩)) rfl hH0 ?_;try simp only [gA, gB, gC, Act.put, gD, gE, gF]
    refine tkH 4 (.int .i32 u) rfl hH0 ?_;try simp only [gA, gB, gC, Act.put, gD, gE, gF]
    refine tkH 6 pv rfl hH0 ?_;try simp only [gA, gB, gC, Act.put, gD, gE, gF]
    refine tkH 7 (.slice (some ⟨b, off, none⟩) n cp) rfl hH0 ?_;try simp only [gA, gB, gC, Act.put, gD, gE, gF]
    refine tkH 8 (.int .i64 i) rfl hH0 ?_;try simp only [gA, gB, gC, Act.put, gD, gE, gF]
    refine tkH 9 (.pointer (some ⟨b, off + i, none⟩)) rfl hH0 ?_;try simp only [gA, gB, gC, Act.put, gD, gE, gF]
    refine tkH 10 (.int .i32 y) rfl hH0 ?_;try simp only [gA, gB, gC, Act.put, gD, gE, gF]
    refine wpAnyH_ready (rs := [5]) (by kernel_rfl) (by simp) ?_;refine AllReadyH.cons rfl (fun K hK => ?_) AllReadyH.nil;go_simp
    refine (CU.out _ hH0.2).mono ?_;rintro e w50 ⟨rfl, rfl⟩;refine hK.out _ _ (hH0) (fun hH1 => ?_);clear hK K hH0;try simp only [gA, gB, gC, Act.put, gD, gE, gF]
    refine wpAnyH_ready (rs := [11]) (by kernel_rfl) (by simp) ?_;refine AllReadyH.cons rfl (fun K hK => ?_) AllReadyH.nil;go_simp
    refine (CI.out _ hH1.2).mono ?_;rintro e w51 ⟨rfl, rfl⟩;refine hK.out _ _ (hH1) (fun hH2 => ?_);clear hK K hH1;try simp only [gA, gB, gC, Act.put, gD, gE, gF]
    refine tkH 12 (.bool false) rfl hH2 ?_;try simp only [gA, gB, gC, Act.put, gD, gE, gF]
    refine wpAnyH_done (by kernel_rfl) ?_ _;clear hH2;go_wp2;go_roundw
    case rel => exact ⟨k + 1, by omega, by go_num, HS2, HDQ⟩
    case measure => simp [intOf] <;> omega
  ·obtain rfl : k = i := (by omega);have hki : (k : Int) <= (k : Int) := Int.le_refl _;have HF : Hid (B.blocked xs (k : Int) = false) := (by show _ = _; rw [HSB.out, List.drop_eq_nil_of_le (by rw [HQL.out]; exact Nat.le_refl _)]; rfl);go_wp2;go_returns;exact ⟨by rw [HF.out]; rfl, HDW.out⟩
theorem zjh (hR : RefIs w pv B) (hbd : zac B) (A : Option Addr) (n cp : Nat) (xs : List Int) (hrd : Rd w A n (Rs xs)) (hn : xs.length = n) (hx : ∀ x ∈ xs, R32 x) (hn2 : n <= 999999) :
  Calls Tryz.prog 51 #[pv, .slice A n cp] w (zae w (B.join xs)) := by
 have HN := hz0q hn;have HR := hz0q hR;have HRD := hz0q hrd;have HX := hz0q hx;have HBD := hz0q hbd;clear hrd hn hR hx hbd;go_enter Tryz.func51, Tryz.ntmps51;go_wp2
 go_loopw [5, 6] (fun s5 i wr => ∃ (k L : Nat) (out : List Int) (A9 : Option Addr) (c9 : Nat), k <= n /\ L <= k /\ i = .int .i64 k /\ s5 = .slice A9 L c9 /\ Hid (L = out.length) /\ Hid (out = (B.jn xs k).out) /\ Hid (wr.ownsRow w.heap.size 21 1 (.slice A9 L c9) L (Rs out)) /\ Hid (Below w.heap.size w wr)) (fun _ i _ => n - (intOf i).toNat)
 case atStart => exact ⟨0, 0, [], none, 0, Nat.zero_le _, Nat.le_refl _, rfl, rfl, rfl, rfl, World.ownsRow_nil _ _ _ _, Below.refl _ _⟩
 case round =>
  obtain ⟨k, L, out, A9, c9, hk, hLk, rfl, rfl, HL, HO, HOWN, HBW⟩ := hrel
  by_cases hlt : k < n
  ·obtain ⟨r, hr⟩ : ∃ r, xs[k]? = some r := ⟨_, List.getElem?_eq_getElem (by rw [HN.out]; exact hlt)⟩;obtain ⟨b, off, rfl, hbl, hcx⟩ := HRD.out.at_ (by omega);have c0 : wr.cell? ⟨b, off + k, none⟩ = some (.int .i32 r) := (HBW.out.cell (p := ⟨b, off + k, none⟩) hbl).trans (hcx k (.int .i32 r) (by simp [Rs, hr]));have HC0 : Hid (∀ W, Below w.heap.size w W -> W.cell? ⟨b, off + k, none⟩ = some (.int .i32 r)) := fun W h => (h.cell (p := ⟨b, off + k, none⟩) hbl).trans (hcx k (.int .i32 r) (by simp [Rs, hr]));have hki : (k : Int) < (n : Int) := (by omega);have HJS := hz0q (zpr (B := B) hr);have HRR := hz0q (HX.out r (List.mem_of_getElem? hr));have hbx : Below wr.heap.size wr (wr.alloc (.cells #[.int .i32 r] 21)) := (Below.refl _ _).alloc (Nat.le_refl _) _;have hownx := z8 HOWN.out hbx;have hbX := zb HBW.out hbx;have hbsX := hbX.size;have HBL := hz0q hbl;clear hr hcx hbl;go_wp2_with (at_builtin; refine z6 zab _ rfl _ _ rfl w.heap.size rfl hownx rfl (Rd.new1 _ _ _) (zci rfl) (by omega) (by omega) hbsX ?_)
   intro A4 c4 w4 hown4 hg4 hat4;have HB4 := hz0q (zbb hbX hbsX hownx hg4);have HOWN4 := hz0q hown4;have hlen4 : (out ++ [r]).length = L + 1 := (by rw [List.length_append, <- HL.out]; rfl);obtain ⟨Ay, cy, hvy, hLc, _, hrd4⟩ := Rd.of_own hown4;injection hvy with e1 _ e3;subst e1 e3;have hrd4' : Rd w4 A4 (L + 1) (Rs (out ++ [r])) := by simpa [Rs] using hrd4
   have HBK : Hid (B.blocked (out ++ [r]) (L : Int) = B.blk out (B.cls r)) := by
    show _ = _;have h1 : (out ++ [r])[L]? = some r := (by rw [HL.out]; simp);rw [zj4 h1, HL.out, List.take_left]
   have RB := rblocked_any (cp := c4) (HR.out.below HB4.out) A4 (L + 1) (out ++ [r]) hrd4' hlen4 (by omega) (L : Int);rw [HBK.out] at RB;have hwL : IntKind.i64.wrap ((L : Int) + 1 - 1) = (L : Int) := (by rw [IntWalk.i64_in _ (by omega)]; omega);have HRD4 := hz0q hrd4';have HLN4 := hz0q hlen4;have HSB := step_blk (B := B) (jn_ok xs k) (zps xs k) r;have HSF := step_free (B := B) (jn_ok xs k) (zps xs k) r;rw [<- HO.out] at HSB HSF;have HSBH := hz0q HSB;have HSFH := hz0q HSF;obtain ⟨bk, hbk⟩ : ∃ bk, bk = B.blk out (B.cls r) := ⟨_, rfl⟩;rw [<- hbk] at RB;have HBB := hz0q hbk;clear hownx hbX hbsX hbx c0 hown4 hg4 hat4 hrd4 hrd4' hlen4 HSB HSF hbk;go_wp2_with fail;refine RB.mono ?_;rintro e w5 ⟨rfl, hd5⟩;have HB5 := hz0q (HB4.out.trans (hd5.below _));have HOWN5 := hz0q (z8 HOWN4.out (hd5.below _));have HRD5 := hz0q (HRD4.out.drewTo hd5);clear RB hd5
   cases bk with
   | true =>
    have HO4 : Hid (out ++ [r] = (B.jn xs (k + 1)).out) := (by show _ = _; rw [HJS.out, HSBH.out HBB.out.symm, zcy, <- HO.out]);have HL4 : Hid (L + 1 = (out ++ [r]).length) := HLN4.out.symm
    have HW4 : Hid (w5.ownsRow w.heap.size 21 1 (.slice A4 (L + 1) c4) (L + 1) (Rs (out ++ [r]))) := by
     have h9 := HOWN5.out;show w5.ownsRow _ _ _ _ _ _;simpa [Rs] using h9
    go_wp2;go_roundw
    case rel => exact ⟨k + 1, L + 1, _, A4, c4, by omega, by omega, by go_num, rfl, HL4, HO4, HW4, HB5⟩
    case measure => simp [intOf] <;> omega
   | false =>
    obtain ⟨c0, hc0, hst⟩ := HSFH.out HBB.out.symm;have HST := hz0q hst;obtain ⟨h, hh⟩ : ∃ h, h = (B.jn xs k).pre.length := ⟨_, rfl⟩;have hfo : (B.findS out).1 = (h : Int) := (by rw [HO.out, hh]; exact (find_out (jn_ok xs k) (zps xs k)).2 c0 hc0);have hat : out[h]? = some c0 := (by rw [HO.out, hh]; exact JS.out_at hc0);have hhL : h < L := (by rw [HL.out]; exact (List.getElem?_eq_some_iff.1 hat).1);have hat2 : (out ++ [r])[h]? = some c0 := (by rw [List.getElem?_append_left (by rw [<- HL.out]; exact hhL)]; exact hat);have RH := zlm (cp := c4) (HR.out.below HB5.out) A4 (L + 1) (out ++ [r]) HRD5.out HLN4.out (by omega) L (by omega);rw [HL.out, List.take_left, hfo, <- HL.out] at RH;have hc0R : R32 c0 := jn_R HBD.out HX.out k c0 (by rw [<- HO.out]; exact List.mem_of_getElem? hat);obtain ⟨g, hgA⟩ := zn6 HOWN5.out (zn3 HOWN5.out (m := L) rfl);subst hgA;have HG := hz0q (zn5 HOWN5.out);have HH := hz0q hh;have HC0N := hz0q hc0;have HAT2 := hz0q hat2;have HC0R := hz0q hc0R;have hhn : (h : Int) < (L : Int) + 1 := (by omega);clear hst hc0 hh hfo hat hat2 hc0R;go_wp2_with fail;refine RH.mono ?_;rintro e w6 ⟨rfl, rfl⟩;clear RH;have PR : Hid (∀ W, Below w5.heap.size w5 W -> Calls Tryz.prog 69 #[pv, .int .i32 c0, .int .i32 r] W fun e w' => e = .returned (zbu (B.pair c0 r)) /\ Below W.heap.size W w') := fun W hW => rpair_is (HR.out.below (zb HB5.out hW)) c0 r HC0R.out HRR.out
    have HMK : Hid (∀ w', Below w5.heap.size w5 w' -> (w'.cell? ⟨g, h, none⟩ = some (.int .i32 c0) /\ w'.cell? ⟨b, off + k, none⟩ = some (.int .i32 r)) /\ Below w5.heap.size w5 w') := fun w' hW => by
     refine ⟨⟨?_, HC0.out w' (zb HB5.out hW)⟩, hW⟩;obtain ⟨b', o', e, hc'⟩ := (HRD5.out.below hW).2 (by omega);injection e with e;injection e with e1 e2;subst e1 e2;have := hc' h (.int .i32 c0) (by rw [Rs, List.getElem?_map, HAT2.out]; rfl);rwa [Nat.zero_add] at this
    cases hpr : B.pair c0 r with
    | none =>
     have HO4 : Hid (out ++ [r] = (B.jn xs (k + 1)).out) := (by show _ = _; rw [HJS.out, HST.out, hpr, zcy, <- HO.out]);have HL4 : Hid (L + 1 = (out ++ [r]).length) := HLN4.out.symm;rw [hpr, show zbu none = .tuple #[.int .i32 0, .bool false] from rfl] at PR;clear hpr;go_upto_region 9 with fail;refine wp_region_held_drew (S := fun w' => (w'.cell? ⟨g, h, none⟩ = some (.int .i32 c0) /\ w'.cell? ⟨b, off + k, none⟩ = some (.int .i32 r)) /\ Below w5.heap.size w5 w') (by kernel_rfl) (HMK.out _ (Drew.to ⟨1, rfl⟩)) (fun hH0 => ?_);refine tkH 0 pv rfl hH0 ?_;try simp only [gA, gB, gC, Act.put, gD, gE, gF]
     refine tkH 1 (.slice (some ⟨g, 0, none⟩) (L + 1) c4) rfl hH0 ?_;try simp only [gA, gB, gC, Act.put, gD, gE, gF]
     refine tkH 2 (.int .i64 h) rfl hH0 ?_;try simp only [gA, gB, gC, Act.put, gD, gE, gF]
     refine tkH 3 (.pointer (some ⟨g, h, none⟩)) rfl hH0 ?_;try simp only [gA, gB, gC, Act.put, gD, gE, gF]
     refine tkH 4 (.int .i32 c0) rfl hH0 ?_;try simp only [gA, gB, gC, Act.put, gD, gE, gF]
     refine tkH 5 (.slice (some ⟨b, off, none⟩) n cp) rfl hH0 ?_;try simp only [gA, gB, gC, Act.put, gD, gE, gF]
     refine tkH 6 (.int .i64 k) rfl hH0 ?_;try simp only [gA, gB, gC, Act.put, gD, gE, gF]
     refine tkH 7 (.pointer (some ⟨b, off + k, none⟩)) rfl hH0 ?_;try simp only [gA, gB, gC, Act.put, gD, gE, gF]
     refine tkH 8 (.int .i32 r) rfl hH0 ?_;try simp only [gA, gB, gC, Act.put, gD, gE, gF]
     refine wpAnyH_ready (rs := [9]) (by kernel_rfl) (by simp) ?_;refine AllReadyH.cons rfl (fun K hK => ?_) AllReadyH.nil;go_simp
     refine (PR.out _ hH0.2).mono ?_;rintro e w50 ⟨rfl, hb6⟩;refine hK.out _ _ (HMK.out _ (zb hH0.2 hb6)) (fun hH1 => ?_);clear hK K hH0;try simp only [gA, gB, gC, Act.put, gD, gE, gF]
     refine tkH 10 (.tuple #[.int .i32 0, .bool false]) rfl hH1 ?_;try simp only [gA, gB, gC, Act.put, gD, gE, gF]
     refine tkH 11 (.int .i32 0) rfl hH1 ?_;try simp only [gA, gB, gC, Act.put, gD, gE, gF]
     refine tkH 12 (.bool false) rfl hH1 ?_;try simp only [gA, gB, gC, Act.put, gD, gE, gF]
     refine tkH 13 (.int .i32 0) rfl hH1 ?_;try simp only [gA, gB, gC, Act.put, gD, gE, gF]
     refine tkH 14 (.bool false) rfl hH1 ?_;try simp only [gA, gB, gC, Act.put, gD, gE, gF]
     refine wpAnyH_done (by kernel_rfl) ?_ _;have HB6 := hz0q hH1.2;clear hH1;have HB7 := hz0q (zb HB5.out HB6.out)
     have HW4 : Hid (w50.ownsRow w.heap.size 21 1 (.slice (some ⟨g, 0, none⟩) (L + 1) c4) (L + 1) (Rs (out ++ [r]))) := by
      have h9 := z8 HOWN5.out HB6.out;show w50.ownsRow _ _ _ _ _ _;simpa [Rs] using h9
     clear PR HMK;go_wp2;go_roundw
     case rel => exact ⟨k + 1, L + 1, _, _, c4, by omega, by omega, by go_num, rfl, HL4, HO4, HW4, HB7⟩
     case measure => simp [intOf] <;> omega
    | some c1 =>
     have HO4 : Hid (out.set h c1 = (B.jn xs (k + 1)).out) := by
      show _ = _;have hs : B.step (B.jn xs k) r = ⟨(B.jn xs k).pre, some c1, (B.jn xs k).ms⟩ := (by rw [HST.out, hpr]);have ho : out = (B.jn xs k).pre ++ ([c0] ++ (B.jn xs k).ms) := (by rw [HO.out]; unfold JS.out; rw [HC0N.out]; rfl);rw [HJS.out, hs, HH.out];rw [ho];show ((B.jn xs k).pre ++ ([c0] ++ (B.jn xs k).ms)).set (B.jn xs k).pre.length c1 = (B.jn xs k).pre ++ ([c1] ++ (B.jn xs k).ms);rw [List.set_append_right _ _ (Nat.le_refl _), Nat.sub_self];rfl
     rw [hpr, show zbu (some c1) = .tuple #[.int .i32 c1, .bool true] from rfl] at PR;clear hpr;go_upto_region 9 with fail;refine wp_region_held_drew (S := fun w' => (w'.cell? ⟨g, h, none⟩ = some (.int .i32 c0) /\ w'.cell? ⟨b, off + k, none⟩ = some (.int .i32 r)) /\ Below w5.heap.size w5 w') (by kernel_rfl) (HMK.out _ (Drew.to ⟨1, rfl⟩)) (fun hH0 => ?_);refine tkH 0 pv rfl hH0 ?_;try simp only [gA, gB, gC, Act.put, gD, gE, gF]
     refine tkH 1 (.slice (some ⟨g, 0, none⟩) (L + 1) c4) rfl hH0 ?_;try simp only [gA, gB, gC, Act.put, gD, gE, gF]
     refine tkH 2 (.int .i64 h) rfl hH0 ?_;try simp only [gA, gB, gC, Act.put, gD, gE, gF]
     refine tkH 3 (.pointer (some ⟨g, h, none⟩)) rfl hH0 ?_;try simp only [gA, gB, gC, Act.put, gD, gE, gF]
     refine tkH 4 (.int .i32 c0) rfl hH0 ?_;try simp only [gA, gB, gC, Act.put, gD, gE, gF]
     refine tkH 5 (.slice (some ⟨b, off, none⟩) n cp) rfl hH0 ?_;try simp only [gA, gB, gC, Act.put, gD, gE, gF]
     refine tkH 6 (.int .i64 k) rfl hH0 ?_;try simp only [gA, gB, gC, Act.put, gD, gE, gF]
     refine tkH 7 (.pointer (some ⟨b, off + k, none⟩)) rfl hH0 ?_;try simp only [gA, gB, gC, Act.put, gD, gE, gF]
     refine tkH 8 (.int .i32 r) rfl hH0 ?_;try simp only [gA, gB, gC, Act.put, gD, gE, gF]
     refine wpAnyH_ready (rs := [9]) (by kernel_rfl) (by simp) ?_;refine AllReadyH.cons rfl (fun K hK => ?_) AllReadyH.nil;go_simp
     refine (PR.out _ hH0.2).mono ?_;rintro e w50 ⟨rfl, hb6⟩;refine hK.out _ _ (HMK.out _ (zb hH0.2 hb6)) (fun hH1 => ?_);clear hK K hH0;try simp only [gA, gB, gC, Act.put, gD, gE, gF]
     refine tkH 10 (.tuple #[.int .i32 c1, .bool true]) rfl hH1 ?_;try simp only [gA, gB, gC, Act.put, gD, gE, gF]
     refine tkH 11 (.int .i32 c1) rfl hH1 ?_;try simp only [gA, gB, gC, Act.put, gD, gE, gF]
     refine tkH 12 (.bool true) rfl hH1 ?_;try simp only [gA, gB, gC, Act.put, gD, gE, gF]
     refine tkH 13 (.int .i32 c1) rfl hH1 ?_;try simp only [gA, gB, gC, Act.put, gD, gE, gF]
     refine tkH 14 (.bool true) rfl hH1 ?_;try simp only [gA, gB, gC, Act.put, gD, gE, gF]
     refine wpAnyH_done (by kernel_rfl) ?_ _;have HB6 := hz0q hH1.2;have hch := hH1.1.1;clear hH1;have HB7 := hz0q (zb HB5.out HB6.out);have how := z8 HOWN5.out HB6.out;have hfr : w50.frozen? ⟨g, h, none⟩ = false := (by obtain ⟨_, cur, hcu⟩ := zn5 how; exact zc hcu h);have hset := zlr (j := h) how (by omega) (.int .i32 c1);have eset : (Rs out ++ [Value.int .i32 r]).set h (Value.int .i32 c1) = Rs (out.set h c1) ++ [Value.int .i32 r] := (by rw [List.set_append_left _ _ (by rw [zbw, <- HL.out]; exact hhL)]; simp [Rs, List.map_set]);rw [eset] at hset;have HW8 := hz0q (own_shrink hset (by rw [zbw, List.length_set, <- HL.out]));have HB8 : Hid (Below w.heap.size w (w50.setCell ⟨g, h, none⟩ (.int .i32 c1))) := Below.setCell (p := ⟨g, h, none⟩) HB7.out HG.out.1 _;have HL8 : Hid (L = (out.set h c1).length) := (by show _ = _; rw [List.length_set]; exact HL.out);have hc4 : L + 1 <= c4 := hLc;have hc4n : ¬ (c4 = 0) := (by omega);have hcL : (L : Int) <= (c4 : Int) := (by omega);clear PR HMK how hset eset;go_wp2;go_roundw
     case rel => exact ⟨k + 1, L, _, _, c4, by omega, by omega, by go_num, by simp, HL8, HO4, HW8, HB8⟩
     case measure => simp [intOf] <;> omega
  ·obtain rfl : k = n := (by omega);have hki : (k : Int) <= (k : Int) := Int.le_refl _
   have HF : Hid (zae w (B.join xs) (.returned (.slice A9 L c9)) wr) := by
    have h1 : out = B.join xs := (by rw [HO.out]; exact zpt HN.out.symm);rw [<- h1];have h2 := HOWN.out;rw [HL.out] at h2;exact ⟨A9, c9, by rw [HL.out], h2, HBW.out⟩
   go_wp2;go_returns;exact HF.out
end
end
end Go.Proofs.YtkocaoeednmkpaaGreatDoor
