/- Rows of a file: reading them, whether two are one, and the chapter's examples. slices.ContainsFunc of characters. -/
import Derived.Test.YtfdelmodmadoaaaGreatDoorG18
set_option linter.unusedSimpArgs false
set_option linter.unusedVariables false
set_option maxRecDepth 20000
set_option maxHeartbeats 4000000
section
section
namespace Go.Proofs.YtfdelmodmadoaaaGreatDoor
open Go.RowKit
structure zcz (w : World) (A : Option Addr) (os : List RA) : Prop where
 cells : RdK w A os.length 7 (Vs os)
 into : ∀ x ∈ os, Rd w x.2.1 x.1.il.length (Rs x.1.il)
section
variable {w w' : World} {A : Option Addr} {os : List RA}
theorem zag.rd {T : TypeId} {B c : Nat} (h : zag T B w os A c) : zcz w A os := by
 refine ⟨?_, fun x hx => ?_⟩
 ·obtain ⟨A', c', hv, _, _, hr⟩ := RdK.of_own h.own;injection hv with h1 _ _;subst h1;exact hr
 ·obtain ⟨A', c', hv, _, _, hr⟩ := Rd.of_own (h.into x hx);injection hv with h1 _ _;subst h1;exact hr
theorem zcz.below (h : zcz w A os) (hb : Below w.heap.size w w') : zcz w' A os := ⟨h.cells.below (by omega) hb, fun x hx => (h.into x hx).below hb⟩
theorem zcz.at_ (h : zcz w A os) (hn : 0 < os.length) : ∃ b off, A = some ⟨b, off, none⟩ /\ b < w.heap.size /\ ∀ j u, (Vs os)[j]? = some u -> w.cell? ⟨b, off + j, none⟩ = some u := h.cells.at_ (by omega) hn
theorem zgx {os : List RA} {k : Nat} {x : RowS} {Ax : Option Addr} {cx : Nat} (hx : os[k]? = some (x, Ax, cx)) {b off : Nat} (hc : ∀ j u, (Vs os)[j]? = some u -> w.cell? ⟨b, off + j, none⟩ = some u) :
  w.cell? ⟨b, off + k * 7, none⟩ = some (.int .i32 x.fr) /\ w.cell? ⟨b, off + k * 7 + 1, none⟩ = some (.int .i32 x.up) /\ w.cell? ⟨b, off + k * 7 + 2, none⟩ = some (.string (mk8 x.nm)) /\ w.cell? ⟨b, off + k * 7 + 3, none⟩ = some (.string (mk8 x.ct)) /\ w.cell? ⟨b, off + k * 7 + 4, none⟩ = some (.int .i64 x.cl) /\ w.cell? ⟨b, off + k * 7 + 5, none⟩ = some (.string (mk8 x.kd)) /\ w.cell? ⟨b, off + k * 7 + 6, none⟩ = some (.slice Ax x.il.length cx) := by
 have hv := Vs_at os k _ hx
 have g : ∀ j u, (rowC (x, Ax, cx))[j]? = some u -> w.cell? ⟨b, off + k * 7 + j, none⟩ = some u := fun j u hu => by
  have := hc _ _ (hv j u hu);rwa [<- Nat.add_assoc] at this
 exact ⟨g 0 _ rfl, g 1 _ rfl, g 2 _ rfl, g 3 _ rfl, g 4 _ rfl, g 5 _ rfl, g 6 _ rfl⟩
end
end Go.Proofs.YtfdelmodmadoaaaGreatDoor
end
section
namespace Go.Proofs.YtfdelmodmadoaaaGreatDoor
open Go.RowKit
theorem indexf_any (g : FuncId) (cb : Array Value) (en : ∀ args w, (callFunc g args).run Tryz.prog w = .ok (.enter g args) w) (p : Int -> Bool) (A : Option Addr) (n c : Nat) (zs : List Int) (w : World) (hr : Rd w A n (Rs zs)) (hn : n <= 1099511627776)
  (hp : ∀ x W, Below w.heap.size w W -> Calls Tryz.prog g (#[.int .i32 x] ++ cb) W fun e W' => e = .returned (.bool (p x)) /\ Below W.heap.size W W') :
  Calls Tryz.prog 105 #[.slice A n c, .func (.func g) #[] cb] w fun e w' => (∃ k : Int, e = .returned (.int .i64 k) /\ decide (0 <= k) = zs.any p) /\ Below w.heap.size w w' := by
 have hzl : zs.length = n := (by have := hr.1; simpa [Rs] using this);have HZL := hz0q hzl;clear hzl;have HP := hz0q hp;clear hp;go_enter Tryz.func105, Tryz.ntmps105;go_wp2
 go_loopw [8] (fun i wr => ∃ k : Nat, k <= n /\ i = .int .i64 k /\ Hid ((zs.take k).any p = false) /\ Below w.heap.size w wr) (fun i _ => n - (intOf i).toNat)
 case atStart => exact ⟨0, Nat.zero_le _, rfl, by show _ = _; rfl, Below.refl _ _⟩
 case round =>
  obtain ⟨k, hk, rfl, HA, hb⟩ := hrel
  by_cases hlt : k < n
  ·obtain ⟨x, hx⟩ : ∃ x, zs[k]? = some x := ⟨_, List.getElem?_eq_getElem (by rw [HZL.out]; exact hlt)⟩;obtain ⟨b, off, rfl, hbl, hc⟩ := (hr.below hb).at_ (by omega);have cx : wr.cell? ⟨b, off + k, none⟩ = some (.int .i32 x) := hc k _ (by simp [Rs, hx]);have HC := HP.out x wr hb
   have HT : Hid ((zs.take (k + 1)).any p = p x) := by
    show _ = _;rw [List.take_add_one, hx, List.any_append, HA.out];simp
   have hi : (k : Int) < (n : Int) := (by omega);clear hc hr hx
   cases hpx : p x
   ·rw [hpx] at HC HT;clear hpx;go_wp2_with fail;refine HC.mono ?_;rintro e w1 ⟨rfl, hb1⟩;have hb2 := zb hb hb1;go_wp2;go_roundw
    case rel => exact ⟨k + 1, by omega, by go_num, HT, hb2⟩
    case measure => simp [intOf]; omega
   ·have HZ : Hid (zs.any p = true) := by
     show _ = _;rw [<- List.take_append_drop (k + 1) zs, List.any_append, HT.out, hpx];rfl
    rw [hpx] at HC;clear hpx HT;go_wp2_with fail;refine HC.mono ?_;rintro e w1 ⟨rfl, hb1⟩;have hb2 := zb hb hb1;go_wp2;go_returns;rw [HZ.out];exact ⟨⟨(k : Int), rfl, by simp⟩, hb2⟩
  ·have hi : (n : Int) <= (k : Int) := by omega
   have HZ : Hid (zs.any p = false) := by
    show _ = _;rw [<- HA.out, List.take_of_length_le (by rw [HZL.out]; omega)]
   go_wp2;go_returns;rw [HZ.out];exact ⟨⟨-1, rfl, by decide⟩, hb⟩
theorem containsf_any (g : FuncId) (cb : Array Value) (en : ∀ args w, (callFunc g args).run Tryz.prog w = .ok (.enter g args) w) (p : Int -> Bool) (A : Option Addr) (n c : Nat) (zs : List Int) (w : World) (hr : Rd w A n (Rs zs)) (hn : n <= 1099511627776)
  (hp : ∀ x W, Below w.heap.size w W -> Calls Tryz.prog g (#[.int .i32 x] ++ cb) W fun e W' => e = .returned (.bool (p x)) /\ Below W.heap.size W W') :
  Calls Tryz.prog 63 #[.slice A n c, .func (.func g) #[] cb] w fun e w' => e = .returned (.bool (zs.any p)) /\ Below w.heap.size w w' := by
 have HI := indexf_any g cb en p A n c zs w hr hn hp;clear hp hr;go_enter Tryz.func63, Tryz.ntmps63;go_wp2_with fail;refine HI.mono ?_;rintro e w1 ⟨⟨k, rfl, hk⟩, hb⟩;have HK := hz0q hk;clear hk HI;go_wp2;go_returns;refine ⟨?_, hb⟩;rw [<- HK.out];rfl
def betw (a b x : Int) : Bool := decide (a <= x) && decide (x <= b)
theorem sets1_any (x a b : Int) (p q : Nat) (w : World) (ha : w.cell? ⟨p, 0, none⟩ = some (.int .i32 a)) (hb : w.cell? ⟨q, 0, none⟩ = some (.int .i32 b)) :
  Calls Tryz.prog 64 #[.int .i32 x, .pointer (some ⟨p, 0, none⟩), .pointer (some ⟨q, 0, none⟩)] w fun e w' => e = .returned (.bool (betw a b x)) /\ w = w' := by
 by_cases h1 : a <= x
 ·by_cases h2 : x <= b
  ·go_enter Tryz.func64, Tryz.ntmps64;go_wp2;go_returns;exact ⟨zai (by simp [betw, h1, h2]), rfl⟩
  ·have h3 : b < x := (by omega);go_enter Tryz.func64, Tryz.ntmps64;go_wp2;go_returns;exact ⟨zai (by simp [betw, h2]; try omega), rfl⟩
 ·have h3 : x < a := (by omega);go_enter Tryz.func64, Tryz.ntmps64;go_wp2;go_returns;exact ⟨zai (by simp [betw, h1]; try omega), rfl⟩
end Go.Proofs.YtfdelmodmadoaaaGreatDoor
end
end
