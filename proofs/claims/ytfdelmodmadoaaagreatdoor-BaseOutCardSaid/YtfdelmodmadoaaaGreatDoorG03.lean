/- Lists of characters in memory: what a call hands back, and whether two of them are one (the law's own comparison). Two lists that grow side by side. -/
import Derived.Test.YtfdelmodmadoaaaGreatDoorG02
import Derived.Shelf.Strings.SlTrimAscii
import Derived.Lib.SpaceUEq
import Derived.Shelf.Small.Wraps
import Derived.Shelf.Strings.Shaped
import Derived.Shelf.GgClosure.StringsRunes
import Derived.Shelf.Strings.SplitShaped
import Derived.Shelf.Strings.Explode
import Derived.Shelf.Strings.FieldsFuncGrows
set_option linter.unusedSimpArgs false
set_option linter.unusedVariables false
set_option maxRecDepth 20000
set_option maxHeartbeats 4000000
namespace Go.Proofs.YtfdelmodmadoaaaGreatDoor
section
open Go.RowKit
abbrev Rs (zs : List Int) : List Value := zs.map (Value.int .i32)
theorem za8 : Elem Tryz.prog 33 21 (.int .i32 0) 4 := ⟨Tryz.underlying33, by kernel_rfl, rfl⟩
def zgl (w : World) (r : List Int × Int) (e : Ending) (w' : World) : Prop :=
 ∃ A c, e = .returned (.tuple #[.slice A r.1.length c, .int .i64 r.2]) /\ w'.ownsRow w.heap.size 21 1 (.slice A r.1.length c) r.1.length (Rs r.1) /\ Below w.heap.size w w'
theorem zgl.rd {w w' : World} {r : List Int × Int} {e : Ending} (h : zgl w r e w') : ∃ A c, e = .returned (.tuple #[.slice A r.1.length c, .int .i64 r.2]) /\ Rd w' A r.1.length (Rs r.1) /\ Below w.heap.size w w' := by
 obtain ⟨A, c, he, hown, hb⟩ := h;obtain ⟨A', c', e2, _, _, hr⟩ := Rd.of_own hown;injection e2 with e2a _ _;subst e2a;exact ⟨A, c, he, hr, hb⟩
theorem zj9 (zs : List Int) (k : Nat) (h : k < zs.length) : (Rs zs)[k]? = some (.int .i32 (zs[k]?.getD 0)) := by simp [h]
theorem take_both {xs ys : List Int} {k : Nat} (h : xs.take k = ys.take k) (he : xs[k]?.getD 0 = ys[k]?.getD 0) (hx : k < xs.length) (hy : k < ys.length) : xs.take (k + 1) = ys.take (k + 1) := by
 rw [List.take_add_one, List.take_add_one, h];have h1 : xs[k]? = some xs[k] := List.getElem?_eq_getElem hx;have h2 : ys[k]? = some ys[k] := List.getElem?_eq_getElem hy;rw [h1, h2] at he ⊢;simp at he;rw [he]
theorem zgt (A B : Option Addr) (n m ca cb : Nat) (xs ys : List Int) (w : World) (hx : Rd w A n (Rs xs)) (hy : Rd w B m (Rs ys)) (hn : n <= 1099511627776) (hm : m <= 1099511627776) :
  Calls Tryz.prog 15 #[.slice A n ca, .slice B m cb] w fun e w' => e = .returned (.bool (decide (xs = ys))) /\ Drew w w' := by
 have hxl : xs.length = n := (by have := hx.1; simpa using this);have hyl : ys.length = m := by have := hy.1; simpa using this
 by_cases hnm : n = m
 ·have hb : ((n : Int) != (m : Int)) = false := (by simp [hnm]);have HNM := hz0q hnm; clear hnm;have HXL := hz0q hxl; clear hxl;have HYL := hz0q hyl; clear hyl;go_enter Tryz.func15, Tryz.ntmps15;go_wp2
  go_loopw [5] (fun i wr => ∃ k : Nat, k <= n /\ i = .int .i64 k /\ xs.take k = ys.take k /\ Drew w wr) (fun i _ => n - (intOf i).toNat)
  case atStart => exact ⟨0, Nat.zero_le _, rfl, rfl, Drew.refl _⟩
  case round =>
   obtain ⟨k, hk, rfl, htk, hd⟩ := hrel;have HTK := hz0q htk; clear htk
   by_cases hlt : k < n
   ·have hltm : k < m := (by rw [<- HNM.out]; exact hlt);obtain ⟨b, off, rfl, hbl, hcx⟩ := (hx.drewTo hd).at_ (by omega);obtain ⟨b', off', rfl, hbl', hcy⟩ := (hy.drewTo hd).at_ (by omega);have cx := hcx k _ (zj9 xs k (by rw [HXL.out]; exact hlt));have cy := hcy k _ (zj9 ys k (by rw [HYL.out]; exact hltm));clear hcx hcy hx hy;have hi : (k : Int) < (n : Int) := (by omega);have hi' : (k : Int) < (m : Int) := by omega
    by_cases he : xs[k]?.getD 0 = ys[k]?.getD 0
    ·have heb : ((xs[k]?.getD 0) != (ys[k]?.getD 0)) = false := (by simp [he]);have HE := hz0q he; clear he;go_wp2;go_quiet (fail)
     go_wp2;go_roundw
     case rel => exact ⟨k + 1, by omega, by go_num, take_both HTK.out HE.out (by rw [HXL.out]; exact hlt) (by rw [HYL.out]; exact hltm), hd.trans ⟨_, rfl⟩⟩
     case measure => simp [intOf]; omega
    ·have heb : ((xs[k]?.getD 0) != (ys[k]?.getD 0)) = true := (by simp [he]);have HE := hz0q he; clear he;go_wp2;go_quiet (fail)
     go_wp2;go_returns;exact ⟨zai (by symm; rw [decide_eq_false_iff_not]; intro hh; exact HE.out (by rw [hh])), hd.trans ⟨_, rfl⟩⟩
   ·have hkn : k = n := (by omega);subst hkn;go_wp2;go_returns;refine ⟨zai (by symm; rw [decide_eq_true_iff]; have h := HTK.out; rw [List.take_of_length_le (by rw [HXL.out]; exact Nat.le_refl _), List.take_of_length_le (by rw [HYL.out, <- HNM.out]; exact Nat.le_refl _)] at h; exact h), hd⟩
 ·have hb : ((n : Int) != (m : Int)) = true := (by rw [bne_iff_ne]; omega);have HNM := hz0q hnm; clear hnm;have HXL := hz0q hxl; clear hxl;have HYL := hz0q hyl; clear hyl;go_enter Tryz.func15, Tryz.ntmps15;go_wp2;go_returns;exact ⟨zai (by symm; rw [decide_eq_false_iff_not]; intro hh; exact HNM.out (by rw [<- HXL.out, <- HYL.out, hh])), Drew.refl _⟩
end
section
open Go.RowKit
def Apart (u v : Value) : Prop := ∀ b, v.ownBlock = some b -> u.ownBlock ≠ some b
theorem Apart.symm {u v : Value} (h : Apart u v) : Apart v u := fun b hb hv => h b hv hb
theorem Apart.step {u u' v : Value} {H : Nat} (h : Apart u v) (hu : u'.ownBlock = u.ownBlock \/ u'.ownBlock = some H) (hv : ∀ b, v.ownBlock = some b -> b < H) : Apart u' v := by
 intro b hb hc;rcases hu with hu | hu
 ·exact h b hb (hu ▸ hc)
 ·rw [hu] at hc;injection hc with hc;have := hv b hb;omega
end
end Go.Proofs.YtfdelmodmadoaaaGreatDoor
