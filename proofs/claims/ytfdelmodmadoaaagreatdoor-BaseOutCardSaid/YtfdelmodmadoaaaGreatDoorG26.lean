/- Maps of few keys; how many characters are not yet marked. Plain. -/
import Derived.Test.YtfdelmodmadoaaaGreatDoorG24
set_option linter.unusedSimpArgs false
set_option linter.unusedVariables false
set_option maxRecDepth 20000
set_option maxHeartbeats 4000000
namespace Go.Proofs.YtfdelmodmadoaaaGreatDoor
section
open Go.RowKit Go.Lib Go.Maps
theorem nodup_le {β : Type} [DecidableEq β] {l m : List β} (h : l.Nodup) (hs : ∀ x ∈ l, x ∈ m) : l.length <= m.length := by
 induction l generalizing m with
 | nil => simp
 | cons a l ih =>
  rw [List.nodup_cons] at h;have ha := hs a (List.mem_cons_self);have := ih (m := m.erase a) h.2 fun x hx => (List.mem_erase_of_ne (fun e => h.1 (by rw [<- e]; exact hx))).2 (hs x (List.mem_cons_of_mem _ hx));rw [List.length_erase_of_mem ha] at this;have hp : 0 < m.length := List.length_pos_of_mem ha;simp;omega
theorem MapF.tight {α β : Type} {P : Program} {K : TypeId} {mk : α -> Value} {lit : α -> Lit} {ok : α -> Prop} {mkV : β -> Value} {w : World} {b n : Nat} {f : α -> Option β} (h : MapF w P K lit ok mkV b n f) (B : KeyB P K mk lit ok) {U : List α}
  (hU : ∀ a, ok a -> (f a).isSome = true -> a ∈ U) : MapF w P K lit ok mkV b U.length f := by
 obtain ⟨D, h, s⟩ := h;obtain ⟨es0, hD0, hko⟩ := h.keysOf;obtain ⟨es1, hD1, hpw⟩ := h.tidy B.keyed
 have hsz : Maps.size D <= U.length := by
  classical
  subst hD0;injection hD1 with hD1;subst hD1;show es0.length <= U.length;have hn : (es0.map (·.1)).Nodup := List.pairwise_map.2 hpw
  have := nodup_le (m := U.map lit) hn fun x hx => by
   obtain ⟨p, hp, rfl⟩ := List.mem_map.1 hx;obtain ⟨v, hv⟩ := hko p hp;obtain ⟨a, ha, _, hl⟩ := B.inv hv
   have hh : Maps.has (.map es0 : DataW Value) (lit a) = true := by
    rw [has_eq, List.any_eq_true];exact ⟨p, hp, by rw [hl]; exact WideAt.sameKey_self (B.keyed.key (B.of ha))⟩
   rw [(s a ha).1] at hh;rw [hl];exact List.mem_map.2 ⟨a, hU a ha hh, rfl⟩
  simpa using this
 obtain ⟨es, clock, hb, F, hs, hD⟩ := h;refine ⟨D, ⟨es, clock, hb, F, ?_, hD⟩, s⟩;have : Maps.size D = es.size := (by rw [hD]; simp [Maps.size, length_sorted]);omega
@[irreducible] def allR : List Int := List.map Int.ofNat (List.range 1114112)
theorem ziu : allR.length = 1114112 := by unfold allR; rw [List.length_map, List.length_range]
theorem zcr {x : Int} : x ∈ allR ↔ 0 <= x /\ x < 1114112 := by
 unfold allR;rw [List.mem_map];constructor
 ·rintro ⟨n, hn, rfl⟩;rw [List.mem_range] at hn;simp only [Int.ofNat_eq_natCast];omega
 ·rintro ⟨h1, h2⟩;exact ⟨x.toNat, by rw [List.mem_range]; omega, by simp only [Int.ofNat_eq_natCast]; omega⟩
theorem zb7 {x : Int} (h : x ∈ allR) : R32 x := by
 rw [zcr] at h;unfold R32;omega
def gd (f : Int -> Option Int) (x : Int) : Int := (f x).getD 0
theorem zcy {f : Int -> Option Int} {r x v : Int} : gd (upd f r (some v)) x = if x = r then v else gd f x := by
 unfold gd upd;split <;> rfl
def cntL (l : List Int) (f : Int -> Option Int) : Nat := l.countP fun x => decide (gd f x = 0)
theorem zj5 {f g : Int -> Option Int} (h : ∀ x, gd g x = 0 -> gd f x = 0) (l : List Int) : cntL l g <= cntL l f := by
 unfold cntL;exact List.countP_mono_left fun x _ hx => by simp at hx ⊢; exact h x hx
theorem zj4 {f g : Int -> Option Int} (h : ∀ x, gd g x = 0 -> gd f x = 0) {r : Int} (h1 : gd f r = 0) (h2 : gd g r ≠ 0) : ∀ {l : List Int}, r ∈ l -> cntL l g < cntL l f
 | [], hr => by cases hr
 | a :: l, hr => by
  have hle := zj5 h l;unfold cntL at hle ⊢;rw [List.countP_cons, List.countP_cons]
  by_cases e : r = a
  ·subst e;rw [if_neg (by simpa using h2), if_pos (by simpa using h1)];omega
  ·have ih := zj4 h h1 h2 (l := l) (by simpa [e] using hr);unfold cntL at ih
   by_cases hg : gd g a = 0
   ·rw [if_pos (by simpa using hg), if_pos (by simpa using h a hg)];omega
   ·rw [if_neg (by simpa using hg)];omega
def Marks (f : Int -> Option Int) : Prop := (∀ x, gd f x = 0 \/ gd f x = 1) /\ ∀ x, R32 x -> (f x).isSome = true -> x ∈ allR
theorem Marks.upd {f : Int -> Option Int} (h : Marks f) {r : Int} (hr : r ∈ allR) {v : Int} (hv : v = 0 \/ v = 1) : Marks (upd f r (some v)) := by
 refine ⟨fun x => ?_, fun x hx hs => ?_⟩
 ·rw [zcy];split
  ·exact hv
  ·exact h.1 x
 ·unfold Go.Proofs.YtfdelmodmadoaaaGreatDoor.upd at hs;split at hs
  ·rename_i e; rw [e]; exact hr
  ·exact h.2 x hx hs
end
end Go.Proofs.YtfdelmodmadoaaaGreatDoor
