/- Maps of few keys; how many characters are not yet marked. Plain. What a line tells, by itself: the document's answer. -/
import Derived.Test.YtkocaoeednmkpaaGreatDoorH19
import Derived.Test.YtkocaoeednmkpaaGreatDoorH21
set_option linter.unusedSimpArgs false
set_option linter.unusedVariables false
set_option maxRecDepth 20000
set_option maxHeartbeats 4000000
namespace Go.Proofs.YtkocaoeednmkpaaGreatDoor
section
open Go.RowKit Go.Lib Go.Maps
theorem zn9 {β : Type} [DecidableEq β] {l m : List β} (h : l.Nodup) (hs : ∀ x ∈ l, x ∈ m) : l.length <= m.length := by
 induction l generalizing m with
 | nil => simp
 | cons a l ih =>
  rw [List.nodup_cons] at h;have ha := hs a (List.mem_cons_self);have := ih (m := m.erase a) h.2 fun x hx => (List.mem_erase_of_ne (fun e => h.1 (by rw [<- e]; exact hx))).2 (hs x (List.mem_cons_of_mem _ hx));rw [List.length_erase_of_mem ha] at this;have hp : 0 < m.length := List.length_pos_of_mem ha;simp;omega
theorem MapF.tight {α β : Type} {P : Program} {K : TypeId} {mk : α -> Value} {lit : α -> Lit} {ok : α -> Prop} {mkV : β -> Value} {w : World} {b n : Nat} {f : α -> Option β} (h : MapF w P K lit ok mkV b n f) (B : KeyB P K mk lit ok) {U : List α}
  (hU : ∀ a, ok a -> (f a).isSome = true -> a ∈ U) : MapF w P K lit ok mkV b U.length f := by
 obtain ⟨D, h, s⟩ := h;obtain ⟨es0, hD0, hko⟩ := h.keysOf;obtain ⟨es1, hD1, hpw⟩ := h.tidy B.keyed
 have hsz : Maps.size D <= U.length := by
  classical
  subst hD0;injection hD1 with hD1;subst hD1;show es0.length <= U.length;have hn : (es0.map (·.1)).Nodup := List.pairwise_map.2 hpw
  have := zn9 (m := U.map lit) hn fun x hx => by
   obtain ⟨p, hp, rfl⟩ := List.mem_map.1 hx;obtain ⟨v, hv⟩ := hko p hp;obtain ⟨a, ha, _, hl⟩ := B.inv hv
   have hh : Maps.has (.map es0 : DataW Value) (lit a) = true := by
    rw [has_eq, List.any_eq_true];exact ⟨p, hp, by rw [hl]; exact WideAt.sameKey_self (B.keyed.key (B.of ha))⟩
   rw [(s a ha).1] at hh;rw [hl];exact List.mem_map.2 ⟨a, hU a ha hh, rfl⟩
  simpa using this
 obtain ⟨es, clock, hb, F, hs, hD⟩ := h;refine ⟨D, ⟨es, clock, hb, F, ?_, hD⟩, s⟩;have : Maps.size D = es.size := (by rw [hD]; simp [Maps.size, length_sorted]);omega
@[irreducible] def allR : List Int := List.map Int.ofNat (List.range 1114112)
theorem zk1 : allR.length = 1114112 := by unfold allR; rw [List.length_map, List.length_range]
theorem zeu {x : Int} : x ∈ allR ↔ 0 <= x /\ x < 1114112 := by
 unfold allR;rw [List.mem_map];constructor
 ·rintro ⟨n, hn, rfl⟩;rw [List.mem_range] at hn;simp only [Int.ofNat_eq_natCast];omega
 ·rintro ⟨h1, h2⟩;exact ⟨x.toNat, by rw [List.mem_range]; omega, by simp only [Int.ofNat_eq_natCast]; omega⟩
theorem zcm {x : Int} (h : x ∈ allR) : R32 x := by
 rw [zeu] at h;unfold R32;omega
def gd (f : Int -> Option Int) (x : Int) : Int := (f x).getD 0
theorem ze5 {f : Int -> Option Int} {r x v : Int} : gd (upd f r (some v)) x = if x = r then v else gd f x := by
 unfold gd upd;split <;> rfl
def cntL (l : List Int) (f : Int -> Option Int) : Nat := l.countP fun x => decide (gd f x = 0)
theorem zqp {f g : Int -> Option Int} (h : ∀ x, gd g x = 0 -> gd f x = 0) (l : List Int) : cntL l g <= cntL l f := by
 unfold cntL;exact List.countP_mono_left fun x _ hx => by simp at hx ⊢; exact h x hx
theorem zqo {f g : Int -> Option Int} (h : ∀ x, gd g x = 0 -> gd f x = 0) {r : Int} (h1 : gd f r = 0) (h2 : gd g r ≠ 0) : ∀ {l : List Int}, r ∈ l -> cntL l g < cntL l f
 | [], hr => by cases hr
 | a :: l, hr => by
  have hle := zqp h l;unfold cntL at hle ⊢;rw [List.countP_cons, List.countP_cons]
  by_cases e : r = a
  ·subst e;rw [if_neg (by simpa using h2), if_pos (by simpa using h1)];omega
  ·have ih := zqo h h1 h2 (l := l) (by simpa [e] using hr);unfold cntL at ih
   by_cases hg : gd g a = 0
   ·rw [if_pos (by simpa using hg), if_pos (by simpa using h a hg)];omega
   ·rw [if_neg (by simpa using hg)];omega
def Marks (f : Int -> Option Int) : Prop := (∀ x, gd f x = 0 \/ gd f x = 1) /\ ∀ x, R32 x -> (f x).isSome = true -> x ∈ allR
theorem Marks.upd {f : Int -> Option Int} (h : Marks f) {r : Int} (hr : r ∈ allR) {v : Int} (hv : v = 0 \/ v = 1) : Marks (upd f r (some v)) := by
 refine ⟨fun x => ?_, fun x hx hs => ?_⟩
 ·rw [ze5];split
  ·exact hv
  ·exact h.1 x
 ·unfold Go.Proofs.YtkocaoeednmkpaaGreatDoor.upd at hs;split at hs
  ·rename_i e; rw [e]; exact hr
  ·exact h.2 x hx hs
end
section
open Go.RowKit
theorem zgf {W : World} {B : Nat} {t : TypeId} {v0 v1 v2 v3 v4 v5 v6 e : Value} {tmps : Array Value} (h : W.heap[B]? = some (.cells #[v0, v1, v2, v3, v4, v5, v6] t (0, 0))) (h2 : tmps.getD 2 undef = .pointer (some ⟨B, 0, none⟩)) (h3 : tmps.getD 3 undef = e) :
  (results Tryz.f91 tmps).run Tryz.prog W = .ok (.tuple #[.agg #[v0, v1, v2, v3, v4, v5, v6], e]) W := by
 have c0 : W.cell? ⟨B, 0, none⟩ = some v0 := za h 0 rfl;have c1 : W.cell? ⟨B, 1, none⟩ = some v1 := za h 1 rfl;have c2 : W.cell? ⟨B, 2, none⟩ = some v2 := za h 2 rfl;have c3 : W.cell? ⟨B, 3, none⟩ = some v3 := za h 3 rfl;have c4 : W.cell? ⟨B, 4, none⟩ = some v4 := za h 4 rfl;have c5 : W.cell? ⟨B, 5, none⟩ = some v5 := za h 5 rfl;have c6 : W.cell? ⟨B, 6, none⟩ = some v6 := za h 6 rfl;have h2' : tmps[2]?.getD undef = .pointer (some ⟨B, 0, none⟩) := (by simpa using h2);have h3' : tmps[3]?.getD undef = e := (by simpa using h3);simp [results, Tryz.f91, go_sem, h2, h3, h2', h3', c0, c1, c2, c3, c4, c5, c6]
theorem rrow_any (s : ByteArray) (w : World) (hs : s.size <= 1073741824) :
  Calls Tryz.prog 91 #[.string s] w (zhi w (zah (bs s))) := by
 have SP := fun w => zja s 59 w hs;rw [show ((UInt8.toNat 59 : Nat) : Int) = 59 from rfl] at SP;have hpart := zb6 59 (bs s);unfold zah;obtain ⟨L, hL⟩ : ∃ L, L = (cutL 59 (bs s)).map bareL := ⟨_, rfl⟩
 have hpl : ∀ x ∈ L, x.length <= s.size := by
  intro x hx;rw [hL] at hx;obtain ⟨y, hy, rfl⟩ := List.mem_map.1 hx;have := hpart y hy;have := zbv y;rw [ze] at *;omega
 rw [<- hL] at SP;rw [<- hL];have HPL := hz0q hpl;clear hL hpart hpl;have hbx := zl w #[.int .i32 0, .int .i32 0, .string ⟨#[]⟩, .string ⟨#[]⟩, .int .i64 0, .string ⟨#[]⟩, .slice none 0 0] 99;have hb0 : Below w.heap.size w (w.alloc (.cells #[.int .i32 0, .int .i32 0, .string ⟨#[]⟩, .string ⟨#[]⟩, .int .i64 0, .string ⟨#[]⟩, .slice none 0 0] 99)) := (Below.refl _ _).alloc (Nat.le_refl _) _;unfold zjm
 by_cases h6 : L.length < 6
 ·rw [if_pos h6];have h6i : (L.length : Int) < 6 := (by omega);clear h6;go_enter Tryz.func91, Tryz.ntmps91;go_wp2_with fail;refine (SP _).mono ?_;intro e w1 hF;obtain ⟨A, c, rfl, hr, hb⟩ := hF.rd;clear hF;replace hbx := zd hbx hb;replace hb0 := zb hb0 hb;have c0 := za hbx 0 rfl;have c1 := za hbx 1 rfl;have c2 := za hbx 2 rfl;have c3 := za hbx 3 rfl;have c4 := za hbx 4 rfl;have c5 := za hbx 5 rfl;have c6 := za hbx 6 rfl;have f0 := zc hbx 0;have f1 := zc hbx 1;have f2 := zc hbx 2;have f3 := zc hbx 3;have f4 := zc hbx 4;have f5 := zc hbx 5;have f6 := zc hbx 6;clear SP;go_wp2;refine bodyPost_ret (zgf (zbn hbx _ _ _ _ _ _ _) rfl rfl) rfl ?_;exact ⟨none, 0, rfl, World.ownsRow_nil _ _ _ _, zaz hb0 (Nat.le_refl _) _ _ _ _ _ _ _⟩
 ·rw [if_neg h6];have h6i : (6 : Int) <= (L.length : Int) := by omega
  have hg : ∀ j, j < 6 -> ∃ l, L[j]? = some l /\ L.getD j [] = l /\ l.length <= 1073741824 := fun j hj => by
   have hj2 : j < L.length := (by omega);refine ⟨L[j], List.getElem?_eq_getElem hj2, by simp [List.getD, List.getElem?_eq_getElem hj2], ?_⟩;have := HPL.out L[j] (List.getElem_mem hj2);omega
  obtain ⟨l0, g0, e0, z0⟩ := hg 0 (by omega);obtain ⟨l1, g1, e1, z1⟩ := hg 1 (by omega);obtain ⟨l2, g2, e2, z2⟩ := hg 2 (by omega);obtain ⟨l3, g3, e3, z3⟩ := hg 3 (by omega);obtain ⟨l5, g5, e5, z5⟩ := hg 5 (by omega);rw [e0, e1, e2, e3, e5];have HX := fun w => rhexM l0 w (by rw [zo]; exact z0);have NM := fun w => rdec_any (mk8 l3) w (by rw [zo]; omega);have IN := fun w => rinto_any (mk8 l5) w (by rw [zo]; exact z5);rw [zy] at NM IN;obtain ⟨⟨r, er⟩, hr0⟩ : ∃ z, z = hexS l0 := ⟨_, rfl⟩;obtain ⟨⟨n, en⟩, hn0⟩ : ∃ z, z = decS l3 := ⟨_, rfl⟩;obtain ⟨⟨kd, il, ei⟩, hi0⟩ : ∃ z, z = intoS l5 := ⟨_, rfl⟩;rw [<- hr0] at HX;rw [<- hn0] at NM;rw [<- hi0] at IN;rw [<- hr0, <- hn0, <- hi0];simp only [] at HX NM IN ⊢;clear hr0 hn0 hi0 e0 e1 e2 e3 e5 z0 z1 z2 z3 z5 hg h6 HPL;have HG : Hid (L[0]? = some l0 /\ L[1]? = some l1 /\ L[2]? = some l2 /\ L[3]? = some l3 /\ L[5]? = some l5) := ⟨g0, g1, g2, g3, g5⟩;clear g0 g1 g2 g3 g5;have hll : 6 <= L.length := by omega
  by_cases her : er = 0
  ·subst her;rw [if_neg (show ¬ ((0 : Int) ≠ 0) by simp)]
   by_cases hen : en = 0
   ·subst hen;rw [if_neg (show ¬ ((0 : Int) ≠ 0) by simp)]
    by_cases hn : 254 < n
    ·rw [if_pos hn];clear IN;go_enter Tryz.func91, Tryz.ntmps91;go_wp2_with fail;refine (SP _).mono ?_;intro e w1 hF;obtain ⟨A, c, rfl, hown, hb⟩ := hF;have hr := ze1 hown;replace hbx := zd hbx hb;replace hb0 := zb hb0 hb;obtain ⟨b, off, rfl, hbl, hcx⟩ := hr.at_ (by omega);have d0 : w1.cell? ⟨b, off, none⟩ = some (.string (mk8 l0)) := hcx 0 (.string (mk8 l0)) (by simp [HG.out.1]);have d1 := hcx 1 (.string (mk8 l1)) (by simp [HG.out.2.1]);have d2 := hcx 2 (.string (mk8 l2)) (by simp [HG.out.2.2.1]);have d3 := hcx 3 (.string (mk8 l3)) (by simp [HG.out.2.2.2.1]);have d5 := hcx 5 (.string (mk8 l5)) (by simp [HG.out.2.2.2.2]);clear hcx hr hown hb SP HG hll hbl;go_wp2_with fail;refine (HX _).mono ?_;rintro e w2 ⟨rfl, rfl⟩;clear d0 HX;go_wp2_with fail;refine (NM _).mono ?_;rintro e w3 ⟨rfl, rfl⟩;clear d3 NM;have c0 := za hbx 0 rfl;have c1 := za hbx 1 rfl;have c2 := za hbx 2 rfl;have c3 := za hbx 3 rfl;have c4 := za hbx 4 rfl;have c5 := za hbx 5 rfl;have c6 := za hbx 6 rfl;have f0 := zc hbx 0;have f1 := zc hbx 1;have f2 := zc hbx 2;have f3 := zc hbx 3;have f4 := zc hbx 4;have f5 := zc hbx 5;have f6 := zc hbx 6;go_wp2;refine bodyPost_ret (zgf (zbn hbx _ _ _ _ _ _ _) rfl rfl) rfl ?_;exact ⟨none, 0, rfl, World.ownsRow_nil _ _ _ _, zaz hb0 (Nat.le_refl _) _ _ _ _ _ _ _⟩
    ·rw [if_neg hn];have hni : n <= 254 := (by omega);clear hn
     by_cases hei : ei = 0
     ·subst hei;rw [if_neg (show ¬ ((0 : Int) ≠ 0) by simp)];go_enter Tryz.func91, Tryz.ntmps91;go_wp2_with fail;refine (SP _).mono ?_;intro e w1 hF;obtain ⟨A, c, rfl, hown, hb⟩ := hF;have hr := ze1 hown;replace hbx := zd hbx hb;replace hb0 := zb hb0 hb;obtain ⟨b, off, rfl, hbl, hcx⟩ := hr.at_ (by omega);have d0 : w1.cell? ⟨b, off, none⟩ = some (.string (mk8 l0)) := hcx 0 (.string (mk8 l0)) (by simp [HG.out.1]);have d1 := hcx 1 (.string (mk8 l1)) (by simp [HG.out.2.1]);have d2 := hcx 2 (.string (mk8 l2)) (by simp [HG.out.2.2.1]);have d3 := hcx 3 (.string (mk8 l3)) (by simp [HG.out.2.2.2.1]);have d5 := hcx 5 (.string (mk8 l5)) (by simp [HG.out.2.2.2.2]);clear hcx hr hown hb SP HG hll hbl;go_wp2_with fail;refine (HX _).mono ?_;rintro e w2 ⟨rfl, rfl⟩;clear d0 HX;go_wp2_with fail;refine (NM _).mono ?_;rintro e w3 ⟨rfl, rfl⟩;clear d3 NM;have hz3 := hb0.size;have hz3' : w.heap.size < w1.heap.size := zbr hbx;go_wp2_with fail;refine (IN _).mono ?_;intro e w4 hF;obtain ⟨A5, cp5, rfl, hown5, hb⟩ := hF;simp only [] at hown5;replace hbx := zd hbx hb;replace d1 := zg d1 hb;replace d2 := zg d2 hb;replace hb0 := zb hb0 hb;clear hb d5 IN;have c0 := za hbx 0 rfl;have c1 := za hbx 1 rfl;have c2 := za hbx 2 rfl;have c3 := za hbx 3 rfl;have c4 := za hbx 4 rfl;have c5 := za hbx 5 rfl;have c6 := za hbx 6 rfl;have f0 := zc hbx 0;have f1 := zc hbx 1;have f2 := zc hbx 2;have f3 := zc hbx 3;have f4 := zc hbx 4;have f5 := zc hbx 5;have f6 := zc hbx 6;go_wp2_with fail
      go_region
      go_wp2;refine bodyPost_ret (zgf (zox (zbn hbx (.int .i32 r) (.int .i32 r) (.string (mk8 l1)) (.string (mk8 l2)) (.int .i64 n) (.string (mk8 kd)) (.slice A5 il.length cp5))) rfl rfl) rfl ?_;exact ⟨A5, cp5, rfl, zaw (zlv (zn4 hown5 hz3' (.int .i32 r) (.int .i32 r) (.string (mk8 l1)) (.string (mk8 l2)) (.int .i64 n) (.string (mk8 kd)) (.slice A5 il.length cp5))) (by omega), (zaz hb0 (Nat.le_refl _) (.int .i32 r) (.int .i32 r) (.string (mk8 l1)) (.string (mk8 l2)) (.int .i64 n) (.string (mk8 kd)) (.slice A5 il.length cp5)).drew⟩
     ·rw [if_pos hei];have hne : (ei != 0) = true := (by simpa using hei);clear hei;go_enter Tryz.func91, Tryz.ntmps91;go_wp2_with fail;refine (SP _).mono ?_;intro e w1 hF;obtain ⟨A, c, rfl, hown, hb⟩ := hF;have hr := ze1 hown;replace hbx := zd hbx hb;replace hb0 := zb hb0 hb;obtain ⟨b, off, rfl, hbl, hcx⟩ := hr.at_ (by omega);have d0 : w1.cell? ⟨b, off, none⟩ = some (.string (mk8 l0)) := hcx 0 (.string (mk8 l0)) (by simp [HG.out.1]);have d1 := hcx 1 (.string (mk8 l1)) (by simp [HG.out.2.1]);have d2 := hcx 2 (.string (mk8 l2)) (by simp [HG.out.2.2.1]);have d3 := hcx 3 (.string (mk8 l3)) (by simp [HG.out.2.2.2.1]);have d5 := hcx 5 (.string (mk8 l5)) (by simp [HG.out.2.2.2.2]);clear hcx hr hown hb SP HG hll hbl;go_wp2_with fail;refine (HX _).mono ?_;rintro e w2 ⟨rfl, rfl⟩;clear d0 HX;go_wp2_with fail;refine (NM _).mono ?_;rintro e w3 ⟨rfl, rfl⟩;clear d3 NM;have hz3 := hb0.size;have hz3' : w.heap.size < w1.heap.size := zbr hbx;go_wp2_with fail;refine (IN _).mono ?_;intro e w4 hF;obtain ⟨A5, cp5, rfl, hown5, hb⟩ := hF;simp only [] at hown5;replace hbx := zd hbx hb;replace d1 := zg d1 hb;replace d2 := zg d2 hb;replace hb0 := zb hb0 hb;clear hb d5 IN;have c0 := za hbx 0 rfl;have c1 := za hbx 1 rfl;have c2 := za hbx 2 rfl;have c3 := za hbx 3 rfl;have c4 := za hbx 4 rfl;have c5 := za hbx 5 rfl;have c6 := za hbx 6 rfl;have f0 := zc hbx 0;have f1 := zc hbx 1;have f2 := zc hbx 2;have f3 := zc hbx 3;have f4 := zc hbx 4;have f5 := zc hbx 5;have f6 := zc hbx 6;go_wp2;refine bodyPost_ret (zgf (zbn hbx _ _ _ _ _ _ _) rfl rfl) rfl ?_
      exact ⟨none, 0, rfl, World.ownsRow_nil _ _ _ _, zaz hb0 (Nat.le_refl _) _ _ _ _ _ _ _⟩
   ·rw [if_pos hen];have hne : (en != 0) = true := (by simpa using hen);clear hen IN;go_enter Tryz.func91, Tryz.ntmps91;go_wp2_with fail;refine (SP _).mono ?_;intro e w1 hF;obtain ⟨A, c, rfl, hown, hb⟩ := hF;have hr := ze1 hown;replace hbx := zd hbx hb;replace hb0 := zb hb0 hb;obtain ⟨b, off, rfl, hbl, hcx⟩ := hr.at_ (by omega);have d0 : w1.cell? ⟨b, off, none⟩ = some (.string (mk8 l0)) := hcx 0 (.string (mk8 l0)) (by simp [HG.out.1]);have d1 := hcx 1 (.string (mk8 l1)) (by simp [HG.out.2.1]);have d2 := hcx 2 (.string (mk8 l2)) (by simp [HG.out.2.2.1]);have d3 := hcx 3 (.string (mk8 l3)) (by simp [HG.out.2.2.2.1]);have d5 := hcx 5 (.string (mk8 l5)) (by simp [HG.out.2.2.2.2]);clear hcx hr hown hb SP HG hll hbl;go_wp2_with fail;refine (HX _).mono ?_;rintro e w2 ⟨rfl, rfl⟩;clear d0 HX;go_wp2_with fail;refine (NM _).mono ?_;rintro e w3 ⟨rfl, rfl⟩;clear d3 NM;have c0 := za hbx 0 rfl;have c1 := za hbx 1 rfl;have c2 := za hbx 2 rfl;have c3 := za hbx 3 rfl;have c4 := za hbx 4 rfl;have c5 := za hbx 5 rfl;have c6 := za hbx 6 rfl;have f0 := zc hbx 0;have f1 := zc hbx 1;have f2 := zc hbx 2;have f3 := zc hbx 3;have f4 := zc hbx 4;have f5 := zc hbx 5;have f6 := zc hbx 6;go_wp2;refine bodyPost_ret (zgf (zbn hbx _ _ _ _ _ _ _) rfl rfl) rfl ?_;exact ⟨none, 0, rfl, World.ownsRow_nil _ _ _ _, zaz hb0 (Nat.le_refl _) _ _ _ _ _ _ _⟩
  ·rw [if_pos her];have hne : (er != 0) = true := (by simpa using her);clear her NM IN;go_enter Tryz.func91, Tryz.ntmps91;go_wp2_with fail;refine (SP _).mono ?_;intro e w1 hF;obtain ⟨A, c, rfl, hown, hb⟩ := hF;have hr := ze1 hown;replace hbx := zd hbx hb;replace hb0 := zb hb0 hb;obtain ⟨b, off, rfl, hbl, hcx⟩ := hr.at_ (by omega);have d0 : w1.cell? ⟨b, off, none⟩ = some (.string (mk8 l0)) := hcx 0 (.string (mk8 l0)) (by simp [HG.out.1]);have d1 := hcx 1 (.string (mk8 l1)) (by simp [HG.out.2.1]);have d2 := hcx 2 (.string (mk8 l2)) (by simp [HG.out.2.2.1]);have d3 := hcx 3 (.string (mk8 l3)) (by simp [HG.out.2.2.2.1]);have d5 := hcx 5 (.string (mk8 l5)) (by simp [HG.out.2.2.2.2]);clear hcx hr hown hb SP HG hll hbl;go_wp2_with fail;refine (HX _).mono ?_;rintro e w2 ⟨rfl, rfl⟩;clear d0 HX;have c0 := za hbx 0 rfl;have c1 := za hbx 1 rfl;have c2 := za hbx 2 rfl;have c3 := za hbx 3 rfl;have c4 := za hbx 4 rfl;have c5 := za hbx 5 rfl;have c6 := za hbx 6 rfl;have f0 := zc hbx 0;have f1 := zc hbx 1;have f2 := zc hbx 2;have f3 := zc hbx 3;have f4 := zc hbx 4;have f5 := zc hbx 5;have f6 := zc hbx 6;go_wp2;refine bodyPost_ret (zgf (zbn hbx _ _ _ _ _ _ _) rfl rfl) rfl ?_;exact ⟨none, 0, rfl, World.ownsRow_nil _ _ _ _, zaz hb0 (Nat.le_refl _) _ _ _ _ _ _ _⟩
end
end Go.Proofs.YtkocaoeednmkpaaGreatDoor
