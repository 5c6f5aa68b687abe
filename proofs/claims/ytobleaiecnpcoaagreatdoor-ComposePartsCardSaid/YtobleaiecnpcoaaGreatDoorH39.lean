/- What is joined: characters stay characters, lists grow and shrink. Plain, and memory. What is joined, and whether anything is: the code. The example of the chapter on joining: true. The document's Head, Blocked and Join: the code. -/
import Derived.Test.YtobleaiecnpcoaaGreatDoorH02
import Derived.Test.YtobleaiecnpcoaaGreatDoorH05
import Derived.Test.YtobleaiecnpcoaaGreatDoorH04
import Derived.Test.YtobleaiecnpcoaaGreatDoorH06
import Derived.Test.YtobleaiecnpcoaaGreatDoorH13
import Derived.Test.YtobleaiecnpcoaaGreatDoorH15
import Derived.Test.YtobleaiecnpcoaaGreatDoorH18
import Derived.Test.YtobleaiecnpcoaaGreatDoorH20
import Derived.Test.YtobleaiecnpcoaaGreatDoorH08
import Derived.Test.YtobleaiecnpcoaaGreatDoorH22
import Derived.Test.YtobleaiecnpcoaaGreatDoorH27
import Derived.Test.YtobleaiecnpcoaaGreatDoorH37
import Derived.Test.YtobleaiecnpcoaaGreatDoorH09
import Derived.Test.YtobleaiecnpcoaaGreatDoorH10
import Derived.Test.YtobleaiecnpcoaaGreatDoorH19
import Derived.Test.YtobleaiecnpcoaaGreatDoorH07
import Derived.Test.YtobleaiecnpcoaaGreatDoorH12
import Derived.Test.YtobleaiecnpcoaaGreatDoorH14
import Derived.Test.YtobleaiecnpcoaaGreatDoorH25
import Derived.Test.YtobleaiecnpcoaaGreatDoorH34
import Derived.Test.YtobleaiecnpcoaaGreatDoorH28
import Derived.Test.YtobleaiecnpcoaaGreatDoorH38
import Derived.Test.YtobleaiecnpcoaaGreatDoorH01
import Derived.Test.YtobleaiecnpcoaaGreatDoorH30
import Derived.Test.YtobleaiecnpcoaaGreatDoorH31
set_option linter.unusedSimpArgs false
set_option linter.unusedVariables false
namespace Go.Proofs.YtobleaiecnpcoaaGreatDoor
section
open Go.RowKit
section
variable {B : BaseF}
theorem step_R (hbd : BaseBd B) {s : JS} (hs : ∀ x ∈ s.out, R32 x) {r : Int} (hr : R32 r) : ∀ x ∈ (B.step s r).out, R32 x := by
 intro x hx
 rcases step_cases (B := B) s r with h | ⟨h, c, e, _, hp, h2⟩
 ·rw [h, app_out] at hx
  rcases List.mem_append.1 hx with hx | hx
  ·exact hs x hx
  ·rw [List.mem_singleton] at hx; subst hx; exact hr
 ·rw [h2] at hx
  have hh : R32 h := hs h (by unfold JS.out; rw [e]; simp)
  have hc := hbd.pair h r c hh hr hp
  have hx' : x ∈ s.pre ++ ([c] ++ s.ms) := hx
  rcases List.mem_append.1 hx' with hx | hx
  ·exact hs x (by unfold JS.out; simp [hx])
  ·rcases List.mem_append.1 hx with hx | hx
   ·rw [List.mem_singleton] at hx; subst hx; exact hc
   ·exact hs x (by unfold JS.out; simp [hx])
theorem run_R (hbd : BaseBd B) : ∀ (l : List Int) (s : JS), (∀ x ∈ s.out, R32 x) → (∀ x ∈ l, R32 x) → ∀ x ∈ (B.run s l).out, R32 x
 | [], s, hs, _ => hs
 | y :: l, s, hs, hl => by
  rw [run_cons]
  exact run_R hbd l _ (step_R hbd hs (hl y (by simp))) fun x hx => hl x (by simp [hx])
def BaseF.jn (B : BaseF) (xs : List Int) (k : Nat) : JS := B.run ⟨[], none, []⟩ (xs.take k)
theorem jn_step {xs : List Int} {k : Nat} {r : Int} (h : xs[k]? = some r) : B.jn xs (k + 1) = B.step (B.jn xs k) r := by
 unfold BaseF.jn
 rw [List.take_add_one, h]
 exact run_snoc _ _ _
theorem jn_ok (xs : List Int) (k : Nat) : B.JOk (B.jn xs k) := run_ok _ jok_nil
theorem jn_pre (xs : List Int) (k : Nat) : (B.jn xs k).hd = none → (B.jn xs k).pre = [] := run_pre _ fun _ => rfl
theorem jn_R (hbd : BaseBd B) {xs : List Int} (hx : ∀ x ∈ xs, R32 x) (k : Nat) : ∀ x ∈ (B.jn xs k).out, R32 x := run_R hbd _ _ (fun x hx => by cases hx) fun x h => hx x (List.mem_of_mem_take h)
theorem jn_len (xs : List Int) (k : Nat) : (B.jn xs k).out.length ≤ k := by
 have h := run_len (B := B) (xs.take k) ⟨[], none, []⟩
 rw [List.length_take] at h
 have e : (JS.out ⟨[], none, []⟩).length = 0 := rfl
 show (B.run _ _).out.length ≤ k
 omega
theorem jn_all {xs : List Int} {k : Nat} (h : k = xs.length) : (B.jn xs k).out = B.join xs := by
 unfold BaseF.jn BaseF.join
 rw [List.take_of_length_le (by omega)]
theorem find_last : ∀ (l : List Int) (a b : Int), (B.findR l a).1 = (B.findR l b).1
 | [], _, _ => rfl
 | r :: t, a, b => by
  unfold BaseF.findR
  split
  ·rfl
  ·exact find_last t _ _
theorem jn_join_R (hbd : BaseBd B) {xs : List Int} (hx : ∀ x ∈ xs, R32 x) : ∀ x ∈ B.join xs, R32 x := by
 rw [← jn_all rfl]
 exact jn_R hbd hx _
end
theorem own_blkN {w : World} {B n g c : Nat} {e : TypeId} {xs : List Value} (h : w.ownsRow B e 1 (.slice (some ⟨g, 0, none⟩) n c) n xs) : B ≤ g ∧ ∃ cur, w.heap[g]? = some (.cells cur e (0, 0)) := by
 rcases h.2 with ⟨hv, _⟩ | ⟨g', cap, cur, hv, hB, hh, _⟩
 ·injection hv with hv; cases hv
 ·injection hv with hv
  injection hv with hv
  injection hv with hv
  subst hv
  exact ⟨hB, cur, hh⟩
theorem own_shrink {w : World} {B n g c : Nat} {e : TypeId} {xs : List Value} {u : Value} (h : w.ownsRow B e 1 (.slice (some ⟨g, 0, none⟩) (n + 1) c) (n + 1) (xs ++ [u])) (hl : xs.length = n) : w.ownsRow B e 1 (.slice (some ⟨g, 0, none⟩) n c) n xs := by
 refine ⟨by omega, ?_⟩
 rcases h.2 with ⟨hv, _⟩ | ⟨g', cap, cur, hv, hg, hh, hn, hm, hs, ht⟩
 ·injection hv with hv; cases hv
 ·injection hv with hv _ hc
  injection hv with hv
  injection hv with hv
  subst hv hc
  refine .inr ⟨g, c, cur, rfl, hg, hh, by omega, hm, hs, ?_⟩
  have h2 : List.take n (List.take ((n + 1) * 1) cur.toList) = List.take n (xs ++ [u]) := by rw [ht]
  rw [List.take_take, List.take_append_of_le_length (by omega)] at h2
  have h3 : List.take n xs = xs := List.take_of_length_le (by omega)
  rw [h3] at h2
  rw [← h2]
  congr 1
  omega
end
section
open Go.RowKit Go.Sort
section
variable {w : World} {p : Option Addr} {B : BaseF}
set_option maxRecDepth 20000 in
set_option maxHeartbeats 4000000 in
theorem cjoin_any (hB : BaseIs w (.pointer p) B) (hk : Kinds w) (hbd : BaseBd B) (A : Option Addr) (n cp : Nat) (xs : List Int) (hrd : Rd w A n (Rs xs)) (hn : xs.length = n) (hx : ∀ x ∈ xs, R32 x) (hn2 : n ≤ 1000000) :
  Calls Tryz.prog 12 #[.pointer p, .slice A n cp] w (FreshR w (B.join xs)) := by
 have hmf : ∀ (fn : Fn) (first cap : Array Value) (w : World), (Instr.makeFunc fn first cap).run Tryz.prog w = .ok (.func fn first cap) w := fun _ _ _ _ => rfl
 have HB : Hid (∀ W, Below w.heap.size w W → BaseIs W (.pointer p) B) := fun W h => hB.below h
 have HK : Hid (∀ W, Below w.heap.size w W → Kinds W) := fun W h => hk.below' h
 have HN := Lib.hid hn
 have HX := Lib.hid hx
 have HBD := Lib.hid hbd
 have HRD := Lib.hid hrd
 have hb0 : Below w.heap.size w (w.alloc (.cells #[.pointer p, .slice none 0 0, .int .i64 (-1), .int .i64 0] 57)) := (Below.refl _ _).alloc (Nat.le_refl _) _
 have HP0 : Hid (PutP B w w.heap.size w.heap.size p (B.jn xs 0) (w.alloc (.cells #[.pointer p, .slice none 0 0, .int .i64 (-1), .int .i64 0] 57))) :=
  ⟨hb0, [], none, 0, -1, 0, ⟨box_new w _ _, World.ownsRow_nil _ _ _ _, Nat.le_refl _⟩, put_start⟩
 have HS0 : Hid (w.heap.size ≤ (w.alloc (.cells #[.pointer p, .slice none 0 0, .int .i64 (-1), .int .i64 0] 57)).heap.size) := hb0.size
 clear hB hk hn hx hbd hrd hb0
 go_enter Tryz.func12, Tryz.ntmps12
 go_wp2
 go_loopw [16] (fun i wr => ∃ k : Nat, k ≤ n ∧ i = .int .i64 k ∧ Hid (PutP B w w.heap.size w.heap.size p (B.jn xs k) wr) ∧ Hid (w.heap.size ≤ wr.heap.size)) (fun i _ => n - (intOf i).toNat)
 case atStart => exact ⟨0, Nat.zero_le _, rfl, HP0, HS0⟩
 case round =>
  obtain ⟨k, hk, rfl, HP, HS⟩ := hrel
  obtain ⟨hbw, l, A9, c9, hd, last, hT, hPA⟩ := HP.out
  by_cases hlt : k < n
  ·obtain ⟨r, hr⟩ : ∃ r, xs[k]? = some r := ⟨_, List.getElem?_eq_getElem (by rw [HN.out]; exact hlt)⟩
   obtain ⟨b, off, rfl, hbl, hcx⟩ := HRD.out.at_ (by omega)
   have c0 : wr.cell? ⟨b, off + k, none⟩ = some (.int .i32 r) := (hbw.cell (p := ⟨b, off + k, none⟩) hbl).trans (hcx k (.int .i32 r) (by simp [Rs, hr]))
   have hki : (k : Int) < (n : Int) := by omega
   have HJS := Lib.hid (jn_step (B := B) hr)
   have PU := put_any HB HK HBD.out (B.jn xs k) l A9 hd last r wr hbw HS.out hT hPA (fun x hx => jn_R HBD.out HX.out k x (by rw [← hPA.out]; exact hx)) (HX.out r (List.mem_of_getElem? hr)) (by rw [hPA.out]; have := jn_len (B := B) xs k; omega)
   rw [← HJS.out] at PU
   have HSZ : Hid (∀ w', PutP B w w.heap.size w.heap.size p (B.jn xs (k + 1)) w' → w.heap.size ≤ w'.heap.size) := fun w' h => by
    obtain ⟨_, l', A', c', hd', last', hT', _⟩ := h
    have := hT'.lt
    omega
   clear hr hcx hbl hbw hT hPA
   go_wp2_with fail
   refine PU.mono ?_
   rintro e w2 ⟨⟨v, rfl⟩, hp2⟩
   have HP2 := Lib.hid hp2
   have HS2 := Lib.hid (HSZ.out w2 hp2)
   clear PU hp2 c0
   go_wp2
   go_roundw
   case rel => exact ⟨k + 1, by omega, by go_num, HP2, HS2⟩
   case measure => simp [intOf]; omega
  ·obtain rfl : k = n := by omega
   have hki : (k : Int) ≤ (k : Int) := Int.le_refl _
   have b1 := box_cell hT.box 1 rfl
   have HF : Hid (FreshR w (B.join xs) (.returned (.slice A9 l.length c9)) wr) := by
    have h1 : l = B.join xs := by rw [hPA.out]; exact jn_all HN.out.symm
    rw [← h1]
    exact ⟨A9, c9, rfl, hT.own, hbw⟩
   clear hbw hT hPA
   go_wp2
   go_returns
   exact HF.out
theorem requal_any (A A2 : Option Addr) (n m ca cb : Nat) (xs ys : List Int) (w : World) (hx : Rd w A n (Rs xs)) (hy : Rd w A2 m (Rs ys)) (hn : n ≤ 1099511627776) (hm : m ≤ 1099511627776) :
  Calls Tryz.prog 25 #[.slice A n ca, .slice A2 m cb] w fun e w' => e = .returned (.bool (decide (xs = ys))) ∧ Drew w w' := by
 have hxl : xs.length = n := by have := hx.1; simpa using this
 have hyl : ys.length = m := by have := hy.1; simpa using this
 by_cases hnm : n = m
 ·have hb : ((n : Int) != (m : Int)) = false := by simp [hnm]
  have HNM := Lib.hid hnm; clear hnm
  have HXL := Lib.hid hxl; clear hxl
  have HYL := Lib.hid hyl; clear hyl
  go_enter Tryz.func25, Tryz.ntmps25
  go_wp2
  go_loopw [13] (fun i wr => ∃ k : Nat, k ≤ n ∧ i = .int .i64 k ∧ Hid (xs.take k = ys.take k) ∧ Hid (Drew w wr)) (fun i _ => n - (intOf i).toNat)
  case atStart => exact ⟨0, Nat.zero_le _, rfl, rfl, Drew.refl _⟩
  case round =>
   obtain ⟨k, hk, rfl, HTK, hd⟩ := hrel
   by_cases hlt : k < n
   ·have hltm : k < m := by rw [← HNM.out]; exact hlt
    obtain ⟨b, off, rfl, hbl, hcx⟩ := (hx.drewTo hd.out).at_ (by omega)
    obtain ⟨b', off', rfl, hbl', hcy⟩ := (hy.drewTo hd.out).at_ (by omega)
    have cx := hcx k _ (Rs_get xs k (by rw [HXL.out]; exact hlt))
    have cy := hcy k _ (Rs_get ys k (by rw [HYL.out]; exact hltm))
    clear hcx hcy hx hy
    have hi : (k : Int) < (n : Int) := by omega
    have hi' : (k : Int) < (m : Int) := by omega
    have HDN : Hid (∀ nq, Drew w (wr.drewN nq)) := fun nq => hd.out.trans ⟨nq, rfl⟩
    by_cases he : xs[k]?.getD 0 = ys[k]?.getD 0
    ·have heb : ((xs[k]?.getD 0) != (ys[k]?.getD 0)) = false := by simp [he]
     have HE := Lib.hid he; clear he
     have HTN : Hid (xs.take (k + 1) = ys.take (k + 1)) := take_both HTK.out HE.out (by rw [HXL.out]; exact hlt) (by rw [HYL.out]; exact hltm)
     go_wp2
     go_quiet (fail)
     have HDQ := Lib.hid (HDN.out nq)
     go_wp2
     go_roundw
     case rel => exact ⟨k + 1, by omega, by go_num, HTN, HDQ⟩
     case measure => simp [intOf]; omega
    ·have heb : ((xs[k]?.getD 0) != (ys[k]?.getD 0)) = true := by simp [he]
     have HE := Lib.hid he; clear he
     go_wp2
     go_quiet (fail)
     have HDQ := Lib.hid (HDN.out nq)
     go_wp2
     go_returns
     exact ⟨ret_bool (by symm; rw [decide_eq_false_iff_not]; intro hh; exact HE.out (by rw [hh])), HDQ.out⟩
   ·have hkn : k = n := by omega
    subst hkn
    have hki : (k : Int) ≤ (k : Int) := Int.le_refl _
    go_wp2
    go_returns
    refine ⟨ret_bool (by symm; rw [decide_eq_true_iff]; have h := HTK.out; rw [List.take_of_length_le (by rw [HXL.out]; exact Nat.le_refl _), List.take_of_length_le (by rw [HYL.out, ← HNM.out]; exact Nat.le_refl _)] at h; exact h), hd.out⟩
 ·have hb : ((n : Int) != (m : Int)) = true := by rw [bne_iff_ne]; omega
  have HNM := Lib.hid hnm; clear hnm
  have HXL := Lib.hid hxl; clear hxl
  have HYL := Lib.hid hyl; clear hyl
  go_enter Tryz.func25, Tryz.ntmps25
  go_wp2
  go_returns
  exact ⟨ret_bool (by symm; rw [decide_eq_false_iff_not]; intro hh; exact HNM.out (by rw [← HXL.out, ← HYL.out, hh])), Drew.refl _⟩
set_option maxRecDepth 20000 in
theorem joins_any (hB : BaseIs w (.pointer p) B) (hk : Kinds w) (hbd : BaseBd B) (A : Option Addr) (n cp : Nat) (xs : List Int) (hrd : Rd w A n (Rs xs)) (hn : xs.length = n) (hx : ∀ x ∈ xs, R32 x) (hn2 : n ≤ 1000000) :
  Calls Tryz.prog 13 #[.pointer p, .slice A n cp] w fun e w' => e = .returned (.bool (!decide (B.join xs = xs))) ∧ Below w.heap.size w w' := by
 have JN := cjoin_any (cp := cp) hB hk hbd A n xs hrd hn hx hn2
 have HRD := Lib.hid hrd
 have hjl : (B.join xs).length ≤ 1000000 := by have := join_len (B := B) xs; omega
 obtain ⟨ys, hys⟩ : ∃ ys, ys = B.join xs := ⟨_, rfl⟩
 rw [← hys] at JN hjl
 have HYS := Lib.hid hys
 obtain ⟨bb, hbb⟩ : ∃ bb, bb = decide (ys = xs) := ⟨_, rfl⟩
 have HBB := Lib.hid hbb
 clear hrd hB hk hbd hn hx hys hbb
 go_enter Tryz.func13, Tryz.ntmps13
 go_wp2_with fail
 refine JN.mono ?_
 intro e w1 hf
 obtain ⟨A1, c1, rfl, hr1, hb1⟩ := hf.rd
 have EQ := requal_any A1 A ys.length n c1 cp ys xs w1 hr1 (HRD.out.below hb1) (by omega) (by omega)
 rw [← HBB.out] at EQ
 have HB1 := Lib.hid hb1
 clear JN hf hr1 hb1
 go_wp2_with fail
 refine EQ.mono ?_
 rintro e w2 ⟨rfl, hd⟩
 have HB2 := Lib.hid (below_then HB1.out (hd.below _))
 clear EQ hd
 go_wp2
 go_returns
 exact ⟨by rw [← HYS.out, ← HBB.out]; rfl, HB2.out⟩
end
end
section
open Go.RowKit Go.Lib Go.Maps
def awAS : ByteArray := ⟨#[48, 48, 67, 48, 59, 65, 59, 76, 117, 59, 48, 59, 59, 48, 48, 52, 49, 32, 48, 51, 48, 48, 10, 48, 51, 48, 48, 59, 77, 59, 77, 110, 59, 50, 51, 48, 59, 59, 10, 49, 69, 65, 54, 59, 65, 59, 76, 117, 59, 48, 59, 59, 48, 48, 67, 48, 32, 48, 51, 48, 50]⟩
def awAR : List RowS := [⟨192, 192, [65], [76, 117], 0, [], [65, 768]⟩, ⟨768, 768, [77], [77, 110], 230, [], []⟩, ⟨7846, 7846, [65], [76, 117], 0, [], [192, 770]⟩]
theorem awA_rows : rowsS (bs awAS) = (awAR, 0, 0) := by kernel_rfl
theorem awA_ok : newB awAR [] 3 = true := by kernel_rfl
theorem awA_g : RowsG awAR := by have := rows_g (bs awAS); rw [awA_rows] at this; exact this
theorem awA_join : (baseF awA_g (newB_ok awA_ok)).join [65, 768, 770] = [7846] := by kernel_rfl
theorem awA_join2 : (baseF awA_g (newB_ok awA_ok)).join [65, 768] = [192] := by kernel_rfl
set_option maxRecDepth 20000 in
set_option maxHeartbeats 4000000 in
theorem awakeA_any (w : World) (hE : Env w) (hk : Kinds w) : Calls Tryz.prog 9 #[] w fun e w' => e = .returned (.bool true) ∧ Below w.heap.size w w' := by
 have N1 := new_is (s := awAS) (o := ByteArray.empty) awA_g (newB_ok awA_ok) awA_rows aw8_none w hE hk (by decide) (by decide)
 have hbd := base_bd awA_g (newB_ok awA_ok)
 unfold awAS at N1
 go_enter Tryz.func9, Tryz.ntmps9
 go_wp2_with fail
 refine N1.mono ?_
 rintro e w1 ⟨p, rfl, hp, hb1⟩
 have hn1 : ∀ (w : World) o, Below w.heap.size w (w.alloc o) := fun w o => (Below.refl _ _).alloc (Nat.le_refl _) _
 have hk1 := hk.below' hb1
 have F1 := cjoin_any (hp.below (hn1 _ _)) (hk1.below' (hn1 w1 (.cells #[.int .i32 65, .int .i32 768, .int .i32 770] 21))) hbd (some ⟨w1.heap.size, 0, none⟩) 3 3 [65, 768, 770] (Rd.new _ _ [.int .i32 65, .int .i32 768, .int .i32 770]) rfl (by intro x hx; simp at hx; unfold R32; omega) (by omega)
 rw [awA_join] at F1
 clear N1
 go_wp2_with fail
 refine F1.mono ?_
 intro e w3 hf
 obtain ⟨A, c, rfl, hrd, hb3⟩ := hf.rd
 have hb13 := below_then (hn1 _ _) hb3
 have RN := runes_same (ca := c) (cb := 1) (w := w3.alloc (.cells #[.int .i32 7846] 21)) (A2 := some ⟨w3.heap.size, 0, none⟩) (hrd.below (hn1 _ _)) (Rd.new _ _ [.int .i32 7846]) rfl (by simp) (by simp)
 clear F1 hf hrd
 go_wp2_with fail
 refine RN.mono ?_
 rintro e w4 ⟨rfl, hb4⟩
 have hb14 := below_then hb13 (below_then (hn1 _ _) hb4)
 have hb4a := below_then hb14 (hn1 w4 (.cells #[.int .i32 65, .int .i32 768] 21))
 have R1 := joins_any (hp.below hb4a) (hk1.below' hb4a) hbd (some ⟨w4.heap.size, 0, none⟩) 2 2 [65, 768] (Rd.new _ _ [.int .i32 65, .int .i32 768]) rfl (by intro x hx; simp at hx; unfold R32; omega) (by omega)
 rw [awA_join2, show (!decide (([192] : List Int) = [65, 768])) = true from by simp] at R1
 clear RN hb13 hb3 hb4
 go_wp2_with fail
 refine R1.mono ?_
 rintro e w5 ⟨rfl, hb5⟩
 have hbF := below_then hb1 (below_then hb4a hb5)
 clear R1 hb14 hb4a hb5 hn1
 go_wp2
 go_returns
 exact ⟨rfl, hbF⟩
end
section
open Go.RowKit Go.Sort
def SameW (a b : World) : Prop := a = b
section
variable {w : World} {pv : Value} {B : BaseF}
set_option maxRecDepth 20000 in
set_option maxHeartbeats 4000000 in
theorem rhead_any (hR : RefIs w pv B) (A : Option Addr) (n cp : Nat) (xs : List Int) (hrd : Rd w A n (Rs xs)) (hn : xs.length = n) (hn2 : n ≤ 1000000) (i : Nat) (hi : i ≤ n) :
  Calls Tryz.prog 22 #[pv, .slice A n cp, .int .i64 i] w fun e w' => e = .returned (.int .i64 (B.findS (xs.take i)).1) ∧ w = w' := by
 have HN := Lib.hid hn
 have HR := Lib.hid hR
 have HRD := Lib.hid hrd
 have hwn : IntKind.i64.wrap ((i : Int) - 1) = (i : Int) - 1 := IntWalk.i64_in _ (by omega)
 have HS0 : Hid ((B.findS (xs.take i)).1 = (B.findR ((xs.take i).take i).reverse 0).1) := by show _ = _; rw [List.take_take, Nat.min_self]; rfl
 have HW0 : Hid (SameW w w) := rfl
 clear hrd hn hR
 go_enter Tryz.func22, Tryz.ntmps22
 go_wp2
 go_loopw [7] (fun s7 wr => ∃ (j : Nat) (z : Int), z + 1 = j ∧ j ≤ i ∧ s7 = .int .i64 z ∧ Hid ((B.findS (xs.take i)).1 = (B.findR ((xs.take i).take j).reverse 0).1) ∧ Hid (SameW w wr)) (fun s7 _ => (intOf s7 + 1).toNat)
 case atStart => exact ⟨i, (i : Int) - 1, by omega, Nat.le_refl _, rfl, HS0, HW0⟩
 case round =>
  obtain ⟨j, z, hzj, hji, rfl, HS, HWW⟩ := hrel
  have hweq : w = wr := HWW.out
  subst hweq
  by_cases hz : 0 ≤ z
  ·obtain ⟨m, rfl⟩ : ∃ m : Nat, z = m := ⟨z.toNat, by omega⟩
   obtain rfl : j = m + 1 := by omega
   obtain ⟨r, hr⟩ : ∃ r, xs[m]? = some r := ⟨_, List.getElem?_eq_getElem (by rw [HN.out]; omega)⟩
   have hr2 : (xs.take i)[m]? = some r := by rw [List.getElem?_take, if_pos (by omega)]; exact hr
   have HST := Lib.hid (find_step (B := B) hr2 0)
   obtain ⟨b, off, rfl, hbl, hcx⟩ := HRD.out.at_ (by omega)
   have cx := hcx m (.int .i32 r) (by simp [Rs, hr])
   have C1 := rclass_is HR.out r
   obtain ⟨cl, hcl⟩ : ∃ cl, cl = B.cls r := ⟨_, rfl⟩
   rw [← hcl] at C1
   have HCL := Lib.hid hcl
   have hmi : (0 : Int) ≤ (m : Int) := by omega
   have hmn : (m : Int) < (n : Int) := by omega
   have hwm : IntKind.i64.wrap ((m : Int) - 1) = (m : Int) - 1 := IntWalk.i64_in _ (by omega)
   clear hr hr2 hcx hcl hbl hz
   go_wp2_with fail
   refine C1.mono ?_
   rintro e w1 ⟨rfl, rfl⟩
   clear C1
   by_cases h0 : cl = 0
   ·subst h0
    have HF : Hid ((B.findS (xs.take i)).1 = (m : Int)) := by show _ = _; rw [HS.out, HST.out, if_pos HCL.out.symm]
    go_wp2
    go_returns
    exact ⟨by rw [HF.out]; rfl, HWW.out⟩
   ·have hcb : (cl == 0) = false := by simpa using h0
    have HS2 : Hid ((B.findS (xs.take i)).1 = (B.findR ((xs.take i).take m).reverse 0).1) := by show _ = _; rw [HS.out, HST.out, if_neg (fun e => h0 (HCL.out.trans e))]; exact find_last _ _ _
    clear h0
    go_wp2
    go_roundw
    case rel => exact ⟨m, (m : Int) - 1, by omega, by omega, rfl, HS2, HWW⟩
    case measure => simp [intOf] <;> omega
  ·obtain rfl : z = -1 := by omega
   obtain rfl : j = 0 := by omega
   have HF : Hid ((B.findS (xs.take i)).1 = -1) := by show _ = _; rw [HS.out]; rfl
   go_wp2
   go_returns
   exact ⟨by rw [HF.out]; rfl, HWW.out⟩
set_option maxRecDepth 20000 in
set_option maxHeartbeats 4000000 in
theorem rblocked_any (hR : RefIs w pv B) (A : Option Addr) (n cp : Nat) (xs : List Int) (hrd : Rd w A n (Rs xs)) (hn : xs.length = n) (hn2 : n ≤ 1000000) (z : Int) :
  Calls Tryz.prog 15 #[pv, .slice A n cp, .int .i64 z] w fun e w' => e = .returned (.bool (B.blocked xs z)) ∧ Drew w w' := by
 have HN := Lib.hid hn
 by_cases hz0 : z < 0
 ·have HF : Hid (B.blocked xs z = true) := blocked_out xs z (.inl hz0)
  clear hn hrd hR
  go_enter Tryz.func15, Tryz.ntmps15
  go_wp2
  go_returns
  exact ⟨by rw [HF.out]; rfl, Drew.refl _⟩
 by_cases hzn : (n : Int) ≤ z
 ·have HF : Hid (B.blocked xs z = true) := blocked_out xs z (.inr (by rw [hn]; exact hzn))
  clear hn hrd hR
  go_enter Tryz.func15, Tryz.ntmps15
  go_wp2
  go_returns
  exact ⟨by rw [HF.out]; rfl, Drew.refl _⟩
 obtain ⟨i, rfl⟩ : ∃ i : Nat, z = i := ⟨z.toNat, by omega⟩
 have hin : i < n := by omega
 obtain ⟨y, hy⟩ : ∃ y, xs[i]? = some y := ⟨_, List.getElem?_eq_getElem (by rw [hn]; exact hin)⟩
 have HBK : Hid (B.blocked xs (i : Int) = B.blk (xs.take i) (B.cls y)) := blocked_in hy
 have HD1 := rhead_any (cp := cp) hR A n xs hrd hn hn2 i (by omega)
 have hqlen : (xs.take i).length = i := by rw [List.length_take, hn]; omega
 rcases find_place (B := B) (xs.take i) with h1 | ⟨h, hh, hhi⟩
 ·have HF : Hid (B.blocked xs (i : Int) = true) := by show _ = _; rw [HBK.out]; exact blk_no _ _ h1
  rw [h1] at HD1
  clear hn hrd hR h1 hy hqlen
  go_enter Tryz.func15, Tryz.ntmps15
  go_wp2_with fail
  refine HD1.mono ?_
  rintro e w1 ⟨rfl, rfl⟩
  clear HD1
  go_wp2
  go_returns
  exact ⟨by rw [HF.out]; rfl, Drew.refl _⟩
 rw [hqlen] at hhi
 rw [hh] at HD1
 have HBD : Hid (B.blocked xs (i : Int) = ((xs.take i).drop (h + 1)).any fun m => decide (B.cls y ≤ B.cls m)) := by show _ = _; rw [HBK.out]; exact blk_drop _ _ hh
 have hh0 : ¬ ((h : Int) < 0) := by omega
 have hwh : IntKind.i64.wrap ((h : Int) + 1) = (h : Int) + 1 := IntWalk.i64_in _ (by omega)
 obtain ⟨b, off, rfl, hbl, hcx⟩ := hrd.at_ (by omega)
 have cy := hcx i (.int .i32 y) (by simp [Rs, hy])
 have HCX : Hid (∀ k u, xs[k]? = some u → w.cell? ⟨b, off + k, none⟩ = some (.int .i32 u)) := fun k u hu => hcx k (.int .i32 u) (by simp [Rs, hu])
 have CY := fun W (hb : Below w.heap.size w W) => rclass_is (hR.below hb) y
 have HR := Lib.hid hR
 obtain ⟨ci, hci⟩ : ∃ ci, ci = B.cls y := ⟨_, rfl⟩
 have HCI := Lib.hid hci
 have HQL := Lib.hid hqlen
 rw [← hci] at CY
 rw [← hci] at HBD
 have HCY := Lib.hid CY
 have hini : (i : Int) < (n : Int) := by omega
 clear hn hrd hR hh hy hqlen hcx CY hci hzn
 go_enter Tryz.func15, Tryz.ntmps15
 go_wp2_with fail
 refine HD1.mono ?_
 rintro e w1 ⟨rfl, rfl⟩
 clear HD1
 have HD0 : Hid (Drew w w) := Drew.refl _
 go_wp2
 go_loopw [8] (fun s8 wr => ∃ k : Nat, k ≤ i ∧ s8 = .int .i64 k ∧ Hid (B.blocked xs (i : Int) = ((xs.take i).drop k).any fun m => decide (ci ≤ B.cls m)) ∧ Hid (Drew w wr)) (fun s8 _ => i - (intOf s8).toNat)
 case atStart => exact ⟨h + 1, by omega, by go_num, HBD, HD0⟩
 case round =>
  obtain ⟨k, hk, rfl, HSB, HDW⟩ := hrel
  by_cases hlt : k < i
  ·obtain ⟨u, hu⟩ : ∃ u, xs[k]? = some u := ⟨_, List.getElem?_eq_getElem (by rw [HN.out]; omega)⟩
   have hki : (k : Int) < (i : Int) := by omega
   have hkn : (k : Int) < (n : Int) := by omega
   have HSN : Hid (((xs.take i).drop k).any (fun m => decide (ci ≤ B.cls m)) = (decide (ci ≤ B.cls u) || ((xs.take i).drop (k + 1)).any fun m => decide (ci ≤ B.cls m))) := by
    show _ = _
    have h1 : (xs.take i)[k]? = some u := by rw [List.getElem?_take, if_pos hlt]; exact hu
    obtain ⟨hkl, he⟩ := List.getElem?_eq_some_iff.1 h1
    rw [List.drop_eq_getElem_cons hkl, he, List.any_cons]
   obtain ⟨cu, hcu⟩ : ∃ cu, cu = B.cls u := ⟨_, rfl⟩
   have CU : Hid (∀ W, Below wr.heap.size wr W → Calls Tryz.prog 27 #[pv, .int .i32 u] W fun e w' => e = .returned (.int .i64 (B.cls u)) ∧ W = w') := fun W h => rclass_is (HR.out.below (below_then (HDW.out.below _) h)) u
   have CI : Hid (∀ W, Below wr.heap.size wr W → Calls Tryz.prog 27 #[pv, .int .i32 y] W fun e w' => e = .returned (.int .i64 ci) ∧ W = w') := fun W h => HCY.out _ (below_then (HDW.out.below _) h)
   rw [← hcu] at CU
   rw [← hcu] at HSN
   have HMK : Hid (∀ w', Below wr.heap.size wr w' → (w'.cell? ⟨b, off + k, none⟩ = some (.int .i32 u) ∧ w'.cell? ⟨b, off + i, none⟩ = some (.int .i32 y)) ∧ Below wr.heap.size wr w') := fun w' h =>
    ⟨⟨((below_then (HDW.out.below _) h).cell (p := ⟨b, off + k, none⟩) hbl).trans (HCX.out k u hu), ((below_then (HDW.out.below _) h).cell (p := ⟨b, off + i, none⟩) hbl).trans cy⟩, h⟩
   have HDQ : Hid (Drew w wr.drew) := HDW.out.trans ⟨1, rfl⟩
   clear hu hcu
   by_cases hle : ci ≤ cu
   ·have HF : Hid (B.blocked xs (i : Int) = true) := by show _ = _; rw [HSB.out, HSN.out, decide_eq_true hle]; rfl
    go_upto_region 9 with fail
    refine wp_region_held_drew (S := fun w' => (w'.cell? ⟨b, off + k, none⟩ = some (.int .i32 u) ∧ w'.cell? ⟨b, off + i, none⟩ = some (.int .i32 y)) ∧ Below wr.heap.size wr w') (by kernel_rfl) (HMK.out _ (Drew.to ⟨1, rfl⟩)) (fun hH0 => ?_)
    refine wpAnyH_take (i := 0) (v := pv) rfl (by kernel_rfl) (by kernel_rfl) (by kernel_rfl) (fun _ _ _ h => h) (Or.inl ⟨by kernel_rfl, ?_⟩) hH0 ?_
    ·intro w hSw
     (try dsimp only at hSw)
     go_simp
     all_goals try with_reducible rfl
    try simp only [List.getElem_toArray, List.getElem_cons_succ, List.getElem_cons_zero, Act.put, List.setIfInBounds_toArray, List.set_cons_zero, List.set_cons_succ]
    refine wpAnyH_take (i := 1) (v := .slice (some ⟨b, off, none⟩) n cp) rfl (by kernel_rfl) (by kernel_rfl) (by kernel_rfl) (fun _ _ _ h => h) (Or.inl ⟨by kernel_rfl, ?_⟩) hH0 ?_
    ·intro w hSw
     (try dsimp only at hSw)
     go_simp
     all_goals try with_reducible rfl
    try simp only [List.getElem_toArray, List.getElem_cons_succ, List.getElem_cons_zero, Act.put, List.setIfInBounds_toArray, List.set_cons_zero, List.set_cons_succ]
    refine wpAnyH_take (i := 2) (v := .int .i64 k) rfl (by kernel_rfl) (by kernel_rfl) (by kernel_rfl) (fun _ _ _ h => h) (Or.inl ⟨by kernel_rfl, ?_⟩) hH0 ?_
    ·intro w hSw
     (try dsimp only at hSw)
     go_simp
     all_goals try with_reducible rfl
    try simp only [List.getElem_toArray, List.getElem_cons_succ, List.getElem_cons_zero, Act.put, List.setIfInBounds_toArray, List.set_cons_zero, List.set_cons_succ]
    refine wpAnyH_take (i := 3) (v := .pointer (some ⟨b, off + k, none⟩)) rfl (by kernel_rfl) (by kernel_rfl) (by kernel_rfl) (fun _ _ _ h => h) (Or.inl ⟨by kernel_rfl, ?_⟩) hH0 ?_
    ·intro w hSw
     (try dsimp only at hSw)
     go_simp
     all_goals try with_reducible rfl
    try simp only [List.getElem_toArray, List.getElem_cons_succ, List.getElem_cons_zero, Act.put, List.setIfInBounds_toArray, List.set_cons_zero, List.set_cons_succ]
    refine wpAnyH_take (i := 4) (v := .int .i32 u) rfl (by kernel_rfl) (by kernel_rfl) (by kernel_rfl) (fun _ _ _ h => h) (Or.inl ⟨by kernel_rfl, ?_⟩) hH0 ?_
    ·intro w hSw
     (try dsimp only at hSw)
     go_simp
     all_goals try with_reducible rfl
    try simp only [List.getElem_toArray, List.getElem_cons_succ, List.getElem_cons_zero, Act.put, List.setIfInBounds_toArray, List.set_cons_zero, List.set_cons_succ]
    refine wpAnyH_take (i := 6) (v := pv) rfl (by kernel_rfl) (by kernel_rfl) (by kernel_rfl) (fun _ _ _ h => h) (Or.inl ⟨by kernel_rfl, ?_⟩) hH0 ?_
    ·intro w hSw
     (try dsimp only at hSw)
     go_simp
     all_goals try with_reducible rfl
    try simp only [List.getElem_toArray, List.getElem_cons_succ, List.getElem_cons_zero, Act.put, List.setIfInBounds_toArray, List.set_cons_zero, List.set_cons_succ]
    refine wpAnyH_take (i := 7) (v := .slice (some ⟨b, off, none⟩) n cp) rfl (by kernel_rfl) (by kernel_rfl) (by kernel_rfl) (fun _ _ _ h => h) (Or.inl ⟨by kernel_rfl, ?_⟩) hH0 ?_
    ·intro w hSw
     (try dsimp only at hSw)
     go_simp
     all_goals try with_reducible rfl
    try simp only [List.getElem_toArray, List.getElem_cons_succ, List.getElem_cons_zero, Act.put, List.setIfInBounds_toArray, List.set_cons_zero, List.set_cons_succ]
    refine wpAnyH_take (i := 8) (v := .int .i64 i) rfl (by kernel_rfl) (by kernel_rfl) (by kernel_rfl) (fun _ _ _ h => h) (Or.inl ⟨by kernel_rfl, ?_⟩) hH0 ?_
    ·intro w hSw
     (try dsimp only at hSw)
     go_simp
     all_goals try with_reducible rfl
    try simp only [List.getElem_toArray, List.getElem_cons_succ, List.getElem_cons_zero, Act.put, List.setIfInBounds_toArray, List.set_cons_zero, List.set_cons_succ]
    refine wpAnyH_take (i := 9) (v := .pointer (some ⟨b, off + i, none⟩)) rfl (by kernel_rfl) (by kernel_rfl) (by kernel_rfl) (fun _ _ _ h => h) (Or.inl ⟨by kernel_rfl, ?_⟩) hH0 ?_
    ·intro w hSw
     (try dsimp only at hSw)
     go_simp
     all_goals try with_reducible rfl
    try simp only [List.getElem_toArray, List.getElem_cons_succ, List.getElem_cons_zero, Act.put, List.setIfInBounds_toArray, List.set_cons_zero, List.set_cons_succ]
    refine wpAnyH_take (i := 10) (v := .int .i32 y) rfl (by kernel_rfl) (by kernel_rfl) (by kernel_rfl) (fun _ _ _ h => h) (Or.inl ⟨by kernel_rfl, ?_⟩) hH0 ?_
    ·intro w hSw
     (try dsimp only at hSw)
     go_simp
     all_goals try with_reducible rfl
    try simp only [List.getElem_toArray, List.getElem_cons_succ, List.getElem_cons_zero, Act.put, List.setIfInBounds_toArray, List.set_cons_zero, List.set_cons_succ]
    refine wpAnyH_ready (rs := [5]) (by kernel_rfl) (by simp) ?_
    refine AllReadyH.cons rfl (fun K hK => ?_) AllReadyH.nil
    go_simp
    refine (CU.out _ hH0.2).mono ?_
    rintro e w50 ⟨rfl, rfl⟩
    refine hK.out _ _ (hH0) (fun hH1 => ?_)
    clear hK K hH0
    try simp only [List.getElem_toArray, List.getElem_cons_succ, List.getElem_cons_zero, Act.put, List.setIfInBounds_toArray, List.set_cons_zero, List.set_cons_succ]
    refine wpAnyH_ready (rs := [11]) (by kernel_rfl) (by simp) ?_
    refine AllReadyH.cons rfl (fun K hK => ?_) AllReadyH.nil
    go_simp
    refine (CI.out _ hH1.2).mono ?_
    rintro e w51 ⟨rfl, rfl⟩
    refine hK.out _ _ (hH1) (fun hH2 => ?_)
    clear hK K hH1
    try simp only [List.getElem_toArray, List.getElem_cons_succ, List.getElem_cons_zero, Act.put, List.setIfInBounds_toArray, List.set_cons_zero, List.set_cons_succ]
    refine wpAnyH_take (i := 12) (v := .bool true) rfl (by kernel_rfl) (by kernel_rfl) (by kernel_rfl) (fun _ _ _ h => h) (Or.inl ⟨by kernel_rfl, ?_⟩) hH2 ?_
    ·intro w hSw
     (try dsimp only at hSw)
     go_simp
     all_goals try with_reducible rfl
    try simp only [List.getElem_toArray, List.getElem_cons_succ, List.getElem_cons_zero, Act.put, List.setIfInBounds_toArray, List.set_cons_zero, List.set_cons_succ]
    refine wpAnyH_done (by kernel_rfl) ?_ _
    clear hH2
    go_wp2
    go_returns
    exact ⟨by rw [HF.out]; rfl, HDQ.out⟩
   ·have HS2 : Hid (B.blocked xs (i : Int) = ((xs.take i).drop (k + 1)).any fun m => decide (ci ≤ B.cls m)) := by show _ = _; rw [HSB.out, HSN.out, decide_eq_false hle, Bool.false_or]
    go_upto_region 9 with fail
    refine wp_region_held_drew (S := fun w' => (w'.cell? ⟨b, off + k, none⟩ = some (.int .i32 u) ∧ w'.cell? ⟨b, off + i, none⟩ = some (.int .i32 y)) ∧ Below wr.heap.size wr w') (by kernel_rfl) (HMK.out _ (Drew.to ⟨1, rfl⟩)) (fun hH0 => ?_)
    refine wpAnyH_take (i := 0) (v := pv) rfl (by kernel_rfl) (by kernel_rfl) (by kernel_rfl) (fun _ _ _ h => h) (Or.inl ⟨by kernel_rfl, ?_⟩) hH0 ?_
    ·intro w hSw
     (try dsimp only at hSw)
     go_simp
     all_goals try with_reducible rfl
    try simp only [List.getElem_toArray, List.getElem_cons_succ, List.getElem_cons_zero, Act.put, List.setIfInBounds_toArray, List.set_cons_zero, List.set_cons_succ]
    refine wpAnyH_take (i := 1) (v := .slice (some ⟨b, off, none⟩) n cp) rfl (by kernel_rfl) (by kernel_rfl) (by kernel_rfl) (fun _ _ _ h => h) (Or.inl ⟨by kernel_rfl, ?_⟩) hH0 ?_
    ·intro w hSw
     (try dsimp only at hSw)
     go_simp
     all_goals try with_reducible rfl
    try simp only [List.getElem_toArray, List.getElem_cons_succ, List.getElem_cons_zero, Act.put, List.setIfInBounds_toArray, List.set_cons_zero, List.set_cons_succ]
    refine wpAnyH_take (i := 2) (v := .int .i64 k) rfl (by kernel_rfl) (by kernel_rfl) (by kernel_rfl) (fun _ _ _ h => h) (Or.inl ⟨by kernel_rfl, ?_⟩) hH0 ?_
    ·intro w hSw
     (try dsimp only at hSw)
     go_simp
     all_goals try with_reducible rfl
    try simp only [List.getElem_toArray, List.getElem_cons_succ, List.getElem_cons_zero, Act.put, List.setIfInBounds_toArray, List.set_cons_zero, List.set_cons_succ]
    refine wpAnyH_take (i := 3) (v := .pointer (some ⟨b, off + k, none⟩)) rfl (by kernel_rfl) (by kernel_rfl) (by kernel_rfl) (fun _ _ _ h => h) (Or.inl ⟨by kernel_rfl, ?_⟩) hH0 ?_
    ·intro w hSw
     (try dsimp only at hSw)
     go_simp
     all_goals try with_reducible rfl
    try simp only [List.getElem_toArray, List.getElem_cons_succ, List.getElem_cons_zero, Act.put, List.setIfInBounds_toArray, List.set_cons_zero, List.set_cons_succ]
    refine wpAnyH_take (i := 4) (v := .int .i32 u) rfl (by kernel_rfl) (by kernel_rfl) (by kernel_rfl) (fun _ _ _ h => h) (Or.inl ⟨by kernel_rfl, ?_⟩) hH0 ?_
    ·intro w hSw
     (try dsimp only at hSw)
     go_simp
     all_goals try with_reducible rfl
    try simp only [List.getElem_toArray, List.getElem_cons_succ, List.getElem_cons_zero, Act.put, List.setIfInBounds_toArray, List.set_cons_zero, List.set_cons_succ]
    refine wpAnyH_take (i := 6) (v := pv) rfl (by kernel_rfl) (by kernel_rfl) (by kernel_rfl) (fun _ _ _ h => h) (Or.inl ⟨by kernel_rfl, ?_⟩) hH0 ?_
    ·intro w hSw
     (try dsimp only at hSw)
     go_simp
     all_goals try with_reducible rfl
    try simp only [List.getElem_toArray, List.getElem_cons_succ, List.getElem_cons_zero, Act.put, List.setIfInBounds_toArray, List.set_cons_zero, List.set_cons_succ]
    refine wpAnyH_take (i := 7) (v := .slice (some ⟨b, off, none⟩) n cp) rfl (by kernel_rfl) (by kernel_rfl) (by kernel_rfl) (fun _ _ _ h => h) (Or.inl ⟨by kernel_rfl, ?_⟩) hH0 ?_
    ·intro w hSw
     (try dsimp only at hSw)
     go_simp
     all_goals try with_reducible rfl
    try simp only [List.getElem_toArray, List.getElem_cons_succ, List.getElem_cons_zero, Act.put, List.setIfInBounds_toArray, List.set_cons_zero, List.set_cons_succ]
    refine wpAnyH_take (i := 8) (v := .int .i64 i) rfl (by kernel_rfl) (by kernel_rfl) (by kernel_rfl) (fun _ _ _ h => h) (Or.inl ⟨by kernel_rfl, ?_⟩) hH0 ?_
    ·intro w hSw
     (try dsimp only at hSw)
     go_simp
     all_goals try with_reducible rfl
    try simp only [List.getElem_toArray, List.getElem_cons_succ, List.getElem_cons_zero, Act.put, List.setIfInBounds_toArray, List.set_cons_zero, List.set_cons_succ]
    refine wpAnyH_take (i := 9) (v := .pointer (some ⟨b, off + i, none⟩)) rfl (by kernel_rfl) (by kernel_rfl) (by kernel_rfl) (fun _ _ _ h => h) (Or.inl ⟨by kernel_rfl, ?_⟩) hH0 ?_
    ·intro w hSw
     (try dsimp only at hSw)
     go_simp
     all_goals try with_reducible rfl
    try simp only [List.getElem_toArray, List.getElem_cons_succ, List.getElem_cons_zero, Act.put, List.setIfInBounds_toArray, List.set_cons_zero, List.set_cons_succ]
    refine wpAnyH_take (i := 10) (v := .int .i32 y) rfl (by kernel_rfl) (by kernel_rfl) (by kernel_rfl) (fun _ _ _ h => h) (Or.inl ⟨by kernel_rfl, ?_⟩) hH0 ?_
    ·intro w hSw
     (try dsimp only at hSw)
     go_simp
     all_goals try with_reducible rfl
    try simp only [List.getElem_toArray, List.getElem_cons_succ, List.getElem_cons_zero, Act.put, List.setIfInBounds_toArray, List.set_cons_zero, List.set_cons_succ]
    refine wpAnyH_ready (rs := [5]) (by kernel_rfl) (by simp) ?_
    refine AllReadyH.cons rfl (fun K hK => ?_) AllReadyH.nil
    go_simp
    refine (CU.out _ hH0.2).mono ?_
    rintro e w50 ⟨rfl, rfl⟩
    refine hK.out _ _ (hH0) (fun hH1 => ?_)
    clear hK K hH0
    try simp only [List.getElem_toArray, List.getElem_cons_succ, List.getElem_cons_zero, Act.put, List.setIfInBounds_toArray, List.set_cons_zero, List.set_cons_succ]
    refine wpAnyH_ready (rs := [11]) (by kernel_rfl) (by simp) ?_
    refine AllReadyH.cons rfl (fun K hK => ?_) AllReadyH.nil
    go_simp
    refine (CI.out _ hH1.2).mono ?_
    rintro e w51 ⟨rfl, rfl⟩
    refine hK.out _ _ (hH1) (fun hH2 => ?_)
    clear hK K hH1
    try simp only [List.getElem_toArray, List.getElem_cons_succ, List.getElem_cons_zero, Act.put, List.setIfInBounds_toArray, List.set_cons_zero, List.set_cons_succ]
    refine wpAnyH_take (i := 12) (v := .bool false) rfl (by kernel_rfl) (by kernel_rfl) (by kernel_rfl) (fun _ _ _ h => h) (Or.inl ⟨by kernel_rfl, ?_⟩) hH2 ?_
    ·intro w hSw
     (try dsimp only at hSw)
     go_simp
     all_goals try with_reducible rfl
    try simp only [List.getElem_toArray, List.getElem_cons_succ, List.getElem_cons_zero, Act.put, List.setIfInBounds_toArray, List.set_cons_zero, List.set_cons_succ]
    refine wpAnyH_done (by kernel_rfl) ?_ _
    clear hH2
    go_wp2
    go_roundw
    case rel => exact ⟨k + 1, by omega, by go_num, HS2, HDQ⟩
    case measure => simp [intOf] <;> omega
  ·obtain rfl : k = i := by omega
   have hki : (k : Int) ≤ (k : Int) := Int.le_refl _
   have HF : Hid (B.blocked xs (k : Int) = false) := by show _ = _; rw [HSB.out, List.drop_eq_nil_of_le (by rw [HQL.out]; exact Nat.le_refl _)]; rfl
   go_wp2
   go_returns
   exact ⟨by rw [HF.out]; rfl, HDW.out⟩
set_option maxRecDepth 20000 in
set_option maxHeartbeats 4000000 in
theorem rcjoin_any (hR : RefIs w pv B) (hbd : BaseBd B) (A : Option Addr) (n cp : Nat) (xs : List Int) (hrd : Rd w A n (Rs xs)) (hn : xs.length = n) (hx : ∀ x ∈ xs, R32 x) (hn2 : n ≤ 999999) :
  Calls Tryz.prog 10 #[pv, .slice A n cp] w (FreshR w (B.join xs)) := by
 have HN := Lib.hid hn
 have HR := Lib.hid hR
 have HRD := Lib.hid hrd
 have HX := Lib.hid hx
 have HBD := Lib.hid hbd
 clear hrd hn hR hx hbd
 go_enter Tryz.func10, Tryz.ntmps10
 go_wp2
 go_loopw [5, 6] (fun s5 i wr => ∃ (k L : Nat) (out : List Int) (A9 : Option Addr) (c9 : Nat), k ≤ n ∧ L ≤ k ∧ i = .int .i64 k ∧ s5 = .slice A9 L c9 ∧ Hid (L = out.length) ∧ Hid (out = (B.jn xs k).out) ∧ Hid (wr.ownsRow w.heap.size 21 1 (.slice A9 L c9) L (Rs out)) ∧ Hid (Below w.heap.size w wr)) (fun _ i _ => n - (intOf i).toNat)
 case atStart => exact ⟨0, 0, [], none, 0, Nat.zero_le _, Nat.le_refl _, rfl, rfl, rfl, rfl, World.ownsRow_nil _ _ _ _, Below.refl _ _⟩
 case round =>
  obtain ⟨k, L, out, A9, c9, hk, hLk, rfl, rfl, HL, HO, HOWN, HBW⟩ := hrel
  by_cases hlt : k < n
  ·obtain ⟨r, hr⟩ : ∃ r, xs[k]? = some r := ⟨_, List.getElem?_eq_getElem (by rw [HN.out]; exact hlt)⟩
   obtain ⟨b, off, rfl, hbl, hcx⟩ := HRD.out.at_ (by omega)
   have c0 : wr.cell? ⟨b, off + k, none⟩ = some (.int .i32 r) := (HBW.out.cell (p := ⟨b, off + k, none⟩) hbl).trans (hcx k (.int .i32 r) (by simp [Rs, hr]))
   have HC0 : Hid (∀ W, Below w.heap.size w W → W.cell? ⟨b, off + k, none⟩ = some (.int .i32 r)) := fun W h => (h.cell (p := ⟨b, off + k, none⟩) hbl).trans (hcx k (.int .i32 r) (by simp [Rs, hr]))
   have hki : (k : Int) < (n : Int) := by omega
   have HJS := Lib.hid (jn_step (B := B) hr)
   have HRR := Lib.hid (HX.out r (List.mem_of_getElem? hr))
   have hbx : Below wr.heap.size wr (wr.alloc (.cells #[.int .i32 r] 21)) := (Below.refl _ _).alloc (Nat.le_refl _) _
   have hownx := own_below HOWN.out hbx
   have hbX := below_then HBW.out hbx
   have hbsX := hbX.size
   have HBL := Lib.hid hbl
   clear hr hcx hbl
   go_wp2_with (at_builtin; refine wpList_app runeElem _ rfl _ _ rfl w.heap.size rfl hownx rfl (Rd.new1 _ _ _) (one_of rfl) (by omega) (by omega) hbsX ?_)
   intro A4 c4 w4 hown4 hg4 hat4
   have HB4 := Lib.hid (below_app hbX hbsX hownx hg4)
   have HOWN4 := Lib.hid hown4
   have hlen4 : (out ++ [r]).length = L + 1 := by rw [List.length_append, ← HL.out]; rfl
   obtain ⟨Ay, cy, hvy, hLc, _, hrd4⟩ := Rd.of_own hown4
   injection hvy with e1 _ e3
   subst e1 e3
   have hrd4' : Rd w4 A4 (L + 1) (Rs (out ++ [r])) := by simpa [Rs] using hrd4
   have HBK : Hid (B.blocked (out ++ [r]) (L : Int) = B.blk out (B.cls r)) := by
    show _ = _
    have h1 : (out ++ [r])[L]? = some r := by rw [HL.out]; simp
    rw [blocked_in h1, HL.out, List.take_left]
   have RB := rblocked_any (cp := c4) (HR.out.below HB4.out) A4 (L + 1) (out ++ [r]) hrd4' hlen4 (by omega) (L : Int)
   rw [HBK.out] at RB
   have hwL : IntKind.i64.wrap ((L : Int) + 1 - 1) = (L : Int) := by rw [IntWalk.i64_in _ (by omega)]; omega
   have HRD4 := Lib.hid hrd4'
   have HLN4 := Lib.hid hlen4
   have HSB := step_blk (B := B) (jn_ok xs k) (jn_pre xs k) r
   have HSF := step_free (B := B) (jn_ok xs k) (jn_pre xs k) r
   rw [← HO.out] at HSB HSF
   have HSBH := Lib.hid HSB
   have HSFH := Lib.hid HSF
   obtain ⟨bk, hbk⟩ : ∃ bk, bk = B.blk out (B.cls r) := ⟨_, rfl⟩
   rw [← hbk] at RB
   have HBB := Lib.hid hbk
   clear hownx hbX hbsX hbx c0 hown4 hg4 hat4 hrd4 hrd4' hlen4 HSB HSF hbk
   go_wp2_with fail
   refine RB.mono ?_
   rintro e w5 ⟨rfl, hd5⟩
   have HB5 := Lib.hid (HB4.out.trans (hd5.below _))
   have HOWN5 := Lib.hid (own_below HOWN4.out (hd5.below _))
   have HRD5 := Lib.hid (HRD4.out.drewTo hd5)
   clear RB hd5
   cases bk with
   | true =>
    have HO4 : Hid (out ++ [r] = (B.jn xs (k + 1)).out) := by show _ = _; rw [HJS.out, HSBH.out HBB.out.symm, app_out, ← HO.out]
    have HL4 : Hid (L + 1 = (out ++ [r]).length) := HLN4.out.symm
    have HW4 : Hid (w5.ownsRow w.heap.size 21 1 (.slice A4 (L + 1) c4) (L + 1) (Rs (out ++ [r]))) := by
     have h9 := HOWN5.out
     show w5.ownsRow _ _ _ _ _ _
     simpa [Rs] using h9
    go_wp2
    go_roundw
    case rel => exact ⟨k + 1, L + 1, _, A4, c4, by omega, by omega, by go_num, rfl, HL4, HO4, HW4, HB5⟩
    case measure => simp [intOf] <;> omega
   | false =>
    obtain ⟨c0, hc0, hst⟩ := HSFH.out HBB.out.symm
    have HST := Lib.hid hst
    obtain ⟨h, hh⟩ : ∃ h, h = (B.jn xs k).pre.length := ⟨_, rfl⟩
    have hfo : (B.findS out).1 = (h : Int) := by rw [HO.out, hh]; exact (find_out (jn_ok xs k) (jn_pre xs k)).2 c0 hc0
    have hat : out[h]? = some c0 := by rw [HO.out, hh]; exact JS.out_at hc0
    have hhL : h < L := by rw [HL.out]; exact (List.getElem?_eq_some_iff.1 hat).1
    have hat2 : (out ++ [r])[h]? = some c0 := by rw [List.getElem?_append_left (by rw [← HL.out]; exact hhL)]; exact hat
    have RH := rhead_any (cp := c4) (HR.out.below HB5.out) A4 (L + 1) (out ++ [r]) HRD5.out HLN4.out (by omega) L (by omega)
    rw [HL.out, List.take_left, hfo, ← HL.out] at RH
    have hc0R : R32 c0 := jn_R HBD.out HX.out k c0 (by rw [← HO.out]; exact List.mem_of_getElem? hat)
    obtain ⟨g, hgA⟩ := own_addr HOWN5.out (own_some HOWN5.out (m := L) rfl)
    subst hgA
    have HG := Lib.hid (own_blkN HOWN5.out)
    have HH := Lib.hid hh
    have HC0N := Lib.hid hc0
    have HAT2 := Lib.hid hat2
    have HC0R := Lib.hid hc0R
    have hhn : (h : Int) < (L : Int) + 1 := by omega
    clear hst hc0 hh hfo hat hat2 hc0R
    go_wp2_with fail
    refine RH.mono ?_
    rintro e w6 ⟨rfl, rfl⟩
    clear RH
    have PR : Hid (∀ W, Below w5.heap.size w5 W → Calls Tryz.prog 23 #[pv, .int .i32 c0, .int .i32 r] W fun e w' => e = .returned (pairOf (B.pair c0 r)) ∧ Below W.heap.size W w') := fun W hW => rpair_is (HR.out.below (below_then HB5.out hW)) c0 r HC0R.out HRR.out
    have HMK : Hid (∀ w', Below w5.heap.size w5 w' → (w'.cell? ⟨g, h, none⟩ = some (.int .i32 c0) ∧ w'.cell? ⟨b, off + k, none⟩ = some (.int .i32 r)) ∧ Below w5.heap.size w5 w') := fun w' hW => by
     refine ⟨⟨?_, HC0.out w' (below_then HB5.out hW)⟩, hW⟩
     obtain ⟨b', o', e, hc'⟩ := (HRD5.out.below hW).2 (by omega)
     injection e with e
     injection e with e1 e2
     subst e1 e2
     have := hc' h (.int .i32 c0) (by rw [Rs, List.getElem?_map, HAT2.out]; rfl)
     rwa [Nat.zero_add] at this
    cases hpr : B.pair c0 r with
    | none =>
     have HO4 : Hid (out ++ [r] = (B.jn xs (k + 1)).out) := by show _ = _; rw [HJS.out, HST.out, hpr, app_out, ← HO.out]
     have HL4 : Hid (L + 1 = (out ++ [r]).length) := HLN4.out.symm
     rw [hpr, show pairOf none = .tuple #[.int .i32 0, .bool false] from rfl] at PR
     clear hpr
     go_upto_region 9 with fail
     refine wp_region_held_drew (S := fun w' => (w'.cell? ⟨g, h, none⟩ = some (.int .i32 c0) ∧ w'.cell? ⟨b, off + k, none⟩ = some (.int .i32 r)) ∧ Below w5.heap.size w5 w') (by kernel_rfl) (HMK.out _ (Drew.to ⟨1, rfl⟩)) (fun hH0 => ?_)
     refine wpAnyH_take (i := 0) (v := pv) rfl (by kernel_rfl) (by kernel_rfl) (by kernel_rfl) (fun _ _ _ h => h) (Or.inl ⟨by kernel_rfl, ?_⟩) hH0 ?_
     ·intro w hSw
      (try dsimp only at hSw)
      go_simp
      all_goals try with_reducible rfl
     try simp only [List.getElem_toArray, List.getElem_cons_succ, List.getElem_cons_zero, Act.put, List.setIfInBounds_toArray, List.set_cons_zero, List.set_cons_succ]
     refine wpAnyH_take (i := 1) (v := .slice (some ⟨g, 0, none⟩) (L + 1) c4) rfl (by kernel_rfl) (by kernel_rfl) (by kernel_rfl) (fun _ _ _ h => h) (Or.inl ⟨by kernel_rfl, ?_⟩) hH0 ?_
     ·intro w hSw
      (try dsimp only at hSw)
      go_simp
      all_goals try with_reducible rfl
     try simp only [List.getElem_toArray, List.getElem_cons_succ, List.getElem_cons_zero, Act.put, List.setIfInBounds_toArray, List.set_cons_zero, List.set_cons_succ]
     refine wpAnyH_take (i := 2) (v := .int .i64 h) rfl (by kernel_rfl) (by kernel_rfl) (by kernel_rfl) (fun _ _ _ h => h) (Or.inl ⟨by kernel_rfl, ?_⟩) hH0 ?_
     ·intro w hSw
      (try dsimp only at hSw)
      go_simp
      all_goals try with_reducible rfl
     try simp only [List.getElem_toArray, List.getElem_cons_succ, List.getElem_cons_zero, Act.put, List.setIfInBounds_toArray, List.set_cons_zero, List.set_cons_succ]
     refine wpAnyH_take (i := 3) (v := .pointer (some ⟨g, h, none⟩)) rfl (by kernel_rfl) (by kernel_rfl) (by kernel_rfl) (fun _ _ _ h => h) (Or.inl ⟨by kernel_rfl, ?_⟩) hH0 ?_
     ·intro w hSw
      (try dsimp only at hSw)
      go_simp
      all_goals try with_reducible rfl
     try simp only [List.getElem_toArray, List.getElem_cons_succ, List.getElem_cons_zero, Act.put, List.setIfInBounds_toArray, List.set_cons_zero, List.set_cons_succ]
     refine wpAnyH_take (i := 4) (v := .int .i32 c0) rfl (by kernel_rfl) (by kernel_rfl) (by kernel_rfl) (fun _ _ _ h => h) (Or.inl ⟨by kernel_rfl, ?_⟩) hH0 ?_
     ·intro w hSw
      (try dsimp only at hSw)
      go_simp
      all_goals try with_reducible rfl
     try simp only [List.getElem_toArray, List.getElem_cons_succ, List.getElem_cons_zero, Act.put, List.setIfInBounds_toArray, List.set_cons_zero, List.set_cons_succ]
     refine wpAnyH_take (i := 5) (v := .slice (some ⟨b, off, none⟩) n cp) rfl (by kernel_rfl) (by kernel_rfl) (by kernel_rfl) (fun _ _ _ h => h) (Or.inl ⟨by kernel_rfl, ?_⟩) hH0 ?_
     ·intro w hSw
      (try dsimp only at hSw)
      go_simp
      all_goals try with_reducible rfl
     try simp only [List.getElem_toArray, List.getElem_cons_succ, List.getElem_cons_zero, Act.put, List.setIfInBounds_toArray, List.set_cons_zero, List.set_cons_succ]
     refine wpAnyH_take (i := 6) (v := .int .i64 k) rfl (by kernel_rfl) (by kernel_rfl) (by kernel_rfl) (fun _ _ _ h => h) (Or.inl ⟨by kernel_rfl, ?_⟩) hH0 ?_
     ·intro w hSw
      (try dsimp only at hSw)
      go_simp
      all_goals try with_reducible rfl
     try simp only [List.getElem_toArray, List.getElem_cons_succ, List.getElem_cons_zero, Act.put, List.setIfInBounds_toArray, List.set_cons_zero, List.set_cons_succ]
     refine wpAnyH_take (i := 7) (v := .pointer (some ⟨b, off + k, none⟩)) rfl (by kernel_rfl) (by kernel_rfl) (by kernel_rfl) (fun _ _ _ h => h) (Or.inl ⟨by kernel_rfl, ?_⟩) hH0 ?_
     ·intro w hSw
      (try dsimp only at hSw)
      go_simp
      all_goals try with_reducible rfl
     try simp only [List.getElem_toArray, List.getElem_cons_succ, List.getElem_cons_zero, Act.put, List.setIfInBounds_toArray, List.set_cons_zero, List.set_cons_succ]
     refine wpAnyH_take (i := 8) (v := .int .i32 r) rfl (by kernel_rfl) (by kernel_rfl) (by kernel_rfl) (fun _ _ _ h => h) (Or.inl ⟨by kernel_rfl, ?_⟩) hH0 ?_
     ·intro w hSw
      (try dsimp only at hSw)
      go_simp
      all_goals try with_reducible rfl
     try simp only [List.getElem_toArray, List.getElem_cons_succ, List.getElem_cons_zero, Act.put, List.setIfInBounds_toArray, List.set_cons_zero, List.set_cons_succ]
     refine wpAnyH_ready (rs := [9]) (by kernel_rfl) (by simp) ?_
     refine AllReadyH.cons rfl (fun K hK => ?_) AllReadyH.nil
     go_simp
     refine (PR.out _ hH0.2).mono ?_
     rintro e w50 ⟨rfl, hb6⟩
     refine hK.out _ _ (HMK.out _ (below_then hH0.2 hb6)) (fun hH1 => ?_)
     clear hK K hH0
     try simp only [List.getElem_toArray, List.getElem_cons_succ, List.getElem_cons_zero, Act.put, List.setIfInBounds_toArray, List.set_cons_zero, List.set_cons_succ]
     refine wpAnyH_take (i := 10) (v := .tuple #[.int .i32 0, .bool false]) rfl (by kernel_rfl) (by kernel_rfl) (by kernel_rfl) (fun _ _ _ h => h) (Or.inl ⟨by kernel_rfl, ?_⟩) hH1 ?_
     ·intro w hSw
      (try dsimp only at hSw)
      go_simp
      all_goals try with_reducible rfl
     try simp only [List.getElem_toArray, List.getElem_cons_succ, List.getElem_cons_zero, Act.put, List.setIfInBounds_toArray, List.set_cons_zero, List.set_cons_succ]
     refine wpAnyH_take (i := 11) (v := .int .i32 0) rfl (by kernel_rfl) (by kernel_rfl) (by kernel_rfl) (fun _ _ _ h => h) (Or.inl ⟨by kernel_rfl, ?_⟩) hH1 ?_
     ·intro w hSw
      (try dsimp only at hSw)
      go_simp
      all_goals try with_reducible rfl
     try simp only [List.getElem_toArray, List.getElem_cons_succ, List.getElem_cons_zero, Act.put, List.setIfInBounds_toArray, List.set_cons_zero, List.set_cons_succ]
     refine wpAnyH_take (i := 12) (v := .bool false) rfl (by kernel_rfl) (by kernel_rfl) (by kernel_rfl) (fun _ _ _ h => h) (Or.inl ⟨by kernel_rfl, ?_⟩) hH1 ?_
     ·intro w hSw
      (try dsimp only at hSw)
      go_simp
      all_goals try with_reducible rfl
     try simp only [List.getElem_toArray, List.getElem_cons_succ, List.getElem_cons_zero, Act.put, List.setIfInBounds_toArray, List.set_cons_zero, List.set_cons_succ]
     refine wpAnyH_take (i := 13) (v := .int .i32 0) rfl (by kernel_rfl) (by kernel_rfl) (by kernel_rfl) (fun _ _ _ h => h) (Or.inl ⟨by kernel_rfl, ?_⟩) hH1 ?_
     ·intro w hSw
      (try dsimp only at hSw)
      go_simp
      all_goals try with_reducible rfl
     try simp only [List.getElem_toArray, List.getElem_cons_succ, List.getElem_cons_zero, Act.put, List.setIfInBounds_toArray, List.set_cons_zero, List.set_cons_succ]
     refine wpAnyH_take (i := 14) (v := .bool false) rfl (by kernel_rfl) (by kernel_rfl) (by kernel_rfl) (fun _ _ _ h => h) (Or.inl ⟨by kernel_rfl, ?_⟩) hH1 ?_
     ·intro w hSw
      (try dsimp only at hSw)
      go_simp
      all_goals try with_reducible rfl
     try simp only [List.getElem_toArray, List.getElem_cons_succ, List.getElem_cons_zero, Act.put, List.setIfInBounds_toArray, List.set_cons_zero, List.set_cons_succ]
     refine wpAnyH_done (by kernel_rfl) ?_ _
     have HB6 := Lib.hid hH1.2
     clear hH1
     have HB7 := Lib.hid (below_then HB5.out HB6.out)
     have HW4 : Hid (w50.ownsRow w.heap.size 21 1 (.slice (some ⟨g, 0, none⟩) (L + 1) c4) (L + 1) (Rs (out ++ [r]))) := by
      have h9 := own_below HOWN5.out HB6.out
      show w50.ownsRow _ _ _ _ _ _
      simpa [Rs] using h9
     clear PR HMK
     go_wp2
     go_roundw
     case rel => exact ⟨k + 1, L + 1, _, _, c4, by omega, by omega, by go_num, rfl, HL4, HO4, HW4, HB7⟩
     case measure => simp [intOf] <;> omega
    | some c1 =>
     have HO4 : Hid (out.set h c1 = (B.jn xs (k + 1)).out) := by
      show _ = _
      have hs : B.step (B.jn xs k) r = ⟨(B.jn xs k).pre, some c1, (B.jn xs k).ms⟩ := by rw [HST.out, hpr]
      have ho : out = (B.jn xs k).pre ++ ([c0] ++ (B.jn xs k).ms) := by rw [HO.out]; unfold JS.out; rw [HC0N.out]; rfl
      rw [HJS.out, hs, HH.out]
      rw [ho]
      show ((B.jn xs k).pre ++ ([c0] ++ (B.jn xs k).ms)).set (B.jn xs k).pre.length c1 = (B.jn xs k).pre ++ ([c1] ++ (B.jn xs k).ms)
      rw [List.set_append_right _ _ (Nat.le_refl _), Nat.sub_self]
      rfl
     rw [hpr, show pairOf (some c1) = .tuple #[.int .i32 c1, .bool true] from rfl] at PR
     clear hpr
     go_upto_region 9 with fail
     refine wp_region_held_drew (S := fun w' => (w'.cell? ⟨g, h, none⟩ = some (.int .i32 c0) ∧ w'.cell? ⟨b, off + k, none⟩ = some (.int .i32 r)) ∧ Below w5.heap.size w5 w') (by kernel_rfl) (HMK.out _ (Drew.to ⟨1, rfl⟩)) (fun hH0 => ?_)
     refine wpAnyH_take (i := 0) (v := pv) rfl (by kernel_rfl) (by kernel_rfl) (by kernel_rfl) (fun _ _ _ h => h) (Or.inl ⟨by kernel_rfl, ?_⟩) hH0 ?_
     ·intro w hSw
      (try dsimp only at hSw)
      go_simp
      all_goals try with_reducible rfl
     try simp only [List.getElem_toArray, List.getElem_cons_succ, List.getElem_cons_zero, Act.put, List.setIfInBounds_toArray, List.set_cons_zero, List.set_cons_succ]
     refine wpAnyH_take (i := 1) (v := .slice (some ⟨g, 0, none⟩) (L + 1) c4) rfl (by kernel_rfl) (by kernel_rfl) (by kernel_rfl) (fun _ _ _ h => h) (Or.inl ⟨by kernel_rfl, ?_⟩) hH0 ?_
     ·intro w hSw
      (try dsimp only at hSw)
      go_simp
      all_goals try with_reducible rfl
     try simp only [List.getElem_toArray, List.getElem_cons_succ, List.getElem_cons_zero, Act.put, List.setIfInBounds_toArray, List.set_cons_zero, List.set_cons_succ]
     refine wpAnyH_take (i := 2) (v := .int .i64 h) rfl (by kernel_rfl) (by kernel_rfl) (by kernel_rfl) (fun _ _ _ h => h) (Or.inl ⟨by kernel_rfl, ?_⟩) hH0 ?_
     ·intro w hSw
      (try dsimp only at hSw)
      go_simp
      all_goals try with_reducible rfl
     try simp only [List.getElem_toArray, List.getElem_cons_succ, List.getElem_cons_zero, Act.put, List.setIfInBounds_toArray, List.set_cons_zero, List.set_cons_succ]
     refine wpAnyH_take (i := 3) (v := .pointer (some ⟨g, h, none⟩)) rfl (by kernel_rfl) (by kernel_rfl) (by kernel_rfl) (fun _ _ _ h => h) (Or.inl ⟨by kernel_rfl, ?_⟩) hH0 ?_
     ·intro w hSw
      (try dsimp only at hSw)
      go_simp
      all_goals try with_reducible rfl
     try simp only [List.getElem_toArray, List.getElem_cons_succ, List.getElem_cons_zero, Act.put, List.setIfInBounds_toArray, List.set_cons_zero, List.set_cons_succ]
     refine wpAnyH_take (i := 4) (v := .int .i32 c0) rfl (by kernel_rfl) (by kernel_rfl) (by kernel_rfl) (fun _ _ _ h => h) (Or.inl ⟨by kernel_rfl, ?_⟩) hH0 ?_
     ·intro w hSw
      (try dsimp only at hSw)
      go_simp
      all_goals try with_reducible rfl
     try simp only [List.getElem_toArray, List.getElem_cons_succ, List.getElem_cons_zero, Act.put, List.setIfInBounds_toArray, List.set_cons_zero, List.set_cons_succ]
     refine wpAnyH_take (i := 5) (v := .slice (some ⟨b, off, none⟩) n cp) rfl (by kernel_rfl) (by kernel_rfl) (by kernel_rfl) (fun _ _ _ h => h) (Or.inl ⟨by kernel_rfl, ?_⟩) hH0 ?_
     ·intro w hSw
      (try dsimp only at hSw)
      go_simp
      all_goals try with_reducible rfl
     try simp only [List.getElem_toArray, List.getElem_cons_succ, List.getElem_cons_zero, Act.put, List.setIfInBounds_toArray, List.set_cons_zero, List.set_cons_succ]
     refine wpAnyH_take (i := 6) (v := .int .i64 k) rfl (by kernel_rfl) (by kernel_rfl) (by kernel_rfl) (fun _ _ _ h => h) (Or.inl ⟨by kernel_rfl, ?_⟩) hH0 ?_
     ·intro w hSw
      (try dsimp only at hSw)
      go_simp
      all_goals try with_reducible rfl
     try simp only [List.getElem_toArray, List.getElem_cons_succ, List.getElem_cons_zero, Act.put, List.setIfInBounds_toArray, List.set_cons_zero, List.set_cons_succ]
     refine wpAnyH_take (i := 7) (v := .pointer (some ⟨b, off + k, none⟩)) rfl (by kernel_rfl) (by kernel_rfl) (by kernel_rfl) (fun _ _ _ h => h) (Or.inl ⟨by kernel_rfl, ?_⟩) hH0 ?_
     ·intro w hSw
      (try dsimp only at hSw)
      go_simp
      all_goals try with_reducible rfl
     try simp only [List.getElem_toArray, List.getElem_cons_succ, List.getElem_cons_zero, Act.put, List.setIfInBounds_toArray, List.set_cons_zero, List.set_cons_succ]
     refine wpAnyH_take (i := 8) (v := .int .i32 r) rfl (by kernel_rfl) (by kernel_rfl) (by kernel_rfl) (fun _ _ _ h => h) (Or.inl ⟨by kernel_rfl, ?_⟩) hH0 ?_
     ·intro w hSw
      (try dsimp only at hSw)
      go_simp
      all_goals try with_reducible rfl
     try simp only [List.getElem_toArray, List.getElem_cons_succ, List.getElem_cons_zero, Act.put, List.setIfInBounds_toArray, List.set_cons_zero, List.set_cons_succ]
     refine wpAnyH_ready (rs := [9]) (by kernel_rfl) (by simp) ?_
     refine AllReadyH.cons rfl (fun K hK => ?_) AllReadyH.nil
     go_simp
     refine (PR.out _ hH0.2).mono ?_
     rintro e w50 ⟨rfl, hb6⟩
     refine hK.out _ _ (HMK.out _ (below_then hH0.2 hb6)) (fun hH1 => ?_)
     clear hK K hH0
     try simp only [List.getElem_toArray, List.getElem_cons_succ, List.getElem_cons_zero, Act.put, List.setIfInBounds_toArray, List.set_cons_zero, List.set_cons_succ]
     refine wpAnyH_take (i := 10) (v := .tuple #[.int .i32 c1, .bool true]) rfl (by kernel_rfl) (by kernel_rfl) (by kernel_rfl) (fun _ _ _ h => h) (Or.inl ⟨by kernel_rfl, ?_⟩) hH1 ?_
     ·intro w hSw
      (try dsimp only at hSw)
      go_simp
      all_goals try with_reducible rfl
     try simp only [List.getElem_toArray, List.getElem_cons_succ, List.getElem_cons_zero, Act.put, List.setIfInBounds_toArray, List.set_cons_zero, List.set_cons_succ]
     refine wpAnyH_take (i := 11) (v := .int .i32 c1) rfl (by kernel_rfl) (by kernel_rfl) (by kernel_rfl) (fun _ _ _ h => h) (Or.inl ⟨by kernel_rfl, ?_⟩) hH1 ?_
     ·intro w hSw
      (try dsimp only at hSw)
      go_simp
      all_goals try with_reducible rfl
     try simp only [List.getElem_toArray, List.getElem_cons_succ, List.getElem_cons_zero, Act.put, List.setIfInBounds_toArray, List.set_cons_zero, List.set_cons_succ]
     refine wpAnyH_take (i := 12) (v := .bool true) rfl (by kernel_rfl) (by kernel_rfl) (by kernel_rfl) (fun _ _ _ h => h) (Or.inl ⟨by kernel_rfl, ?_⟩) hH1 ?_
     ·intro w hSw
      (try dsimp only at hSw)
      go_simp
      all_goals try with_reducible rfl
     try simp only [List.getElem_toArray, List.getElem_cons_succ, List.getElem_cons_zero, Act.put, List.setIfInBounds_toArray, List.set_cons_zero, List.set_cons_succ]
     refine wpAnyH_take (i := 13) (v := .int .i32 c1) rfl (by kernel_rfl) (by kernel_rfl) (by kernel_rfl) (fun _ _ _ h => h) (Or.inl ⟨by kernel_rfl, ?_⟩) hH1 ?_
     ·intro w hSw
      (try dsimp only at hSw)
      go_simp
      all_goals try with_reducible rfl
     try simp only [List.getElem_toArray, List.getElem_cons_succ, List.getElem_cons_zero, Act.put, List.setIfInBounds_toArray, List.set_cons_zero, List.set_cons_succ]
     refine wpAnyH_take (i := 14) (v := .bool true) rfl (by kernel_rfl) (by kernel_rfl) (by kernel_rfl) (fun _ _ _ h => h) (Or.inl ⟨by kernel_rfl, ?_⟩) hH1 ?_
     ·intro w hSw
      (try dsimp only at hSw)
      go_simp
      all_goals try with_reducible rfl
     try simp only [List.getElem_toArray, List.getElem_cons_succ, List.getElem_cons_zero, Act.put, List.setIfInBounds_toArray, List.set_cons_zero, List.set_cons_succ]
     refine wpAnyH_done (by kernel_rfl) ?_ _
     have HB6 := Lib.hid hH1.2
     have hch := hH1.1.1
     clear hH1
     have HB7 := Lib.hid (below_then HB5.out HB6.out)
     have how := own_below HOWN5.out HB6.out
     have hfr : w50.frozen? ⟨g, h, none⟩ = false := by obtain ⟨_, cur, hcu⟩ := own_blkN how; exact box_frozen hcu h
     have hset := own_setAt (j := h) how (by omega) (.int .i32 c1)
     have eset : (Rs out ++ [Value.int .i32 r]).set h (Value.int .i32 c1) = Rs (out.set h c1) ++ [Value.int .i32 r] := by rw [List.set_append_left _ _ (by rw [Rs_length, ← HL.out]; exact hhL)]; simp [Rs, List.map_set]
     rw [eset] at hset
     have HW8 := Lib.hid (own_shrink hset (by rw [Rs_length, List.length_set, ← HL.out]))
     have HB8 : Hid (Below w.heap.size w (w50.setCell ⟨g, h, none⟩ (.int .i32 c1))) := Below.setCell (p := ⟨g, h, none⟩) HB7.out HG.out.1 _
     have HL8 : Hid (L = (out.set h c1).length) := by show _ = _; rw [List.length_set]; exact HL.out
     have hc4 : L + 1 ≤ c4 := hLc
     have hc4n : ¬ (c4 = 0) := by omega
     have hcL : (L : Int) ≤ (c4 : Int) := by omega
     clear PR HMK how hset eset
     go_wp2
     go_roundw
     case rel => exact ⟨k + 1, L, _, _, c4, by omega, by omega, by go_num, by simp, HL8, HO4, HW8, HB8⟩
     case measure => simp [intOf] <;> omega
  ·obtain rfl : k = n := by omega
   have hki : (k : Int) ≤ (k : Int) := Int.le_refl _
   have HF : Hid (FreshR w (B.join xs) (.returned (.slice A9 L c9)) wr) := by
    have h1 : out = B.join xs := by rw [HO.out]; exact jn_all HN.out.symm
    rw [← h1]
    have h2 := HOWN.out
    rw [HL.out] at h2
    exact ⟨A9, c9, by rw [HL.out], h2, HBW.out⟩
   go_wp2
   go_returns
   exact HF.out
end
end
end Go.Proofs.YtobleaiecnpcoaaGreatDoor
