/- DecompRuns, DecompAgain, DecompNil: the laws. -/
import Derived.Test.YtajkjaciooijjaaGreatDoorH02
import Derived.Test.YtajkjaciooijjaaGreatDoorH05
import Derived.Test.YtajkjaciooijjaaGreatDoorH01
import Derived.Test.YtajkjaciooijjaaGreatDoorH06
import Derived.Test.YtajkjaciooijjaaGreatDoorH09
import Derived.Test.YtajkjaciooijjaaGreatDoorH10
import Derived.Test.YtajkjaciooijjaaGreatDoorH04
import Derived.Test.YtajkjaciooijjaaGreatDoorH07
import Derived.Test.YtajkjaciooijjaaGreatDoorH12
import Derived.Test.YtajkjaciooijjaaGreatDoorH13
import Derived.Test.YtajkjaciooijjaaGreatDoorH14
import Derived.Test.YtajkjaciooijjaaGreatDoorH15
import Derived.Test.YtajkjaciooijjaaGreatDoorH18
import Derived.Test.YtajkjaciooijjaaGreatDoorH08
import Derived.Test.YtajkjaciooijjaaGreatDoorH19
import Derived.Test.YtajkjaciooijjaaGreatDoorH22
import Derived.Test.YtajkjaciooijjaaGreatDoorH25
import Derived.Test.YtajkjaciooijjaaGreatDoorH27
import Derived.Test.YtajkjaciooijjaaGreatDoorH32
import Derived.Test.YtajkjaciooijjaaGreatDoorH35
import Derived.Test.YtajkjaciooijjaaGreatDoorH28
import Derived.Test.YtajkjaciooijjaaGreatDoorH38
import Derived.Test.YtajkjaciooijjaaGreatDoorH43
import Derived.Test.YtajkjaciooijjaaGreatDoorH42
import Derived.Test.YtajkjaciooijjaaGreatDoorH44
import Derived.Test.YtajkjaciooijjaaGreatDoorH40
section
set_option linter.unusedSimpArgs false
set_option linter.unusedVariables false
namespace Go.Proofs.YtajkjaciooijjaaGreatDoor
open Go.RowKit Go.Lib
set_option maxRecDepth 20000 in
set_option maxHeartbeats 4000000 in
theorem decompruns_yes (s o : ByteArray) (A : Option Addr) (n cp : Nat) (zs : List Int) (w : World) (hE : Env w) (hk : Kinds w) (hz : ArgR w A n cp zs) :
  Calls Tryz.prog 6 #[.agg #[.string s, .string o], .slice A n cp] w fun e w' => e = .returned (.bool true) ∧ Below w.heap.size w w' := by
 obtain ⟨W0, hW0⟩ : ∃ W0, w.alloc (.cells #[.string s, .string o] 23) = W0 := ⟨_, rfl⟩
 have hB0 : Below w.heap.size w W0 := by rw [← hW0]; exact (Below.refl _ w).alloc (Nat.le_refl _) _
 have bx1 : W0.heap[w.heap.size]? = some (.cells #[.string s, .string o] 23 (0, 0)) := by rw [← hW0]; exact box_new w _ _
 have hc0 := box_cell bx1 0 rfl
 have hc1 := box_cell bx1 1 rfl
 have BO := both_any s o W0 (hE.below hB0) (hk.below' hB0)
 have HEE := Lib.hid hE
 have HKK := Lib.hid hk
 have HZ := Lib.hid hz
 clear hE hk bx1 hz
 go_enter Tryz.func6, Tryz.ntmps6
 go_wp2_with fail
 refine BO.mono ?_
 rintro e v0 (⟨rfl, hb0⟩ | ⟨bp, x, B, rfl, hB, hR, hbd, hb0⟩)
 ·have HW := Lib.hid (below_then hB0 hb0)
  clear BO hc0 hc1 hW0 hB0 hb0
  have HE0 := HEE.out.below HW.out
  have HK0 := HKK.out.below' HW.out
  have AW := awake9_any _ HE0 HK0
  go_wp2_with fail
  refine AW.mono ?_
  rintro e v1 ⟨rfl, hbn⟩
  have HW := Lib.hid (below_then HW.out hbn)
  clear AW hbn
  go_wp2
  go_returns
  exact ⟨rfl, HW.out⟩
 have HW := Lib.hid (below_then hB0 hb0)
 have ST : Hid (LawSt v0 bp x B) := ⟨hB, hR, hbd, HEE.out.below HW.out, HKK.out.below' HW.out⟩
 replace HZ := Lib.hid (HZ.out.below HW.out)
 clear BO hc0 hc1 hW0 hB hR hbd hb0 hB0 HEE HKK
 by_cases hn : n ≤ 60
 rotate_left
 ·have hn1 : (60 : Int) < (n : Int) := by omega
  clear hn
  have AW := awake9_any _ ST.out.e ST.out.k
  go_wp2_with fail
  refine AW.mono ?_
  rintro e v1 ⟨rfl, hbn⟩
  have HW := Lib.hid (below_then HW.out hbn)
  clear AW hbn
  go_wp2
  go_returns
  exact ⟨rfl, HW.out⟩
 have hn1 : ¬ (60 : Int) < (n : Int) := by omega
 obtain ⟨yss, hys⟩ : ∃ yss, yss = B.runs zs := ⟨_, rfl⟩
 have hly : yss.length ≤ 60 := by rw [hys]; have h1 := runs_len (B := B) zs; rw [HZ.out.len] at h1; omega
 have HLQ : Hid (∀ q ∈ yss, q.length ≤ 60) := fun q hq => by rw [hys] at hq; have h1 := runs_each zs hq; rw [HZ.out.len] at h1; omega
 have HYS := Lib.hid hys
 obtain ⟨sb, hsb⟩ : ∃ sb, sb = B.srt 0 zs := ⟨_, rfl⟩
 have HSB := Lib.hid hsb
 clear hys hsb
 have C := runs_any ST.out.b A n cp zs HZ.out.rd HZ.out.len HZ.out.cap HZ.out.r (by omega)
 rw [← HYS.out] at C
 go_wp2_with fail
 refine C.mono ?_
 intro e v1 hf
 obtain ⟨os1, A1, c1, hm1, rfl, hr1, hbn⟩ := hf.rd
 clear C hf
 replace ST := Lib.hid (ST.out.below hbn)
 replace HZ := Lib.hid (HZ.out.below hbn)
 replace HW := Lib.hid (below_then HW.out hbn)
 clear hbn
 have RL1 := Lib.hid hr1
 have HM1 := Lib.hid hm1
 clear hr1 hm1
 have C := rruns_any ST.out.r A n cp zs HZ.out.rd HZ.out.len (by omega)
 rw [← HYS.out] at C
 go_wp2_with fail
 refine C.mono ?_
 intro e v2 hf
 obtain ⟨os2, A2, c2, hm2, rfl, hr2, hbn⟩ := hf.rd
 clear C hf
 replace ST := Lib.hid (ST.out.below hbn)
 replace HZ := Lib.hid (HZ.out.below hbn)
 replace RL1 := Lib.hid (RL1.out.below hbn)
 replace HW := Lib.hid (below_then HW.out hbn)
 clear hbn
 have RL2 := Lib.hid hr2
 have HM2 := Lib.hid hm2
 clear hr2 hm2
 have C := ordered_any ST.out.b A n cp zs HZ.out.rd HZ.out.len HZ.out.r (by omega)
 rw [← HSB.out] at C
 go_wp2_with fail
 refine C.mono ?_
 rintro e v3 ⟨rfl, hbn⟩
 clear C
 replace ST := Lib.hid (ST.out.below hbn)
 replace HZ := Lib.hid (HZ.out.below hbn)
 replace RL1 := Lib.hid (RL1.out.below hbn)
 replace RL2 := Lib.hid (RL2.out.below hbn)
 replace HW := Lib.hid (below_then HW.out hbn)
 clear hbn
 have C := rordered_any ST.out.r A n cp zs HZ.out.rd HZ.out.len (by omega)
 rw [← HSB.out] at C
 go_wp2_with fail
 refine C.mono ?_
 rintro e v_ ⟨rfl, rfl⟩
 clear C
 have hsn : (sb != sb) = false := by cases sb <;> rfl
 have hln : ((yss.length : Int) != (yss.length : Int)) = false := by simp
 obtain ⟨N, hN⟩ : ∃ N, N = yss.length := ⟨_, rfl⟩
 rw [← hN] at hly hln ⊢
 have HN := Lib.hid hN
 clear hN
 go_wp2
 have HB0 : Hid (Below v3.heap.size v3 v3) := Below.refl _ _
 go_loopw [9] (fun i wr => ∃ k : Nat, k ≤ N ∧ i = .int .i64 k ∧ Hid (Below v3.heap.size v3 wr)) (fun i _ => N - (intOf i).toNat)
 case atStart => exact ⟨0, Nat.zero_le _, rfl, HB0⟩
 case round =>
  obtain ⟨k, hk, rfl, HBW⟩ := hrel
  by_cases hlt : k < N
  ·have hki : (k : Int) < (N : Int) := by omega
   obtain ⟨b1, f1, q, A5, c5, rfl, hc1, hq1, hy1, _⟩ := (RL1.out.below HBW.out).at_ HM1.out (k := k) (by have := HN.out; omega)
   obtain ⟨b2, f2, q2, A6, c6, rfl, hc2, hq2, hy2, _⟩ := (RL2.out.below HBW.out).at_ HM2.out (k := k) (by have := HN.out; omega)
   rw [hy1] at hy2
   injection hy2 with hy2
   subst hy2
   have hql := HLQ.out q (List.mem_of_getElem? hy1)
   have SQ : ∀ n', Calls Tryz.prog 12 #[.slice A5 q.length c5, .slice A6 q.length c6] (wr.drewN n') (fun e w'' => e = .returned (.bool true) ∧ ∃ m, w'' = wr.drewN m) := fun n' => by
    have h := runes_any A5 A6 q.length q.length c5 c6 q q (wr.drewN n') (hq1.drewN n') (hq2.drewN n') (by omega) (by omega)
    rw [decide_eq_true rfl] at h
    exact quiet_drew h
   have HBN : Hid (∀ nq, Below v3.heap.size v3 (wr.drewN nq)) := fun nq => below_then HBW.out (below_drewN wr _ nq)
   clear hy1 hq1 hq2
   go_wp2
   go_quiet ((go_at_call 12; exact SQ _))
   have HB5 := Lib.hid (HBN.out nq)
   go_wp2
   go_roundw
   case rel => exact ⟨k + 1, by omega, by go_num, HB5⟩
   case measure => simp [intOf]; omega
  ·obtain rfl : k = N := by omega
   have hki : (k : Int) ≤ (k : Int) := Int.le_refl _
   have ST2 := Lib.hid (ST.out.below HBW.out)
   replace HW := Lib.hid (below_then HW.out HBW.out)
   have AW := awake9_any _ ST2.out.e ST2.out.k
   go_wp2_with fail
   refine AW.mono ?_
   rintro e v4 ⟨rfl, hbn⟩
   have HW := Lib.hid (below_then HW.out hbn)
   clear AW hbn
   go_wp2
   go_returns
   exact ⟨rfl, HW.out⟩
set_option maxRecDepth 20000 in
set_option maxHeartbeats 4000000 in
theorem decompagain_yes (s o : ByteArray) (A : Option Addr) (n cp : Nat) (zs : List Int) (c : Bool) (w : World) (hE : Env w) (hk : Kinds w) (hz : ArgR w A n cp zs) :
  Calls Tryz.prog 7 #[.agg #[.string s, .string o], .slice A n cp, .bool c] w fun e w' => e = .returned (.bool true) ∧ Below w.heap.size w w' := by
 obtain ⟨W0, hW0⟩ : ∃ W0, w.alloc (.cells #[.string s, .string o] 23) = W0 := ⟨_, rfl⟩
 have hB0 : Below w.heap.size w W0 := by rw [← hW0]; exact (Below.refl _ w).alloc (Nat.le_refl _) _
 have bx1 : W0.heap[w.heap.size]? = some (.cells #[.string s, .string o] 23 (0, 0)) := by rw [← hW0]; exact box_new w _ _
 have hc0 := box_cell bx1 0 rfl
 have hc1 := box_cell bx1 1 rfl
 have BO := both_any s o W0 (hE.below hB0) (hk.below' hB0)
 have HEE := Lib.hid hE
 have HKK := Lib.hid hk
 have HZ := Lib.hid hz
 clear hE hk bx1 hz
 go_enter Tryz.func7, Tryz.ntmps7
 go_wp2_with fail
 refine BO.mono ?_
 rintro e v0 (⟨rfl, hb0⟩ | ⟨bp, x, B, rfl, hB, hR, hbd, hb0⟩)
 ·have HW := Lib.hid (below_then hB0 hb0)
  clear BO hc0 hc1 hW0 hB0 hb0
  have HE0 := HEE.out.below HW.out
  have HK0 := HKK.out.below' HW.out
  have AW := awake9_any _ HE0 HK0
  go_wp2_with fail
  refine AW.mono ?_
  rintro e v1 ⟨rfl, hbn⟩
  have HW := Lib.hid (below_then HW.out hbn)
  clear AW hbn
  go_wp2
  go_returns
  exact ⟨rfl, HW.out⟩
 have HW := Lib.hid (below_then hB0 hb0)
 have ST : Hid (LawSt v0 bp x B) := ⟨hB, hR, hbd, HEE.out.below HW.out, HKK.out.below' HW.out⟩
 replace HZ := Lib.hid (HZ.out.below HW.out)
 clear BO hc0 hc1 hW0 hB hR hbd hb0 hB0 HEE HKK
 by_cases hn : n ≤ 60
 rotate_left
 ·have hn1 : (60 : Int) < (n : Int) := by omega
  clear hn
  have AW := awake9_any _ ST.out.e ST.out.k
  go_wp2_with fail
  refine AW.mono ?_
  rintro e v1 ⟨rfl, hbn⟩
  have HW := Lib.hid (below_then HW.out hbn)
  clear AW hbn
  go_wp2
  go_returns
  exact ⟨rfl, HW.out⟩
 have hn1 : ¬ (60 : Int) < (n : Int) := by omega
 obtain ⟨ys, hys⟩ : ∃ ys, ys = B.full c zs := ⟨_, rfl⟩
 have hly : ys.length ≤ 3240 := by rw [hys]; have h1 := full_len ST.out.bd c zs; rw [HZ.out.len] at h1; omega
 have HYR : Hid (∀ x ∈ ys, R32 x) := fun x hx => full_R ST.out.bd c HZ.out.r x (by rw [← hys]; exact hx)
 have HYI : Hid (∀ x ∈ ys, B.parts c x = []) := fun x hx => full_irr c zs x (by rw [← hys]; exact hx)
 have HYF : Hid (B.full c ys = ys) := by show _ = _; rw [hys]; exact full_full c zs
 have HYO : Hid (B.srt 0 ys = true) := by show _ = _; rw [hys]; exact full_srt c zs
 have HYN : Hid (ys = [] ↔ zs = []) := by show _ ↔ _; rw [hys]; exact full_nil_iff
 have HYS := Lib.hid hys
 clear hys
 have C := full_any ST.out.b ST.out.k ST.out.bd (one_R ST.out.bd) c A n cp zs HZ.out.rd HZ.out.len HZ.out.r (by omega)
 rw [← HYS.out] at C
 go_wp2_with fail
 refine C.mono ?_
 intro e v1 hf
 obtain ⟨A1, c1, rfl, rd10, hbn⟩ := hf.rd
 clear C hf
 replace ST := Lib.hid (ST.out.below hbn)
 replace HZ := Lib.hid (HZ.out.below hbn)
 replace HW := Lib.hid (below_then HW.out hbn)
 clear hbn
 have RD1 := Lib.hid rd10
 clear rd10
 obtain ⟨N, hN⟩ : ∃ N, N = ys.length := ⟨_, rfl⟩
 rw [← hN] at hly ⊢
 have HN := Lib.hid hN
 clear hN
 go_wp2
 have HB0 : Hid (Below v1.heap.size v1 v1) := Below.refl _ _
 go_loopw [10] (fun i wr => ∃ k : Nat, k ≤ N ∧ i = .int .i64 k ∧ Hid (Below v1.heap.size v1 wr)) (fun i _ => N - (intOf i).toNat)
 case atStart => exact ⟨0, Nat.zero_le _, rfl, HB0⟩
 case round =>
  obtain ⟨k, hk, rfl, HBW⟩ := hrel
  by_cases hlt : k < N
  ·have hki : (k : Int) < (N : Int) := by omega
   obtain ⟨y, hy⟩ : ∃ y, ys[k]? = some y := ⟨_, List.getElem?_eq_getElem (by rw [← HN.out]; exact hlt)⟩
   have hrdk := RD1.out.below HBW.out
   rw [← HN.out] at hrdk
   obtain ⟨b, off, rfl, _, hcx⟩ := hrdk.at_ (by omega)
   have c0 := hcx k (.int .i32 y) (by simp [Rs, hy])
   have STW := ST.out.below HBW.out
   have D1 := decomp_is STW.b y (HYR.out y (List.mem_of_getElem? hy)) STW.k
   have hpi := HYI.out y (List.mem_of_getElem? hy)
   unfold BaseF.parts at hpi
   obtain ⟨kd, il, hd⟩ : ∃ kd il, B.dec y = (kd, il) := ⟨_, _, rfl⟩
   rw [hd] at D1 hpi
   have HPI := Lib.hid hpi
   clear hy hcx hrdk STW hpi hd
   go_wp2_with fail
   refine D1.mono ?_
   rintro e w1 ⟨A5, c5, rfl, _, hb1⟩
   have HB1 := Lib.hid (below_then HBW.out hb1)
   clear D1 hb1 c0
   have hil0 : 0 < il.length ∨ il = [] := by rcases il with _ | ⟨a, t⟩; exact .inr rfl; exact .inl (by simp)
   rcases hil0 with h0 | h0
   ·have hin : (0 : Int) < (il.length : Int) := by omega
    have hkc : kd ≠ [] ∧ c = false := by
     have h1 := HPI.out
     split at h1
     ·assumption
     ·rw [h1] at h0; simp at h0
    obtain ⟨hk1, rfl⟩ := hkc
    have hte : (mk8 kd).toList.isEmpty = false := by
     rw [toList_bs, bs_mk8]
     cases kd with
     | nil => exact absurd rfl hk1
     | cons a t => rfl
    clear hk1 h0
    go_wp2
    go_roundw
    case rel => exact ⟨k + 1, by omega, by go_num, HB1⟩
    case measure => simp [intOf]; omega
   ·subst h0
    go_wp2
    go_roundw
    case rel => exact ⟨k + 1, by omega, by go_num, HB1⟩
    case measure => simp [intOf]; omega
  ·obtain rfl : k = N := by omega
   have hki : (k : Int) ≤ (k : Int) := Int.le_refl _
   replace ST := Lib.hid (ST.out.below HBW.out)
   replace HZ := Lib.hid (HZ.out.below HBW.out)
   replace RD1 := Lib.hid (RD1.out.below HBW.out)
   replace HW := Lib.hid (below_then HW.out HBW.out)
   have RDN : Hid (Rd wr A1 k (Rs ys)) := by have := RD1.out; rw [← HN.out] at this; exact this
   clear HBW
   have C := full_any ST.out.b ST.out.k ST.out.bd (one_R ST.out.bd) c A1 k c1 ys RDN.out HN.out.symm HYR.out (by omega)
   rw [HYF.out] at C
   go_wp2_with fail
   refine C.mono ?_
   intro e v7 hf
   obtain ⟨A2, c2, rfl, rd20, hbn⟩ := hf.rd
   clear C hf
   replace ST := Lib.hid (ST.out.below hbn)
   replace HZ := Lib.hid (HZ.out.below hbn)
   replace RDN := Lib.hid (RDN.out.below hbn)
   replace HW := Lib.hid (below_then HW.out hbn)
   clear hbn
   have RD2 := Lib.hid rd20
   clear rd20
   rw [← HN.out]
   replace RD2 : Hid (Rd v7 A2 k (Rs ys)) := by have := RD2.out; rw [← HN.out] at this; exact this
   have C := runes_same (ca := c1) (cb := c2) RDN.out RD2.out rfl (by omega) (by omega)
   go_wp2_with fail
   refine C.mono ?_
   rintro e v8 ⟨rfl, hbn⟩
   clear C
   replace ST := Lib.hid (ST.out.below hbn)
   replace HZ := Lib.hid (HZ.out.below hbn)
   replace RDN := Lib.hid (RDN.out.below hbn)
   replace RD2 := Lib.hid (RD2.out.below hbn)
   replace HW := Lib.hid (below_then HW.out hbn)
   clear hbn
   have C := ordered_any ST.out.b A1 k c1 ys RDN.out HN.out.symm HYR.out (by omega)
   rw [HYO.out] at C
   go_wp2_with fail
   refine C.mono ?_
   rintro e v9 ⟨rfl, hbn⟩
   clear C
   replace ST := Lib.hid (ST.out.below hbn)
   replace HZ := Lib.hid (HZ.out.below hbn)
   replace RDN := Lib.hid (RDN.out.below hbn)
   replace RD2 := Lib.hid (RD2.out.below hbn)
   replace HW := Lib.hid (below_then HW.out hbn)
   clear hbn
   have hzz : (((n : Int) == 0) == ((k : Int) == 0)) = true := by
    have h1 := HYN.out
    have h2 := HN.out
    have h3 := HZ.out.len
    by_cases h : n = 0
    ·have h4 := h1.2 (List.eq_nil_of_length_eq_zero (by omega))
     rw [h4] at h2
     simp at h2
     simp [h, h2]
    ·have h4 : k ≠ 0 := fun e => by have h5 := h1.1 (List.eq_nil_of_length_eq_zero (by omega)); rw [h5] at h3; simp at h3; omega
     have e1 : ((n : Int) == 0) = false := by simpa using h
     have e2 : ((k : Int) == 0) = false := by simpa using h4
     rw [e1, e2]; rfl
   have AW := awake9_any _ ST.out.e ST.out.k
   go_wp2_with fail
   refine AW.mono ?_
   rintro e v10 ⟨rfl, hbn⟩
   have HW := Lib.hid (below_then HW.out hbn)
   clear AW hbn
   go_wp2
   go_returns
   exact ⟨rfl, HW.out⟩
end Go.Proofs.YtajkjaciooijjaaGreatDoor
end
