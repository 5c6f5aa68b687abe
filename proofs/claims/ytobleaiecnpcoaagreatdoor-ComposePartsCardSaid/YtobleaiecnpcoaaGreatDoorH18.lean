/- slices.Sort at []int32: Walk13In, turned from the worked proof at []int. slices.Sort at []int32: WalkTopIn, turned from the worked proof at []int. slices.Sort at []int32: AssemblyIn, turned from the worked proof at []int. slices.Sort of characters of a list of one's own, a nil one too: the list is sorted, nothing else turns. -/
import Derived.Sort.Walk13
import Derived.Sort.LotD6
import Derived.Sort.LotD7
import Derived.Sort.AssemblyPlain
import Derived.Sort.EveryDepth
import Derived.Test.YtobleaiecnpcoaaGreatDoorH16
import Derived.Test.YtobleaiecnpcoaaGreatDoorH17
import Derived.Test.YtobleaiecnpcoaaGreatDoorH02
import Derived.Test.YtobleaiecnpcoaaGreatDoorH06
set_option linter.unusedSimpArgs false
set_option linter.unusedVariables false
section
section
set_option maxRecDepth 1000000
namespace Go.Proofs.YtobleaiecnpcoaaGreatDoor
open Go.Proofs
open Go.Sort Go.RowKit
structure Callees13In (D : Nat) : Prop where
 heap : ∀ (blk off len cap : Nat) (d : Array Int) (_ : d.size = len) (a b : Nat) (w : World), Holds encJ w blk off d → a ≤ b → b ≤ d.size → d.size < 4611686018427387904 →
  CallsIn (Fence.list [73, 101, 102, 123, 124, 125, 126, 127, 128, 108, 129, 130, 132, 153, 154, 155, 156, 157, 134, 169] (some D)) 3 Tryz.prog 124 #[.slice (some ⟨blk, off, none⟩) len cap, .int .i64 a, .int .i64 b] w fun e w' => e = .returned (.tuple #[]) ∧ ∃ n, w' = putRow encJ (Sort.ahead w n) blk off (heapSort ltInt d a b)
 rev : ∀ (blk off cap : Nat) (d : Array Int) (a b : Nat) (w : World), Holds encJ w blk off d → a ≤ b → b ≤ d.size → d.size < 4611686018427387904 →
  CallsIn (Fence.list [73, 101, 102, 123, 124, 125, 126, 127, 128, 108, 129, 130, 132, 153, 154, 155, 156, 157, 134, 169] (some D)) 0 Tryz.prog 127 #[.slice (some ⟨blk, off, none⟩) d.size cap, .int .i64 a, .int .i64 b] w fun e w' => e = .returned (.tuple #[]) ∧ ∃ n, w' = putRow encJ (Sort.ahead w n) blk off (reverseRange d a b)
 ins : ∀ (blk off cap a b : Nat) (d : Array Int) (w : World), Holds encJ w blk off d → a ≤ b → b ≤ d.size → d.size < 4611686018427387904 →
  CallsIn (Fence.list [73, 101, 102, 123, 124, 125, 126, 127, 128, 108, 129, 130, 132, 153, 154, 155, 156, 157, 134, 169] (some D)) 2 Tryz.prog 123 #[.slice (some ⟨blk, off, none⟩) d.size cap, .int .i64 a, .int .i64 b] w fun e w' => e = .returned (.tuple #[]) ∧ ∃ n, w' = putRow encJ (Sort.ahead w n) blk off (insertionSort ltInt d a b)
 brk : ∀ (blk off cap a b : Nat) (d : Array Int) (w : World), Holds encJ w blk off d → blk < w.heap.size → a ≤ b → b ≤ d.size → d.size < 4611686018427387904 →
  CallsIn (Fence.list [73, 101, 102, 123, 124, 125, 126, 127, 128, 108, 129, 130, 132, 153, 154, 155, 156, 157, 134, 169] (some D)) 3 Tryz.prog 125 #[.slice (some ⟨blk, off, none⟩) d.size cap, .int .i64 a, .int .i64 b] w fun e w' => e = .returned (.tuple #[]) ∧ ∃ n os, w' = grow (putRow encJ (Sort.ahead w n) blk off (breakPatterns d a b)) os
 piv : ∀ (blk off cap a b : Nat) (d : Array Int) (w : World), Holds encJ w blk off d → blk < w.heap.size → a < b → b ≤ d.size → d.size < 4611686018427387904 →
  CallsIn (Fence.list [73, 101, 102, 123, 124, 125, 126, 127, 128, 108, 129, 130, 132, 153, 154, 155, 156, 157, 134, 169] (some D)) 5 Tryz.prog 126 #[.slice (some ⟨blk, off, none⟩) d.size cap, .int .i64 a, .int .i64 b] w fun e w' => e = .returned (.tuple #[.int .i64 (choosePivot ltInt d a b).1, .int .i64 (hintCode (choosePivot ltInt d a b).2)]) ∧ ∃ n os, w' = grow (Sort.ahead w n) os
 par : ∀ (blk off cap a b : Nat) (d : Array Int) (w : World), Holds encJ w blk off d → a < b → b ≤ d.size → d.size < 4611686018427387904 →
  CallsIn (Fence.list [73, 101, 102, 123, 124, 125, 126, 127, 128, 108, 129, 130, 132, 153, 154, 155, 156, 157, 134, 169] (some D)) 2 Tryz.prog 128 #[.slice (some ⟨blk, off, none⟩) d.size cap, .int .i64 a, .int .i64 b] w fun e w' => e = .returned (.bool (partialInsertionSort ltInt d a b).2) ∧ ∃ n, w' = putRow encJ (Sort.ahead w n) blk off (partialInsertionSort ltInt d a b).1
 peq : ∀ (blk off cap a b pivot : Nat) (d : Array Int) (w : World), Holds encJ w blk off d → a ≤ pivot → pivot < b → b ≤ d.size → d.size < 4611686018427387904 →
  CallsIn (Fence.list [73, 101, 102, 123, 124, 125, 126, 127, 128, 108, 129, 130, 132, 153, 154, 155, 156, 157, 134, 169] (some D)) 2 Tryz.prog 129 #[.slice (some ⟨blk, off, none⟩) d.size cap, .int .i64 a, .int .i64 b, .int .i64 pivot] w fun e w' => e = .returned (.int .i64 (partitionEqual ltInt d a b pivot).1) ∧ ∃ n, w' = putRow encJ (Sort.ahead w n) blk off (partitionEqual ltInt d a b pivot).2
 prt : ∀ (blk off cap a b pivot : Nat) (d : Array Int) (w : World), Holds encJ w blk off d → a ≤ pivot → pivot < b → b ≤ d.size → d.size < 4611686018427387904 →
  CallsIn (Fence.list [73, 101, 102, 123, 124, 125, 126, 127, 128, 108, 129, 130, 132, 153, 154, 155, 156, 157, 134, 169] (some D)) 2 Tryz.prog 130 #[.slice (some ⟨blk, off, none⟩) d.size cap, .int .i64 a, .int .i64 b, .int .i64 pivot] w fun e w' => e = .returned (.tuple #[.int .i64 (partition ltInt d a b pivot).1, .bool (partition ltInt d a b pivot).2.1]) ∧ ∃ n, w' = putRow encJ (Sort.ahead w n) blk off (partition ltInt d a b pivot).2.2
set_option maxHeartbeats 6400000 in
set_option maxRecDepth 1000000 in
theorem S32.pdqsort_intIn (D : Nat) (C : Callees13In D) (S : Plain13) : ∀ (N rm blk off cap a b limit : Nat) (d : Array Int) (w : World), b - a < N → pdqDepth ltInt d a b limit true true + 6 ≤ rm → Holds encJ w blk off d → blk < w.heap.size → a ≤ b → b ≤ d.size → d.size < 4611686018427387904 → limit < 4611686018427387904 → Below ltInt a b d →
  CallsIn (Fence.list [73, 101, 102, 123, 124, 125, 126, 127, 128, 108, 129, 130, 132, 153, 154, 155, 156, 157, 134, 169] (some D)) rm Tryz.prog 101 #[.slice (some ⟨blk, off, none⟩) d.size cap, .int .i64 a, .int .i64 b, .int .i64 limit] w fun e w' => e = .returned (.tuple #[]) ∧ At encJ w blk off (pdq ltInt d a b limit true true) w' := by
 intro N
 induction N with
 | zero => intro _ _ _ _ _ _ _ _ _ h; exact absurd h (Nat.not_lt_zero _)
 | succ N ih =>
  intro rm blk off cap a b limit d w hN hrm hH hblk hab hb hsz hlimit hBel0
  have hrm1 : 1 ≤ rm := by omega
  gi_enter Tryz.func101, Tryz.ntmps101
  gi_wp2
  gi_loopg [1, 2, 3, 8, 9] (b - a) (fun k s1 s2 s3 s8 s9 wr => ∃ (a' b' lim : Nat) (wb wp : Bool) (dk : Array Int), s1 = .int .i64 a' ∧ s2 = .int .i64 b' ∧ s3 = .int .i64 lim ∧ s8 = .bool wb ∧ s9 = .bool wp ∧
   a' ≤ b' ∧ b' ≤ d.size ∧ b' - a' ≤ k ∧ k ≤ b - a ∧ lim ≤ limit ∧ dk.size = d.size ∧ Below ltInt a' b' dk ∧ At encJ w blk off dk wr ∧ pdq ltInt dk a' b' lim wb wp = pdq ltInt d a b limit true true ∧ pdqDepth ltInt dk a' b' lim wb wp + 6 ≤ rm)
  case atStart => exact ⟨a, b, limit, true, true, d, rfl, rfl, rfl, rfl, rfl, hab, hb, Nat.le_refl _, Nat.le_refl _, Nat.le_refl _, rfl, hBel0, At.refl hH, rfl, hrm⟩
  case round =>
   obtain ⟨a', b', lim, wb, wp, dk, rfl, rfl, rfl, rfl, rfl, hab', hb', hk, hkN, hlim, hds, hBel, hAt, heq, hdp⟩ := hrel
   obtain ⟨hHk, hblk'⟩ := hAt.holds hH hds hblk
   have A : Aside (pdq ltInt dk a' b' lim wb wp = pdq ltInt d a b limit true true) := heq
   clear heq
   by_cases h12 : b' - a' ≤ 12
   ·
    have h12z : (b' : Int) - (a' : Int) ≤ 12 := by omega
    have hc := (C.ins blk off cap a' b' dk wr hHk hab' (by omega) (by omega)).more (show 2 ≤ rm - 1 by omega)
    rw [hds] at hc
    gi_wp2_with (gi_at_call 123; refine hc.mono ?_; rintro e w1 ⟨rfl, hw1⟩)
    (try simp only [Exit.inBlock, Exit.then]); refine bodyPost_ret (results_none rfl _ _ _) rfl ?_
    refine ⟨rfl, ?_⟩
    rw [← A.out, pdq_small h12]
    exact hAt.step hblk (S.ins S.swo dk a' b' hab' (by omega)).1.1 hw1
   ·have h12z : ¬ ((b' : Int) - (a' : Int) ≤ 12) := by omega
    by_cases hl0 : lim = 0
    ·
     subst hl0
     have hc := (C.heap blk off d.size cap dk hds a' b' wr hHk hab' (by omega) (by omega)).more (show 3 ≤ rm - 1 by omega)
     gi_wp2_with (gi_at_call 124; refine hc.mono ?_; rintro e w1 ⟨rfl, hw1⟩)
     (try simp only [Exit.inBlock, Exit.then]); refine bodyPost_ret (results_none rfl _ _ _) rfl ?_
     refine ⟨rfl, ?_⟩
     rw [← A.out, pdq_heap h12 rfl]
     exact hAt.step hblk (heapSort_holds S.swo dk a' b' hab' (by omega)).1.1 hw1
    ·have hl0z : ¬ ((lim : Int) = 0) := by omega
     obtain ⟨s1, B1, hc1, s2, B2, hpv, s3, B3⟩ := rd_facts (limit := lim) (wb := wb) (wp := wp) S.swo S.par reverseRange_holds (show a' < b' by omega) (show b' ≤ dk.size by omega) hBel
     gi_upto_if 35 with fail
     gi_cut [3] from 19 (fun s3 wc => s3 = .int .i64 (rd ltInt dk a' b' lim wb wp).lim ∧ At encJ w blk off (rd ltInt dk a' b' lim wb wp).d1 wc)
     case first =>
      cases wb
      ·have hc := (C.brk blk off cap a' b' dk wr hHk hblk' hab' (by omega) (by omega)).more (show 3 ≤ rm - 1 by omega)
       rw [hds] at hc
       gi_wp2_with (gi_at_call 125; refine hc.mono ?_; rintro e w1 ⟨rfl, hw1⟩)
       gi_meet
       case rel =>
        refine ⟨?_, hAt.stepG hblk s1 hw1⟩
        show Value.int .i64 ((lim : Int) - 1) = Value.int .i64 ((lim - 1 : Nat) : Int)
        congr 1
        omega
      ·gi_wp2_with fail
       gi_meet
       case rel => exact ⟨rfl, hAt⟩
     case rest =>
      obtain ⟨rfl, hAt1⟩ := hcut
      obtain ⟨hH1, hblk1⟩ := hAt1.holds hH (s1.trans hds) hblk
      have hc17 : CallsIn (Fence.list [73, 101, 102, 123, 124, 125, 126, 127, 128, 108, 129, 130, 132, 153, 154, 155, 156, 157, 134, 169] (some D)) (rm - 1) Tryz.prog 126 #[.slice (some ⟨blk, off, none⟩) d.size cap, .int .i64 a', .int .i64 b'] wc fun e w' => e = .returned (.tuple #[.int .i64 (rd ltInt dk a' b' lim wb wp).c.1, .int .i64 (hintCode (rd ltInt dk a' b' lim wb wp).c.2)]) ∧ ∃ n os, w' = grow (Sort.ahead wc n) os := by
       have := (C.piv blk off cap a' b' (rd ltInt dk a' b' lim wb wp).d1 wc hH1 hblk1 (by omega) (by omega) (by omega)).more (show 5 ≤ rm - 1 by omega)
       rw [s1, hds] at this
       exact this
      gi_upto_if 50 with (gi_at_call 126; refine hc17.mono ?_; rintro e w2 ⟨rfl, hw2⟩)
      have hAt2 : At encJ w blk off (rd ltInt dk a' b' lim wb wp).d1 w2 := hAt1.same hH (s1.trans hds) hblk hw2
      obtain ⟨hH2, hblk2⟩ := hAt2.holds hH (s1.trans hds) hblk
      gi_cut [11, 12] from 19 (fun s11 s12 wc => s11 = .int .i64 (rd ltInt dk a' b' lim wb wp).pivot ∧ s12 = .int .i64 (hintCode (rd ltInt dk a' b' lim wb wp).hint) ∧ At encJ w blk off (rd ltInt dk a' b' lim wb wp).d2 wc)
      case first =>
       by_cases hh : (rd ltInt dk a' b' lim wb wp).c.2 = .decreasing
       ·have hcode : hintCode (rd ltInt dk a' b' lim wb wp).c.2 = 2 := by rw [hh]; rfl
        obtain ⟨e2, epv, eht⟩ := rd_dec hh
        have hc18 := (C.rev blk off cap (rd ltInt dk a' b' lim wb wp).d1 a' b' w2 hH2 hab' (by omega) (by omega)).more (show 0 ≤ rm - 1 by omega)
        rw [s1, hds] at hc18
        gi_wp2_with (gi_at_call 127; refine hc18.mono ?_; rintro e w3 ⟨rfl, hw3⟩)
        gi_meet
        case rel =>
         refine ⟨?_, by rw [eht]; rfl, by rw [e2]; exact hAt2.step hblk (by rw [← e2, s2, s1]) hw3⟩
         rw [epv]
         congr 1
         omega
       ·have hcode : ¬ (hintCode (rd ltInt dk a' b' lim wb wp).c.2 = 2) := fun h => hh (hintCode_two h)
        obtain ⟨e2, epv, eht⟩ := rd_not hh
        gi_wp2_with fail
        gi_meet
        case rel => exact ⟨by rw [epv], by rw [eht], by rw [e2]; exact hAt2⟩
      case rest =>
       obtain ⟨rfl, rfl, hAt3⟩ := hcut
       obtain ⟨hH3, hblk3⟩ := hAt3.holds hH (s2.trans hds) hblk
       gi_upto_region 15 with fail
       gi_cut [12, 68] from 19 (fun s12 s68 wx => s12 = .int .i64 (hintCode (rd ltInt dk a' b' lim wb wp).hint) ∧ s68 = .bool (wb && wp && decide ((rd ltInt dk a' b' lim wb wp).hint = .increasing)) ∧ wx = wc)
       case first =>
        cases wb <;> cases wp <;> cases hh3 : (rd ltInt dk a' b' lim _ _).hint <;>
         (have hcode3 := congrArg hintCode hh3
          simp only [hintCode] at hcode3
          gi_wp2_with fail
          gi_meet
          exact ⟨by simp [hh3, hintCode], by simp [hh3, hintCode], rfl⟩)
       case rest =>
        obtain ⟨rfl, rfl, rfl⟩ := hcut
        gi_upto_if 68 with fail
        gi_cut [] from 19 (fun wx => (rd ltInt dk a' b' lim wb wp).pi.2 = false ∧ At encJ w blk off (rd ltInt dk a' b' lim wb wp).pi.1 wx)
        case first =>
         cases h68 : (wb && wp && decide ((rd ltInt dk a' b' lim wb wp).hint = .increasing))
         ·have epi := rd_pi_no h68
          gi_wp2_with fail
          gi_meet
          case rel => exact ⟨by rw [epi], by rw [epi]; exact hAt3⟩
         ·have epi := rd_pi_yes h68
          have hc19 := (C.par blk off cap a' b' (rd ltInt dk a' b' lim wb wp).d2 wc hH3 (by omega) (by omega) (by omega)).more (show 2 ≤ rm - 1 by omega)
          rw [s2, hds, ← epi] at hc19
          gi_wp2_with (gi_at_call 128; refine hc19.mono ?_; rintro e w4 ⟨rfl, hw4⟩)
          all_goals first
           | (have hp2 : (rd ltInt dk a' b' lim wb wp).pi.2 = false := by rw [epi]; assumption
              gi_meet
              exact ⟨hp2, hAt3.step hblk (by rw [s3, s2]) hw4⟩)
           | (have hp2 : (rd ltInt dk a' b' lim wb wp).pi.2 = true := by rw [epi]; assumption
              (try simp only [Exit.inBlock, Exit.then]); refine bodyPost_ret (results_none rfl _ _ _) rfl ?_
              refine ⟨rfl, ?_⟩
              rw [← A.out, pdq_done h12 hl0 hp2]
              exact hAt3.step hblk (by rw [s3, s2]) hw4)
        case rest =>
         obtain ⟨hp2, hAt5⟩ := hcut
         obtain ⟨hH5, hblk5⟩ := hAt5.holds hH (s3.trans hds) hblk
         have hcw : ∀ t, t < d.size → wc.cell? ⟨blk, off + t, none⟩ = some (.int .i32 (rd ltInt dk a' b' lim wb wp).pi.1[t]!) := fun t ht => (hH5 t (by omega)).1
         have hfw : ∀ t, t < d.size → wc.frozen? ⟨blk, off + t, none⟩ = false := fun t ht => (hH5 t (by omega)).2
         gi_upto_region 17 with fail
         gi_cut [87] from 19 (fun s87 wx => s87 = .bool (decide (a' > 0) && !ltInt (rd ltInt dk a' b' lim wb wp).pi.1[a' - 1]! (rd ltInt dk a' b' lim wb wp).pi.1[(rd ltInt dk a' b' lim wb wp).pivot]!) ∧ At encJ w blk off (rd ltInt dk a' b' lim wb wp).pi.1 wx)
         case first =>
          rcases Nat.eq_zero_or_pos a' with ha0 | ha0
          ·have ha0z : decide ((a' : Int) > 0) = false := decide_eq_false (by omega)
           gi_big_quiet (first | (gi_at_call 108; refine CallsIn.quiet_of_same ((S32.cmp_Less_intIn D _ _ _).more (show 1 ≤ rm - 1 by omega))))
           gi_wp2_with fail
           gi_meet
           case rel => exact ⟨by simp [ha0], hAt5.ahead nq⟩
          ·have ha0z : (a' : Int) > 0 := by omega
           gi_big_quiet (first | (gi_at_call 108; refine CallsIn.quiet_of_same ((S32.cmp_Less_intIn D _ _ _).more (show 1 ≤ rm - 1 by omega))))
           gi_wp2_with fail
           gi_meet
           case rel => exact ⟨by simp [ha0], hAt5.ahead nq⟩
         case rest =>
          obtain ⟨rfl, hAt6⟩ := hcut
          obtain ⟨hH6, hblk6⟩ := hAt6.holds hH (s3.trans hds) hblk
          clear hcw hfw
          cases h87 : (decide (a' > 0) && !ltInt (rd ltInt dk a' b' lim wb wp).pi.1[a' - 1]! (rd ltInt dk a' b' lim wb wp).pi.1[(rd ltInt dk a' b' lim wb wp).pivot]!)
          ·
           obtain ⟨mid, ap, d4, hx⟩ : ∃ mid ap d4, partition ltInt (rd ltInt dk a' b' lim wb wp).pi.1 a' b' (rd ltInt dk a' b' lim wb wp).pivot = (mid, ap, d4) := ⟨(partition ltInt (rd ltInt dk a' b' lim wb wp).pi.1 a' b' (rd ltInt dk a' b' lim wb wp).pivot).1, (partition ltInt (rd ltInt dk a' b' lim wb wp).pi.1 a' b' (rd ltInt dk a' b' lim wb wp).pivot).2.1, (partition ltInt (rd ltInt dk a' b' lim wb wp).pi.1 a' b' (rd ltInt dk a' b' lim wb wp).pivot).2.2, rfl⟩
           obtain ⟨r1, r2, r3, r4, r5, r6, r7⟩ := round_part S.swo S.prt hpv.1 hpv.2 (show b' ≤ (rd ltInt dk a' b' lim wb wp).pi.1.size by omega) B3 hx
           have hc22 := (C.prt blk off cap a' b' (rd ltInt dk a' b' lim wb wp).pivot (rd ltInt dk a' b' lim wb wp).pi.1 wc hH6 hpv.1 hpv.2 (by omega) (by omega)).more (show 2 ≤ rm - 1 by omega)
           rw [s3, hds, hx] at hc22
           have X : Aside (partition ltInt (rd ltInt dk a' b' lim wb wp).pi.1 a' b' (rd ltInt dk a' b' lim wb wp).pivot = (mid, ap, d4)) := hx
           clear hx
           gi_upto_if 113 with (gi_at_call 130; refine hc22.mono ?_; rintro e w7 ⟨rfl, hw7⟩)
           have hx := X.out
           have hAt7 : At encJ w blk off d4 w7 := hAt6.step hblk r3 hw7
           obtain ⟨hH7, hblk7⟩ := hAt7.holds hH (r3.trans (s3.trans hds)) hblk
           by_cases h4 : mid - a' < b' - mid
           ·have h4z : (mid : Int) - (a' : Int) < (b' : Int) - (mid : Int) := by omega
            have hdl := pdqDepth_left h12 hl0 hp2 h87 (by rw [hx]; exact ⟨r1, r2⟩) (by rw [hx]; exact h4)
            rw [hx] at hdl
            dsimp only at hdl
            have hih := ih (rm - 1) blk off cap a' mid (rd ltInt dk a' b' lim wb wp).lim d4 w7 (by omega) (by have := hdl.1; omega) hH7 hblk7 (by omega) (by omega) (by omega) (Nat.lt_of_le_of_lt (Nat.le_trans rd_lim_le hlim) hlimit) r4
            rw [r3, s3, hds] at hih
            obtain ⟨pL, sL⟩ := S.pdq S.swo d4 a' mid (rd ltInt dk a' b' lim wb wp).lim true true (by omega) (by omega) r4
            gi_wp2_with (gi_at_call 101; refine hih.mono ?_; rintro e w8 ⟨rfl, hw8⟩)
            gi_roundg (b' - (mid + 1))
            case measure => omega
            case rel =>
             refine ⟨mid + 1, b', (rd ltInt dk a' b' lim wb wp).lim, decide (mid - a' ≥ (b' - a') / 8), ap, pdq ltInt d4 a' mid (rd ltInt dk a' b' lim wb wp).lim true true, by simp, rfl, rfl, ?_, rfl, by omega, by omega, Nat.le_refl _, by omega, Nat.le_trans rd_lim_le hlim, by rw [pL.1, r3, s3, hds], (r6 _ pL sL).1, hAt7.stepG hblk pL.1 hw8, ?_, by have := hdl.2; omega⟩
             ·exact congrArg Value.bool (eighth (by omega) (by omega))
             ·rw [← A.out, pdq_left h12 hl0 hp2 h87 (by rw [hx]; exact ⟨r1, r2⟩) (by rw [hx]; exact h4), hx]
           ·have h4z : ¬ ((mid : Int) - (a' : Int) < (b' : Int) - (mid : Int)) := by omega
            have hdl := pdqDepth_right h12 hl0 hp2 h87 (by rw [hx]; exact ⟨r1, r2⟩) (by rw [hx]; exact h4)
            rw [hx] at hdl
            dsimp only at hdl
            have hih := ih (rm - 1) blk off cap (mid + 1) b' (rd ltInt dk a' b' lim wb wp).lim d4 w7 (by omega) (by have := hdl.1; omega) hH7 hblk7 (by omega) (by omega) (by omega) (Nat.lt_of_le_of_lt (Nat.le_trans rd_lim_le hlim) hlimit) r5
            rw [r3, s3, hds] at hih
            obtain ⟨pL, sL⟩ := S.pdq S.swo d4 (mid + 1) b' (rd ltInt dk a' b' lim wb wp).lim true true (by omega) (by omega) r5
            gi_wp2_with (gi_at_call 101; refine hih.mono ?_; rintro e w8 ⟨rfl, hw8⟩)
            gi_roundg (mid - a')
            case measure => omega
            case rel =>
             refine ⟨a', mid, (rd ltInt dk a' b' lim wb wp).lim, decide (b' - mid ≥ (b' - a') / 8), ap, pdq ltInt d4 (mid + 1) b' (rd ltInt dk a' b' lim wb wp).lim true true, rfl, rfl, rfl, ?_, rfl, by omega, by omega, Nat.le_refl _, by omega, Nat.le_trans rd_lim_le hlim, by rw [pL.1, r3, s3, hds], (r7 _ pL sL).1, hAt7.stepG hblk pL.1 hw8, ?_, by have := hdl.2; omega⟩
             ·exact congrArg Value.bool (eighth (by omega) (by omega))
             ·rw [← A.out, pdq_right h12 hl0 hp2 h87 (by rw [hx]; exact ⟨r1, r2⟩) (by rw [hx]; exact h4), hx]
          ·
           have h87' := h87
           simp only [Bool.and_eq_true, decide_eq_true_eq, Bool.not_eq_true'] at h87'
           obtain ⟨mid, d4, hx⟩ : ∃ mid d4, partitionEqual ltInt (rd ltInt dk a' b' lim wb wp).pi.1 a' b' (rd ltInt dk a' b' lim wb wp).pivot = (mid, d4) := ⟨(partitionEqual ltInt (rd ltInt dk a' b' lim wb wp).pi.1 a' b' (rd ltInt dk a' b' lim wb wp).pivot).1, (partitionEqual ltInt (rd ltInt dk a' b' lim wb wp).pi.1 a' b' (rd ltInt dk a' b' lim wb wp).pivot).2, rfl⟩
           obtain ⟨r1, r2, r3, r4, _⟩ := round_eq S.swo S.peq h87'.1 hpv.1 hpv.2 (show b' ≤ (rd ltInt dk a' b' lim wb wp).pi.1.size by omega) B3 h87'.2 hx
           have hc21 := (C.peq blk off cap a' b' (rd ltInt dk a' b' lim wb wp).pivot (rd ltInt dk a' b' lim wb wp).pi.1 wc hH6 hpv.1 hpv.2 (by omega) (by omega)).more (show 2 ≤ rm - 1 by omega)
           rw [s3, hds, hx] at hc21
           have X : Aside (partitionEqual ltInt (rd ltInt dk a' b' lim wb wp).pi.1 a' b' (rd ltInt dk a' b' lim wb wp).pivot = (mid, d4)) := hx
           clear hx
           gi_wp2_with (gi_at_call 129; refine hc21.mono ?_; rintro e w7 ⟨rfl, hw7⟩)
           gi_roundg (b' - mid)
           case measure => omega
           case rel =>
            have hx := X.out
            exact ⟨mid, b', (rd ltInt dk a' b' lim wb wp).lim, wb, wp, d4, rfl, rfl, rfl, rfl, rfl, r2, hb', Nat.le_refl _, by omega, Nat.le_trans rd_lim_le hlim, by rw [r3, s3, hds], r4, hAt6.step hblk r3 hw7, by rw [← A.out, pdq_eq h12 hl0 hp2 h87 (by rw [hx]; exact ⟨r1, r2⟩), hx], by have hde := pdqDepth_eq h12 hl0 hp2 h87 (by rw [hx]; exact ⟨r1, r2⟩); rw [hx] at hde; dsimp only at hde; omega⟩
end Go.Proofs.YtobleaiecnpcoaaGreatDoor
end
section
set_option maxRecDepth 1000000
namespace Go.Proofs.YtobleaiecnpcoaaGreatDoor
open Go.Proofs
open Go.RowKit Go.Sort
def pdqWalkIn_int (D : Nat) : Prop := ∀ (rm blk off cap a b limit : Nat) (d : Array Int) (w : World), pdqDepth ltInt d a b limit true true + 6 ≤ rm → Holds (Value.int .i32) w blk off d → blk < w.heap.size → a ≤ b → b ≤ d.size → d.size < 4611686018427387904 → limit < 4611686018427387904 → Below ltInt a b d →
 CallsIn (Fence.list [73, 101, 102, 123, 124, 125, 126, 127, 128, 108, 129, 130, 132, 153, 154, 155, 156, 157, 134, 169] (some D)) rm Tryz.prog 101 #[.slice (some ⟨blk, off, none⟩) d.size cap, .int .i64 a, .int .i64 b, .int .i64 limit] w fun e w' =>
  e = .returned (.tuple #[]) ∧ ∃ n os, w' = grow (putRow (Value.int .i32) (Sort.ahead w n) blk off (Sort.pdq ltInt d a b limit true true)) os
def lenWalkIn (D : Nat) : Prop := ∀ (n : Nat) (w : World), n < 4611686018427387904 → CallsIn (Fence.list [73, 101, 102, 123, 124, 125, 126, 127, 128, 108, 129, 130, 132, 153, 154, 155, 156, 157, 134, 169] (some D)) 1 Tryz.prog 102 #[.int .u64 (n : Int)] w fun e w' => e = .returned (.int .i64 (bitsLen n : Nat)) ∧ w' = w
set_option maxRecDepth 100000 in
theorem S32.Sort_intIn (D : Nat) (hpdq : pdqWalkIn_int D) (hlen : lenWalkIn D) (blk off cap : Nat) (d : Array Int) (w : World) (hH : Holds (Value.int .i32) w blk off d) (hblk : blk < w.heap.size) (hsz : d.size < 4611686018427387904) :
  CallsIn (Fence.list [73, 101, 102, 123, 124, 125, 126, 127, 128, 108, 129, 130, 132, 153, 154, 155, 156, 157, 134, 169] (some D)) 66 Tryz.prog 73 #[.slice (some ⟨blk, off, none⟩) d.size cap] w fun e w' => e = .returned (.tuple #[]) ∧ ∃ n os, w' = grow (putRow (Value.int .i32) (Sort.ahead w n) blk off (Sort.sort ltInt d)) os := by
 have HH : Hid (Holds (Value.int .i32) w blk off d) := hH
 clear hH
 have hk : bitsLen d.size ≤ 62 := (bitsLen_le_iff d.size 62).2 (by omega)
 have hdp := pdqDepth_le_59 ltInt d 0 d.size (bitsLen d.size) true true (by omega)
 gi_enter Tryz.func73, Tryz.ntmps73
 gi_wp2_with (first
  | (gi_at_call 102; refine ((hlen d.size _ hsz).more (by decide)).mono ?_; rintro e w' ⟨rfl, rfl⟩)
  | (gi_at_call 101; refine (hpdq 65 blk off cap 0 d.size (bitsLen d.size) d _ (by omega) (by exact HH.out) (by exact hblk) (Nat.zero_le _) (Nat.le_refl _) hsz (by omega) (Or.inl rfl)).mono ?_; rintro e w' ⟨rfl, n, os, rfl⟩))
 go_end0
 exact ⟨rfl, n, os, rfl⟩
end Go.Proofs.YtobleaiecnpcoaaGreatDoor
end
section
set_option maxRecDepth 1000000
namespace Go.Proofs.YtobleaiecnpcoaaGreatDoor
open Go.Proofs
open Go.Sort
theorem callees13In (D : Nat) : Callees13In D where
 heap := S32.heapSort_intIn D
 rev := S32.reverseRange_intIn D
 ins := S32.insertionSort_intIn D
 brk := S32.breakPatterns_intIn D
 piv := S32.choosePivot_intIn D
 par := S32.partialInsertionSort_intIn D
 peq := S32.partitionEqualOrdered_intIn D
 prt := S32.partitionOrdered_intIn D
theorem plain13D : Plain13 where
 swo := swo_ltInt
 ins := insertionSort_holds
 par := partialInsertionSort_holds
 prt := partition_holds _
 peq := partitionEqual_holds _
 pdq := pdq_sorts _
theorem pdqWalkInInt (D : Nat) : pdqWalkIn_int D := fun rm blk off cap a b limit d w hrm hH hb hab hbd hsz hl hB =>
 S32.pdqsort_intIn D (callees13In D) plain13D (b - a + 1) rm blk off cap a b limit d w (by omega) hrm hH hb hab hbd hsz hl hB
theorem lenWalkInAll (D : Nat) : lenWalkIn D := fun n w hn => by
 have h := S32.bits_LenIn D (n : Int) w (by omega) (by omega)
 rwa [Int.toNat_natCast, bitLen_eq _ (by omega)] at h
theorem sort_int_eqD (zs : List Int) : Sort.sort ltInt zs.toArray = (zs.mergeSort fun x y => decide (x ≤ y)).toArray := by
 rw [← sortInt zs]
theorem S32.slices_Sort_int_in (D blk off cap : Nat) (zs : List Int) (w : World) (hH : Holds (Value.int .i32) w blk off zs.toArray) (hblk : blk < w.heap.size) (hsz : zs.length < 4611686018427387904) :
  CallsIn (Fence.list [73, 101, 102, 123, 124, 125, 126, 127, 128, 108, 129, 130, 132, 153, 154, 155, 156, 157, 134, 169] (some D)) 66 Tryz.prog 73 #[.slice (some ⟨blk, off, none⟩) zs.length cap] w fun e w' =>
   e = .returned (.tuple #[]) ∧ ∃ n os, w' = grow (putRow (Value.int .i32) (Sort.ahead w n) blk off (zs.mergeSort fun x y => decide (x ≤ y)).toArray) os := by
 have h := S32.Sort_intIn D (pdqWalkInInt D) (lenWalkInAll D) blk off cap zs.toArray w hH hblk (by simpa using hsz)
 rw [sort_int_eqD] at h
 simpa using h
end Go.Proofs.YtobleaiecnpcoaaGreatDoor
end
section
set_option maxRecDepth 100000
namespace Go.Proofs.YtobleaiecnpcoaaGreatDoor
open Go.Proofs
open Go.RowKit Go.Sort
def srt (zs : List Int) : List Int := zs.mergeSort fun x y => decide (x ≤ y)
theorem srt_len (zs : List Int) : (srt zs).length = zs.length := by simp [srt]
theorem srt_perm (zs : List Int) : (srt zs).Perm zs := List.mergeSort_perm _ _
theorem srt_sorted (zs : List Int) : (srt zs).Pairwise (· ≤ ·) := by
 have := List.pairwise_mergeSort (le := fun (x y : Int) => decide (x ≤ y)) (fun a b c h k => by simp at *; omega) (fun a b => by simp; omega) zs
 exact this.imp (fun h => by simpa using h)
theorem srt_unique {zs ts : List Int} (hp : ts.Perm zs) (hs : ts.Pairwise (· ≤ ·)) : ts = srt zs :=
 (hp.trans (srt_perm zs).symm).eq_of_pairwise (fun a b _ _ h k => Int.le_antisymm h k) hs (srt_sorted zs)
theorem ins_nil (p : Option Addr) (cap : Nat) (w : World) :
  Calls Tryz.prog 123 #[.slice p 0 cap, .int .i64 0, .int .i64 0] w fun e w' => e = .returned (.tuple #[]) ∧ w' = w := by
 go_enter Tryz.func123, Tryz.ntmps123
 go_wp2
 refine wp_loop_rounds 1 ?_
 rw [rounds_succ]
 go_wp2
 go_end0
 exact ⟨rfl, rfl⟩
theorem pdq_nil (p : Option Addr) (cap : Nat) (w : World) :
  Calls Tryz.prog 101 #[.slice p 0 cap, .int .i64 0, .int .i64 0, .int .i64 0] w fun e w' => e = .returned (.tuple #[]) ∧ w' = w := by
 go_enter Tryz.func101, Tryz.ntmps101
 go_wp2
 refine wp_loop_rounds 1 ?_
 rw [rounds_succ]
 go_wp2_with (first | (go_at_call 123; refine (ins_nil p cap _).mono ?_; rintro e w' ⟨rfl, rfl⟩))
 refine bodyPost_ret (results_none rfl _ _ _) rfl ?_
 exact ⟨rfl, rfl⟩
theorem len0 (w : World) : Calls Tryz.prog 102 #[.int .u64 0] w fun e w' => e = .returned (.int .i64 0) ∧ w' = w :=
 calls_of_every_depth fun D => by
  have h := S32.bits_LenIn D 0 w (by omega) (by omega)
  rwa [show ((Lib.bitLen (Int.toNat 0) : Nat) : Int) = 0 from by decide] at h
theorem sort_nil (p : Option Addr) (cap : Nat) (w : World) :
  Calls Tryz.prog 73 #[.slice p 0 cap] w fun e w' => e = .returned (.tuple #[]) ∧ w' = w := by
 go_enter Tryz.func73, Tryz.ntmps73
 go_wp2_with (first
  | (go_at_call 102; refine (len0 _).mono ?_; rintro e w' ⟨rfl, rfl⟩)
  | (go_at_call 101; refine (pdq_nil p cap _).mono ?_; rintro e w' ⟨rfl, rfl⟩))
 go_end0
 exact ⟨rfl, rfl⟩
theorem sort_mem (w : World) (g n : Nat) (os : Array Obj) (cur : Array Value) (e : TypeId) (d : Array Int) (hb : w.heap[g]? = some (.cells cur e (0, 0))) :
  (grow (putRow (Value.int .i32) (Sort.ahead w n) g 0 d) os).heap[g]? = some (.cells (putCells (Value.int .i32) 0 d cur) e (0, 0)) ∧ w.grownBy (grow (putRow (Value.int .i32) (Sort.ahead w n) g 0 d) os) (some g) := by
 have hg : g < w.heap.size := (Array.getElem?_eq_some_iff.1 hb).1
 constructor
 ·rw [heap_grow_old _ _ (by simpa using hg)]
  simp [putRow, mapBlock, Sort.ahead, Array.getElem?_modify, hb, onCells]
 ·refine ⟨rfl, rfl, rfl, by simp, fun k hk hne => ?_⟩
  rw [heap_grow_old _ _ (by simpa using hk)]
  have : g ≠ k := fun e => hne (by rw [e])
  simp [putRow, mapBlock, Sort.ahead, Array.getElem?_modify, this]
theorem take_put (cur : Array Value) (ts : List Int) (h : ts.length ≤ cur.size) : (putCells (Value.int .i32) 0 ts.toArray cur).toList.take ts.length = Rs ts := by
 refine List.ext_getElem? fun j => ?_
 rcases Nat.lt_or_ge j ts.length with hj | hj
 ·rw [List.getElem?_take_of_lt hj, Array.getElem?_toList]
  have hj2 : j < cur.size := by omega
  simp [putCells, hj, hj2, Rs]
 ·rw [List.getElem?_take_eq_none hj, List.getElem?_eq_none (by simpa [Rs] using hj)]
theorem sort_any (A : Option Addr) (n c base : Nat) (zs : List Int) (w : World) (hown : w.ownsRow base 21 1 (.slice A n c) n (Rs zs)) (hn : n < 4611686018427387904) :
  Calls Tryz.prog 73 #[.slice A n c] w fun e w' => e = .returned (.tuple #[]) ∧ w'.ownsRow base 21 1 (.slice A n c) n (Rs (srt zs)) ∧ w.grownBy w' (Value.slice A n c).ownBlock := by
 have hzl : zs.length = n := by have := hown.1; simpa [Rs] using this
 rcases hown.2 with ⟨hv, hn0⟩ | ⟨g, cap, cur, hv, hbase, hb, h1, h2, h3, h4⟩
 ·injection hv with hA _ hc
  subst hA; subst hc; subst hn0
  obtain rfl : zs = [] := List.eq_nil_of_length_eq_zero hzl
  refine (sort_nil none 0 w).mono ?_
  rintro e w' ⟨rfl, rfl⟩
  exact ⟨rfl, by rw [show srt [] = [] from by simp [srt]]; exact World.ownsRow_nil _ _ _ _, World.grownBy.refl _ _⟩
 ·injection hv with hA _ hc
  subst hA; subst hc; subst hzl
  have hsz : cur.size = c := by omega
  have hH : Holds (Value.int .i32) w g 0 zs.toArray := by
   intro j hj
   have hj' : j < zs.length := by simpa using hj
   refine ⟨?_, by simp [World.frozen?, hb]⟩
   rw [cell_of_row w g (0 + j) cur _ (0, 0) hb, Nat.zero_add]
   have h5 : (cur.toList.take (zs.length * 1))[j]? = (Rs zs)[j]? := by rw [h4]
   rw [List.getElem?_take_of_lt (by omega), Array.getElem?_toList] at h5
   rw [h5]
   simp [Rs, hj']
  have hlt : g < w.heap.size := (Array.getElem?_eq_some_iff.1 hb).1
  have hm : zs.length < 4611686018427387904 := hn
  refine (calls_of_every_depth fun D => S32.slices_Sort_int_in D g 0 c zs w hH hlt hm).mono ?_
  rintro e w' ⟨rfl, k, os, rfl⟩
  obtain ⟨m1, m2⟩ := sort_mem w g k os cur _ (srt zs).toArray hb
  refine ⟨rfl, ⟨by simp [Rs, srt_len], .inr ⟨g, c, _, rfl, hbase, m1, h1, h2, by simpa [putCells] using h3, ?_⟩⟩, m2⟩
  rw [Nat.mul_one, ← srt_len zs]
  exact take_put cur (srt zs) (by rw [srt_len]; omega)
end Go.Proofs.YtobleaiecnpcoaaGreatDoor
end
end
