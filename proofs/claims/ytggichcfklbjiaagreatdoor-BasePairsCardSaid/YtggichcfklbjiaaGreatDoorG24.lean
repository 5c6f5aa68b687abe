/- slices.Sort at []int32: Walk13In, turned from the worked proof at []int. slices.Sort at []int32: WalkTopIn, turned from the worked proof at []int. slices.Sort at []int32: AssemblyIn, turned from the worked proof at []int. slices.Sort of characters of a list of one's own, a nil one too: the list is sorted, nothing else turns. Characters that lines of ranges tell: plain words, and the code. Characters that lines of ranges tell: the code. -/
import Derived.Sort.Walk13
import Derived.Sort.LotD6
import Derived.Test.YtggichcfklbjiaaGreatDoorG23
import Derived.OwnWalkIn
import Derived.TacticsInMore
import Derived.RegionIn
import Derived.LoopNIn
import Derived.LoopIn
import Derived.Sort.CutIn
import Derived.Sort.QuietIn
import Derived.Sort.WalkA14
import Derived.Sort.LotD7
import Derived.Sort.AssemblyPlain
import Derived.Test.YtggichcfklbjiaaGreatDoorG08
import Derived.Sort.EveryDepth
import Derived.Sort.Grow
import Derived.Test.YtggichcfklbjiaaGreatDoorG22
section
section
set_option maxRecDepth 1000000
set_option linter.unusedVariables false
set_option linter.unusedSimpArgs false
namespace Go.Proofs.YtggichcfklbjiaaGreatDoor
open Go.Proofs
open Go.Sort Go.RowKit

/-- ALL ITS CALLEES' WALKS BUT cmp.Less's, INSIDE THE FENCE, each at the room that it wants above its own frame: as hypotheses: so this walk waits on none of them. -/
structure Callees13In (D : Nat) : Prop where
  heap : ∀ (blk off len cap : Nat) (d : Array Int) (_ : d.size = len) (a b : Nat) (w : World), Holds encJ w blk off d → a ≤ b → b ≤ d.size → d.size < 4611686018427387904 →
    CallsIn (Fence.list [51, 79, 80, 95, 96, 97, 98, 99, 100, 83, 101, 102, 104, 124, 125, 126, 127, 128, 105, 140] (some D)) 3 Tryz.prog 96 #[.slice (some ⟨blk, off, none⟩) len cap, .int .i64 a, .int .i64 b] w fun e w' => e = .returned (.tuple #[]) ∧ ∃ n, w' = putRow encJ (Sort.ahead w n) blk off (heapSort ltInt d a b)
  rev : ∀ (blk off cap : Nat) (d : Array Int) (a b : Nat) (w : World), Holds encJ w blk off d → a ≤ b → b ≤ d.size → d.size < 4611686018427387904 →
    CallsIn (Fence.list [51, 79, 80, 95, 96, 97, 98, 99, 100, 83, 101, 102, 104, 124, 125, 126, 127, 128, 105, 140] (some D)) 0 Tryz.prog 99 #[.slice (some ⟨blk, off, none⟩) d.size cap, .int .i64 a, .int .i64 b] w fun e w' => e = .returned (.tuple #[]) ∧ ∃ n, w' = putRow encJ (Sort.ahead w n) blk off (reverseRange d a b)
  ins : ∀ (blk off cap a b : Nat) (d : Array Int) (w : World), Holds encJ w blk off d → a ≤ b → b ≤ d.size → d.size < 4611686018427387904 →
    CallsIn (Fence.list [51, 79, 80, 95, 96, 97, 98, 99, 100, 83, 101, 102, 104, 124, 125, 126, 127, 128, 105, 140] (some D)) 2 Tryz.prog 95 #[.slice (some ⟨blk, off, none⟩) d.size cap, .int .i64 a, .int .i64 b] w fun e w' => e = .returned (.tuple #[]) ∧ ∃ n, w' = putRow encJ (Sort.ahead w n) blk off (insertionSort ltInt d a b)
  brk : ∀ (blk off cap a b : Nat) (d : Array Int) (w : World), Holds encJ w blk off d → blk < w.heap.size → a ≤ b → b ≤ d.size → d.size < 4611686018427387904 →
    CallsIn (Fence.list [51, 79, 80, 95, 96, 97, 98, 99, 100, 83, 101, 102, 104, 124, 125, 126, 127, 128, 105, 140] (some D)) 3 Tryz.prog 97 #[.slice (some ⟨blk, off, none⟩) d.size cap, .int .i64 a, .int .i64 b] w fun e w' => e = .returned (.tuple #[]) ∧ ∃ n os, w' = grow (putRow encJ (Sort.ahead w n) blk off (breakPatterns d a b)) os
  piv : ∀ (blk off cap a b : Nat) (d : Array Int) (w : World), Holds encJ w blk off d → blk < w.heap.size → a < b → b ≤ d.size → d.size < 4611686018427387904 →
    CallsIn (Fence.list [51, 79, 80, 95, 96, 97, 98, 99, 100, 83, 101, 102, 104, 124, 125, 126, 127, 128, 105, 140] (some D)) 5 Tryz.prog 98 #[.slice (some ⟨blk, off, none⟩) d.size cap, .int .i64 a, .int .i64 b] w fun e w' => e = .returned (.tuple #[.int .i64 (choosePivot ltInt d a b).1, .int .i64 (hintCode (choosePivot ltInt d a b).2)]) ∧ ∃ n os, w' = grow (Sort.ahead w n) os
  par : ∀ (blk off cap a b : Nat) (d : Array Int) (w : World), Holds encJ w blk off d → a < b → b ≤ d.size → d.size < 4611686018427387904 →
    CallsIn (Fence.list [51, 79, 80, 95, 96, 97, 98, 99, 100, 83, 101, 102, 104, 124, 125, 126, 127, 128, 105, 140] (some D)) 2 Tryz.prog 100 #[.slice (some ⟨blk, off, none⟩) d.size cap, .int .i64 a, .int .i64 b] w fun e w' => e = .returned (.bool (partialInsertionSort ltInt d a b).2) ∧ ∃ n, w' = putRow encJ (Sort.ahead w n) blk off (partialInsertionSort ltInt d a b).1
  peq : ∀ (blk off cap a b pivot : Nat) (d : Array Int) (w : World), Holds encJ w blk off d → a ≤ pivot → pivot < b → b ≤ d.size → d.size < 4611686018427387904 →
    CallsIn (Fence.list [51, 79, 80, 95, 96, 97, 98, 99, 100, 83, 101, 102, 104, 124, 125, 126, 127, 128, 105, 140] (some D)) 2 Tryz.prog 101 #[.slice (some ⟨blk, off, none⟩) d.size cap, .int .i64 a, .int .i64 b, .int .i64 pivot] w fun e w' => e = .returned (.int .i64 (partitionEqual ltInt d a b pivot).1) ∧ ∃ n, w' = putRow encJ (Sort.ahead w n) blk off (partitionEqual ltInt d a b pivot).2
  prt : ∀ (blk off cap a b pivot : Nat) (d : Array Int) (w : World), Holds encJ w blk off d → a ≤ pivot → pivot < b → b ≤ d.size → d.size < 4611686018427387904 →
    CallsIn (Fence.list [51, 79, 80, 95, 96, 97, 98, 99, 100, 83, 101, 102, 104, 124, 125, 126, 127, 128, 105, 140] (some D)) 2 Tryz.prog 102 #[.slice (some ⟨blk, off, none⟩) d.size cap, .int .i64 a, .int .i64 b, .int .i64 pivot] w fun e w' => e = .returned (.tuple #[.int .i64 (partition ltInt d a b pivot).1, .bool (partition ltInt d a b pivot).2.1]) ∧ ∃ n, w' = putRow encJ (Sort.ahead w n) blk off (partition ltInt d a b pivot).2.2

set_option maxHeartbeats 6400000 in
set_option maxRecDepth 1000000 in
theorem S32.pdqsort_intIn (D : Nat) (C : Callees13In D) (S : Plain13) : ∀ (N rm blk off cap a b limit : Nat) (d : Array Int) (w : World), b - a < N → pdqDepth ltInt d a b limit true true + 6 ≤ rm → Holds encJ w blk off d → blk < w.heap.size → a ≤ b → b ≤ d.size → d.size < 4611686018427387904 → limit < 4611686018427387904 → Below ltInt a b d →
    CallsIn (Fence.list [51, 79, 80, 95, 96, 97, 98, 99, 100, 83, 101, 102, 104, 124, 125, 126, 127, 128, 105, 140] (some D)) rm Tryz.prog 79 #[.slice (some ⟨blk, off, none⟩) d.size cap, .int .i64 a, .int .i64 b, .int .i64 limit] w fun e w' => e = .returned (.tuple #[]) ∧ At encJ w blk off (pdq ltInt d a b limit true true) w' := by
  intro N
  induction N with
  | zero => intro _ _ _ _ _ _ _ _ _ h; exact absurd h (Nat.not_lt_zero _)
  | succ N ih =>
    intro rm blk off cap a b limit d w hN hrm hH hblk hab hb hsz hlimit hBel0
    -- THE FENCE's QUESTION AT EVERY CALL, 'one frame more is at hand', is closed from the context
    have hrm1 : 1 ≤ rm := by omega
    gi_enter Tryz.func79, Tryz.ntmps79
    gi_wp2
    gi_loopg [1, 2, 3, 8, 9] (b - a) (fun k s1 s2 s3 s8 s9 wr => ∃ (a' b' lim : Nat) (wb wp : Bool) (dk : Array Int), s1 = .int .i64 a' ∧ s2 = .int .i64 b' ∧ s3 = .int .i64 lim ∧ s8 = .bool wb ∧ s9 = .bool wp ∧
      a' ≤ b' ∧ b' ≤ d.size ∧ b' - a' ≤ k ∧ k ≤ b - a ∧ lim ≤ limit ∧ dk.size = d.size ∧ Below ltInt a' b' dk ∧ At encJ w blk off dk wr ∧ pdq ltInt dk a' b' lim wb wp = pdq ltInt d a b limit true true ∧ pdqDepth ltInt dk a' b' lim wb wp + 6 ≤ rm)
    case atStart => exact ⟨a, b, limit, true, true, d, rfl, rfl, rfl, rfl, rfl, hab, hb, Nat.le_refl _, Nat.le_refl _, Nat.le_refl _, rfl, hBel0, At.refl hH, rfl, hrm⟩
    case round =>
      obtain ⟨a', b', lim, wb, wp, dk, rfl, rfl, rfl, rfl, rfl, hab', hb', hk, hkN, hlim, hds, hBel, hAt, heq, hdp⟩ := hrel
      obtain ⟨hHk, hblk'⟩ := hAt.holds hH hds hblk
      have A : Aside (pdq ltInt dk a' b' lim wb wp = pdq ltInt d a b limit true true) := heq
      clear heq
      by_cases h12 : b' - a' ≤ 12
      · -- 'if length <= maxInsertion'
        have h12z : (b' : Int) - (a' : Int) ≤ 12 := by omega
        have hc := (C.ins blk off cap a' b' dk wr hHk hab' (by omega) (by omega)).more (show 2 ≤ rm - 1 by omega)
        rw [hds] at hc
        gi_wp2_with (gi_at_call 95; refine hc.mono ?_; rintro e w1 ⟨rfl, hw1⟩)
        (try simp only [Exit.inBlock, Exit.then]); refine bodyPost_ret (results_none rfl _ _ _) rfl ?_
        refine ⟨rfl, ?_⟩
        rw [← A.out, pdq_small h12]
        exact hAt.step hblk (S.ins S.swo dk a' b' hab' (by omega)).1.1 hw1
      · have h12z : ¬ ((b' : Int) - (a' : Int) ≤ 12) := by omega
        by_cases hl0 : lim = 0
        · -- 'if limit == 0'
          subst hl0
          have hc := (C.heap blk off d.size cap dk hds a' b' wr hHk hab' (by omega) (by omega)).more (show 3 ≤ rm - 1 by omega)
          gi_wp2_with (gi_at_call 96; refine hc.mono ?_; rintro e w1 ⟨rfl, hw1⟩)
          (try simp only [Exit.inBlock, Exit.then]); refine bodyPost_ret (results_none rfl _ _ _) rfl ?_
          refine ⟨rfl, ?_⟩
          rw [← A.out, pdq_heap h12 rfl]
          exact hAt.step hblk (heapSort_holds S.swo dk a' b' hab' (by omega)).1.1 hw1
        · have hl0z : ¬ ((lim : Int) = 0) := by omega
          -- THE ROUND's VALUES: sizes, ranges, 'Below', stage by stage
          obtain ⟨s1, B1, hc1, s2, B2, hpv, s3, B3⟩ := rd_facts (limit := lim) (wb := wb) (wp := wp) S.swo S.par reverseRange_holds (show a' < b' by omega) (show b' ≤ dk.size by omega) hBel
          -- ████ 'if !wasBalanced { breakPatterns; limit-- }': THE WAYS MEET
          gi_upto_if 35 with fail
          gi_cut [3] from 19 (fun s3 wc => s3 = .int .i64 (rd ltInt dk a' b' lim wb wp).lim ∧ At encJ w blk off (rd ltInt dk a' b' lim wb wp).d1 wc)
          case first =>
            cases wb
            · have hc := (C.brk blk off cap a' b' dk wr hHk hblk' hab' (by omega) (by omega)).more (show 3 ≤ rm - 1 by omega)
              rw [hds] at hc
              gi_wp2_with (gi_at_call 97; refine hc.mono ?_; rintro e w1 ⟨rfl, hw1⟩)
              gi_meet
              case rel =>
                refine ⟨?_, hAt.stepG hblk s1 hw1⟩
                show Value.int .i64 ((lim : Int) - 1) = Value.int .i64 ((lim - 1 : Nat) : Int)
                congr 1
                omega
            · gi_wp2_with fail
              gi_meet
              case rel => exact ⟨rfl, hAt⟩
          case rest =>
            obtain ⟨rfl, hAt1⟩ := hcut
            obtain ⟨hH1, hblk1⟩ := hAt1.holds hH (s1.trans hds) hblk
            have hc17 : CallsIn (Fence.list [51, 79, 80, 95, 96, 97, 98, 99, 100, 83, 101, 102, 104, 124, 125, 126, 127, 128, 105, 140] (some D)) (rm - 1) Tryz.prog 98 #[.slice (some ⟨blk, off, none⟩) d.size cap, .int .i64 a', .int .i64 b'] wc fun e w' => e = .returned (.tuple #[.int .i64 (rd ltInt dk a' b' lim wb wp).c.1, .int .i64 (hintCode (rd ltInt dk a' b' lim wb wp).c.2)]) ∧ ∃ n os, w' = grow (Sort.ahead wc n) os := by
              have := (C.piv blk off cap a' b' (rd ltInt dk a' b' lim wb wp).d1 wc hH1 hblk1 (by omega) (by omega) (by omega)).more (show 5 ≤ rm - 1 by omega)
              rw [s1, hds] at this
              exact this
            gi_upto_if 50 with (gi_at_call 98; refine hc17.mono ?_; rintro e w2 ⟨rfl, hw2⟩)
            have hAt2 : At encJ w blk off (rd ltInt dk a' b' lim wb wp).d1 w2 := hAt1.same hH (s1.trans hds) hblk hw2
            obtain ⟨hH2, hblk2⟩ := hAt2.holds hH (s1.trans hds) hblk
            -- ████ 'if hint == decreasingHint { reverseRange; pivot = ..; hint = increasingHint }': THE WAYS MEET
            gi_cut [11, 12] from 19 (fun s11 s12 wc => s11 = .int .i64 (rd ltInt dk a' b' lim wb wp).pivot ∧ s12 = .int .i64 (hintCode (rd ltInt dk a' b' lim wb wp).hint) ∧ At encJ w blk off (rd ltInt dk a' b' lim wb wp).d2 wc)
            case first =>
              by_cases hh : (rd ltInt dk a' b' lim wb wp).c.2 = .decreasing
              · have hcode : hintCode (rd ltInt dk a' b' lim wb wp).c.2 = 2 := by rw [hh]; rfl
                obtain ⟨e2, epv, eht⟩ := rd_dec hh
                have hc18 := (C.rev blk off cap (rd ltInt dk a' b' lim wb wp).d1 a' b' w2 hH2 hab' (by omega) (by omega)).more (show 0 ≤ rm - 1 by omega)
                rw [s1, hds] at hc18
                gi_wp2_with (gi_at_call 99; refine hc18.mono ?_; rintro e w3 ⟨rfl, hw3⟩)
                gi_meet
                case rel =>
                  refine ⟨?_, by rw [eht]; rfl, by rw [e2]; exact hAt2.step hblk (by rw [← e2, s2, s1]) hw3⟩
                  rw [epv]
                  congr 1
                  omega
              · have hcode : ¬ (hintCode (rd ltInt dk a' b' lim wb wp).c.2 = 2) := fun h => hh (hintCode_two h)
                obtain ⟨e2, epv, eht⟩ := rd_not hh
                gi_wp2_with fail
                gi_meet
                case rel => exact ⟨by rw [epv], by rw [eht], by rw [e2]; exact hAt2⟩
            case rest =>
              obtain ⟨rfl, rfl, hAt3⟩ := hcut
              obtain ⟨hH3, hblk3⟩ := hAt3.holds hH (s2.trans hds) hblk
              -- ████ THE TEST 'wasBalanced && wasPartitioned && hint == increasingHint', over Booleans that are variables: THE WAYS THROUGH THE REGION MEET
              gi_upto_region 15 with fail
              gi_cut [12, 68] from 19 (fun s12 s68 wx => s12 = .int .i64 (hintCode (rd ltInt dk a' b' lim wb wp).hint) ∧ s68 = .bool (wb && wp && decide ((rd ltInt dk a' b' lim wb wp).hint = .increasing)) ∧ wx = wc)
              case first =>
                cases wb <;> cases wp <;> cases hh3 : (rd ltInt dk a' b' lim _ _).hint <;>
                  (have hcode3 := congrArg hintCode hh3
                   simp only [hintCode] at hcode3
                   gi_wp2_with fail
                   gi_meet
                   exact ⟨by simp [hh3, hintCode], by simp [hh3, hintCode], rfl⟩)
              case rest =>
                obtain ⟨rfl, rfl, rfl⟩ := hcut
                -- ████ 'if .. { if partialInsertionSort(..) { return } }': THE WAYS MEET (one returns)
                gi_upto_if 68 with fail
                gi_cut [] from 19 (fun wx => (rd ltInt dk a' b' lim wb wp).pi.2 = false ∧ At encJ w blk off (rd ltInt dk a' b' lim wb wp).pi.1 wx)
                case first =>
                  cases h68 : (wb && wp && decide ((rd ltInt dk a' b' lim wb wp).hint = .increasing))
                  · have epi := rd_pi_no h68
                    gi_wp2_with fail
                    gi_meet
                    case rel => exact ⟨by rw [epi], by rw [epi]; exact hAt3⟩
                  · have epi := rd_pi_yes h68
                    have hc19 := (C.par blk off cap a' b' (rd ltInt dk a' b' lim wb wp).d2 wc hH3 (by omega) (by omega) (by omega)).more (show 2 ≤ rm - 1 by omega)
                    rw [s2, hds, ← epi] at hc19
                    gi_wp2_with (gi_at_call 100; refine hc19.mono ?_; rintro e w4 ⟨rfl, hw4⟩)
                    -- (the walk parts on what the callee says: each way is closed by the script that fits it)
                    all_goals first
                      | (have hp2 : (rd ltInt dk a' b' lim wb wp).pi.2 = false := by rw [epi]; assumption
                         gi_meet
                         exact ⟨hp2, hAt3.step hblk (by rw [s3, s2]) hw4⟩)
                      | (have hp2 : (rd ltInt dk a' b' lim wb wp).pi.2 = true := by rw [epi]; assumption
                         (try simp only [Exit.inBlock, Exit.then]); refine bodyPost_ret (results_none rfl _ _ _) rfl ?_
                         refine ⟨rfl, ?_⟩
                         rw [← A.out, pdq_done h12 hl0 hp2]
                         exact hAt3.step hblk (by rw [s3, s2]) hw4)
                case rest =>
                  obtain ⟨hp2, hAt5⟩ := hcut
                  obtain ⟨hH5, hblk5⟩ := hAt5.holds hH (s3.trans hds) hblk
                  -- THE ROW's TWO FAMILIES (the authors' Derived/CellFam.lean)
                  have hcw : ∀ t, t < d.size → wc.cell? ⟨blk, off + t, none⟩ = some (.int .i32 (rd ltInt dk a' b' lim wb wp).pi.1[t]!) := fun t ht => (hH5 t (by omega)).1
                  have hfw : ∀ t, t < d.size → wc.frozen? ⟨blk, off + t, none⟩ = false := fun t ht => (hH5 t (by omega)).2
                  -- ████ THE TEST 'a > 0 && !cmp.Less(data[a-1], data[pivot])': it draws; its guard must be parted on: THE WAYS THROUGH THE REGION MEET
                  gi_upto_region 17 with fail
                  gi_cut [87] from 19 (fun s87 wx => s87 = .bool (decide (a' > 0) && !ltInt (rd ltInt dk a' b' lim wb wp).pi.1[a' - 1]! (rd ltInt dk a' b' lim wb wp).pi.1[(rd ltInt dk a' b' lim wb wp).pivot]!) ∧ At encJ w blk off (rd ltInt dk a' b' lim wb wp).pi.1 wx)
                  case first =>
                    rcases Nat.eq_zero_or_pos a' with ha0 | ha0
                    · have ha0z : decide ((a' : Int) > 0) = false := decide_eq_false (by omega)
                      gi_big_quiet (first | (gi_at_call 83; refine CallsIn.quiet_of_same ((S32.cmp_Less_intIn D _ _ _).more (show 1 ≤ rm - 1 by omega))))
                      gi_wp2_with fail
                      gi_meet
                      case rel => exact ⟨by simp [ha0], hAt5.ahead nq⟩
                    · have ha0z : (a' : Int) > 0 := by omega
                      gi_big_quiet (first | (gi_at_call 83; refine CallsIn.quiet_of_same ((S32.cmp_Less_intIn D _ _ _).more (show 1 ≤ rm - 1 by omega))))
                      gi_wp2_with fail
                      gi_meet
                      case rel => exact ⟨by simp [ha0], hAt5.ahead nq⟩
                  case rest =>
                    obtain ⟨rfl, hAt6⟩ := hcut
                    obtain ⟨hH6, hblk6⟩ := hAt6.holds hH (s3.trans hds) hblk
                    clear hcw hfw
                    cases h87 : (decide (a' > 0) && !ltInt (rd ltInt dk a' b' lim wb wp).pi.1[a' - 1]! (rd ltInt dk a' b' lim wb wp).pi.1[(rd ltInt dk a' b' lim wb wp).pivot]!)
                    · -- ████ 'mid, alreadyPartitioned := partitionOrdered(..)'; THE SMALLER SIDE BY A CALL OF ITSELF, the other by the next round
                      -- (✋ WHAT THE PARTITION GIVES, AS VARIABLES WITH ONE EQUATION: handed 'rfl' for it, the unifier UNFOLDED 'partition' to find the triple's parts, and the ranges came back over 'partLoop ..': nothing met them any more)
                      obtain ⟨mid, ap, d4, hx⟩ : ∃ mid ap d4, partition ltInt (rd ltInt dk a' b' lim wb wp).pi.1 a' b' (rd ltInt dk a' b' lim wb wp).pivot = (mid, ap, d4) := ⟨(partition ltInt (rd ltInt dk a' b' lim wb wp).pi.1 a' b' (rd ltInt dk a' b' lim wb wp).pivot).1, (partition ltInt (rd ltInt dk a' b' lim wb wp).pi.1 a' b' (rd ltInt dk a' b' lim wb wp).pivot).2.1, (partition ltInt (rd ltInt dk a' b' lim wb wp).pi.1 a' b' (rd ltInt dk a' b' lim wb wp).pivot).2.2, rfl⟩
                      obtain ⟨r1, r2, r3, r4, r5, r6, r7⟩ := round_part S.swo S.prt hpv.1 hpv.2 (show b' ≤ (rd ltInt dk a' b' lim wb wp).pi.1.size by omega) B3 hx
                      have hc22 := (C.prt blk off cap a' b' (rd ltInt dk a' b' lim wb wp).pivot (rd ltInt dk a' b' lim wb wp).pi.1 wc hH6 hpv.1 hpv.2 (by omega) (by omega)).more (show 2 ≤ rm - 1 by omega)
                      rw [s3, hds, hx] at hc22
                      have X : Aside (partition ltInt (rd ltInt dk a' b' lim wb wp).pi.1 a' b' (rd ltInt dk a' b' lim wb wp).pivot = (mid, ap, d4)) := hx
                      clear hx
                      gi_upto_if 113 with (gi_at_call 102; refine hc22.mono ?_; rintro e w7 ⟨rfl, hw7⟩)
                      have hx := X.out
                      have hAt7 : At encJ w blk off d4 w7 := hAt6.step hblk r3 hw7
                      obtain ⟨hH7, hblk7⟩ := hAt7.holds hH (r3.trans (s3.trans hds)) hblk
                      by_cases h4 : mid - a' < b' - mid
                      · have h4z : (mid : Int) - (a' : Int) < (b' : Int) - (mid : Int) := by omega
                        have hdl := pdqDepth_left h12 hl0 hp2 h87 (by rw [hx]; exact ⟨r1, r2⟩) (by rw [hx]; exact h4)
                        rw [hx] at hdl
                        dsimp only at hdl
                        have hih := ih (rm - 1) blk off cap a' mid (rd ltInt dk a' b' lim wb wp).lim d4 w7 (by omega) (by have := hdl.1; omega) hH7 hblk7 (by omega) (by omega) (by omega) (Nat.lt_of_le_of_lt (Nat.le_trans rd_lim_le hlim) hlimit) r4
                        rw [r3, s3, hds] at hih
                        obtain ⟨pL, sL⟩ := S.pdq S.swo d4 a' mid (rd ltInt dk a' b' lim wb wp).lim true true (by omega) (by omega) r4
                        gi_wp2_with (gi_at_call 79; refine hih.mono ?_; rintro e w8 ⟨rfl, hw8⟩)
                        gi_roundg (b' - (mid + 1))
                        case measure => omega
                        case rel =>
                          refine ⟨mid + 1, b', (rd ltInt dk a' b' lim wb wp).lim, decide (mid - a' ≥ (b' - a') / 8), ap, pdq ltInt d4 a' mid (rd ltInt dk a' b' lim wb wp).lim true true, by simp, rfl, rfl, ?_, rfl, by omega, by omega, Nat.le_refl _, by omega, Nat.le_trans rd_lim_le hlim, by rw [pL.1, r3, s3, hds], (r6 _ pL sL).1, hAt7.stepG hblk pL.1 hw8, ?_, by have := hdl.2; omega⟩
                          · exact congrArg Value.bool (eighth (by omega) (by omega))
                          · rw [← A.out, pdq_left h12 hl0 hp2 h87 (by rw [hx]; exact ⟨r1, r2⟩) (by rw [hx]; exact h4), hx]
                      · have h4z : ¬ ((mid : Int) - (a' : Int) < (b' : Int) - (mid : Int)) := by omega
                        have hdl := pdqDepth_right h12 hl0 hp2 h87 (by rw [hx]; exact ⟨r1, r2⟩) (by rw [hx]; exact h4)
                        rw [hx] at hdl
                        dsimp only at hdl
                        have hih := ih (rm - 1) blk off cap (mid + 1) b' (rd ltInt dk a' b' lim wb wp).lim d4 w7 (by omega) (by have := hdl.1; omega) hH7 hblk7 (by omega) (by omega) (by omega) (Nat.lt_of_le_of_lt (Nat.le_trans rd_lim_le hlim) hlimit) r5
                        rw [r3, s3, hds] at hih
                        obtain ⟨pL, sL⟩ := S.pdq S.swo d4 (mid + 1) b' (rd ltInt dk a' b' lim wb wp).lim true true (by omega) (by omega) r5
                        gi_wp2_with (gi_at_call 79; refine hih.mono ?_; rintro e w8 ⟨rfl, hw8⟩)
                        gi_roundg (mid - a')
                        case measure => omega
                        case rel =>
                          refine ⟨a', mid, (rd ltInt dk a' b' lim wb wp).lim, decide (b' - mid ≥ (b' - a') / 8), ap, pdq ltInt d4 (mid + 1) b' (rd ltInt dk a' b' lim wb wp).lim true true, rfl, rfl, rfl, ?_, rfl, by omega, by omega, Nat.le_refl _, by omega, Nat.le_trans rd_lim_le hlim, by rw [pL.1, r3, s3, hds], (r7 _ pL sL).1, hAt7.stepG hblk pL.1 hw8, ?_, by have := hdl.2; omega⟩
                          · exact congrArg Value.bool (eighth (by omega) (by omega))
                          · rw [← A.out, pdq_right h12 hl0 hp2 h87 (by rw [hx]; exact ⟨r1, r2⟩) (by rw [hx]; exact h4), hx]
                    · -- ████ 'mid := partitionEqualOrdered(..); a = mid; continue'
                      have h87' := h87
                      simp only [Bool.and_eq_true, decide_eq_true_eq, Bool.not_eq_true'] at h87'
                      obtain ⟨mid, d4, hx⟩ : ∃ mid d4, partitionEqual ltInt (rd ltInt dk a' b' lim wb wp).pi.1 a' b' (rd ltInt dk a' b' lim wb wp).pivot = (mid, d4) := ⟨(partitionEqual ltInt (rd ltInt dk a' b' lim wb wp).pi.1 a' b' (rd ltInt dk a' b' lim wb wp).pivot).1, (partitionEqual ltInt (rd ltInt dk a' b' lim wb wp).pi.1 a' b' (rd ltInt dk a' b' lim wb wp).pivot).2, rfl⟩
                      obtain ⟨r1, r2, r3, r4, _⟩ := round_eq S.swo S.peq h87'.1 hpv.1 hpv.2 (show b' ≤ (rd ltInt dk a' b' lim wb wp).pi.1.size by omega) B3 h87'.2 hx
                      have hc21 := (C.peq blk off cap a' b' (rd ltInt dk a' b' lim wb wp).pivot (rd ltInt dk a' b' lim wb wp).pi.1 wc hH6 hpv.1 hpv.2 (by omega) (by omega)).more (show 2 ≤ rm - 1 by omega)
                      rw [s3, hds, hx] at hc21
                      have X : Aside (partitionEqual ltInt (rd ltInt dk a' b' lim wb wp).pi.1 a' b' (rd ltInt dk a' b' lim wb wp).pivot = (mid, d4)) := hx
                      clear hx
                      gi_wp2_with (gi_at_call 101; refine hc21.mono ?_; rintro e w7 ⟨rfl, hw7⟩)
                      gi_roundg (b' - mid)
                      case measure => omega
                      case rel =>
                        have hx := X.out
                        exact ⟨mid, b', (rd ltInt dk a' b' lim wb wp).lim, wb, wp, d4, rfl, rfl, rfl, rfl, rfl, r2, hb', Nat.le_refl _, by omega, Nat.le_trans rd_lim_le hlim, by rw [r3, s3, hds], r4, hAt6.step hblk r3 hw7, by rw [← A.out, pdq_eq h12 hl0 hp2 h87 (by rw [hx]; exact ⟨r1, r2⟩), hx], by have hde := pdqDepth_eq h12 hl0 hp2 h87 (by rw [hx]; exact ⟨r1, r2⟩); rw [hx] at hde; dsimp only at hde; omega⟩

end Go.Proofs.YtggichcfklbjiaaGreatDoor
end

section
set_option maxRecDepth 1000000
set_option linter.unusedVariables false
set_option linter.unusedSimpArgs false
namespace Go.Proofs.YtggichcfklbjiaaGreatDoor
open Go.Proofs
open Go.RowKit Go.Sort

/-- WALK 13's CONTRACT INSIDE THE FENCE: at whatever room holds what 'Sort.pdqDepth' counts, and six. -/
def pdqWalkIn_int (D : Nat) : Prop := ∀ (rm blk off cap a b limit : Nat) (d : Array Int) (w : World), pdqDepth ltInt d a b limit true true + 6 ≤ rm → Holds (Value.int .i32) w blk off d → blk < w.heap.size → a ≤ b → b ≤ d.size → d.size < 4611686018427387904 → limit < 4611686018427387904 → Below ltInt a b d →
  CallsIn (Fence.list [51, 79, 80, 95, 96, 97, 98, 99, 100, 83, 101, 102, 104, 124, 125, 126, 127, 128, 105, 140] (some D)) rm Tryz.prog 79 #[.slice (some ⟨blk, off, none⟩) d.size cap, .int .i64 a, .int .i64 b, .int .i64 limit] w fun e w' =>
    e = .returned (.tuple #[]) ∧ ∃ n os, w' = grow (putRow (Value.int .i32) (Sort.ahead w n) blk off (Sort.pdq ltInt d a b limit true true)) os
/-- math/bits.Len's, in the plan's word. -/
def lenWalkIn (D : Nat) : Prop := ∀ (n : Nat) (w : World), n < 4611686018427387904 → CallsIn (Fence.list [51, 79, 80, 95, 96, 97, 98, 99, 100, 83, 101, 102, 104, 124, 125, 126, 127, 128, 105, 140] (some D)) 1 Tryz.prog 80 #[.int .u64 (n : Int)] w fun e w' => e = .returned (.int .i64 (bitsLen n : Nat)) ∧ w' = w

set_option maxRecDepth 100000 in
/-- slices.Sort's own body: 66 FRAMES ABOVE ITS OWN SUFFICE, WHATEVER THE SLICE. -/
theorem S32.Sort_intIn (D : Nat) (hpdq : pdqWalkIn_int D) (hlen : lenWalkIn D) (blk off cap : Nat) (d : Array Int) (w : World) (hH : Holds (Value.int .i32) w blk off d) (hblk : blk < w.heap.size) (hsz : d.size < 4611686018427387904) :
    CallsIn (Fence.list [51, 79, 80, 95, 96, 97, 98, 99, 100, 83, 101, 102, 104, 124, 125, 126, 127, 128, 105, 140] (some D)) 66 Tryz.prog 51 #[.slice (some ⟨blk, off, none⟩) d.size cap] w fun e w' => e = .returned (.tuple #[]) ∧ ∃ n os, w' = grow (putRow (Value.int .i32) (Sort.ahead w n) blk off (Sort.sort ltInt d)) os := by
  have HH : Hid (Holds (Value.int .i32) w blk off d) := hH
  clear hH
  have hk : bitsLen d.size ≤ 62 := (bitsLen_le_iff d.size 62).2 (by omega)
  have hdp := pdqDepth_le_59 ltInt d 0 d.size (bitsLen d.size) true true (by omega)
  gi_enter Tryz.func51, Tryz.ntmps51
  gi_wp2_with (first
    | (gi_at_call 80; refine ((hlen d.size _ hsz).more (by decide)).mono ?_; rintro e w' ⟨rfl, rfl⟩)
    | (gi_at_call 79; refine (hpdq 65 blk off cap 0 d.size (bitsLen d.size) d _ (by omega) (by exact HH.out) (by exact hblk) (Nat.zero_le _) (Nat.le_refl _) hsz (by omega) (Or.inl rfl)).mono ?_; rintro e w' ⟨rfl, n, os, rfl⟩))
  go_end0
  exact ⟨rfl, n, os, rfl⟩



end Go.Proofs.YtggichcfklbjiaaGreatDoor
end

section
set_option maxRecDepth 1000000
set_option linter.unusedVariables false
set_option linter.unusedSimpArgs false
namespace Go.Proofs.YtggichcfklbjiaaGreatDoor
open Go.Proofs
open Go.Sort

theorem callees13In (D : Nat) : Callees13In D where
  heap := S32.heapSort_intIn D
  rev := S32.reverseRange_intIn D
  ins := S32.insertionSort_intIn D
  brk := S32.breakPatterns_intIn D
  piv := S32.choosePivot_intIn D
  par := S32.partialInsertionSort_intIn D
  peq := S32.partitionEqualOrdered_intIn D
  prt := S32.partitionOrdered_intIn D

theorem plain13D : Plain13 where
  swo := swo_ltInt
  ins := insertionSort_holds
  par := partialInsertionSort_holds
  prt := partition_holds _
  peq := partitionEqual_holds _
  pdq := pdq_sorts _

theorem pdqWalkInInt (D : Nat) : pdqWalkIn_int D := fun rm blk off cap a b limit d w hrm hH hb hab hbd hsz hl hB =>
  S32.pdqsort_intIn D (callees13In D) plain13D (b - a + 1) rm blk off cap a b limit d w (by omega) hrm hH hb hab hbd hsz hl hB

theorem lenWalkInAll (D : Nat) : lenWalkIn D := fun n w hn => by
  have h := S32.bits_LenIn D (n : Int) w (by omega) (by omega)
  rwa [Int.toNat_natCast, bitLen_eq _ (by omega)] at h

theorem sort_int_eqD (zs : List Int) : Sort.sort ltInt zs.toArray = (zs.mergeSort fun x y => decide (x ≤ y)).toArray := by
  rw [← sortInt zs]

/-- slices.Sort at []int, INSIDE THE FENCE: 66 frames above its own suffice. -/
theorem S32.slices_Sort_int_in (D blk off cap : Nat) (zs : List Int) (w : World) (hH : Holds (Value.int .i32) w blk off zs.toArray) (hblk : blk < w.heap.size) (hsz : zs.length < 4611686018427387904) :
    CallsIn (Fence.list [51, 79, 80, 95, 96, 97, 98, 99, 100, 83, 101, 102, 104, 124, 125, 126, 127, 128, 105, 140] (some D)) 66 Tryz.prog 51 #[.slice (some ⟨blk, off, none⟩) zs.length cap] w fun e w' =>
      e = .returned (.tuple #[]) ∧ ∃ n os, w' = grow (putRow (Value.int .i32) (Sort.ahead w n) blk off (zs.mergeSort fun x y => decide (x ≤ y)).toArray) os := by
  have h := S32.Sort_intIn D (pdqWalkInInt D) (lenWalkInAll D) blk off cap zs.toArray w hH hblk (by simpa using hsz)
  rw [sort_int_eqD] at h
  simpa using h





end Go.Proofs.YtggichcfklbjiaaGreatDoor
end

section
set_option linter.unusedVariables false
set_option linter.unusedSimpArgs false
set_option maxRecDepth 100000
namespace Go.Proofs.YtggichcfklbjiaaGreatDoor
open Go.Proofs
open Go.RowKit Go.Sort

/-- A list, sorted. -/
def srt (zs : List Int) : List Int := zs.mergeSort fun x y => decide (x ≤ y)
theorem srt_len (zs : List Int) : (srt zs).length = zs.length := by simp [srt]
theorem srt_perm (zs : List Int) : (srt zs).Perm zs := List.mergeSort_perm _ _
theorem srt_sorted (zs : List Int) : (srt zs).Pairwise (· ≤ ·) := by
  have := List.pairwise_mergeSort (le := fun (x y : Int) => decide (x ≤ y)) (fun a b c h k => by simp at *; omega) (fun a b => by simp; omega) zs
  exact this.imp (fun h => by simpa using h)
/-- There is one sorted list. -/
theorem srt_unique {zs ts : List Int} (hp : ts.Perm zs) (hs : ts.Pairwise (· ≤ ·)) : ts = srt zs :=
  (hp.trans (srt_perm zs).symm).eq_of_pairwise (fun a b _ _ h k => Int.le_antisymm h k) hs (srt_sorted zs)
theorem ins_nil (p : Option Addr) (cap : Nat) (w : World) :
    Calls Tryz.prog 95 #[.slice p 0 cap, .int .i64 0, .int .i64 0] w fun e w' => e = .returned (.tuple #[]) ∧ w' = w := by
  go_enter Tryz.func95, Tryz.ntmps95
  go_wp2
  refine wp_loop_rounds 1 ?_
  rw [rounds_succ]
  go_wp2
  go_end0
  exact ⟨rfl, rfl⟩
theorem pdq_nil (p : Option Addr) (cap : Nat) (w : World) :
    Calls Tryz.prog 79 #[.slice p 0 cap, .int .i64 0, .int .i64 0, .int .i64 0] w fun e w' => e = .returned (.tuple #[]) ∧ w' = w := by
  go_enter Tryz.func79, Tryz.ntmps79
  go_wp2
  refine wp_loop_rounds 1 ?_
  rw [rounds_succ]
  go_wp2_with (first | (go_at_call 95; refine (ins_nil p cap _).mono ?_; rintro e w' ⟨rfl, rfl⟩))
  refine bodyPost_ret (results_none rfl _ _ _) rfl ?_
  exact ⟨rfl, rfl⟩
theorem len0 (w : World) : Calls Tryz.prog 80 #[.int .u64 0] w fun e w' => e = .returned (.int .i64 0) ∧ w' = w :=
  calls_of_every_depth fun D => by
    have h := S32.bits_LenIn D 0 w (by omega) (by omega)
    rwa [show ((Lib.bitLen (Int.toNat 0) : Nat) : Int) = 0 from by decide] at h
theorem sort_nil (p : Option Addr) (cap : Nat) (w : World) :
    Calls Tryz.prog 51 #[.slice p 0 cap] w fun e w' => e = .returned (.tuple #[]) ∧ w' = w := by
  go_enter Tryz.func51, Tryz.ntmps51
  go_wp2_with (first
    | (go_at_call 80; refine (len0 _).mono ?_; rintro e w' ⟨rfl, rfl⟩)
    | (go_at_call 79; refine (pdq_nil p cap _).mono ?_; rintro e w' ⟨rfl, rfl⟩))
  go_end0
  exact ⟨rfl, rfl⟩
theorem sort_mem (w : World) (g n : Nat) (os : Array Obj) (cur : Array Value) (e : TypeId) (d : Array Int) (hb : w.heap[g]? = some (.cells cur e (0, 0))) :
    (grow (putRow (Value.int .i32) (Sort.ahead w n) g 0 d) os).heap[g]? = some (.cells (putCells (Value.int .i32) 0 d cur) e (0, 0)) ∧ w.grownBy (grow (putRow (Value.int .i32) (Sort.ahead w n) g 0 d) os) (some g) := by
  have hg : g < w.heap.size := (Array.getElem?_eq_some_iff.1 hb).1
  constructor
  · rw [heap_grow_old _ _ (by simpa using hg)]
    simp [putRow, mapBlock, Sort.ahead, Array.getElem?_modify, hb, onCells]
  · refine ⟨rfl, rfl, rfl, by simp, fun k hk hne => ?_⟩
    rw [heap_grow_old _ _ (by simpa using hk)]
    have : g ≠ k := fun e => hne (by rw [e])
    simp [putRow, mapBlock, Sort.ahead, Array.getElem?_modify, this]
theorem take_put (cur : Array Value) (ts : List Int) (h : ts.length ≤ cur.size) : (putCells (Value.int .i32) 0 ts.toArray cur).toList.take ts.length = Rs ts := by
  refine List.ext_getElem? fun j => ?_
  rcases Nat.lt_or_ge j ts.length with hj | hj
  · rw [List.getElem?_take_of_lt hj, Array.getElem?_toList]
    have hj2 : j < cur.size := by omega
    simp [putCells, hj, hj2, Rs]
  · rw [List.getElem?_take_eq_none hj, List.getElem?_eq_none (by simpa [Rs] using hj)]
theorem sort_any (A : Option Addr) (n c base : Nat) (zs : List Int) (w : World) (hown : w.ownsRow base 21 1 (.slice A n c) n (Rs zs)) (hn : n < 4611686018427387904) :
    Calls Tryz.prog 51 #[.slice A n c] w fun e w' => e = .returned (.tuple #[]) ∧ w'.ownsRow base 21 1 (.slice A n c) n (Rs (srt zs)) ∧ w.grownBy w' (Value.slice A n c).ownBlock := by
  have hzl : zs.length = n := by have := hown.1; simpa [Rs] using this
  rcases hown.2 with ⟨hv, hn0⟩ | ⟨g, cap, cur, hv, hbase, hb, h1, h2, h3, h4⟩
  · injection hv with hA _ hc
    subst hA; subst hc; subst hn0
    obtain rfl : zs = [] := List.eq_nil_of_length_eq_zero hzl
    refine (sort_nil none 0 w).mono ?_
    rintro e w' ⟨rfl, rfl⟩
    exact ⟨rfl, by rw [show srt [] = [] from by simp [srt]]; exact World.ownsRow_nil _ _ _ _, World.grownBy.refl _ _⟩
  · injection hv with hA _ hc
    subst hA; subst hc; subst hzl
    have hsz : cur.size = c := by omega
    have hH : Holds (Value.int .i32) w g 0 zs.toArray := by
      intro j hj
      have hj' : j < zs.length := by simpa using hj
      refine ⟨?_, by simp [World.frozen?, hb]⟩
      rw [cell_of_row w g (0 + j) cur _ (0, 0) hb, Nat.zero_add]
      have h5 : (cur.toList.take (zs.length * 1))[j]? = (Rs zs)[j]? := by rw [h4]
      rw [List.getElem?_take_of_lt (by omega), Array.getElem?_toList] at h5
      rw [h5]
      simp [Rs, hj']
    have hlt : g < w.heap.size := (Array.getElem?_eq_some_iff.1 hb).1
    have hm : zs.length < 4611686018427387904 := hn
    refine (calls_of_every_depth fun D => S32.slices_Sort_int_in D g 0 c zs w hH hlt hm).mono ?_
    rintro e w' ⟨rfl, k, os, rfl⟩
    obtain ⟨m1, m2⟩ := sort_mem w g k os cur _ (srt zs).toArray hb
    refine ⟨rfl, ⟨by simp [Rs, srt_len], .inr ⟨g, c, _, rfl, hbase, m1, h1, h2, by simpa [putCells] using h3, ?_⟩⟩, m2⟩
    rw [Nat.mul_one, ← srt_len zs]
    exact take_put cur (srt zs) (by rw [srt_len]; omega)
end Go.Proofs.YtggichcfklbjiaaGreatDoor
end
end

section
section
set_option linter.unusedSimpArgs false
set_option linter.unusedVariables false
namespace Go.Proofs.YtggichcfklbjiaaGreatDoor
open Go.RowKit

def fldS (l : List UInt8) : List UInt8 := ((cutL 59 l).map bareL).getD 0 []
def addO (out : List Int) (r : Int) : List Int := if scalarB r = true then out ++ [r] else out
def addW : List Int → Int → Nat → List Int × Bool
  | out, _, 0 => (out, false)
  | out, r, n + 1 => if 4096 < (addO out r).length then (addO out r, true) else addW (addO out r) (r + 1) n
def setAdd (out : List Int) (a b : Int) : List Int × Bool := addW out a (b - a + 1).toNat
def setR (out : List Int) (g : Int × Int × Int) : List Int × Int :=
  if g.2.2 ≠ 0 then (out, g.2.2) else if out.any (betw g.1 g.2.1) = true then (out, 12) else if (setAdd out g.1 g.2.1).2 = true then (out, 14) else ((setAdd out g.1 g.2.1).1, 0)
def setStep (out : List Int) (l : List UInt8) : List Int × Int := setR out (rangeS (fldS l))
def setsW : List Int → List (Int × List UInt8) → List Int × Int × Int
  | out, [] => (out, 0, 0)
  | out, p :: ls => if (setStep out p.2).2 ≠ 0 then ([], p.1, (setStep out p.2).2) else setsW (setStep out p.2).1 ls
def setsE (r : List Int × Int × Int) : List Int × Int × Int := (srt r.1, r.2.1, r.2.2)
def setsS (s : List UInt8) : List Int × Int × Int := if (linesS s).2 ≠ 0 then ([], 0, (linesS s).2) else setsE (setsW [] (linesS s).1)
theorem setsW_bad {out : List Int} {p : Int × List UInt8} {ls : List (Int × List UInt8)} (h : (setStep out p.2).2 ≠ 0) : setsW out (p :: ls) = ([], p.1, (setStep out p.2).2) := by
  simp only [setsW]; rw [if_pos h]
theorem setsW_good {out : List Int} {p : Int × List UInt8} {ls : List (Int × List UInt8)} (h : (setStep out p.2).2 = 0) : setsW out (p :: ls) = setsW (setStep out p.2).1 ls := by
  simp only [setsW]; rw [if_neg (by rw [h]; simp)]
theorem addW_zero (out : List Int) (r : Int) : addW out r 0 = (out, false) := rfl
theorem addW_full {out : List Int} {r : Int} {n : Nat} (h : 4096 < (addO out r).length) : addW out r (n + 1) = (addO out r, true) := by
  simp only [addW]; rw [if_pos h]
theorem addW_go {out : List Int} {r : Int} {n : Nat} (h : ¬ 4096 < (addO out r).length) : addW out r (n + 1) = addW (addO out r) (r + 1) n := by
  simp only [addW]; rw [if_neg h]
theorem addO_len (out : List Int) (r : Int) : (addO out r).length ≤ out.length + 1 := by
  unfold addO; split <;> simp
theorem addW_len : ∀ (n : Nat) (out : List Int) (r : Int), out.length ≤ 4096 → (addW out r n).2 = false → (addW out r n).1.length ≤ 4096
  | 0, out, r, h, _ => h
  | n + 1, out, r, h, hf => by
    by_cases hl : 4096 < (addO out r).length
    · rw [addW_full hl] at hf; simp at hf
    · rw [addW_go hl] at hf ⊢
      exact addW_len n _ _ (by omega) hf
theorem setStep_len {out : List Int} {l : List UInt8} (h : out.length ≤ 4096) : (setStep out l).1.length ≤ 4096 := by
  unfold setStep setR
  repeat' split
  · exact h
  · exact h
  · exact h
  · rename_i hf
    exact addW_len _ _ _ h (by simpa [setAdd] using hf)
theorem rangeT_ok {a b : List UInt8} (h : (rangeT a b).2.2 = 0) : 0 ≤ (rangeT a b).1 ∧ (rangeT a b).1 ≤ (rangeT a b).2.1 ∧ (rangeT a b).2.1 ≤ 1114111 := by
  unfold rangeT at *
  split at h
  · rename_i h1; exact absurd h h1
  · split at h
    · rename_i h1; exact absurd h h1
    · split at h
      · simp at h
      · rename_i h1 h2 h3
        rw [if_neg h1, if_neg h2, if_neg h3]
        have ha := hexS_bd a
        have hb := hexS_bd b
        exact ⟨ha.1, by simp only []; omega, hb.2.1⟩
theorem rangeS_ok {l : List UInt8} (h : (rangeS l).2.2 = 0) : 0 ≤ (rangeS l).1 ∧ (rangeS l).1 ≤ (rangeS l).2.1 ∧ (rangeS l).2.1 ≤ 1114111 := by
  unfold rangeS at *
  split at h
  · rename_i hc; rw [if_pos hc]; exact rangeT_ok h
  · rename_i hc; rw [if_neg hc]; exact rangeT_ok h
theorem bareL_len2 (l : List UInt8) : (bareL l).length ≤ l.length := bareL_len l
theorem fldS_get (l : List UInt8) : ∃ ps, (cutL 59 l).map bareL = fldS l :: ps := by
  unfold fldS
  cases h : (cutL 59 l).map bareL with
  | nil => simp [cutL] at h
  | cons x t => exact ⟨t, rfl⟩
theorem fldS_len (l : List UInt8) : (fldS l).length ≤ l.length := by
  obtain ⟨ps, hp⟩ := fldS_get l
  have : fldS l ∈ (cutL 59 l).map bareL := by rw [hp]; simp
  obtain ⟨y, hy, he⟩ := List.mem_map.1 this
  have h1 := cutL_part 59 l y hy
  have h2 := bareL_len y
  rw [← he]
  omega
/-- New characters, the number of a line, and what is wrong. -/
def FreshSets (w : World) (r : List Int × Int × Int) (e : Ending) (w' : World) : Prop :=
  ∃ A c, e = .returned (.tuple #[.slice A r.1.length c, .int .i64 r.2.1, .int .i64 r.2.2]) ∧ w'.ownsRow w.heap.size 21 1 (.slice A r.1.length c) r.1.length (Rs r.1) ∧ Below w.heap.size w w'
theorem split59 (l : List UInt8) (w : World) (hE : Env w) (hs : l.length ≤ 512) :
    Calls Tryz.prog 48 #[.string (mk8 l), .int .u8 59] w (FreshS w ((cutL 59 l).map bareL)) := by
  have := split04_any (mk8 l) 59 w hE (by rw [mk8_size]; omega)
  rw [bs_mk8] at this
  exact this
theorem rangeZ (l : List UInt8) (w : World) (hE : Env w) (hs : l.length ≤ 512) :
    Calls Tryz.prog 47 #[.string (mk8 l)] w fun e w' => e = .returned (.tuple #[.int .i32 (rangeS l).1, .int .i32 (rangeS l).2.1, .int .i64 (rangeS l).2.2]) ∧ Below w.heap.size w w' := by
  have := range_any (mk8 l) w hE (by rw [mk8_size]; omega)
  rw [bs_mk8] at this
  exact this
/-- A list's row is none of these blocks. -/
def Away (qs : List Nat) (v : Value) : Prop := ∀ b, v.ownBlock = some b → b ∉ qs
theorem Away.step {qs : List Nat} {H : Nat} {v v' : Value} (h : Away qs v) (hv : v'.ownBlock = v.ownBlock ∨ v'.ownBlock = some H) (hH : H ∉ qs) : Away qs v' := by
  intro b hb
  rcases hv with hv | hv
  · exact h b (hv ▸ hb)
  · rw [hv] at hb
    injection hb with hb
    rw [← hb]
    exact hH
theorem Away.ne {qs : List Nat} {v : Value} {q : Nat} (h : Away qs v) (hq : q ∈ qs) : v.ownBlock ≠ some q := fun e => h q e hq
theorem setsc_any (a b : Int) (q : Nat) (A : Option Addr) (n c : Nat) (zs : List Int) (W : World) (hr : Rd W A n (Rs zs)) (hn : n ≤ 1099511627776) (h0 : W.cell? ⟨q, 0, none⟩ = some (.int .i32 a)) (h1 : W.cell? ⟨q + 1, 0, none⟩ = some (.int .i32 b)) :
    Calls Tryz.prog 49 #[.slice A n c, .func (.func 50) #[] #[.pointer (some ⟨q, 0, none⟩), .pointer (some ⟨q + 1, 0, none⟩)]] W fun e w' => e = .returned (.bool (zs.any (betw a b))) ∧ Below W.heap.size W w' := by
  refine containsf_any _ _ (enters_of Tryz.func50 (by kernel_rfl) rfl) (betw a b) A n c zs W hr hn ?_
  intro x W2 hb
  have e0 := (hb.cell (World.block_lt_of_cell? W _ h0)).trans h0
  have e1 := (hb.cell (World.block_lt_of_cell? W _ h1)).trans h1
  refine (sets1_any x a b q (q + 1) W2 e0 e1).mono ?_
  rintro e w' ⟨rfl, rfl⟩
  exact ⟨rfl, Below.refl _ _⟩
end Go.Proofs.YtggichcfklbjiaaGreatDoor
end

section
set_option linter.unusedSimpArgs false
set_option linter.unusedVariables false
namespace Go.Proofs.YtggichcfklbjiaaGreatDoor
open Go.RowKit

theorem own_rd {w : World} {B : Nat} {A : Option Addr} {n c : Nat} {zs : List Int} (h : w.ownsRow B 21 1 (.slice A n c) n (Rs zs)) : Rd w A n (Rs zs) := by
  obtain ⟨A', c', hv, _, _, hr⟩ := Rd.of_own h
  injection hv with h1 _ _
  subst h1
  exact hr
theorem below_one (w : World) (o : Obj) : Below w.heap.size w (w.alloc o) := (Below.refl _ _).alloc (Nat.le_refl _) _
set_option maxRecDepth 20000 in
set_option maxHeartbeats 8000000 in
theorem sets_any (s : ByteArray) (w : World) (hE : Env w) (hs : s.size ≤ 1073741824) :
    Calls Tryz.prog 23 #[.string s] w (FreshSets w (setsS (bs s))) := by
  have LN := lines_any s w hE hs
  have hlo := linesS_ok (bs s)
  unfold setsS
  obtain ⟨⟨L, e0⟩, hL⟩ : ∃ z, z = linesS (bs s) := ⟨_, rfl⟩
  rw [← hL] at LN hlo ⊢
  simp only [] at hlo ⊢
  clear hL
  by_cases he : e0 = 0
  · subst he
    rw [if_neg (show ¬ ((0 : Int) ≠ 0) by simp)]
    have HLO := Lib.hid hlo
    have hll := hlo.2
    clear hlo
    obtain ⟨R, hR⟩ : ∃ R, R = setsE (setsW [] L) := ⟨_, rfl⟩
    rw [← hR]
    have HR := Lib.hid hR
    clear hR
    have hmf : ∀ (fn : Fn) (first cap : Array Value) (w : World), (Instr.makeFunc fn first cap).run Tryz.prog w = .ok (.func fn first cap) w := fun _ _ _ _ => rfl
    go_enter Tryz.func23, Tryz.ntmps23
    go_wp2_with fail
    refine LN.mono ?_
    intro e w1 hF
    obtain ⟨A, c, rfl, hr, hb1⟩ := hF.rd
    have HE := Lib.hid (hE.below hb1)
    have HB1 := Lib.hid hb1
    clear hF LN hE hb1
    have HRW : Hid (setsW [] L = setsW [] (L.drop 0)) := rfl
    go_wp2
    go_loopw [24, 7] (fun i o wr => ∃ (k : Nat) (out : List Int) (Ao : Option Addr) (co : Nat), k ≤ L.length ∧ i = .int .i64 k ∧ o = .slice Ao out.length co ∧ out.length ≤ 4096 ∧ wr.ownsRow w1.heap.size 21 1 (.slice Ao out.length co) out.length (Rs out) ∧ Hid (setsW [] L = setsW out (L.drop k)) ∧ Below w1.heap.size w1 wr) (fun i _ _ => L.length - (intOf i).toNat)
    case atStart => exact ⟨0, [], none, 0, Nat.zero_le _, rfl, rfl, by simp, World.ownsRow_nil _ _ _ _, HRW, Below.refl _ _⟩
    case round =>
      obtain ⟨k, out, Ao, co, hk, rfl, rfl, hol, hown, HW, hb⟩ := hrel
      clear HRW
      by_cases hin : k < L.length
      · have hi : (k : Int) < (L.length : Int) := by omega
        obtain ⟨⟨l1, l2⟩, hl⟩ : ∃ l, L[k]? = some l := ⟨_, List.getElem?_eq_getElem hin⟩
        have hz : l2.length ≤ 512 := HLO.out.1 _ (List.mem_of_getElem? hl)
        have hd := drop_get hl
        obtain ⟨b, off, rfl, hbl, hcx⟩ := (hr.below (by omega) hb).at_ (by omega) (by omega)
        have cx1 := hcx _ _ (Ls_at L k _ hl).1
        have cx2 := hcx _ _ (Ls_at L k _ hl).2
        rw [← Nat.add_assoc] at cx2
        simp only [] at cx1 cx2
        clear hcx
        -- what this line is
        have HST : Hid (setsW [] L = setsW out ((l1, l2) :: L.drop (k + 1))) := by show _ = _; rw [HW.out, hd]
        have hfl := fldS_len l2
        obtain ⟨fl, hfe⟩ : ∃ fl, fl = fldS l2 := ⟨_, rfl⟩
        obtain ⟨ps, hps⟩ := fldS_get l2
        have SP := fun w h => split59 l2 w h hz
        rw [hps, ← hfe] at SP
        have HPS : Hid ((Ss (fl :: ps))[0]? = some (Value.string (mk8 fl))) := rfl
        have RG := fun w h => rangeZ fl w h (by rw [hfe]; omega)
        have hok := rangeS_ok (l := fl)
        have HSS : Hid (setStep out l2 = setR out (rangeS fl)) := by show _ = _; rw [hfe]; rfl
        obtain ⟨⟨ra, rb, re⟩, hrg⟩ : ∃ z, z = rangeS fl := ⟨_, rfl⟩
        rw [← hrg] at RG hok HSS
        simp only [] at RG hok
        clear hfe hrg hd hps hl hfl hz
        have hbA : Below wr.heap.size wr (wr.alloc (.cells #[.int .i64 l1, .string (mk8 l2)] 96)) := (Below.refl _ _).alloc (Nat.le_refl _) _
        have HOWN := Lib.hid hown
        have HB := Lib.hid hb
        have HBA := Lib.hid hbA
        have HM0 := Lib.hid (hb.trans (hbA.mono hb.size))
        have HBL : Hid ((wr.alloc (.cells #[.int .i64 l1, .string (mk8 l2)] 96)).heap[wr.heap.size]? = some (.cells #[.int .i64 l1, .string (mk8 l2)] 96 (0, 0))) := box_new _ _ _
        clear hown hb hbA
        by_cases hre : re = 0
        · subst hre
          obtain ⟨ok1, ok2, ok3⟩ := hok rfl
          cases hany : out.any (betw ra rb)
          · obtain ⟨N, hN⟩ : ∃ N, N = (rb - ra + 1).toNat := ⟨_, rfl⟩
            have hNb : (N : Int) = rb - ra + 1 := by omega
            have HSA : Hid (setAdd out ra rb = addW out ra N) := by show _ = _; unfold setAdd; rw [hN]
            have HFU : Hid ((addW out ra N).2 = true → R = ([], l1, 14)) := by
              show _ → _
              intro hf
              have hse : setStep out l2 = (out, 14) := by rw [HSS.out]; unfold setR; rw [if_neg (by simp), if_neg (by simp [hany]), if_pos (by rw [HSA.out]; exact hf)]
              rw [HR.out, HST.out, setsW_bad (by rw [hse]; simp), hse]
              show (srt [], _, _) = _
              simp [srt]
            have HGO : Hid ((addW out ra N).2 = false → setsW [] L = setsW (addW out ra N).1 (L.drop (k + 1))) := by
              show _ → _
              intro hf
              have hse : setStep out l2 = ((addW out ra N).1, 0) := by rw [HSS.out]; unfold setR; rw [if_neg (by simp), if_neg (by simp [hany]), if_neg (by rw [HSA.out, hf]; simp), HSA.out]
              rw [HST.out, setsW_good (by rw [hse]), hse]
            clear hok hN
            go_wp2_with fail
            refine (SP _ ?_).mono ?_
            · exact (HE.out.below HB.out).alloc _
            intro e w2 hF
            obtain ⟨A2, c2, rfl, hr2, hb2⟩ := hF.rd
            clear hF SP
            obtain ⟨b2, off2, rfl, hbl2, hc2⟩ := hr2.at_ (by simp)
            have cf : w2.cell? ⟨b2, off2, none⟩ = some (.string (mk8 fl)) := hc2 0 _ HPS.out
            have HM2 := Lib.hid (HM0.out.trans (hb2.mono HM0.out.size))
            have HB2 := Lib.hid hb2
            clear hr2 hc2 hb2
            go_wp2_with fail
            refine (RG _ ?_).mono ?_
            · exact HE.out.below HM2.out
            rintro e w3 ⟨rfl, hb3⟩
            clear RG cf
            have HM3 := Lib.hid (HM2.out.trans (hb3.mono HM2.out.size))
            have hbl3 : w3.heap[wr.heap.size]? = some (.cells #[.int .i64 l1, .string (mk8 l2)] 96 (0, 0)) := box_below HBL.out (below_then HB2.out hb3)
            have HBL3 := Lib.hid hbl3
            have HR3 := Lib.hid (below_then HBA.out (below_then HB2.out hb3))
            clear hb3 hbl3
            have CF := fun W h0 h1 hr => setsc_any ra rb w3.heap.size Ao out.length co out W hr (by omega) h0 h1
            rw [hany] at CF
            go_wp2_with fail
            generalize hWW : (w3.alloc _).alloc _ = W at *
            have hbW : Below w3.heap.size w3 W := by rw [← hWW]; exact ((Below.refl _ _).alloc (Nat.le_refl _) _).alloc (by simp) _
            have bx0 : W.heap[w3.heap.size]? = some (.cells #[.int .i32 ra] 21 (0, 0)) := by rw [← hWW]; exact box_alloc _ (box_new w3 _ _)
            have bx1 : W.heap[w3.heap.size + 1]? = some (.cells #[.int .i32 rb] 21 (0, 0)) := by
              rw [← hWW]
              have := box_new (w3.alloc (.cells #[.int .i32 ra] 21)) #[.int .i32 rb] 21
              simpa using this
            have hszW : W.heap.size = w3.heap.size + 2 := by rw [← hWW]; simp
            clear hWW
            have HBLW : Hid (W.heap[wr.heap.size]? = some (.cells #[.int .i64 l1, .string (mk8 l2)] 96 (0, 0))) := box_below HBL3.out hbW
            have HMW := Lib.hid (HM3.out.trans (hbW.mono HM3.out.size))
            refine (CF _ (box_cell bx0 0 rfl) (box_cell bx1 0 rfl) ?_).mono ?_
            · exact (own_rd (own_below HOWN.out (below_then HR3.out hbW)))
            rintro e w4 ⟨rfl, hb4⟩
            have cq0 : w4.cell? ⟨w3.heap.size, 0, none⟩ = some (.int .i32 ra) := box_cell (box_below bx0 hb4) 0 rfl
            have bq1 := box_below bx1 hb4
            have HBL4 := box_below HBLW.out hb4
            have hown4 := own_below HOWN.out (below_then (below_then HR3.out hbW) hb4)
            have hm4 := HMW.out.trans (hb4.mono HMW.out.size)
            have hq4 : w3.heap.size + 1 < w4.heap.size := by have := hb4.size; omega
            have haw : Away [wr.heap.size, w3.heap.size, w3.heap.size + 1] (Value.slice Ao out.length co) := by
              intro x hx hm
              have h1 := (HOWN.out.lt x hx).2
              have h2 := HR3.out.size
              simp at hm
              omega
            clear CF hb4 hbW bx0 bx1 hszW HBLW HMW
            generalize wr.heap.size = p at *
            generalize w3.heap.size = q at *
            have HAW0 : Hid (addW out ra N = addW out (ra + ((0 : Nat) : Int)) (N - 0)) := by show _ = _; simp
            go_wp2
            go_loopw [13, 7] (fun r o wx => ∃ (j : Nat) (o2 : List Int) (A2 : Option Addr) (c2 : Nat), r = .int .i32 (ra + (j : Int)) ∧ j ≤ N ∧ o = .slice A2 o2.length c2 ∧ o2.length ≤ 4096 ∧ wx.ownsRow w1.heap.size 21 1 (.slice A2 o2.length c2) o2.length (Rs o2) ∧ Hid (addW out ra N = addW o2 (ra + (j : Int)) (N - j)) ∧ Away [p, q, q + 1] (.slice A2 o2.length c2) ∧ wx.heap[q + 1]? = some (.cells #[.int .i32 rb] 21 (0, 0)) ∧ wx.heap[p]? = some (.cells #[.int .i64 l1, .string (mk8 l2)] 96 (0, 0)) ∧ q + 1 < wx.heap.size ∧ Below w1.heap.size w1 wx) (fun r _ _ => N - (intOf r - ra).toNat)
            case atStart => exact ⟨0, out, Ao, co, by simp, Nat.zero_le _, rfl, hol, hown4, HAW0, haw, bq1, HBL4, hq4, hm4⟩
            case round =>
              obtain ⟨j, o2, Ax, dx, rfl, hj, rfl, hol2, hown2, HAW, haw2, hbx, hblx, hqx, hbm⟩ := hrel
              clear HAW0 hown4 haw bq1 HBL4 hq4 hm4 cq0
              have cq : wr.cell? ⟨q + 1, 0, none⟩ = some (.int .i32 rb) := box_cell hbx 0 rfl
              by_cases hjN : j < N
              · have hle : ra + (j : Int) ≤ rb := by omega
                have HA1 : Hid (addW out ra N = addW o2 (ra + (j : Int)) ((N - (j + 1)) + 1)) := by show _ = _; rw [HAW.out, show N - j = (N - (j + 1)) + 1 by omega]
                cases hsc : scalarB (ra + (j : Int))
                · have HA2 : Hid (addW out ra N = addW o2 (ra + ((j + 1 : Nat) : Int)) (N - (j + 1))) := by
                    have ho : addO o2 (ra + (j : Int)) = o2 := by unfold addO; rw [hsc]; rfl
                    show _ = _
                    rw [HA1.out, addW_go (by rw [ho]; omega), ho, show ra + (j : Int) + 1 = ra + ((j + 1 : Nat) : Int) by omega]
                  go_wp2_with (go_at_call 12; refine (scalar_any _ _).mono ?_; rw [hsc]; rintro e w' ⟨rfl, rfl⟩)
                  go_roundw
                  case rel => exact ⟨j + 1, o2, Ax, dx, by congr 1; omega, by omega, rfl, hol2, hown2, HA2, haw2, hbx, hblx, hqx, hbm⟩
                  case measure => simp [intOf]; omega
                · have ho : addO o2 (ra + (j : Int)) = o2 ++ [ra + (j : Int)] := by unfold addO; rw [hsc]; rfl
                  have HK := Lib.hid (And.intro hown2 (And.intro haw2 (And.intro hbx (And.intro hblx (And.intro hqx hbm)))))
                  have hz2 := hbm.size
                  clear hown2 haw2 hbx hblx hqx hbm
                  by_cases hfull : o2.length = 4096
                  · have hR : R = ([], l1, 14) := HFU.out (by rw [HA1.out, addW_full (by rw [ho, List.length_append, List.length_singleton]; omega)])
                    have HR2 := Lib.hid hR
                    have hl4 : (4096 : Int) < (o2.length : Int) + 1 := by omega
                    have hl5 : 4096 < o2.length + 1 := by omega
                    clear hR ho hfull
                    go_wp2_with fail
                    refine (scalar_any _ _).mono ?_
                    rw [hsc]
                    rintro e w5 ⟨rfl, rfl⟩
                    go_wp2_with (at_builtin; refine wpList_app runeElem _ rfl _ _ rfl w1.heap.size rfl (own_below HK.out.1 (below_one _ _)) rfl (Rd.new1 _ _ _) (one_of rfl) (by omega) (by omega) (by simp; omega) ?_)
                    intro A5 c5 w5 hown5 hg5 hb5
                    have hal := below_one wr (.cells #[.int .i32 (ra + (j : Int))] 21)
                    have hblz : w5.heap[p]? = some (.cells #[.int .i64 l1, .string (mk8 l2)] 96 (0, 0)) := box_grown (box_below HK.out.2.2.2.1 hal) hg5 (HK.out.2.1.ne (by simp))
                    have hbxz : w5.heap[q + 1]? = some (.cells #[.int .i32 rb] 21 (0, 0)) := box_grown (box_below HK.out.2.2.1 hal) hg5 (HK.out.2.1.ne (by simp))
                    have hbm5 : Below w1.heap.size w1 w5 := (HK.out.2.2.2.2.2.trans (hal.mono hz2)).grown hg5 (Nat.le_trans hz2 hal.size) (fun j hj => (HK.out.1.lt j hj).1)
                    have cl : w5.cell? ⟨p, 0, none⟩ = some (.int .i64 l1) := box_cell hblz 0 rfl
                    have HBM := Lib.hid hbm5
                    clear hal hblz hbxz hbm5 hown5 hg5 hb5
                    go_wp2
                    go_quiet (fail)
                    go_wp2
                    go_returns
                    rw [HR2.out]
                    exact ⟨none, 0, rfl, World.ownsRow_nil _ _ _ _, below_then HB1.out (below_drew' HBM.out _)⟩
                  · have hnf : ¬ 4096 < (addO o2 (ra + (j : Int))).length := by rw [ho, List.length_append, List.length_singleton]; omega
                    have HA2 : Hid (addW out ra N = addW (o2 ++ [ra + (j : Int)]) (ra + ((j + 1 : Nat) : Int)) (N - (j + 1))) := by
                      show _ = _
                      rw [HA1.out, addW_go hnf, ho, show ra + (j : Int) + 1 = ra + ((j + 1 : Nat) : Int) by omega]
                    have hl4 : (o2.length : Int) + 1 ≤ 4096 := by omega
                    have hl5 : o2.length + 1 ≤ 4096 := by omega
                    clear ho hnf hfull
                    go_wp2_with fail
                    refine (scalar_any _ _).mono ?_
                    rw [hsc]
                    rintro e w5 ⟨rfl, rfl⟩
                    go_wp2_with (at_builtin; refine wpList_app runeElem _ rfl _ _ rfl w1.heap.size rfl (own_below HK.out.1 (below_one _ _)) rfl (Rd.new1 _ _ _) (one_of rfl) (by omega) (by omega) (by simp; omega) ?_)
                    intro A5 c5 w5 hown5 hg5 hb5
                    have hal := below_one wr (.cells #[.int .i32 (ra + (j : Int))] 21)
                    have hblz : w5.heap[p]? = some (.cells #[.int .i64 l1, .string (mk8 l2)] 96 (0, 0)) := box_grown (box_below HK.out.2.2.2.1 hal) hg5 (HK.out.2.1.ne (by simp))
                    have hbxz : w5.heap[q + 1]? = some (.cells #[.int .i32 rb] 21 (0, 0)) := box_grown (box_below HK.out.2.2.1 hal) hg5 (HK.out.2.1.ne (by simp))
                    have hbm5 : Below w1.heap.size w1 w5 := (HK.out.2.2.2.2.2.trans (hal.mono hz2)).grown hg5 (Nat.le_trans hz2 hal.size) (fun j hj => (HK.out.1.lt j hj).1)
                    have haw5 : Away [p, q, q + 1] (.slice A5 (o2.length + 1) c5) := HK.out.2.1.step hb5 (by
                      have h1 := HK.out.2.2.2.2.1
                      have h2 := (Array.getElem?_eq_some_iff.1 HK.out.2.2.2.1).1
                      simp
                      omega)
                    have hq5 : q + 1 < w5.heap.size := (Array.getElem?_eq_some_iff.1 hbxz).1
                    have hol5 : (o2 ++ [ra + (j : Int)]).length = o2.length + 1 := by simp
                    have hown6 : w5.ownsRow w1.heap.size 21 1 (.slice A5 (o2.length + 1) c5) (o2.length + 1) (Rs (o2 ++ [ra + (j : Int)])) := by simpa [Rs] using hown5
                    have HK2 := Lib.hid (And.intro hown6 (And.intro haw5 (And.intro hbxz (And.intro hblz (And.intro hq5 (And.intro hbm5 hol5))))))
                    clear hal hblz hbxz hbm5 hown5 hg5 hb5 haw5 hq5 hown6 hol5
                    go_wp2
                    go_roundw
                    case rel =>
                      refine ⟨j + 1, o2 ++ [ra + (j : Int)], A5, c5, by congr 1; omega, by omega, by rw [HK2.out.2.2.2.2.2.2], by rw [HK2.out.2.2.2.2.2.2]; omega, ?_, HA2, ?_, HK2.out.2.2.1, HK2.out.2.2.2.1, HK2.out.2.2.2.2.1, HK2.out.2.2.2.2.2.1⟩
                      · rw [HK2.out.2.2.2.2.2.2]; exact HK2.out.1
                      · rw [HK2.out.2.2.2.2.2.2]; exact HK2.out.2.1
                    case measure => simp [intOf]; omega
              · have hgt : rb < ra + (j : Int) := by omega
                have hjN2 : N - j = 0 := by omega
                have hz : addW out ra N = (o2, false) := by rw [HAW.out, hjN2, addW_zero]
                have HS2 : Hid (setsW [] L = setsW o2 (L.drop (k + 1))) := by show _ = _; rw [HGO.out (by rw [hz]), hz]
                clear hz hjN2
                go_wp2
                go_roundw
                case rel => exact ⟨k + 1, o2, Ax, dx, by omega, by go_num, rfl, hol2, hown2, HS2, hbm⟩
                case measure => simp [intOf]; omega
          · have hse : setStep out l2 = (out, 12) := by rw [HSS.out]; unfold setR; rw [if_neg (by simp), if_pos hany]
            have hR : R = ([], l1, 12) := by
              rw [HR.out, HST.out, setsW_bad (by rw [hse]; simp), hse]
              show (srt [], _, _) = _
              simp [srt]
            have HR2 := Lib.hid hR
            clear hse hR hok
            go_wp2_with fail
            refine (SP _ ?_).mono ?_
            · exact (HE.out.below HB.out).alloc _
            intro e w2 hF
            obtain ⟨A2, c2, rfl, hr2, hb2⟩ := hF.rd
            clear hF SP
            obtain ⟨b2, off2, rfl, hbl2, hc2⟩ := hr2.at_ (by simp)
            have cf : w2.cell? ⟨b2, off2, none⟩ = some (.string (mk8 fl)) := hc2 0 _ HPS.out
            have HM2 := Lib.hid (HM0.out.trans (hb2.mono HM0.out.size))
            have HB2 := Lib.hid hb2
            clear hr2 hc2 hb2
            go_wp2_with fail
            refine (RG _ ?_).mono ?_
            · exact HE.out.below HM2.out
            rintro e w3 ⟨rfl, hb3⟩
            clear RG cf
            have HM3 := Lib.hid (HM2.out.trans (hb3.mono HM2.out.size))
            have hbl3 : w3.heap[wr.heap.size]? = some (.cells #[.int .i64 l1, .string (mk8 l2)] 96 (0, 0)) := box_below HBL.out (below_then HB2.out hb3)
            have HBL3 := Lib.hid hbl3
            have HR3 := Lib.hid (below_then HBA.out (below_then HB2.out hb3))
            clear hb3 hbl3
            have CF := fun W h0 h1 hr => setsc_any ra rb w3.heap.size Ao out.length co out W hr (by omega) h0 h1
            rw [hany] at CF
            go_wp2_with fail
            generalize hWW : (w3.alloc _).alloc _ = W at *
            have hbW : Below w3.heap.size w3 W := by rw [← hWW]; exact ((Below.refl _ _).alloc (Nat.le_refl _) _).alloc (by simp) _
            have bx0 : W.heap[w3.heap.size]? = some (.cells #[.int .i32 ra] 21 (0, 0)) := by rw [← hWW]; exact box_alloc _ (box_new w3 _ _)
            have bx1 : W.heap[w3.heap.size + 1]? = some (.cells #[.int .i32 rb] 21 (0, 0)) := by
              rw [← hWW]
              have := box_new (w3.alloc (.cells #[.int .i32 ra] 21)) #[.int .i32 rb] 21
              simpa using this
            have hszW : W.heap.size = w3.heap.size + 2 := by rw [← hWW]; simp
            clear hWW
            have HBLW : Hid (W.heap[wr.heap.size]? = some (.cells #[.int .i64 l1, .string (mk8 l2)] 96 (0, 0))) := box_below HBL3.out hbW
            have HMW := Lib.hid (HM3.out.trans (hbW.mono HM3.out.size))
            refine (CF _ (box_cell bx0 0 rfl) (box_cell bx1 0 rfl) ?_).mono ?_
            · exact (own_rd (own_below HOWN.out (below_then HR3.out hbW)))
            rintro e w4 ⟨rfl, hb4⟩
            have HBL4 := box_below HBLW.out hb4
            have cl : w4.cell? ⟨wr.heap.size, 0, none⟩ = some (.int .i64 l1) := box_cell HBL4 0 rfl
            have HM4 := Lib.hid (HMW.out.trans (hb4.mono HMW.out.size))
            clear CF hb4 hbW bx0 bx1 hszW HBLW HMW HBL4
            go_wp2
            go_quiet (fail)
            go_wp2
            go_returns
            rw [HR2.out]
            exact ⟨none, 0, rfl, World.ownsRow_nil _ _ _ _, below_then HB1.out (below_drew' HM4.out _)⟩
        · have hse : setStep out l2 = (out, re) := by rw [HSS.out]; unfold setR; rw [if_pos (by exact hre)]
          have hR : R = ([], l1, re) := by
            rw [HR.out, HST.out, setsW_bad (by rw [hse]; exact hre), hse]
            show (srt [], _, _) = _
            simp [srt]
          have HR2 := Lib.hid hR
          have hne : (re != 0) = true := by simpa using hre
          clear hse hR hok hre
          go_wp2_with fail
          refine (SP _ ?_).mono ?_
          · exact (HE.out.below HB.out).alloc _
          intro e w2 hF
          obtain ⟨A2, c2, rfl, hr2, hb2⟩ := hF.rd
          clear hF SP
          obtain ⟨b2, off2, rfl, hbl2, hc2⟩ := hr2.at_ (by simp)
          have cf : w2.cell? ⟨b2, off2, none⟩ = some (.string (mk8 fl)) := hc2 0 _ HPS.out
          have HM2 := Lib.hid (HM0.out.trans (hb2.mono HM0.out.size))
          have HB2 := Lib.hid hb2
          clear hr2 hc2 hb2
          go_wp2_with fail
          refine (RG _ ?_).mono ?_
          · exact HE.out.below HM2.out
          rintro e w3 ⟨rfl, hb3⟩
          clear RG cf
          have HM3 := Lib.hid (HM2.out.trans (hb3.mono HM2.out.size))
          have hbl3 : w3.heap[wr.heap.size]? = some (.cells #[.int .i64 l1, .string (mk8 l2)] 96 (0, 0)) := box_below HBL.out (below_then HB2.out hb3)
          have HBL3 := Lib.hid hbl3
          have HR3 := Lib.hid (below_then HBA.out (below_then HB2.out hb3))
          clear hb3 hbl3
          go_wp2
          generalize hWW : (w3.alloc _).alloc _ = W at *
          have hbW : Below w3.heap.size w3 W := by rw [← hWW]; exact ((Below.refl _ _).alloc (Nat.le_refl _) _).alloc (by simp) _
          have cl : W.cell? ⟨wr.heap.size, 0, none⟩ = some (.int .i64 l1) := box_cell (box_below HBL3.out hbW) 0 rfl
          have HM4 := Lib.hid (HM3.out.trans (hbW.mono HM3.out.size))
          clear hWW hbW
          go_quiet (fail)
          go_wp2
          go_returns
          rw [HR2.out]
          exact ⟨none, 0, rfl, World.ownsRow_nil _ _ _ _, below_then HB1.out (below_drew' HM4.out _)⟩
      · have hi : (L.length : Int) ≤ (k : Int) := by omega
        have hR2 : R = (srt out, 0, 0) := by rw [HR.out, HW.out, List.drop_of_length_le (by omega)]; rfl
        have HR2 := Lib.hid hR2
        have SO := sort_any Ao out.length co w1.heap.size out wr hown (by omega)
        have hz1 := hb.size
        have hq := hown.lt
        have HQ := Lib.hid hq
        have HB := Lib.hid hb
        clear hR2 hown hq hb
        go_wp2_with fail
        refine SO.mono ?_
        rintro e w2 ⟨rfl, hown2, hg⟩
        have hb2 := HB.out.grown hg hz1 (fun j hj => (HQ.out j hj).1)
        clear SO hg
        go_wp2
        go_returns
        rw [HR2.out]
        refine ⟨Ao, co, by rw [srt_len]; rfl, ?_, below_then HB1.out hb2⟩
        rw [srt_len]
        exact own_base hown2 HB1.out.size
  · rw [if_pos he]
    have hne : (e0 != 0) = true := by simpa using he
    clear he hlo
    go_enter Tryz.func23, Tryz.ntmps23
    go_wp2_with fail
    refine LN.mono ?_
    rintro e w1 ⟨A, c, rfl, hown, hb⟩
    go_wp2
    go_returns
    exact ⟨none, 0, rfl, World.ownsRow_nil _ _ _ _, hb⟩
end Go.Proofs.YtggichcfklbjiaaGreatDoor
end
end
