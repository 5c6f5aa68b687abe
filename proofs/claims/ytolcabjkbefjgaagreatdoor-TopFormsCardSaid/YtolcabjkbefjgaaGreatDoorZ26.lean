/- utf8.Cut. Which characters are made of two, gathered in any order. Plain. -/
import Derived.Test.YtolcabjkbefjgaaGreatDoorZ25
set_option linter.unusedSimpArgs false
set_option linter.unusedVariables false
set_option maxRecDepth 20000
set_option maxHeartbeats 4000000
namespace Go.Proofs.YtolcabjkbefjgaaGreatDoor
section
open Go.RowKit
theorem cut8_any (s : ByteArray) (w : World) (hU : RowsU w) (hs : s.size <= 1073741824) :
  Calls Tryz.prog 127 #[.string s] w fun e w' => e = .returned (.int .i64 (cutU (bs s))) /\ Below w.heap.size w w' := by
 have HU := hz0q hU;have hl := ze s;have HLN := hz0q hl;clear hU hl;go_enter Tryz.func127, Tryz.ntmps127;go_wp2_with fail
 go_loopw [3] (fun v3 wr => ∃ k : Nat, v3 = .int .i64 k /\ 1 <= k /\ k <= 4 /\ Hid (cutU (bs s) = cutUW (bs s) (4 - k) k) /\ Below w.heap.size w wr) (fun v3 _ => 4 - (intOf v3).toNat)
 case atStart => exact ⟨1, rfl, by omega, by omega, rfl, Below.refl _ _⟩
 case round =>
  obtain ⟨k, rfl, hk1, hk4, HQ, hb⟩ := hrel;obtain ⟨w1, rfl⟩ : ∃ w1, w1 = wr := ⟨wr, rfl⟩;have HB := hz0q hb;clear hb
  by_cases hk : k < 4
  ·have hki : (k : Int) < 4 := (by omega);obtain ⟨m, hm⟩ : ∃ m, 4 - k = m + 1 := ⟨3 - k, by omega⟩
   by_cases hks : k <= s.size
   ·have hksi : (k : Int) <= (s.size : Int) := (by omega);obtain ⟨j, hj⟩ : ∃ j : Nat, (s.size : Int) - (k : Int) = (j : Int) := ⟨s.size - k, by omega⟩;have hjk : s.size - k = j := (by omega);have hjs : j < s.size := (by omega);have hjsi : (j : Int) < (s.size : Int) := (by omega);have hjle : (j : Int) <= (s.size : Int) := (by omega);obtain ⟨b, hb⟩ : ∃ b, b = s[j]'hjs := ⟨_, rfl⟩;have hg : (bs s).getD j 0 = b := by rw [List.getD_eq_getElem?_getD, zlk s j hjs, hb]; rfl
    have HQ2 : Hid (cutU (bs s) = if 0 < (leadU b).1 then (if (nextU ((bs s).drop j)).2.2 = 18 then j else s.size) else cutUW (bs s) m (k + 1)) := by
     show _ = _;rw [HQ.out, hm];show (if k <= (bs s).length then _ else _) = _;rw [if_pos (by rw [HLN.out]; exact hks), HLN.out, hjk, hg]
    have LD := zkx b w1 (HU.out.below HB.out);obtain ⟨bn, hbn⟩ : ∃ bn, bn = b.toNat := ⟨_, rfl⟩;have hcz : ((s[j]'hjs).toNat : Int) = (bn : Int) := (by rw [<- hb, hbn]);rw [<- hbn] at LD;obtain ⟨many, hmany⟩ : ∃ many, many = (leadU b).1 := ⟨_, rfl⟩;rw [<- hmany] at LD HQ2;have hne : bs (s.extract j s.size) = (bs s).drop j := by rw [z8, List.take_of_length_le (by rw [HLN.out]; exact Nat.le_refl _)]
    have NX : Hid (∀ W, Below w1.heap.size w1 W -> Calls Tryz.prog 48 #[.string (s.extract j s.size)] W fun e w' => e = .returned (.tuple #[.int .i32 (nextU ((bs s).drop j)).1, .int .i64 (nextU ((bs s).drop j)).2.1, .int .i64 (nextU ((bs s).drop j)).2.2]) /\ Below W.heap.size W w') := by
     show ∀ W, _;intro W h;have h1 := zfp (s.extract j s.size) W ((HU.out.below HB.out).below h) (by simp; omega);rwa [hne] at h1
    obtain ⟨ev, hev⟩ : ∃ ev, ev = (nextU ((bs s).drop j)).2.2 := ⟨_, rfl⟩;rw [<- hev] at NX HQ2;have HM := hz0q hm;clear hb hg hbn hmany hne hev hjk HQ hm
    by_cases h0 : many = 0
    ·subst h0;have HQ3 : Hid (cutU (bs s) = cutUW (bs s) (4 - (k + 1)) (k + 1)) := (by show _ = _; rw [HQ2.out, if_neg (by omega), show 4 - (k + 1) = m by have := HM.out; omega]);clear HQ2 NX;go_wp2_with fail;refine LD.mono ?_;rintro e w2 ⟨rfl, hb2⟩;have HB2 := hz0q (zb HB.out hb2);clear LD hb2;go_wp2;go_roundw
     case rel => exact ⟨k + 1, by go_num, by omega, by omega, HQ3, HB2.out⟩
     case measure => simp [intOf]; omega
    ·have hm0 : (0 : Int) < (many : Int) := (by omega);go_wp2_with fail;refine LD.mono ?_;rintro e w2 ⟨rfl, hb2⟩;have N2 := NX.out w2 hb2;have HB2 := hz0q (zb HB.out hb2);clear LD hb2 NX;go_wp2_with fail;refine N2.mono ?_;rintro e w3 ⟨rfl, hb3⟩;have HB3 := hz0q (zb HB2.out hb3);clear N2 hb3
     by_cases hv : ev = 18
     ·subst hv;have HR : Hid (cutU (bs s) = j) := (by show _ = _; rw [HQ2.out, if_pos (by omega), if_pos rfl]);clear HQ2;go_wp2;go_returns;exact ⟨by rw [HR.out]; rfl, HB3.out⟩
     ·have hv2 : ((ev : Int) == 18) = false := (by simpa using hv);have HR : Hid (cutU (bs s) = s.size) := (by show _ = _; rw [HQ2.out, if_pos (by omega), if_neg hv]);clear HQ2;go_wp2;go_returns;exact ⟨by rw [HR.out]; rfl, HB3.out⟩
   ·have hksi : decide ((k : Int) <= (s.size : Int)) = false := by simp; omega
    have HR : Hid (cutU (bs s) = s.size) := by
     show _ = _;rw [HQ.out, hm];show (if k <= (bs s).length then _ else _) = _;rw [if_neg (by rw [HLN.out]; exact hks), HLN.out]
    clear HQ hm;go_wp2;go_returns;exact ⟨by rw [HR.out]; rfl, HB.out⟩
  ·obtain rfl : k = 4 := by omega
   have HR : Hid (cutU (bs s) = s.size) := by
    show _ = _;rw [HQ.out];show (bs s).length = _;rw [HLN.out]
   clear HQ;go_wp2;go_returns;exact ⟨by rw [HR.out]; rfl, HB.out⟩
end
section
structure MkI (Q : Int -> Bool) (two : Int -> Int × Int) (hj : Int × Int -> Bool) (ss : List Int) (bad : Bool) (pr : Int × Int -> Option Int) (md : Int -> Option (Int × Int)) (sc : Int -> Option Int) : Prop where
 md : ∀ x, md x = if x ∈ ss /\ Q x = true then some (two x) else none
 pr1 : ∀ p x, pr p = some x -> x ∈ ss /\ Q x = true /\ two x = p
 pr2 : ∀ x ∈ ss, Q x = true -> (pr (two x)).isSome = true
 sc1 : ∀ y, 0 <= gd sc y /\ gd sc y <= ss.length
 sc2 : ∀ y, 0 < gd sc y ↔ ∃ x ∈ ss, Q x = true /\ (two x).2 = y
 ok : bad = false -> (∀ x ∈ ss, Q x = true -> hj (two x) = false) /\ ∀ x ∈ ss, ∀ y ∈ ss, Q x = true -> Q y = true -> two x = two y -> x = y
 no : bad = true -> (∃ x ∈ ss, Q x = true /\ hj (two x) = true) \/ ∃ x ∈ ss, ∃ y ∈ ss, Q x = true /\ Q y = true /\ two x = two y /\ x ≠ y
section
variable {Q : Int -> Bool} {two : Int -> Int × Int} {hj : Int × Int -> Bool} {ss : List Int} {bad : Bool} {pr : Int × Int -> Option Int} {md : Int -> Option (Int × Int)} {sc : Int -> Option Int}
theorem MkI.start : MkI Q two hj [] false (fun _ => none) (fun _ => none) (fun _ => none) where
 md := fun x => by simp
 pr1 := fun p x h => by cases h
 pr2 := fun x h => by cases h
 sc1 := fun y => by simp [gd]
 sc2 := fun y => by simp [gd]
 ok := fun _ => ⟨fun x h => (by cases h), fun x h => (by cases h)⟩
 no := fun h => by cases h
theorem zan {x y : Int} : y ∈ ss ++ [x] ↔ y ∈ ss \/ y = x := by rw [List.mem_append, List.mem_singleton]
theorem MkI.skip (h : MkI Q two hj ss bad pr md sc) {x : Int} (hx : Q x = false) : MkI Q two hj (ss ++ [x]) bad pr md sc := by
 have key : ∀ y, Q y = true -> (y ∈ ss ++ [x] ↔ y ∈ ss) := fun y hy => by
  rw [zan];constructor
  ·rintro (h | rfl)
   ·exact h
   ·rw [hx] at hy; cases hy
  ·exact .inl
 refine ⟨fun y => ?_, fun p y hp => ?_, fun y hy hq => h.pr2 y ((key y hq).1 hy) hq, fun y => ?_, fun y => ?_, fun hb => ?_, fun hb => ?_⟩
 ·rw [h.md y]
  by_cases hq : Q y = true
  ·simp only [key y hq]
  ·simp [hq]
 ·obtain ⟨h1, h2, h3⟩ := h.pr1 p y hp;exact ⟨zan.2 (.inl h1), h2, h3⟩
 ·have := h.sc1 y;simp;omega
 ·rw [h.sc2 y];constructor
  ·rintro ⟨z, h1, h2, h3⟩; exact ⟨z, zan.2 (.inl h1), h2, h3⟩
  ·rintro ⟨z, h1, h2, h3⟩; exact ⟨z, (key z h2).1 h1, h2, h3⟩
 ·obtain ⟨h1, h2⟩ := h.ok hb;exact ⟨fun y hy hq => h1 y ((key y hq).1 hy) hq, fun y hy z hz hqy hqz e => h2 y ((key y hqy).1 hy) z ((key z hqz).1 hz) hqy hqz e⟩
 ·rcases h.no hb with ⟨y, h1, h2⟩ | ⟨y, h1, z, h2, h3⟩
  ·exact .inl ⟨y, zan.2 (.inl h1), h2⟩
  ·exact .inr ⟨y, zan.2 (.inl h1), z, zan.2 (.inl h2), h3⟩
theorem MkI.step (h : MkI Q two hj ss bad pr md sc) {x : Int} (hn : x ∉ ss) (hx : Q x = true) :
  MkI Q two hj (ss ++ [x]) (bad || (pr (two x)).isSome || hj (two x)) (upd pr (two x) (some x)) (upd md x (some (two x))) (upd sc (two x).2 (some (gd sc (two x).2 + 1))) := by
 refine ⟨fun y => ?_, fun p y hp => ?_, fun y hy hq => ?_, fun y => ?_, fun y => ?_, fun hb => ?_, fun hb => ?_⟩
 ·unfold upd
  by_cases e : y = x
  ·subst e; simp [hx]
  ·rw [if_neg e, h.md y];simp [e]
 ·unfold upd at hp
  by_cases e : p = two x
  ·rw [if_pos e] at hp;injection hp with hp;subst hp;exact ⟨by simp, hx, e.symm⟩
  ·rw [if_neg e] at hp;obtain ⟨h1, h2, h3⟩ := h.pr1 p y hp;exact ⟨zan.2 (.inl h1), h2, h3⟩
 ·unfold upd
  by_cases e : two y = two x
  ·rw [if_pos e]; rfl
  ·rw [if_neg e];rcases zan.1 hy with h1 | h1
   ·exact h.pr2 y h1 hq
   ·exact absurd (by rw [h1]) e
 ·rw [zd2];have h1 := h.sc1 y;have h2 := h.sc1 (two x).2;simp;split <;> omega
 ·rw [zd2];have h2 := h.sc1 (two x).2
  by_cases e : y = (two x).2
  ·rw [if_pos e];exact ⟨fun _ => ⟨x, by simp, hx, e.symm⟩, fun _ => by omega⟩
  ·rw [if_neg e, h.sc2 y];constructor
   ·rintro ⟨z, h1, h2, h3⟩; exact ⟨z, zan.2 (.inl h1), h2, h3⟩
   ·rintro ⟨z, h1, h2, h3⟩;rcases zan.1 h1 with h1 | h1
    ·exact ⟨z, h1, h2, h3⟩
    ·rw [h1] at h3; exact absurd h3.symm e
 ·simp only [Bool.or_eq_false_iff] at hb;obtain ⟨⟨b1, b2⟩, b3⟩ := hb;obtain ⟨h1, h2⟩ := h.ok b1
  have hno : ∀ y ∈ ss, Q y = true -> two y ≠ two x := fun y hy hq e => by
   have := h.pr2 y hy hq;rw [e, b2] at this
   cases this
  refine ⟨fun y hy hq => ?_, fun y hy z hz hqy hqz e => ?_⟩
  ·rcases zan.1 hy with hy | hy
   ·exact h1 y hy hq
   ·rw [hy]; exact b3
  ·rcases zan.1 hy with hy | hy <;> rcases zan.1 hz with hz | hz
   ·exact h2 y hy z hz hqy hqz e
   ·rw [hz] at e; exact absurd e (hno y hy hqy)
   ·rw [hy] at e; exact absurd e.symm (hno z hz hqz)
   ·rw [hy, hz]
 ·simp only [Bool.or_eq_true] at hb;rcases hb with (hb | hb) | hb
  ·rcases h.no hb with ⟨y, h1, h2⟩ | ⟨y, h1, z, h2, h3⟩
   ·exact .inl ⟨y, zan.2 (.inl h1), h2⟩
   ·exact .inr ⟨y, zan.2 (.inl h1), z, zan.2 (.inl h2), h3⟩
  ·obtain ⟨y, hy⟩ := Option.isSome_iff_exists.1 hb;obtain ⟨h1, h2, h3⟩ := h.pr1 _ y hy;exact .inr ⟨y, zan.2 (.inl h1), x, by simp, h2, hx, h3, fun e => hn (by rw [<- e]; exact h1)⟩
  ·exact .inl ⟨x, by simp, hx, hb⟩
end
end
end Go.Proofs.YtolcabjkbefjgaaGreatDoor
