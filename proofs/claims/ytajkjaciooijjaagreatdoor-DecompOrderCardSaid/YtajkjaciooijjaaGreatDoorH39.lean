/- decomp.One: the code. The document's One: the code. -/
import Derived.Test.YtajkjaciooijjaaGreatDoorH02
import Derived.Test.YtajkjaciooijjaaGreatDoorH05
import Derived.Test.YtajkjaciooijjaaGreatDoorH06
import Derived.Test.YtajkjaciooijjaaGreatDoorH09
import Derived.Test.YtajkjaciooijjaaGreatDoorH10
import Derived.Test.YtajkjaciooijjaaGreatDoorH04
import Derived.Test.YtajkjaciooijjaaGreatDoorH07
import Derived.Test.YtajkjaciooijjaaGreatDoorH13
import Derived.Test.YtajkjaciooijjaaGreatDoorH14
import Derived.Test.YtajkjaciooijjaaGreatDoorH15
import Derived.Test.YtajkjaciooijjaaGreatDoorH18
import Derived.Test.YtajkjaciooijjaaGreatDoorH08
import Derived.Test.YtajkjaciooijjaaGreatDoorH19
import Derived.Test.YtajkjaciooijjaaGreatDoorH22
import Derived.Test.YtajkjaciooijjaaGreatDoorH27
import Derived.Test.YtajkjaciooijjaaGreatDoorH32
import Derived.Test.YtajkjaciooijjaaGreatDoorH35
import Derived.Test.YtajkjaciooijjaaGreatDoorH28
import Derived.Test.YtajkjaciooijjaaGreatDoorH38
import Derived.Test.YtajkjaciooijjaaGreatDoorH01
import Derived.Test.YtajkjaciooijjaaGreatDoorH12
import Derived.Test.YtajkjaciooijjaaGreatDoorH25
section
set_option linter.unusedSimpArgs false
set_option linter.unusedVariables false
namespace Go.Proofs.YtajkjaciooijjaaGreatDoor
open Go.RowKit
section
variable {w : World} {p : Option Addr} {B : BaseF}
set_option maxRecDepth 20000 in
set_option maxHeartbeats 2000000 in
theorem one_any (hB : BaseIs w (.pointer p) B) (hk : Kinds w) (hbd : BaseBd B) (c : Bool) (r : Int) (hr : R32 r) : Calls Tryz.prog 13 #[.pointer p, .bool c, .int .i32 r] w (FreshR w (B.one c r)) := by
 have hmf : ∀ (fn : Fn) (first cap : Array Value) (w : World), (Instr.makeFunc fn first cap).run Tryz.prog w = .ok (.func fn first cap) w := fun _ _ _ _ => rfl
 have hsf : ∀ (a : Addr) (fn : Fn) (first cap : Array Value) (w : World), (store a (.func fn first cap)).run Tryz.prog w = stored Tryz.prog w a (.func fn first cap) .plain := fun a fn first cap w => run_store Tryz.prog w a _ .plain rfl
 obtain ⟨W4, hW4⟩ : ∃ W4, (((w.alloc (.cells #[.pointer p] 24)).alloc (.cells #[.bool c] 4)).alloc (.cells #[.slice none 0 0] 30)).alloc (.cells #[oneFn w.heap.size] 59) = W4 := ⟨_, rfl⟩
 have hb4 : Below w.heap.size w W4 := by
  rw [← hW4]
  exact ((((Below.refl _ w).alloc (Nat.le_refl _) _).alloc (by simp) _).alloc (by simp; omega) _).alloc (by simp; omega) _
 have st : OneSt w w.heap.size (.pointer p) c [] (.slice none 0 0) W4 := by
  rw [← hW4]
  refine ⟨by rw [hW4]; exact hb4, ?_, ?_, ?_, ?_, World.ownsRow_nil _ _ _ _⟩
  ·exact (((Boxed.new w _ _).alloc _).alloc _).alloc _
  ·have := Boxed.new (w.alloc (.cells #[.pointer p] 24)) 4 (.bool c)
   rw [World.size_alloc] at this
   exact (this.alloc _).alloc _
  ·have := Boxed.new ((w.alloc (.cells #[.pointer p] 24)).alloc (.cells #[.bool c] 4)) 30 (.slice none 0 0)
   rw [World.size_alloc, World.size_alloc] at this
   exact this.alloc _
  ·have := Boxed.new (((w.alloc (.cells #[.pointer p] 24)).alloc (.cells #[.bool c] 4)).alloc (.cells #[.slice none 0 0] 30)) 59 (oneFn w.heap.size)
   rw [World.size_alloc, World.size_alloc, World.size_alloc] at this
   exact this
 have OC := onec_any (w0 := w) (q := w.heap.size) (bv := .pointer p) (B := B) (c := c) (fun W hb => ⟨hB.below hb, hk.below' hb⟩) hbd r hr [] (.slice none 0 0) W4 st (by have := hbd.len c r; simp; omega)
 have hq4 : w.heap.size + 3 < W4.heap.size := st.b8.lt
 have c8 : W4.cell? ⟨w.heap.size + 1 + 1 + 1, 0, none⟩ = some (oneFn w.heap.size) := st.b8.cell
 clear hb4 st hB
 go_enter Tryz.func13, Tryz.ntmps13
 go_wp2_with fail
 refine OC.mono ?_
 rintro e w1 ⟨rv, ⟨v, rfl⟩, st1, _, _⟩
 have c7 := st1.b7.cell
 have c7' : w1.cell? ⟨w.heap.size + 1 + 1, 0, none⟩ = some rv := c7
 have hown := st1.own
 have hb1 := st1.hb
 rw [List.nil_append] at hown
 obtain ⟨A, cp, hv, _, _, _⟩ := Rd.of_own hown
 subst hv
 have HF : Hid (FreshR w (B.one c r) (.returned (.slice A (B.one c r).length cp)) w1) := ⟨A, cp, rfl, own_base hown (by omega), hb1⟩
 clear OC st1 hown hb1
 go_wp2
 go_returns
 exact HF.out
end
end Go.Proofs.YtajkjaciooijjaaGreatDoor
end

section
set_option linter.unusedSimpArgs false
set_option linter.unusedVariables false
namespace Go.Proofs.YtajkjaciooijjaaGreatDoor
open Go.RowKit
section
variable {w0 : World} {v : Value} {B : BaseF} {c : Bool}
set_option maxRecDepth 20000 in
set_option maxHeartbeats 4000000 in
theorem rone_any (hR : RefIs w0 v B) (hbd : BaseBd B) (r : Int) : R32 r → ∀ w, Below w0.heap.size w0 w → Calls Tryz.prog 14 #[v, .bool c, .int .i32 r] w (FreshR w (B.one c r)) := by
 induction r using B.wf.induction with
 | _ r ih =>
 intro hr w hw
 have D1 := rdecomp_is (hR.below hw) (Below.refl _ _) r hr
 obtain ⟨kd, il, hd⟩ : ∃ kd il, B.dec r = (kd, il) := ⟨_, _, rfl⟩
 rw [hd] at D1
 have hil : ∀ y ∈ il, R32 y := by have := hbd.dec r; rw [hd] at this; exact this
 have hl18 : il.length ≤ 18 := by have := hbd.declen r; rw [hd] at this; exact this
 have HIH : Hid (∀ y ∈ il, ∀ w, Below w0.heap.size w0 w → Calls Tryz.prog 14 #[v, .bool c, .int .i32 y] w (FreshR w (B.one c y))) := fun y hy => ih y (by rw [hd]; exact hy) (hil y hy)
 have HPA : Hid (B.parts c r = if kd ≠ [] ∧ c = false then [] else il) := by show _ = _; unfold BaseF.parts; rw [hd]
 have HLEN := Lib.hid (hbd.len c r)
 have HW := Lib.hid hw
 clear ih hd hil hbd hw hR
 go_enter Tryz.func14, Tryz.ntmps14
 go_wp2_with fail
 refine D1.mono ?_
 rintro e w1 ⟨A, cp, rfl, hrd, hb1, _⟩
 clear D1
 by_cases h0 : il = []
 ·subst h0
  have HP : Hid (B.parts c r = []) := by show _ = _; rw [HPA.out]; split <;> rfl
  clear hrd
  have hone : B.one c r = [r] := B.one_none HP.out
  have hown : (w1.alloc (.cells #[.int .i32 r] 21)).ownsRow w.heap.size 21 1 (.slice (some ⟨w1.heap.size, 0, none⟩) 1 1) 1 (Rs [r]) :=
   ⟨rfl, .inr ⟨w1.heap.size, 1, #[.int .i32 r], rfl, hb1.size, box_new _ _ _, Nat.le_refl _, by unfold maxLen; omega, rfl, rfl⟩⟩
  have hb2 : Below w.heap.size w (w1.alloc (.cells #[.int .i32 r] 21)) := hb1.alloc hb1.size _
  have HF : Hid (FreshR w (B.one c r) (.returned (.slice (some ⟨w1.heap.size, 0, none⟩) 1 1)) (w1.alloc (.cells #[.int .i32 r] 21))) := by
   show FreshR _ _ _ _
   rw [hone]
   exact ⟨_, _, rfl, hown, hb2⟩
  clear hone hown hb2 hb1
  go_wp2
  go_returns
  exact HF.out
 ·have hpos : 0 < il.length := List.length_pos_iff.2 h0
  obtain ⟨m, hm⟩ : ∃ m, m = il.length := ⟨_, rfl⟩
  have hmz : ((m : Int) == 0) = false := by simp; omega
  have HM := Lib.hid hm
  have HH0 := Lib.hid h0
  clear h0
  by_cases hkc : kd ≠ [] ∧ c = false
  ·have HP : Hid (B.parts c r = []) := by show _ = _; rw [HPA.out, if_pos hkc]
   obtain ⟨hk0, rfl⟩ := hkc
   have hte : (mk8 kd).toList.isEmpty = false := by
    rw [toList_bs, bs_mk8]
    cases kd with
    | nil => exact absurd rfl hk0
    | cons a t => rfl
   rw [← hm]
   clear hrd hk0 hm hpos
   have hone : B.one false r = [r] := B.one_none HP.out
   have hown : (w1.alloc (.cells #[.int .i32 r] 21)).ownsRow w.heap.size 21 1 (.slice (some ⟨w1.heap.size, 0, none⟩) 1 1) 1 (Rs [r]) :=
    ⟨rfl, .inr ⟨w1.heap.size, 1, #[.int .i32 r], rfl, hb1.size, box_new _ _ _, Nat.le_refl _, by unfold maxLen; omega, rfl, rfl⟩⟩
   have hb2 : Below w.heap.size w (w1.alloc (.cells #[.int .i32 r] 21)) := hb1.alloc hb1.size _
   have HF : Hid (FreshR w (B.one false r) (.returned (.slice (some ⟨w1.heap.size, 0, none⟩) 1 1)) (w1.alloc (.cells #[.int .i32 r] 21))) := by
    show FreshR _ _ _ _
    rw [hone]
    exact ⟨_, _, rfl, hown, hb2⟩
   clear hone hown hb2 hb1
   go_wp2
   go_returns
   exact HF.out
  ·have HP : Hid (B.one c r = il.flatMap (B.one c)) := by
    show _ = _
    have hp : B.parts c r = il := by rw [HPA.out, if_neg hkc]
    rw [B.one_some (by rw [hp]; exact HH0.out), hp]
   have HRD := Lib.hid hrd
   have hb1s := hb1.size
   have HB1 := Lib.hid hb1
   rw [← hm]
   have hm18 : m ≤ 18 := by omega
   by_cases hk0 : kd = []
   ·subst hk0
    have hte : (mk8 ([] : List UInt8)).toList.isEmpty = true := by rw [toList_bs, bs_mk8]; rfl
    clear hrd hkc hm hb1 hl18 hpos
    go_wp2
    go_loopw [9, 10] (fun s9 i wr => ∃ (k : Nat) (out : List Int) (A9 : Option Addr) (c9 : Nat), k ≤ m ∧ i = .int .i64 k ∧ s9 = .slice A9 out.length c9 ∧ Hid (out = (il.take k).flatMap (B.one c)) ∧ Hid (wr.ownsRow w1.heap.size 21 1 (.slice A9 out.length c9) out.length (Rs out)) ∧ Hid (Below w1.heap.size w1 wr)) (fun _ i _ => m - (intOf i).toNat)
    case atStart => exact ⟨0, [], none, 0, Nat.zero_le _, rfl, rfl, rfl, World.ownsRow_nil _ _ _ _, Below.refl _ _⟩
    case round =>
     obtain ⟨k, out, A9, c9, hk, rfl, rfl, HOUT, HOWN, HBW⟩ := hrel
     have hol : out.length ≤ 54 := by
      have h1 := HLEN.out
      rw [HP.out] at h1
      have := flat_le (f := B.one c) (l := il) k
      rw [HOUT.out]
      omega
     by_cases hlt : k < m
     ·obtain ⟨y, hy⟩ : ∃ y, il[k]? = some y := ⟨_, List.getElem?_eq_getElem (by rw [← HM.out]; exact hlt)⟩
      have REC := HIH.out y (List.mem_of_getElem? hy) wr (below_then HW.out (below_then HB1.out HBW.out))
      have hly : (B.one c y).length ≤ 54 := by
       have h1 := HLEN.out
       rw [HP.out] at h1
       have h2 := flat_le (f := B.one c) (l := il) (k + 1)
       rw [flat_take hy, List.length_append] at h2
       omega
      obtain ⟨b, off, rfl, _, hcx⟩ := (HRD.out.below HBW.out).at_ (by rw [← HM.out]; omega)
      have c0 := hcx k (.int .i32 y) (by simp [Rs, hy])
      have hki : (k : Int) < (m : Int) := by omega
      have HFT := Lib.hid (flat_take (f := B.one c) hy)
      obtain ⟨ys, hys⟩ : ∃ ys, ys = B.one c y := ⟨_, rfl⟩
      rw [← hys] at REC hly
      have HYS := Lib.hid hys
      clear hy hcx hys
      go_wp2_with fail
      refine REC.mono ?_
      rintro e w2 ⟨A2, c2, rfl, hown2, hb2⟩
      obtain ⟨A3, c3, hv3, _, _, hrd2⟩ := Rd.of_own hown2
      injection hv3 with e1 _ e3
      subst e1 e3
      have hownD := own_below HOWN.out hb2
      have hbW := below_then HBW.out hb2
      have hbs := hbW.size
      have hone := Rs_one ys
      clear hown2 REC c0 hb2
      go_wp2_with (at_builtin; refine wpList_app runeElem _ rfl _ _ rfl w1.heap.size rfl hownD rfl hrd2 hone (by omega) (by omega) hbs ?_)
      intro A4 c4 w4 hown4 hg4 hat4
      have hb4 := below_app hbW hbs hownD hg4
      have HO : Hid (out ++ ys = (il.take (k + 1)).flatMap (B.one c)) := by show _ = _; rw [HFT.out, HOUT.out, HYS.out]
      have hln : out.length + ys.length = (out ++ ys).length := by simp
      have HN : Hid (w4.ownsRow w1.heap.size 21 1 (.slice A4 (out ++ ys).length c4) (out ++ ys).length (Rs (out ++ ys))) := by
       show w4.ownsRow _ _ _ _ _ _
       rw [← hln]
       simpa [Rs] using hown4
      have HB4 := Lib.hid hb4
      rw [hln]
      obtain ⟨o2, ho2⟩ : ∃ o2, o2 = out ++ ys := ⟨_, rfl⟩
      rw [← ho2] at HO HN ⊢
      clear hown4 hg4 hat4 hownD hbW hrd2 hb4 hln hone ho2
      go_wp2
      go_roundw
      case rel => exact ⟨k + 1, o2, A4, c4, by omega, by go_num, rfl, HO, HN, HB4⟩
      case measure => simp [intOf]; omega
     ·obtain rfl : k = m := by omega
      have hki : (k : Int) ≤ (k : Int) := Int.le_refl _
      have HF : Hid (FreshR w (B.one c r) (.returned (.slice A9 out.length c9)) wr) := by
       show FreshR _ _ _ _
       have h1 := HOUT.out
       rw [HM.out, List.take_length] at h1
       rw [HP.out, ← h1]
       exact ⟨_, _, rfl, own_base HOWN.out hb1s, below_then HB1.out HBW.out⟩
      go_wp2
      go_returns
      exact HF.out
   ·obtain rfl : c = true := by
     cases c with
     | true => rfl
     | false => exact absurd ⟨hk0, rfl⟩ hkc
    have hte : (mk8 kd).toList.isEmpty = false := by
     rw [toList_bs, bs_mk8]
     cases kd with
     | nil => exact absurd rfl hk0
     | cons a t => rfl
    clear hrd hkc hk0 hm hb1 hl18 hpos
    go_wp2
    go_loopw [9, 10] (fun s9 i wr => ∃ (k : Nat) (out : List Int) (A9 : Option Addr) (c9 : Nat), k ≤ m ∧ i = .int .i64 k ∧ s9 = .slice A9 out.length c9 ∧ Hid (out = (il.take k).flatMap (B.one true)) ∧ Hid (wr.ownsRow w1.heap.size 21 1 (.slice A9 out.length c9) out.length (Rs out)) ∧ Hid (Below w1.heap.size w1 wr)) (fun _ i _ => m - (intOf i).toNat)
    case atStart => exact ⟨0, [], none, 0, Nat.zero_le _, rfl, rfl, rfl, World.ownsRow_nil _ _ _ _, Below.refl _ _⟩
    case round =>
     obtain ⟨k, out, A9, c9, hk, rfl, rfl, HOUT, HOWN, HBW⟩ := hrel
     have hol : out.length ≤ 54 := by
      have h1 := HLEN.out
      rw [HP.out] at h1
      have := flat_le (f := B.one true) (l := il) k
      rw [HOUT.out]
      omega
     by_cases hlt : k < m
     ·obtain ⟨y, hy⟩ : ∃ y, il[k]? = some y := ⟨_, List.getElem?_eq_getElem (by rw [← HM.out]; exact hlt)⟩
      have REC := HIH.out y (List.mem_of_getElem? hy) wr (below_then HW.out (below_then HB1.out HBW.out))
      have hly : (B.one true y).length ≤ 54 := by
       have h1 := HLEN.out
       rw [HP.out] at h1
       have h2 := flat_le (f := B.one true) (l := il) (k + 1)
       rw [flat_take hy, List.length_append] at h2
       omega
      obtain ⟨b, off, rfl, _, hcx⟩ := (HRD.out.below HBW.out).at_ (by rw [← HM.out]; omega)
      have c0 := hcx k (.int .i32 y) (by simp [Rs, hy])
      have hki : (k : Int) < (m : Int) := by omega
      have HFT := Lib.hid (flat_take (f := B.one true) hy)
      obtain ⟨ys, hys⟩ : ∃ ys, ys = B.one true y := ⟨_, rfl⟩
      rw [← hys] at REC hly
      have HYS := Lib.hid hys
      clear hy hcx hys
      go_wp2_with fail
      refine REC.mono ?_
      rintro e w2 ⟨A2, c2, rfl, hown2, hb2⟩
      obtain ⟨A3, c3, hv3, _, _, hrd2⟩ := Rd.of_own hown2
      injection hv3 with e1 _ e3
      subst e1 e3
      have hownD := own_below HOWN.out hb2
      have hbW := below_then HBW.out hb2
      have hbs := hbW.size
      have hone := Rs_one ys
      clear hown2 REC c0 hb2
      go_wp2_with (at_builtin; refine wpList_app runeElem _ rfl _ _ rfl w1.heap.size rfl hownD rfl hrd2 hone (by omega) (by omega) hbs ?_)
      intro A4 c4 w4 hown4 hg4 hat4
      have hb4 := below_app hbW hbs hownD hg4
      have HO : Hid (out ++ ys = (il.take (k + 1)).flatMap (B.one true)) := by show _ = _; rw [HFT.out, HOUT.out, HYS.out]
      have hln : out.length + ys.length = (out ++ ys).length := by simp
      have HN : Hid (w4.ownsRow w1.heap.size 21 1 (.slice A4 (out ++ ys).length c4) (out ++ ys).length (Rs (out ++ ys))) := by
       show w4.ownsRow _ _ _ _ _ _
       rw [← hln]
       simpa [Rs] using hown4
      have HB4 := Lib.hid hb4
      rw [hln]
      obtain ⟨o2, ho2⟩ : ∃ o2, o2 = out ++ ys := ⟨_, rfl⟩
      rw [← ho2] at HO HN ⊢
      clear hown4 hg4 hat4 hownD hbW hrd2 hb4 hln hone ho2
      go_wp2
      go_roundw
      case rel => exact ⟨k + 1, o2, A4, c4, by omega, by go_num, rfl, HO, HN, HB4⟩
      case measure => simp [intOf]; omega
     ·obtain rfl : k = m := by omega
      have hki : (k : Int) ≤ (k : Int) := Int.le_refl _
      have HF : Hid (FreshR w (B.one true r) (.returned (.slice A9 out.length c9)) wr) := by
       show FreshR _ _ _ _
       have h1 := HOUT.out
       rw [HM.out, List.take_length] at h1
       rw [HP.out, ← h1]
       exact ⟨_, _, rfl, own_base HOWN.out hb1s, below_then HB1.out HBW.out⟩
      go_wp2
      go_returns
      exact HF.out
end
end Go.Proofs.YtajkjaciooijjaaGreatDoor
end
