/- decomp.Ordered: the code. The document's Ordered: the code. -/
import Derived.Test.YtajkjaciooijjaaGreatDoorH02
import Derived.Test.YtajkjaciooijjaaGreatDoorH05
import Derived.Test.YtajkjaciooijjaaGreatDoorH06
import Derived.Test.YtajkjaciooijjaaGreatDoorH09
import Derived.Test.YtajkjaciooijjaaGreatDoorH04
import Derived.Test.YtajkjaciooijjaaGreatDoorH07
import Derived.Test.YtajkjaciooijjaaGreatDoorH13
import Derived.Test.YtajkjaciooijjaaGreatDoorH14
import Derived.Test.YtajkjaciooijjaaGreatDoorH15
import Derived.Test.YtajkjaciooijjaaGreatDoorH18
import Derived.Test.YtajkjaciooijjaaGreatDoorH08
import Derived.Test.YtajkjaciooijjaaGreatDoorH19
import Derived.Test.YtajkjaciooijjaaGreatDoorH22
import Derived.Test.YtajkjaciooijjaaGreatDoorH25
import Derived.Test.YtajkjaciooijjaaGreatDoorH27
import Derived.Test.YtajkjaciooijjaaGreatDoorH32
import Derived.Test.YtajkjaciooijjaaGreatDoorH28
import Derived.Test.YtajkjaciooijjaaGreatDoorH38
section
set_option linter.unusedSimpArgs false
set_option linter.unusedVariables false
namespace Go.Proofs.YtajkjaciooijjaaGreatDoor
open Go.RowKit
section
variable {w : World} {p : Option Addr} {B : BaseF}
set_option maxRecDepth 20000 in
set_option maxHeartbeats 2000000 in
theorem ordered_any (hB : BaseIs w (.pointer p) B) (A : Option Addr) (n cp : Nat) (xs : List Int) (hrd : Rd w A n (Rs xs)) (hn : xs.length = n) (hx : ∀ x ∈ xs, R32 x) (hn2 : n ≤ 1000000) :
  Calls Tryz.prog 22 #[.pointer p, .slice A n cp] w fun e w' => e = .returned (.bool (B.srt 0 xs)) ∧ Below w.heap.size w w' := by
 have HN := Lib.hid hn
 have HX := Lib.hid hx
 have HB := Lib.hid hB
 have HRD := Lib.hid hrd
 have HS0 : Hid (B.srt 0 xs = B.srt 0 (xs.drop 0)) := rfl
 clear hrd hn hx hB
 go_enter Tryz.func22, Tryz.ntmps22
 go_wp2
 go_loopw [5, 11] (fun s5 i wr => ∃ (k : Nat) (last : Int), k ≤ n ∧ i = .int .i64 k ∧ s5 = .int .i64 last ∧ Hid (B.srt 0 xs = B.srt last (xs.drop k)) ∧ Hid (Below w.heap.size w wr)) (fun _ i _ => n - (intOf i).toNat)
 case atStart => exact ⟨0, 0, Nat.zero_le _, rfl, rfl, HS0, Below.refl _ _⟩
 case round =>
  obtain ⟨k, last, hk, rfl, rfl, HS, HBW⟩ := hrel
  by_cases hlt : k < n
  ·obtain ⟨y, hy⟩ : ∃ y, xs[k]? = some y := ⟨_, List.getElem?_eq_getElem (by rw [HN.out]; exact hlt)⟩
   have C1 := class_is (HB.out.below HBW.out) y (HX.out y (List.mem_of_getElem? hy))
   obtain ⟨b, off, rfl, _, hcx⟩ := (HRD.out.below HBW.out).at_ (by omega)
   have c0 := hcx k (.int .i32 y) (by simp [Rs, hy])
   have hki : (k : Int) < (n : Int) := by omega
   obtain ⟨cl, hcl⟩ : ∃ cl, cl = B.cls y := ⟨_, rfl⟩
   have h0 : 0 ≤ cl := by rw [hcl]; exact B.cls0 y
   have HSR : Hid (B.srt 0 xs = ((decide (cl = 0) || decide (last ≤ cl)) && B.srt cl (xs.drop (k + 1)))) := by
    show _ = _
    have hkl := (List.getElem?_eq_some_iff.1 hy).1
    rw [HS.out, List.drop_eq_getElem_cons hkl, (List.getElem?_eq_some_iff.1 hy).2, hcl]
    rfl
   rw [← hcl] at C1
   clear hy hcx hcl
   go_wp2_with fail
   refine C1.mono ?_
   rintro e w1 ⟨rfl, hb1⟩
   have hbW : Hid (Below w.heap.size w w1) := below_then HBW.out hb1
   clear C1 c0 hb1
   by_cases h1 : 0 < cl
   ·by_cases h2 : cl < last
    ·have HF : Hid (B.srt 0 xs = false) := by
      show _ = _
      rw [HSR.out, decide_eq_false (show ¬ cl = 0 by omega), decide_eq_false (show ¬ last ≤ cl by omega)]
      rfl
     go_wp2
     go_returns
     exact ⟨by rw [HF.out]; rfl, hbW.out⟩
    ·have HG : Hid (B.srt 0 xs = B.srt cl (xs.drop (k + 1))) := by
      show _ = _
      rw [HSR.out, decide_eq_true (show last ≤ cl by omega), Bool.or_true, Bool.true_and]
     go_wp2
     go_roundw
     case rel => exact ⟨k + 1, cl, by omega, by go_num, rfl, HG, hbW⟩
     case measure => simp [intOf]; omega
   ·have HG : Hid (B.srt 0 xs = B.srt cl (xs.drop (k + 1))) := by
     show _ = _
     rw [HSR.out, decide_eq_true (show cl = 0 by omega), Bool.true_or, Bool.true_and]
    go_wp2
    go_roundw
    case rel => exact ⟨k + 1, cl, by omega, by go_num, rfl, HG, hbW⟩
    case measure => simp [intOf]; omega
  ·obtain rfl : k = n := by omega
   have hki : (k : Int) ≤ (k : Int) := Int.le_refl _
   have HT : Hid (B.srt 0 xs = true) := by
    show _ = _
    rw [HS.out, List.drop_eq_nil_of_le (by rw [HN.out]; exact Nat.le_refl _)]
    rfl
   go_wp2
   go_returns
   exact ⟨by rw [HT.out]; rfl, HBW.out⟩
end
end Go.Proofs.YtajkjaciooijjaaGreatDoor
end

section
set_option linter.unusedSimpArgs false
set_option linter.unusedVariables false
namespace Go.Proofs.YtajkjaciooijjaaGreatDoor
open Go.RowKit
section
variable {w : World} {v : Value} {B : BaseF}
set_option maxRecDepth 20000 in
set_option maxHeartbeats 2000000 in
theorem rordered_any (hR : RefIs w v B) (A : Option Addr) (n cp : Nat) (xs : List Int) (hrd : Rd w A n (Rs xs)) (hn : xs.length = n) (hn2 : n ≤ 1000000) :
  Calls Tryz.prog 23 #[v, .slice A n cp] w fun e w' => e = .returned (.bool (B.srt 0 xs)) ∧ w = w' := by
 have HN := Lib.hid hn
 have HR := Lib.hid hR
 have HRD := Lib.hid hrd
 have HS0 : Hid (0 + 1 ≤ n → B.srt 0 xs = B.srt (B.cls (xs.getD 0 0)) (xs.drop (0 + 1))) := fun h => by
  cases xs with
  | nil => have := HN.out; simp at this; omega
  | cons x t =>
   show ((decide (B.cls x = 0) || decide (0 ≤ B.cls x)) && B.srt (B.cls x) t) = _
   rw [decide_eq_true (B.cls0 x), Bool.or_true, Bool.true_and]
   rfl
 clear hrd hn hR
 go_enter Tryz.func23, Tryz.ntmps23
 go_wp2
 go_loopw [5] (fun i wr => ∃ t : Nat, (t + 1 ≤ n ∨ t = 0) ∧ i = .int .i64 ((t : Int) + 1) ∧ Hid (t + 1 ≤ n → B.srt 0 xs = B.srt (B.cls (xs.getD t 0)) (xs.drop (t + 1))) ∧ w = wr) (fun i _ => n + 1 - (intOf i).toNat)
 case atStart => exact ⟨0, .inr rfl, rfl, HS0, rfl⟩
 case round =>
  obtain ⟨t, ht, rfl, HS, rfl⟩ := hrel
  by_cases hlt : t + 1 < n
  ·obtain ⟨y, hy⟩ : ∃ y, xs[t + 1]? = some y := ⟨_, List.getElem?_eq_getElem (by rw [HN.out]; exact hlt)⟩
   obtain ⟨x, hx⟩ : ∃ x, xs[t]? = some x := ⟨_, List.getElem?_eq_getElem (by rw [HN.out]; omega)⟩
   have C1 := rclass_is HR.out y
   have C2 := rclass_is HR.out x
   obtain ⟨b, off, rfl, _, hcx⟩ := HRD.out.at_ (by omega)
   have c0 : w.cell? ⟨b, off + (t + 1), none⟩ = some (.int .i32 y) := hcx (t + 1) (.int .i32 y) (by simp [Rs, hy])
   have c1 : w.cell? ⟨b, off + t, none⟩ = some (.int .i32 x) := hcx t (.int .i32 x) (by simp [Rs, hx])
   have hki : (t : Int) + 1 < (n : Int) := by omega
   have HSR : Hid (B.srt 0 xs = ((decide (B.cls y = 0) || decide (B.cls x ≤ B.cls y)) && B.srt (B.cls y) (xs.drop (t + 2)))) := by
    show _ = _
    have hkl := (List.getElem?_eq_some_iff.1 hy).1
    rw [HS.out (by omega), List.drop_eq_getElem_cons hkl, (List.getElem?_eq_some_iff.1 hy).2, List.getD_eq_getElem?_getD, hx]
    rfl
   have HYD : Hid (xs.getD (t + 1) 0 = y) := by show _ = _; rw [List.getD_eq_getElem?_getD, hy]; rfl
   obtain ⟨cl, hcl⟩ : ∃ cl, cl = B.cls y := ⟨_, rfl⟩
   obtain ⟨cx, hcx2⟩ : ∃ cx, cx = B.cls x := ⟨_, rfl⟩
   have h0 : 0 ≤ cl := by rw [hcl]; exact B.cls0 y
   rw [← hcl] at C1 HSR
   rw [← hcx2] at C2 HSR
   have HCL := Lib.hid hcl
   clear hy hx hcx hcl hcx2
   have HGO : Hid (B.srt 0 xs = B.srt cl (xs.drop (t + 2)) → (t + 1 + 1 ≤ n → B.srt 0 xs = B.srt (B.cls (xs.getD (t + 1) 0)) (xs.drop (t + 1 + 1)))) := fun h _ => by rw [HYD.out, ← HCL.out]; exact h
   go_wp2_with fail
   refine C1.mono ?_
   rintro e w1 ⟨rfl, rfl⟩
   clear C1
   by_cases h1 : 0 < cl
   ·go_wp2_with fail
    refine C2.mono ?_
    rintro e w1 ⟨rfl, rfl⟩
    clear C2
    by_cases h2 : cl < cx
    ·have HF : Hid (B.srt 0 xs = false) := by
      show _ = _
      rw [HSR.out, decide_eq_false (show ¬ cl = 0 by omega), decide_eq_false (show ¬ cx ≤ cl by omega)]
      rfl
     clear c0 c1
     go_wp2
     go_returns
     exact ⟨by rw [HF.out]; rfl, rfl⟩
    ·have HG : Hid (t + 1 + 1 ≤ n → B.srt 0 xs = B.srt (B.cls (xs.getD (t + 1) 0)) (xs.drop (t + 1 + 1))) := HGO.out (by
      rw [HSR.out, decide_eq_true (show cx ≤ cl by omega), Bool.or_true, Bool.true_and])
     clear c0 c1
     go_wp2
     go_roundw
     case rel => exact ⟨t + 1, .inl (by omega), by go_num, HG, trivial⟩
     case measure => simp [intOf]; omega
   ·have HG : Hid (t + 1 + 1 ≤ n → B.srt 0 xs = B.srt (B.cls (xs.getD (t + 1) 0)) (xs.drop (t + 1 + 1))) := HGO.out (by
     rw [HSR.out, decide_eq_true (show cl = 0 by omega), Bool.true_or, Bool.true_and])
    clear c0 c1 C2
    go_wp2
    go_roundw
    case rel => exact ⟨t + 1, .inl (by omega), by go_num, HG, trivial⟩
    case measure => simp [intOf]; omega
  ·have hki : ¬ (t : Int) + 1 < (n : Int) := by omega
   have HT : Hid (B.srt 0 xs = true) := by
    show _ = _
    by_cases h0 : n = 0
    ·have h1 := HN.out
     rw [h0] at h1
     rw [List.length_eq_zero_iff.1 h1]
     rfl
    ·rw [HS.out (by omega), List.drop_eq_nil_of_le (by rw [HN.out]; omega)]
     rfl
   go_wp2
   go_returns
   exact ⟨by rw [HT.out]; rfl, rfl⟩
end
end Go.Proofs.YtajkjaciooijjaaGreatDoor
end
