/- Few: are lines not too many? The code. Both: what lines tell, and the document's answer's: the code. -/
import Derived.RangeFuncNested
import Derived.WideKeyEntry
import Derived.Test.YtajkjaciooijjaaGreatDoorH02
import Derived.Test.YtajkjaciooijjaaGreatDoorH10
import Derived.Test.YtajkjaciooijjaaGreatDoorH13
import Derived.Test.YtajkjaciooijjaaGreatDoorH15
import Derived.Test.YtajkjaciooijjaaGreatDoorH18
import Derived.Test.YtajkjaciooijjaaGreatDoorH08
import Derived.Test.YtajkjaciooijjaaGreatDoorH22
import Derived.Test.YtajkjaciooijjaaGreatDoorH01
import Derived.Test.YtajkjaciooijjaaGreatDoorH09
import Derived.Test.YtajkjaciooijjaaGreatDoorH04
import Derived.Test.YtajkjaciooijjaaGreatDoorH07
import Derived.Test.YtajkjaciooijjaaGreatDoorH06
import Derived.Test.YtajkjaciooijjaaGreatDoorH12
import Derived.Test.YtajkjaciooijjaaGreatDoorH14
import Derived.Test.YtajkjaciooijjaaGreatDoorH19
import Derived.Test.YtajkjaciooijjaaGreatDoorH27
import Derived.Test.YtajkjaciooijjaaGreatDoorH28
import Derived.Test.YtajkjaciooijjaaGreatDoorH29
import Derived.Test.YtajkjaciooijjaaGreatDoorH30
import Derived.Test.YtajkjaciooijjaaGreatDoorH38
section
set_option linter.unusedSimpArgs false
set_option linter.unusedVariables false
namespace Go.Proofs.YtajkjaciooijjaaGreatDoor
open Go.RowKit
theorem few_yes (s o : ByteArray) (w : World) (hs : s.size ≤ 3000) (ho : o.size ≤ 500) : Calls Tryz.prog 26 #[.agg #[.string s, .string o]] w fun e w' => e = .returned (.bool true) ∧ Below w.heap.size w w' := by
 have h1 : (s.size : Int) ≤ 3000 := by omega
 have h2 : (o.size : Int) ≤ 500 := by omega
 have hb : Below w.heap.size w (w.alloc (.cells #[.string s, .string o] 23)) := (Below.refl _ _).alloc (Nat.le_refl _) _
 go_enter Tryz.func26, Tryz.ntmps26
 go_wp2
 go_returns
 exact ⟨rfl, hb⟩
theorem few_no (s o : ByteArray) (w : World) (h : ¬ (s.size ≤ 3000 ∧ o.size ≤ 500)) : Calls Tryz.prog 26 #[.agg #[.string s, .string o]] w fun e w' => e = .returned (.bool false) ∧ Below w.heap.size w w' := by
 have hb : Below w.heap.size w (w.alloc (.cells #[.string s, .string o] 23)) := (Below.refl _ _).alloc (Nat.le_refl _) _
 by_cases h1 : s.size ≤ 3000
 ·have h1' : (s.size : Int) ≤ 3000 := by omega
  have h2 : ¬ ((o.size : Int) ≤ 500) := fun e => h ⟨h1, by omega⟩
  have h3 : decide ((o.size : Int) ≤ 500) = false := decide_eq_false h2
  clear h
  go_enter Tryz.func26, Tryz.ntmps26
  go_wp2
  go_returns
  exact ⟨ret_bool (by first | simp | (simp; omega)), hb⟩
 ·have h2 : ¬ ((s.size : Int) ≤ 3000) := fun e => h1 (by omega)
  clear h
  go_enter Tryz.func26, Tryz.ntmps26
  go_wp2
  go_returns
  exact ⟨rfl, hb⟩
end Go.Proofs.YtajkjaciooijjaaGreatDoor
end

section
set_option linter.unusedSimpArgs false
set_option linter.unusedVariables false
namespace Go.Proofs.YtajkjaciooijjaaGreatDoor
open Go.RowKit
set_option maxRecDepth 20000 in
set_option maxHeartbeats 2000000 in
theorem both_any (s o : ByteArray) (w : World) (hE : Env w) (hk : Kinds w) : Calls Tryz.prog 10 #[.agg #[.string s, .string o]] w (BothP w) := by
 obtain ⟨W0, hW0⟩ : ∃ W0, w.alloc (.cells #[.string s, .string o] 23) = W0 := ⟨_, rfl⟩
 have hB0 : Below w.heap.size w W0 := by
  rw [← hW0]
  exact (Below.refl _ w).alloc (Nat.le_refl _) _
 have bx1 : W0.heap[w.heap.size]? = some (.cells #[.string s, .string o] 23 (0, 0)) := by
  rw [← hW0]
  exact box_new w _ _
 have hc0 := box_cell bx1 0 rfl
 have hc1 := box_cell bx1 1 rfl
 have HP : Hid (∀ e w', BothP w e w' → BothP w e w') := fun _ _ h => h
 by_cases hf : s.size ≤ 3000 ∧ o.size ≤ 500
 rotate_left
 ·have FW := few_no s o W0 hf
  clear hf
  go_enter Tryz.func10, Tryz.ntmps10
  go_wp2_with fail
  refine FW.mono ?_
  rintro e w1 ⟨rfl, hb1⟩
  have hb := below_then hB0 hb1
  clear FW
  go_wp2
  go_returns
  exact .inl ⟨rfl, hb⟩
 have FW := few_yes s o W0 hf.1 hf.2
 have RN := fun W => rnew_any (w := W) s o (by omega) (by omega)
 have NW := fun W (hb : Below W0.heap.size W0 W) => new_any (w := W) s o (hE.below (below_then hB0 hb)) (hk.below' (below_then hB0 hb)) (by omega) (by omega)
 have hg := rows_g (bs s)
 clear hf
 go_enter Tryz.func10, Tryz.ntmps10
 go_wp2_with fail
 refine FW.mono ?_
 rintro e w1 ⟨rfl, hb1⟩
 have hc0 := box_cell (box_below bx1 hb1) 0 rfl
 have hc1 := box_cell (box_below bx1 hb1) 1 rfl
 have R1 := RN w1
 clear FW RN hW0
 go_wp2_with fail
 refine R1.mono ?_
 rintro e w2 (⟨er, her, rfl, hb2⟩ | ⟨rp, os, out, A2, c, c2, rfl, hos, hM, hb2⟩)
 ·have hb := below_then hB0 (below_then hb1 hb2)
  have hne : (er == 0) = false := by simpa using her
  have hne2 : (er != 0) = true := by simpa using her
  clear R1 NW her
  go_wp2
  go_returns
  exact .inl ⟨rfl, hb⟩
 have hb12 := below_then hb1 hb2
 have hc0 := box_cell (box_below bx1 hb12) 0 rfl
 have hc1 := box_cell (box_below bx1 hb12) 1 rfl
 have N1 := NW w2 hb12
 clear R1 NW hb1 hb2
 go_wp2_with fail
 refine N1.mono ?_
 rintro e w3 (⟨_, ⟨er, her, rfl⟩, hb3⟩ | ⟨⟨_, _, hok⟩, hG⟩)
 ·have hb := below_then hB0 (below_then hb12 hb3)
  have hne : (er == 0) = false := by simpa using her
  have hne2 : (er != 0) = true := by simpa using her
  clear N1 her
  go_wp2
  go_returns
  exact .inl ⟨rfl, hb⟩
 obtain ⟨bp, rfl, hB, hb3⟩ := good_is hg hok hG
 have hb := below_then hB0 (below_then hb12 hb3)
 have hR : RefIs w3 (.pointer (some ⟨rp, 0, none⟩)) (baseF hg hok) := ⟨rp, os, _, _, _, _, _, rfl, hM.below hb3, by rw [hos]; exact hg, fun r => by rw [hos]; rfl, fun r => by rw [hos]; rfl, fun x y => by rw [hos]; rfl, fun r => by rw [hos]; rfl⟩
 have hbd := base_bd hg hok
 have HF : Hid (BothP w (.returned (.tuple #[.pointer (some ⟨bp, 0, none⟩), .pointer (some ⟨rp, 0, none⟩)])) w3) := .inr ⟨bp, _, _, rfl, hB, hR, hbd, hb⟩
 clear N1 hG hos hM hB hR
 go_wp2
 go_returns
 exact HF.out
end Go.Proofs.YtajkjaciooijjaaGreatDoor
end
