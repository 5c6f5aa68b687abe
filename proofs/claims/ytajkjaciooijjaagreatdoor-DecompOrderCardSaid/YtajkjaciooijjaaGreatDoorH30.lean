/- New's answers as bases; the chapter's example. How many characters one is: the document's code. -/
import Derived.Test.YtajkjaciooijjaaGreatDoorH02
import Derived.Test.YtajkjaciooijjaaGreatDoorH01
import Derived.Test.YtajkjaciooijjaaGreatDoorH09
import Derived.Test.YtajkjaciooijjaaGreatDoorH04
import Derived.Test.YtajkjaciooijjaaGreatDoorH07
import Derived.Test.YtajkjaciooijjaaGreatDoorH06
import Derived.Test.YtajkjaciooijjaaGreatDoorH13
import Derived.Test.YtajkjaciooijjaaGreatDoorH15
import Derived.Test.YtajkjaciooijjaaGreatDoorH18
import Derived.Test.YtajkjaciooijjaaGreatDoorH20
import Derived.Test.YtajkjaciooijjaaGreatDoorH08
import Derived.Test.YtajkjaciooijjaaGreatDoorH19
import Derived.Test.YtajkjaciooijjaaGreatDoorH21
import Derived.Test.YtajkjaciooijjaaGreatDoorH22
import Derived.Test.YtajkjaciooijjaaGreatDoorH25
import Derived.Test.YtajkjaciooijjaaGreatDoorH26
import Derived.Test.YtajkjaciooijjaaGreatDoorH28
import Derived.Test.YtajkjaciooijjaaGreatDoorH27
import Derived.Test.YtajkjaciooijjaaGreatDoorH29
import Derived.Test.YtajkjaciooijjaaGreatDoorH05
section
set_option linter.unusedSimpArgs false
set_option linter.unusedVariables false
namespace Go.Proofs.YtajkjaciooijjaaGreatDoor
open Go.RowKit Go.Lib Go.Maps
def NewIs (B : BaseF) (w : World) (e : Ending) (w' : World) : Prop := ∃ bp, e = .returned (.tuple #[.pointer (some ⟨bp, 0, none⟩), .int .i64 0]) ∧ BaseIs w' (.pointer (some ⟨bp, 0, none⟩)) B ∧ Below w.heap.size w w'
theorem good_is {rows : List RowS} {out : List Int} (g : RowsG rows) (h : NewOk rows out) {w w' : World} {e : Ending} (hG : NewGood rows out w e w') : NewIs (baseF g h) w e w' := by
 obtain ⟨bp, a, n, ss, pr, md, sc, rfl, hM, _, hA, hI, _, hb⟩ := hG
 have hall : ∀ x, madeQ (clsL rows) (prtL rows) out x = true → x ∈ ss := fun x hx => by
  have h1 := (madeQ_true hx).1
  exact (hA.2 x).2 ⟨allR_R (g.into x _ h1).1, by rw [h1]; rfl⟩
 obtain ⟨h1, h2⟩ := mk_pair h hI hall
 refine ⟨bp, rfl, .inr ⟨bp, a, n, _, _, pr, md, sc, rfl, hM, fun _ => rfl, fun _ => rfl, fun x y => ?_, fun r => ?_⟩, hb⟩
 ·show pairH (prL rows out) x y = pairH pr x y
  unfold pairH
  rw [h1]
 ·show secH (scL rows out) r = secH sc r
  exact (h2 r).symm
theorem new_is {s o : ByteArray} {rows : List RowS} {out : List Int} (g : RowsG rows) (h : NewOk rows out) (hr : rowsS (bs s) = (rows, 0, 0)) (ho : setsS (bs o) = (out, 0, 0)) (w : World) (hE : Env w) (hk : Kinds w) (hs : s.size ≤ 1073741824) (ho1 : o.size ≤ 1073741824) :
  Calls Tryz.prog 28 #[.string s, .string o] w (NewIs (baseF g h) w) := (new_any s o hE hk hs ho1).mono fun e w' hp => by
 rcases hp with ⟨hn, _⟩ | ⟨_, hg⟩
 ·refine absurd ?_ hn
  unfold NewC
  rw [hr, ho]
  exact ⟨rfl, rfl, h⟩
 ·rw [hr, ho] at hg
  exact good_is g h hg
end Go.Proofs.YtajkjaciooijjaaGreatDoor
end

section
set_option linter.unusedSimpArgs false
set_option linter.unusedVariables false
namespace Go.Proofs.YtajkjaciooijjaaGreatDoor
open Go.RowKit
def RManyP (w : World) (e : Ending) (w' : World) : Prop := (∃ v : Int, e = .returned (.int .i64 v) ∧ 1 ≤ v ∧ v ≤ 19) ∧ Below w.heap.size w w'
section
variable {w0 : World} {rp : Nat} {os : List RA} {out : List Int} {A A2 : Option Addr} {c c2 : Nat}
set_option maxRecDepth 20000 in
set_option maxHeartbeats 4000000 in
theorem rmany_any (h : RefM w0 rp os out A A2 c c2) (g : RowsG (os.map (·.1))) (r : Int) (hE : Ends (fun x => (decH (prtL (os.map (·.1))) x).2) r) : ∀ (w : World), Below w0.heap.size w0 w → R32 r →
  Calls Tryz.prog 39 #[.pointer (some ⟨rp, 0, none⟩), .int .i32 r] w (RManyP w) := by
 induction hE with
 | intro r hacc ih =>
  intro w hb hr
  have D0 := rdecomp_any h hb g r hr
  have hR : ∀ y ∈ (decH (prtL (os.map (·.1))) r).2, R32 y := (dec_bd (prt := prtL (os.map (·.1))) (fun r q hq => by obtain ⟨_, h1, h2, _⟩ := g.into r q hq; exact ⟨fun y hy => allR_R (h1 y hy), h2⟩) r).1
  have hL : (decH (prtL (os.map (·.1))) r).2.length ≤ 18 := (dec_bd (prt := prtL (os.map (·.1))) (fun r q hq => by obtain ⟨_, h1, h2, _⟩ := g.into r q hq; exact ⟨fun y hy => allR_R (h1 y hy), h2⟩) r).2
  obtain ⟨il, hil⟩ : ∃ il, il = (decH (prtL (os.map (·.1))) r).2 := ⟨_, rfl⟩
  obtain ⟨kd, hkd⟩ : ∃ kd, kd = (decH (prtL (os.map (·.1))) r).1 := ⟨_, rfl⟩
  have HIH : Hid (∀ y ∈ il, ∀ W, Below w0.heap.size w0 W → Calls Tryz.prog 39 #[.pointer (some ⟨rp, 0, none⟩), .int .i32 y] W (RManyP W)) := fun y hy W hW => ih y (by rw [hil] at hy; exact hy) W hW (hR y (by rw [hil] at hy; exact hy))
  rw [← hil, ← hkd] at D0
  rw [← hil] at hL
  clear ih hR hacc hil hkd h g
  by_cases h0 : il = []
  ·subst h0
   go_enter Tryz.func39, Tryz.ntmps39
   go_wp2_with fail
   refine D0.mono ?_
   rintro e w1 ⟨Ad, cd, rfl, _, hb1, _⟩
   clear D0
   go_wp2
   go_returns
   exact ⟨⟨1, rfl, by omega, by omega⟩, hb1⟩
  ·have hpos : 0 < il.length := List.length_pos_iff.2 h0
   have hne : ((il.length : Int) == 0) = false := by simpa using h0
   clear h0
   go_enter Tryz.func39, Tryz.ntmps39
   go_wp2_with fail
   refine D0.mono ?_
   rintro e w1 ⟨Ad, cd, rfl, hrd, hb1, _⟩
   have HRD := Lib.hid hrd
   have HB0 := Lib.hid (below_then hb hb1)
   clear D0 hrd
   go_wp2
   go_loopw [7, 8] (fun s7 s8 wr => ∃ (n : Int) (k : Nat), s7 = .int .i64 n ∧ s8 = .int .i64 k ∧ 0 ≤ n ∧ n ≤ 37 ∧ (0 < k → 1 ≤ n) ∧ k ≤ il.length ∧ Below w1.heap.size w1 wr) (fun _ s8 _ => il.length - (intOf s8).toNat)
   case atStart => exact ⟨0, 0, rfl, rfl, by omega, by omega, fun h => absurd h (by omega), Nat.zero_le _, Below.refl _ _⟩
   case round =>
    obtain ⟨n, k, rfl, rfl, hn0, hn1, hn2, hk, hbw⟩ := hrel
    by_cases hlt : k < il.length
    ·have hi : (k : Int) < (il.length : Int) := by omega
     by_cases h19 : n < 19
     ·obtain ⟨y, hy⟩ : ∃ y, il[k]? = some y := ⟨_, List.getElem?_eq_getElem hlt⟩
      obtain ⟨b, off, rfl, hbl, hc⟩ := HRD.out.at_ (by omega)
      have c0 : wr.cell? ⟨b, off + k, none⟩ = some (.int .i32 y) := (hbw.cell (p := ⟨b, off + k, none⟩) hbl).trans (hc k _ (by simp [Rs, hy]))
      have MY := HIH.out y (List.mem_of_getElem? hy) wr (below_then HB0.out hbw)
      clear hy hc
      go_wp2_with fail
      refine MY.mono ?_
      rintro e w2 ⟨⟨v, rfl, hv1, hv2⟩, hb2⟩
      have hb3 := below_then hbw hb2
      clear MY c0
      go_wp2
      go_roundw
      case rel => exact ⟨n + v, k + 1, rfl, by go_num, by omega, by omega, fun _ => by omega, by omega, hb3⟩
      case measure => simp [intOf]; omega
     ·have h19' : ¬ n < 19 := h19
      have hmin : min n 19 = 19 := by omega
      go_wp2
      go_returns
      exact ⟨⟨_, rfl, by first | omega | (rw [hmin]; omega), by first | omega | (rw [hmin]; omega)⟩, below_then hb1 hbw⟩
    ·obtain rfl : k = il.length := by omega
     have hi : (il.length : Int) ≤ (il.length : Int) := Int.le_refl _
     have hn3 := hn2 hpos
     go_wp2
     go_returns
     exact ⟨⟨_, rfl, by omega, by omega⟩, below_then hb1 hbw⟩
end
end Go.Proofs.YtajkjaciooijjaaGreatDoor
end
