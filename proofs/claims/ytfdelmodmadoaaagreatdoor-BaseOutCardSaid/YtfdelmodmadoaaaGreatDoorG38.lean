/- New's answers as bases; the chapter's example. The example of the chapter on bases: true. -/
import Derived.Test.YtfdelmodmadoaaaGreatDoorG37
set_option linter.unusedSimpArgs false
set_option linter.unusedVariables false
set_option maxRecDepth 20000
set_option maxHeartbeats 4000000
namespace Go.Proofs.YtfdelmodmadoaaaGreatDoor
section
open Go.RowKit Go.Lib Go.Maps
def NewIs (B : BaseF) (w : World) (e : Ending) (w' : World) : Prop := ∃ bp, e = .returned (.tuple #[.pointer (some ⟨bp, 0, none⟩), .int .i64 0]) /\ zck w' (.pointer (some ⟨bp, 0, none⟩)) B /\ Below w.heap.size w w'
theorem zh1 {rows : List RowS} {out : List Int} (g : RowsG rows) (h : NewOk rows out) {w w' : World} {e : Ending} (hG : zfc rows out w e w') : NewIs (baseF g h) w e w' := by
 obtain ⟨bp, a, n, ss, pr, md, sc, rfl, hM, _, hA, hI, _, hb⟩ := hG
 have hall : ∀ x, madeQ (clsL rows) (prtL rows) out x = true -> x ∈ ss := fun x hx => by
  have h1 := (zbb hx).1;exact (hA.2 x).2 ⟨zb7 (g.into x _ h1).1, by rw [h1]; rfl⟩
 obtain ⟨h1, h2⟩ := mk_pair h hI hall;refine ⟨bp, rfl, .inr ⟨bp, a, n, _, _, pr, md, sc, rfl, hM, fun _ => rfl, fun _ => rfl, fun x y => ?_, fun r => ?_⟩, hb⟩
 ·show pairH (prL rows out) x y = pairH pr x y;unfold pairH;rw [h1]
 ·show secH (scL rows out) r = secH sc r;exact (h2 r).symm
theorem zjz {s o : ByteArray} {rows : List RowS} {out : List Int} (g : RowsG rows) (h : NewOk rows out) (hr : rowsS (bs s) = (rows, 0, 0)) (ho : setsS (bs o) = (out, 0, 0)) (w : World) (hE : Env w) (hk : Kinds w) (hs : s.size <= 1073741824) (ho1 : o.size <= 1073741824) :
  Calls Tryz.prog 9 #[.string s, .string o] w (NewIs (baseF g h) w) := (zdv s o hE hk hs ho1).mono fun e w' hp => by
 rcases hp with ⟨hn, _⟩ | ⟨_, hg⟩
 ·refine absurd ?_ hn;unfold NewC;rw [hr, ho];exact ⟨rfl, rfl, h⟩
 ·rw [hr, ho] at hg;exact zh1 g h hg
end
section
open Go.RowKit Go.Lib Go.Maps
theorem aw8_g : RowsG aw8R := by have := zfm (bs aw8S); rw [zgh] at this; exact this
theorem aw8_dec : (decH (prtL aw8R) 201) = ([], [69, 769]) := by kernel_rfl
theorem aw8_pair : pairH (prL aw8R []) 69 769 = some 201 := by kernel_rfl
theorem aw8_pair2 : pairH (prL aw8R [201]) 69 769 = none := by kernel_rfl
theorem aw8_cls : clsL aw8R 769 = 230 := by kernel_rfl
theorem zaq (w : World) (hE : Env w) (hk : Kinds w) : Calls Tryz.prog 8 #[] w fun e w' => e = .returned (.bool true) /\ Below w.heap.size w w' := by
 have N1 := zjz (s := aw8S) (o := ByteArray.empty) aw8_g (zdw zit) zgh aw8_none w hE hk (by decide) (by decide);have N2 := fun w1 (hb : Below w.heap.size w w1) => zjz (s := aw8S) (o := ⟨#[48, 48, 67, 57]⟩) aw8_g (zdw zjm) zgh aw8_out w1 (hE.below hb) (hk.below' hb) (by decide) (by decide);unfold aw8S at N1 N2;go_enter Tryz.func8, Tryz.ntmps8;go_wp2_with fail;refine N1.mono ?_;rintro e w1 ⟨p, rfl, hp, hb1⟩;have N3 := N2 w1 hb1;clear N1 N2;go_wp2_with fail;refine N3.mono ?_;rintro e w2 ⟨q, rfl, hq, hb2⟩;have hb12 := zb hb1 hb2;have hp2 := hp.below hb2;have hk2 := hk.below' hb12;have D1 := zdm hp2 201 (by unfold R32; omega) hk2;rw [show (baseF aw8_g (zdw zit)).dec 201 = ([], [69, 769]) from aw8_dec] at D1;clear N3 hp hb1 hb2;go_wp2_with fail;refine D1.mono ?_;rintro e w3 ⟨A, c, rfl, hown, hb3⟩;have hb13 := zb hb12 hb3;have P1 := zjb (hp2.below hb3) 69 769 (by unfold R32; omega) (by unfold R32; omega) (hk2.below' hb3);rw [show (baseF aw8_g (zdw zit)).pair 69 769 = some 201 from aw8_pair, show zd9 (some 201) = .tuple #[.int .i32 201, .bool true] from rfl] at P1;clear D1 hb12;go_wp2_with fail;refine P1.mono ?_;rintro e w4 ⟨rfl, hb4⟩;have hb14 := zb hb13 hb4;have hb24 := zb hb3 hb4;have P2 := zjb (hq.below hb24) 69 769 (by unfold R32; omega) (by unfold R32; omega) (hk2.below' hb24);rw [show (baseF aw8_g (zdw zjm)).pair 69 769 = none from aw8_pair2, show zd9 none = .tuple #[.int .i32 0, .bool false] from rfl] at P2;clear P1 hb13 hb3;go_wp2_with fail;refine P2.mono ?_;rintro e w5 ⟨rfl, hb5⟩
 have hb15 := zb hb14 hb5;have hb25 := zb hb24 hb5;have C1 := zgf (hp2.below hb25) 769 (by unfold R32; omega);rw [show (baseF aw8_g (zdw zit)).cls 769 = 230 from aw8_cls] at C1;clear P2 hb14 hb24;go_wp2_with fail;refine C1.mono ?_;rintro e w6 ⟨rfl, hb6⟩;have hb16 := zb hb15 hb6;obtain ⟨A2, c2, hv, _, _, hrd⟩ := Rd.of_own hown;injection hv with e1 _ e3;subst e1 e3;have hrd6 := hrd.below (zb hb4 (zb hb5 hb6));have hb2 : ∀ o, Below w6.heap.size w6 (w6.alloc o) := fun o => (Below.refl _ _).alloc (Nat.le_refl _) _;have RN := zgt A (some ⟨w6.heap.size, 0, none⟩) 2 2 c 2 [69, 769] [69, 769] (w6.alloc (.cells #[.int .i32 69, .int .i32 769] 21)) (hrd6.below (hb2 _)) (Rd.new _ _ [.int .i32 69, .int .i32 769]) (by omega) (by omega);rw [show decide (([69, 769] : List Int) = [69, 769]) = true from by simp] at RN;clear C1 hown hrd6 hb5 hb6 hb25 hb15 hrd;go_wp2_with fail;refine RN.mono ?_;rintro e w7 ⟨rfl, hd⟩;have hb17 := zb hb16 ((hb2 _).trans (hd.below _));clear RN hd hb2;go_wp2;go_returns;exact ⟨rfl, hb17⟩
theorem few8 (s o : ByteArray) (w : World) (hs : s.size <= 3000) (ho : o.size <= 500) : Calls Tryz.prog 7 #[.agg #[.string s, .string o]] w fun e w' => e = .returned (.bool true) /\ Below w.heap.size w w' := by
 have h1 : (s.size : Int) <= 3000 := (by omega);have h2 : (o.size : Int) <= 500 := (by omega);have hb : Below w.heap.size w (w.alloc (.cells #[.string s, .string o] 23)) := (Below.refl _ _).alloc (Nat.le_refl _) _;go_enter Tryz.func7, Tryz.ntmps7;go_wp2;go_returns;exact ⟨rfl, hb⟩
theorem zio (s o : ByteArray) (w : World) (h : ¬ (s.size <= 3000 /\ o.size <= 500)) : Calls Tryz.prog 7 #[.agg #[.string s, .string o]] w fun e w' => e = .returned (.bool false) /\ Below w.heap.size w w' := by
 have hb : Below w.heap.size w (w.alloc (.cells #[.string s, .string o] 23)) := (Below.refl _ _).alloc (Nat.le_refl _) _
 by_cases h1 : s.size <= 3000
 ·have h1' : (s.size : Int) <= 3000 := (by omega);have h2 : ¬ ((o.size : Int) <= 500) := fun e => h ⟨h1, by omega⟩;have h3 : decide ((o.size : Int) <= 500) = false := decide_eq_false h2;clear h;go_enter Tryz.func7, Tryz.ntmps7;go_wp2;go_returns;exact ⟨zai (by first | simp | (simp; omega)), hb⟩
 ·have h2 : ¬ ((s.size : Int) <= 3000) := fun e => h1 (by omega);clear h;go_enter Tryz.func7, Tryz.ntmps7;go_wp2;go_returns;exact ⟨rfl, hb⟩
end
end Go.Proofs.YtfdelmodmadoaaaGreatDoor
