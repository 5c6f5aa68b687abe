/- Few: are lines not too many? The code. Both: what lines tell, and the document's answer's: the code. NormForms, NormSame: the laws. NormNil, NormJoins: the laws. -/
import Derived.Test.YtfdelmodmadoaaaGreatDoorY36
set_option linter.unusedSimpArgs false
set_option linter.unusedVariables false
set_option maxRecDepth 20000
set_option maxHeartbeats 4000000
namespace Go.Proofs.YtfdelmodmadoaaaGreatDoor
section
open Go.RowKit
theorem few_yes (s o : ByteArray) (w : World) (hs : s.size <= 3000) (ho : o.size <= 500) : Calls Tryz.prog 7 #[.agg #[.string s, .string o]] w fun e w' => e = .returned (.bool true) /\ Below w.heap.size w w' := by
 have h1 : (s.size : Int) <= 3000 := (by omega);have h2 : (o.size : Int) <= 500 := (by omega);have hb : Below w.heap.size w (w.alloc (.cells #[.string s, .string o] 23)) := (Below.refl _ _).alloc (Nat.le_refl _) _;go_enter Tryz.func7, Tryz.ntmps7;go_wp2;go_returns;exact ⟨rfl, hb⟩
theorem few_no (s o : ByteArray) (w : World) (h : ¬ (s.size <= 3000 /\ o.size <= 500)) : Calls Tryz.prog 7 #[.agg #[.string s, .string o]] w fun e w' => e = .returned (.bool false) /\ Below w.heap.size w w' := by
 have hb : Below w.heap.size w (w.alloc (.cells #[.string s, .string o] 23)) := (Below.refl _ _).alloc (Nat.le_refl _) _
 by_cases h1 : s.size <= 3000
 ·have h1' : (s.size : Int) <= 3000 := (by omega);have h2 : ¬ ((o.size : Int) <= 500) := fun e => h ⟨h1, by omega⟩;have h3 : decide ((o.size : Int) <= 500) = false := decide_eq_false h2;clear h;go_enter Tryz.func7, Tryz.ntmps7;go_wp2;go_returns;exact ⟨zo (by first | simp | (simp; omega)), hb⟩
 ·have h2 : ¬ ((s.size : Int) <= 3000) := fun e => h1 (by omega);clear h;go_enter Tryz.func7, Tryz.ntmps7;go_wp2;go_returns;exact ⟨rfl, hb⟩
end
section
open Go.RowKit
theorem zms (s o : ByteArray) (w : World) (hE : Env w) (hk : Kinds w) : Calls Tryz.prog 17 #[.agg #[.string s, .string o]] w (BothP w) := by
 obtain ⟨W0, hW0⟩ : ∃ W0, w.alloc (.cells #[.string s, .string o] 23) = W0 := ⟨_, rfl⟩
 have hB0 : Below w.heap.size w W0 := by
  rw [<- hW0];exact (Below.refl _ w).alloc (Nat.le_refl _) _
 have bx1 : W0.heap[w.heap.size]? = some (.cells #[.string s, .string o] 23 (0, 0)) := by
  rw [<- hW0];exact zr w _ _
 have hc0 := za bx1 0 rfl;have hc1 := za bx1 1 rfl;have HP : Hid (∀ e w', BothP w e w' -> BothP w e w') := fun _ _ h => h
 by_cases hf : s.size <= 3000 /\ o.size <= 500
 rotate_left
 ·have FW := few_no s o W0 hf;clear hf;go_enter Tryz.func17, Tryz.ntmps17;go_wp2_with fail;refine FW.mono ?_;rintro e w1 ⟨rfl, hb1⟩;have hb := zb hB0 hb1;clear FW;go_wp2;go_returns;exact .inl ⟨rfl, hb⟩
 have FW := few_yes s o W0 hf.1 hf.2;have RN := fun W => rnew_any (w := W) s o (by omega) (by omega);have NW := fun W (hb : Below W0.heap.size W0 W) => znb (w := W) s o (hE.below (zb hB0 hb)) (hk.below' (zb hB0 hb)) (by omega) (by omega);have hg := zlr (bs s);clear hf;go_enter Tryz.func17, Tryz.ntmps17;go_wp2_with fail;refine FW.mono ?_;rintro e w1 ⟨rfl, hb1⟩;have hc0 := za (zd bx1 hb1) 0 rfl;have hc1 := za (zd bx1 hb1) 1 rfl;have R1 := RN w1;clear FW RN hW0;go_wp2_with fail;refine R1.mono ?_;rintro e w2 (⟨er, her, rfl, hb2⟩ | ⟨rp, os, out, A2, c, c2, rfl, hos, hM, hb2⟩)
 ·have hb := zb hB0 (zb hb1 hb2);have hne : (er == 0) = false := (by simpa using her);have hne2 : (er != 0) = true := (by simpa using her);clear R1 NW her;go_wp2;go_returns;exact .inl ⟨rfl, hb⟩
 have hb12 := zb hb1 hb2;have hc0 := za (zd bx1 hb12) 0 rfl;have hc1 := za (zd bx1 hb12) 1 rfl;have N1 := NW w2 hb12;clear R1 NW hb1 hb2;go_wp2_with fail;refine N1.mono ?_;rintro e w3 (⟨_, ⟨er, her, rfl⟩, hb3⟩ | ⟨⟨_, _, hok⟩, hG⟩)
 ·have hb := zb hB0 (zb hb12 hb3);have hne : (er == 0) = false := (by simpa using her);have hne2 : (er != 0) = true := (by simpa using her);clear N1 her;go_wp2;go_returns;exact .inl ⟨rfl, hb⟩
 obtain ⟨bp, rfl, hB, hb3⟩ := znk hg hok hG;have hb := zb hB0 (zb hb12 hb3);have hR : RefIs w3 (.pointer (some ⟨rp, 0, none⟩)) (baseF hg hok) := ⟨rp, os, _, _, _, _, _, rfl, hM.below hb3, by rw [hos]; exact hg, fun r => by rw [hos]; rfl, fun r => by rw [hos]; rfl, fun x y => by rw [hos]; rfl, fun r => by rw [hos]; rfl⟩;have hbd := znv hg hok;have HF : Hid (BothP w (.returned (.tuple #[.pointer (some ⟨bp, 0, none⟩), .pointer (some ⟨rp, 0, none⟩)])) w3) := .inr ⟨bp, _, _, rfl, hB, hR, hbd, hb⟩;clear N1 hG hos hM hB hR;go_wp2;go_returns;exact HF.out
end
section
open Go.RowKit Go.Lib
theorem za8.arg {w w' : World} {zs : List Int} {k : Int} {e : Ending} (h : za8 w (zs, k) e w') (hR : ∀ x ∈ zs, R32 x) : ∃ A c, e = .returned (.tuple #[.slice A zs.length c, .int .i64 k]) /\ ArgR w' A zs.length c zs /\ Below w.heap.size w w' := by
 obtain ⟨A, c, he, hown, hb⟩ := h;obtain ⟨A2, c2, h1, h2, h3⟩ := zag.arg (e := .returned (.slice A zs.length c)) ⟨A, c, rfl, hown, hb⟩ hR;injection h1 with h1;injection h1 with h1a _ h1c;subst h1a h1c;exact ⟨A, c, he, h2, h3⟩
end
section
open Go.RowKit Go.Lib
theorem OwnG.arg {q n c : Nat} {w : World} {G : Option Nat} {A : Option Addr} {xs : List Int} (h : OwnG q w G (.slice A n c) xs) (hn : xs.length = n) (hR : ∀ x ∈ xs, R32 x) : ArgR w A n c xs := by
 subst hn;obtain ⟨A', c', e, h1, h2, h3⟩ := h.shape;injection e with e1 _ e3;subst e1 e3;refine ⟨h3, rfl, hR, h1, h2, fun hA => ?_⟩;rcases h with ⟨_, hx, A2, hv⟩ | ⟨g, off, cap, _, hv, _⟩
 ·injection hv with _ _ hc;exact ⟨by rw [hx]; rfl, hc⟩
 ·injection hv with hv _ _;rw [hA] at hv
  cases hv
theorem zbx {B : BaseF} (hbd : zan B) (c j : Bool) {xs fs : List Int} (h : fs = B.form c j xs) : fs.length <= 54 * xs.length := by
 have h1 := zgj hbd c xs;rw [h];unfold BaseF.form;split
 ·have := zgg (B := B) (B.full c xs); omega
 ·omega
end
end Go.Proofs.YtfdelmodmadoaaaGreatDoor
