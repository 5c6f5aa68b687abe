/- A text in a form, and whether two are the same but for it: the code. Is a text in a form; are two texts the same but for it: the code. NormForms, NormSame: the laws. NormNil, NormJoins: the laws. -/
import Derived.Test.YtkocaoeednmkpaaGreatDoorH39
set_option linter.unusedSimpArgs false
set_option linter.unusedVariables false
set_option maxRecDepth 20000
set_option maxHeartbeats 4000000
namespace Go.Proofs.YtkocaoeednmkpaaGreatDoor
section
open Go.RowKit
noncomputable def formE (B : BaseF) (f : Int) (xs : List Int) : List Int × Int := if mayF f = true then (B.form (cB f) (jB f) xs, 0) else ([], 16)
theorem zor {B : BaseF} {f : Int} {xs : List Int} (h : f < 1 \/ 4 < f) : formE B f xs = ([], 16) := by
 unfold formE;rw [if_neg];rw [zbz];omega
section
variable {w : World} {p : Option Addr} {B : BaseF}
theorem zao (hB : zaj w (.pointer p) B) (hk : Kinds w) (hbd : zac B) (f : Int) (A : Option Addr) (n cp : Nat) (xs : List Int) (hrd : Rd w A n (Rs xs)) (hn : xs.length = n) (hx : ∀ x ∈ xs, R32 x) (hn2 : n <= 3300) :
  Calls Tryz.prog 35 #[.pointer p, .int .i64 f, .slice A n cp] w (zbi w (formE B f xs)) := by
 have FU := fun c => zf2 (cp := cp) hB hk hbd (one_R hbd) c A n xs hrd hn hx hn2;have HB := hz0q hB;have HK := hz0q hk;have HBD := hz0q hbd;have HFR : Hid (∀ c, ∀ y ∈ B.full c xs, R32 y) := fun c y hy => zg3 hbd c hx y hy;have HFL : Hid (∀ c, (B.full c xs).length <= 178200) := fun c => by have := zbd hbd c xs; rw [hn] at this; omega
 clear hB hk hbd hrd hn hx;rcases zne f with h | rfl | rfl | rfl | rfl | h
 ·have h1 : (f == 1) = false := (by rw [beq_eq_false_iff_ne]; omega);have h2 : (f == 2) = false := (by rw [beq_eq_false_iff_ne]; omega);have h3 : (f == 3) = false := (by rw [beq_eq_false_iff_ne]; omega);have h4 : (f == 4) = false := (by rw [beq_eq_false_iff_ne]; omega);have HF : Hid (formE B f xs = ([], 16)) := zor (.inl h);clear FU h;go_enter Tryz.func35, Tryz.ntmps35;go_wp2;go_returns;rw [HF.out];exact ⟨none, 0, rfl, World.ownsRow_nil _ _ _ _, Below.refl _ _⟩
 ·have F1 := FU false;obtain ⟨ys, hys⟩ : ∃ ys, ys = B.full false xs := ⟨_, rfl⟩;rw [<- hys] at F1;have HF : Hid (formE B 1 xs = (ys, 0)) := (by show _ = _; rw [hys]; rfl);clear FU hys;go_enter Tryz.func35, Tryz.ntmps35;go_wp2_with fail;refine F1.mono ?_;rintro e w1 ⟨A1, c1, rfl, hown, hb1⟩;have HR : Hid (zbi w (ys, 0) (.returned (.tuple #[.slice A1 ys.length c1, .int .i64 0])) w1) := ⟨A1, c1, rfl, hown, hb1⟩;clear F1 hown hb1;go_wp2;go_returns;rw [HF.out];exact HR.out
 ·have F1 := FU false;obtain ⟨ys, hys⟩ : ∃ ys, ys = B.full false xs := ⟨_, rfl⟩;rw [<- hys] at F1;have hyR : ∀ y ∈ ys, R32 y := (by rw [hys]; exact HFR.out false);have hyl : ys.length <= 178200 := (by rw [hys]; exact HFL.out false);have HYR := hz0q hyR;have hjl : (B.join ys).length <= 178200 := Nat.le_trans (zcr ys) hyl;obtain ⟨js, hjs⟩ : ∃ js, js = B.join ys := ⟨_, rfl⟩;have HF : Hid (formE B 2 xs = (js, 0)) := (by show _ = _; rw [hjs, hys]; rfl);have HJS := hz0q hjs;rw [<- hjs] at hjl;clear FU hys hyR hjs;go_enter Tryz.func35, Tryz.ntmps35;go_wp2_with fail;refine F1.mono ?_;intro e w1 hf;obtain ⟨A1, c1, rfl, hr1, hb1⟩ := hf.rd;have JN := zei (cp := c1) (HB.out.below hb1) (HK.out.below' hb1) HBD.out A1 ys.length ys hr1 rfl HYR.out (by omega);rw [<- HJS.out] at JN;have HB1 := hz0q hb1;clear F1 hf hr1 hb1;go_wp2_with fail;refine JN.mono ?_;rintro e w2 ⟨A2, c2, rfl, hown, hb2⟩;have HR : Hid (zbi w (js, 0) (.returned (.tuple #[.slice A2 js.length c2, .int .i64 0])) w2) := ⟨A2, c2, rfl, zaw hown HB1.out.size, zb HB1.out hb2⟩;clear JN hown hb2;go_wp2;go_returns;rw [HF.out];exact HR.out
 ·have F1 := FU true;obtain ⟨ys, hys⟩ : ∃ ys, ys = B.full true xs := ⟨_, rfl⟩;rw [<- hys] at F1;have HF : Hid (formE B 3 xs = (ys, 0)) := (by show _ = _; rw [hys]; rfl);clear FU hys;go_enter Tryz.func35, Tryz.ntmps35;go_wp2_with fail;refine F1.mono ?_;rintro e w1 ⟨A1, c1, rfl, hown, hb1⟩;have HR : Hid (zbi w (ys, 0) (.returned (.tuple #[.slice A1 ys.length c1, .int .i64 0])) w1) := ⟨A1, c1, rfl, hown, hb1⟩;clear F1 hown hb1;go_wp2;go_returns;rw [HF.out];exact HR.out
 ·have F1 := FU true;obtain ⟨ys, hys⟩ : ∃ ys, ys = B.full true xs := ⟨_, rfl⟩;rw [<- hys] at F1;have hyR : ∀ y ∈ ys, R32 y := (by rw [hys]; exact HFR.out true);have hyl : ys.length <= 178200 := (by rw [hys]; exact HFL.out true);have HYR := hz0q hyR;have hjl : (B.join ys).length <= 178200 := Nat.le_trans (zcr ys) hyl;obtain ⟨js, hjs⟩ : ∃ js, js = B.join ys := ⟨_, rfl⟩;have HF : Hid (formE B 4 xs = (js, 0)) := (by show _ = _; rw [hjs, hys]; rfl);have HJS := hz0q hjs;rw [<- hjs] at hjl;clear FU hys hyR hjs;go_enter Tryz.func35, Tryz.ntmps35;go_wp2_with fail;refine F1.mono ?_;intro e w1 hf;obtain ⟨A1, c1, rfl, hr1, hb1⟩ := hf.rd;have JN := zei (cp := c1) (HB.out.below hb1) (HK.out.below' hb1) HBD.out A1 ys.length ys hr1 rfl HYR.out (by omega);rw [<- HJS.out] at JN;have HB1 := hz0q hb1;clear F1 hf hr1 hb1;go_wp2_with fail;refine JN.mono ?_;rintro e w2 ⟨A2, c2, rfl, hown, hb2⟩;have HR : Hid (zbi w (js, 0) (.returned (.tuple #[.slice A2 js.length c2, .int .i64 0])) w2) := ⟨A2, c2, rfl, zaw hown HB1.out.size, zb HB1.out hb2⟩;clear JN hown hb2;go_wp2;go_returns;rw [HF.out];exact HR.out
 ·have h1 : (f == 1) = false := (by rw [beq_eq_false_iff_ne]; omega);have h2 : (f == 2) = false := (by rw [beq_eq_false_iff_ne]; omega);have h3 : (f == 3) = false := (by rw [beq_eq_false_iff_ne]; omega);have h4 : (f == 4) = false := (by rw [beq_eq_false_iff_ne]; omega);have HF : Hid (formE B f xs = ([], 16)) := zor (.inr h);clear FU h;go_enter Tryz.func35, Tryz.ntmps35;go_wp2;go_returns;rw [HF.out];exact ⟨none, 0, rfl, World.ownsRow_nil _ _ _ _, Below.refl _ _⟩
end
end
section
open Go.RowKit
section
variable {w : World} {p : Option Addr} {B : BaseF}
theorem zna (hB : zaj w (.pointer p) B) (hk : Kinds w) (hbd : zac B) (f : Int) (A : Option Addr) (n cp : Nat) (xs : List Int) (hrd : Rd w A n (Rs xs)) (hn : xs.length = n) (hx : ∀ x ∈ xs, R32 x) (hn2 : n <= 3300) :
  Calls Tryz.prog 40 #[.pointer p, .int .i64 f, .slice A n cp] w fun e w' => e = .returned (.tuple #[.bool (if mayF f = true then decide (B.form (cB f) (jB f) xs = xs) else false), .int .i64 (if mayF f = true then 0 else 16)]) /\ Below w.heap.size w w' := by
 have CH := zbl (cp := cp) hB hk hbd f A n xs hrd hn hx (by omega);have FO : Hid (∀ W, Below w.heap.size w W -> Calls Tryz.prog 35 #[.pointer p, .int .i64 f, .slice A n cp] W (zbi W (formE B f xs))) := fun W h => zao (hB.below h) (hk.below' h) hbd f A n cp xs (hrd.below h) hn hx hn2;have HRD := hz0q hrd
 have hfl : (B.form (cB f) (jB f) xs).length <= 178200 := by
  have h1 := zbd hbd (cB f) xs;rw [hn] at h1;unfold BaseF.form;split
  ·have := zcr (B := B) (B.full (cB f) xs); omega
  ·omega
 by_cases hm : mayF f = true
 rotate_left
 ·have hmf : mayF f = false := (by simpa using hm);rw [hmf, if_neg (by simp), if_neg (by simp)] at CH;rw [hmf, if_neg (by simp), if_neg (by simp)];clear hB hk hbd hrd hn hx FO hm;go_enter Tryz.func40, Tryz.ntmps40;go_wp2_with fail;refine CH.mono ?_;rintro e w1 ⟨rfl, hb1⟩;clear CH;go_wp2;go_returns;exact ⟨rfl, hb1⟩
 rw [if_pos hm, if_pos hm] at CH;rw [if_pos hm, if_pos hm];have HFE : Hid (formE B f xs = (B.form (cB f) (jB f) xs, 0)) := (by show _ = _; unfold formE; rw [if_pos hm]);have h3 := zb0 (B := B) (cB f) (jB f) xs;have hy := check_yes (B := B) (c := cB f) (j := jB f) (l := xs);have hno := zow (B := B) (c := cB f) (j := jB f) (l := xs);obtain ⟨k, hk1⟩ : ∃ k, k = B.check (cB f) (jB f) xs := ⟨_, rfl⟩;obtain ⟨fs, hfs⟩ : ∃ fs, fs = B.form (cB f) (jB f) xs := ⟨_, rfl⟩;rw [<- hk1] at CH h3 hy hno;rw [<- hfs] at HFE hy hno hfl ⊢;have HY := hz0q hy;have HNO := hz0q hno;have HN := hz0q hn;clear hB hk hbd hrd hn hx hm hk1 hfs hy hno;go_enter Tryz.func40, Tryz.ntmps40;go_wp2_with fail;refine CH.mono ?_;rintro e w1 ⟨rfl, hb1⟩;clear CH;rcases h3 with rfl | rfl | rfl
 ·have HF : Hid (decide (fs = xs) = true) := decide_eq_true (HY.out rfl);go_wp2;go_returns;exact ⟨by rw [HF.out]; rfl, hb1⟩
 ·have HF : Hid (decide (fs = xs) = false) := decide_eq_false (HNO.out rfl);go_wp2;go_returns;exact ⟨by rw [HF.out]; rfl, hb1⟩
 ·have F1 := FO.out w1 hb1;rw [HFE.out] at F1;have HB1 := hz0q hb1;clear hb1;go_wp2_with fail;refine F1.mono ?_;intro e w2 hf;obtain ⟨A2, c2, rfl, hr2, hb2⟩ := hf.rd;simp only [] at hr2 ⊢;have EQ := zje A2 A fs.length n c2 cp fs xs w2 hr2 (HRD.out.below (zb HB1.out hb2)) (by omega) (by omega);have HB2 := hz0q (zb HB1.out hb2);obtain ⟨bb, hbb⟩ : ∃ bb, bb = decide (fs = xs) := ⟨_, rfl⟩;rw [<- hbb] at EQ;have HBB := hz0q hbb;clear F1 hf hr2 hb2 hbb;go_wp2_with fail;refine EQ.mono ?_;rintro e w3 ⟨rfl, hd⟩;have HB3 := hz0q (zb HB2.out (hd.below _));clear EQ hd;go_wp2;go_returns;exact ⟨by rw [HBB.out] <;> rfl, HB3.out⟩
theorem zc8 (hB : zaj w (.pointer p) B) (hk : Kinds w) (hbd : zac B) (c : Bool) (A : Option Addr) (n cp : Nat) (xs : List Int) (A2 : Option Addr) (m c2 : Nat) (ys : List Int) (hrd : Rd w A n (Rs xs)) (hn : xs.length = n) (hx : ∀ x ∈ xs, R32 x) (hn2 : n <= 3300)
  (hrd2 : Rd w A2 m (Rs ys)) (hm : ys.length = m) (hy : ∀ x ∈ ys, R32 x) (hm2 : m <= 3300) :
  Calls Tryz.prog 38 #[.pointer p, .bool c, .slice A n cp, .slice A2 m c2] w fun e w' => e = .returned (.bool (decide (B.full c xs = B.full c ys))) /\ Below w.heap.size w w' := by
 have F1 := zf2 (cp := cp) hB hk hbd (one_R hbd) c A n xs hrd hn hx hn2;have F2 : Hid (∀ W, Below w.heap.size w W -> Calls Tryz.prog 54 #[.pointer p, .bool c, .slice A2 m c2] W (zae W (B.full c ys))) := fun W h => zf2 (hB.below h) (hk.below' h) hbd (one_R hbd) c A2 m c2 ys (hrd2.below h) hm hy hm2;have hl1 := zbd hbd c xs;have hl2 := zbd hbd c ys;rw [hn] at hl1;rw [hm] at hl2;obtain ⟨us, hus⟩ : ∃ us, us = B.full c xs := ⟨_, rfl⟩;obtain ⟨vs, hvs⟩ : ∃ vs, vs = B.full c ys := ⟨_, rfl⟩;rw [<- hus] at F1 hl1;rw [<- hvs] at F2 hl2;rw [<- hus, <- hvs];clear hB hk hbd hrd hn hx hrd2 hm hy hus hvs;go_enter Tryz.func38, Tryz.ntmps38;go_wp2_with fail;refine F1.mono ?_;intro e w1 hf;obtain ⟨A3, c3, rfl, hr1, hb1⟩ := hf.rd;have G2 := F2.out w1 hb1;have HR1 := hz0q hr1;have HB1 := hz0q hb1;clear F1 F2 hf hr1 hb1;go_wp2_with fail;refine G2.mono ?_;intro e w2 hf;obtain ⟨A4, c4, rfl, hr2, hb2⟩ := hf.rd;have EQ := zje A3 A4 us.length vs.length c3 c4 us vs w2 (HR1.out.below hb2) hr2 (by omega) (by omega);have HB2 := hz0q (zb HB1.out hb2);obtain ⟨bb, hbb⟩ : ∃ bb, bb = decide (us = vs) := ⟨_, rfl⟩;rw [<- hbb] at EQ;have HBB := hz0q hbb;clear G2 hf hr2 hb2 hbb;go_wp2_with fail;refine EQ.mono ?_;rintro e w3 ⟨rfl, hd⟩;have HB3 := hz0q (zb HB2.out (hd.below _));clear EQ hd;go_wp2;go_returns;exact ⟨by rw [HBB.out] <;> rfl, HB3.out⟩
end
end
section
open Go.RowKit Go.Lib
theorem zbi.arg {w w' : World} {zs : List Int} {k : Int} {e : Ending} (h : zbi w (zs, k) e w') (hR : ∀ x ∈ zs, R32 x) : ∃ A c, e = .returned (.tuple #[.slice A zs.length c, .int .i64 k]) /\ ArgR w' A zs.length c zs /\ Below w.heap.size w w' := by
 obtain ⟨A, c, he, hown, hb⟩ := h;obtain ⟨A2, c2, h1, h2, h3⟩ := zae.arg (e := .returned (.slice A zs.length c)) ⟨A, c, rfl, hown, hb⟩ hR;injection h1 with h1;injection h1 with h1a _ h1c;subst h1a h1c;exact ⟨A, c, he, h2, h3⟩
theorem formE_yes {B : BaseF} {f : Int} {xs : List Int} (h : mayF f = true) : formE B f xs = (B.form (cB f) (jB f) xs, 0) := if_pos h
theorem formE_no2 {B : BaseF} {f : Int} {xs : List Int} (h : mayF f = false) : formE B f xs = ([], 16) := if_neg (by rw [h]; decide)
end
section
open Go.RowKit Go.Lib
theorem OwnG.arg {q n c : Nat} {w : World} {G : Option Nat} {A : Option Addr} {xs : List Int} (h : OwnG q w G (.slice A n c) xs) (hn : xs.length = n) (hR : ∀ x ∈ xs, R32 x) : ArgR w A n c xs := by
 subst hn;obtain ⟨A', c', e, h1, h2, h3⟩ := h.shape;injection e with e1 _ e3;subst e1 e3;refine ⟨h3, rfl, hR, h1, h2, fun hA => ?_⟩;rcases h with ⟨_, hx, A2, hv⟩ | ⟨g, off, cap, _, hv, _⟩
 ·injection hv with _ _ hc;exact ⟨by rw [hx]; rfl, hc⟩
 ·injection hv with hv _ _;rw [hA] at hv
  cases hv
theorem zgn {B : BaseF} (hbd : zac B) (c j : Bool) {xs fs : List Int} (h : fs = B.form c j xs) : fs.length <= 54 * xs.length := by
 have h1 := zbd hbd c xs;rw [h];unfold BaseF.form;split
 ·have := zcr (B := B) (B.full c xs); omega
 ·omega
theorem zqj {k : Nat} (h1 : 1 <= k) (h2 : k <= 4) : mayF (k : Int) = true := by rw [zbz]; omega
end
end Go.Proofs.YtkocaoeednmkpaaGreatDoor
