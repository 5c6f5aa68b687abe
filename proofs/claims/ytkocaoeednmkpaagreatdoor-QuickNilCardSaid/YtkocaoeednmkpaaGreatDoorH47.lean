/- The document's Ordered: the code. A text in a form, as the laws of layer 11 have it: the code. -/
import Derived.Test.YtkocaoeednmkpaaGreatDoorH39
set_option linter.unusedSimpArgs false
set_option linter.unusedVariables false
set_option maxRecDepth 20000
set_option maxHeartbeats 4000000
namespace Go.Proofs.YtkocaoeednmkpaaGreatDoor
section
open Go.RowKit
section
variable {w : World} {v : Value} {B : BaseF}
theorem rordered_any (hR : RefIs w v B) (A : Option Addr) (n cp : Nat) (xs : List Int) (hrd : Rd w A n (Rs xs)) (hn : xs.length = n) (hn2 : n <= 1000000) :
  Calls Tryz.prog 57 #[v, .slice A n cp] w fun e w' => e = .returned (.bool (B.srt 0 xs)) /\ w = w' := by
 have HN := hz0q hn;have HR := hz0q hR;have HRD := hz0q hrd
 have HS0 : Hid (0 + 1 <= n -> B.srt 0 xs = B.srt (B.cls (xs.getD 0 0)) (xs.drop (0 + 1))) := fun h => by
  cases xs with
  | nil => have := HN.out; simp at this; omega
  | cons x t =>
   show ((decide (B.cls x = 0) || decide (0 <= B.cls x)) && B.srt (B.cls x) t) = _;rw [decide_eq_true (B.cls0 x), Bool.or_true, Bool.true_and];rfl
 clear hrd hn hR;go_enter Tryz.func57, Tryz.ntmps57;go_wp2
 go_loopw [5] (fun i wr => ∃ t : Nat, (t + 1 <= n \/ t = 0) /\ i = .int .i64 ((t : Int) + 1) /\ Hid (t + 1 <= n -> B.srt 0 xs = B.srt (B.cls (xs.getD t 0)) (xs.drop (t + 1))) /\ w = wr) (fun i _ => n + 1 - (intOf i).toNat)
 case atStart => exact ⟨0, .inr rfl, rfl, HS0, rfl⟩
 case round =>
  obtain ⟨t, ht, rfl, HS, rfl⟩ := hrel
  by_cases hlt : t + 1 < n
  ·obtain ⟨y, hy⟩ : ∃ y, xs[t + 1]? = some y := ⟨_, List.getElem?_eq_getElem (by rw [HN.out]; exact hlt)⟩;obtain ⟨x, hx⟩ : ∃ x, xs[t]? = some x := ⟨_, List.getElem?_eq_getElem (by rw [HN.out]; omega)⟩;have C1 := zca HR.out y;have C2 := zca HR.out x;obtain ⟨b, off, rfl, _, hcx⟩ := HRD.out.at_ (by omega);have c0 : w.cell? ⟨b, off + (t + 1), none⟩ = some (.int .i32 y) := hcx (t + 1) (.int .i32 y) (by simp [Rs, hy]);have c1 : w.cell? ⟨b, off + t, none⟩ = some (.int .i32 x) := hcx t (.int .i32 x) (by simp [Rs, hx]);have hki : (t : Int) + 1 < (n : Int) := by omega
   have HSR : Hid (B.srt 0 xs = ((decide (B.cls y = 0) || decide (B.cls x <= B.cls y)) && B.srt (B.cls y) (xs.drop (t + 2)))) := by
    show _ = _;have hkl := (List.getElem?_eq_some_iff.1 hy).1;rw [HS.out (by omega), List.drop_eq_getElem_cons hkl, (List.getElem?_eq_some_iff.1 hy).2, List.getD_eq_getElem?_getD, hx];rfl
   have HYD : Hid (xs.getD (t + 1) 0 = y) := (by show _ = _; rw [List.getD_eq_getElem?_getD, hy]; rfl);obtain ⟨cl, hcl⟩ : ∃ cl, cl = B.cls y := ⟨_, rfl⟩;obtain ⟨cx, hcx2⟩ : ∃ cx, cx = B.cls x := ⟨_, rfl⟩;have h0 : 0 <= cl := (by rw [hcl]; exact B.cls0 y);rw [<- hcl] at C1 HSR;rw [<- hcx2] at C2 HSR;have HCL := hz0q hcl;clear hy hx hcx hcl hcx2;have HGO : Hid (B.srt 0 xs = B.srt cl (xs.drop (t + 2)) -> (t + 1 + 1 <= n -> B.srt 0 xs = B.srt (B.cls (xs.getD (t + 1) 0)) (xs.drop (t + 1 + 1)))) := fun h _ => by rw [HYD.out, <- HCL.out]; exact h
   go_wp2_with fail;refine C1.mono ?_;rintro e w1 ⟨rfl, rfl⟩;clear C1
   by_cases h1 : 0 < cl
   ·go_wp2_with fail;refine C2.mono ?_;rintro e w1 ⟨rfl, rfl⟩;clear C2
    by_cases h2 : cl < cx
    ·have HF : Hid (B.srt 0 xs = false) := by
      show _ = _;rw [HSR.out, decide_eq_false (show ¬ cl = 0 by omega), decide_eq_false (show ¬ cx <= cl by omega)];rfl
     clear c0 c1;go_wp2;go_returns;exact ⟨by rw [HF.out]; rfl, rfl⟩
    ·have HG : Hid (t + 1 + 1 <= n -> B.srt 0 xs = B.srt (B.cls (xs.getD (t + 1) 0)) (xs.drop (t + 1 + 1))) := HGO.out (by
      rw [HSR.out, decide_eq_true (show cx <= cl by omega), Bool.or_true, Bool.true_and])
     clear c0 c1;go_wp2;go_roundw
     case rel => exact ⟨t + 1, .inl (by omega), by go_num, HG, trivial⟩
     case measure => simp [intOf]; omega
   ·have HG : Hid (t + 1 + 1 <= n -> B.srt 0 xs = B.srt (B.cls (xs.getD (t + 1) 0)) (xs.drop (t + 1 + 1))) := HGO.out (by
     rw [HSR.out, decide_eq_true (show cl = 0 by omega), Bool.true_or, Bool.true_and])
    clear c0 c1 C2;go_wp2;go_roundw
    case rel => exact ⟨t + 1, .inl (by omega), by go_num, HG, trivial⟩
    case measure => simp [intOf]; omega
  ·have hki : ¬ (t : Int) + 1 < (n : Int) := by omega
   have HT : Hid (B.srt 0 xs = true) := by
    show _ = _
    by_cases h0 : n = 0
    ·have h1 := HN.out;rw [h0] at h1;rw [List.length_eq_zero_iff.1 h1];rfl
    ·rw [HS.out (by omega), List.drop_eq_nil_of_le (by rw [HN.out]; omega)];rfl
   go_wp2;go_returns;exact ⟨by rw [HT.out]; rfl, rfl⟩
end
end
section
open Go.RowKit
section
variable {w : World} {p : Option Addr} {B : BaseF}
theorem zb4 (hB : zaj w (.pointer p) B) (hk : Kinds w) (hbd : zac B) (f : Int) (hf : 1 <= f /\ f <= 4) (A : Option Addr) (n cp : Nat) (xs : List Int) (hrd : Rd w A n (Rs xs)) (hn : xs.length = n) (hx : ∀ x ∈ xs, R32 x) (hn2 : n <= 3300) :
  Calls Tryz.prog 24 #[.pointer p, .int .i64 f, .slice A n cp] w (zae w (B.form (cB f) (jB f) xs)) := by
 have FU := fun c => zf2 (cp := cp) hB hk hbd (one_R hbd) c A n xs hrd hn hx hn2;have HB := hz0q hB;have HK := hz0q hk;have HBD := hz0q hbd;have HFR : Hid (∀ c, ∀ y ∈ B.full c xs, R32 y) := fun c y hy => zg3 hbd c hx y hy;have HFL : Hid (∀ c, (B.full c xs).length <= 178200) := fun c => by have := zbd hbd c xs; rw [hn] at this; omega
 clear hB hk hbd hrd hn hx;rcases zne f with h | rfl | rfl | rfl | rfl | h
 ·omega
 ·have F1 := FU false;obtain ⟨ys, hys⟩ : ∃ ys, ys = B.full false xs := ⟨_, rfl⟩;rw [<- hys] at F1;have HF : Hid (B.form (cB 1) (jB 1) xs = ys) := (by show _ = _; rw [hys]; rfl);clear FU hys hf;go_enter Tryz.func24, Tryz.ntmps24;go_wp2_with fail;refine F1.mono ?_;intro e w1 hf1;have HR := hz0q hf1;obtain ⟨A1, c1, rfl, _, _⟩ := hf1;clear F1;go_wp2;go_returns;rw [HF.out];exact HR.out
 ·have F1 := FU false;obtain ⟨ys, hys⟩ : ∃ ys, ys = B.full false xs := ⟨_, rfl⟩;rw [<- hys] at F1;have hyR : ∀ y ∈ ys, R32 y := (by rw [hys]; exact HFR.out false);have hyl : ys.length <= 178200 := (by rw [hys]; exact HFL.out false);have HYR := hz0q hyR;obtain ⟨js, hjs⟩ : ∃ js, js = B.join ys := ⟨_, rfl⟩;have HF : Hid (B.form (cB 2) (jB 2) xs = js) := (by show _ = _; rw [hjs, hys]; rfl);have HJS := hz0q hjs;clear FU hys hyR hjs hf;go_enter Tryz.func24, Tryz.ntmps24;go_wp2_with fail;refine F1.mono ?_;intro e w1 hf1;obtain ⟨A1, c1, rfl, hr1, hb1⟩ := hf1.rd;have JN := zei (cp := c1) (HB.out.below hb1) (HK.out.below' hb1) HBD.out A1 ys.length ys hr1 rfl HYR.out (by omega);rw [<- HJS.out] at JN;have HB1 := hz0q hb1;clear F1 hf1 hr1 hb1;go_wp2_with fail;refine JN.mono ?_;rintro e w2 ⟨A2, c2, rfl, hown, hb2⟩;have HR : Hid (zae w js (.returned (.slice A2 js.length c2)) w2) := ⟨A2, c2, rfl, zaw hown HB1.out.size, zb HB1.out hb2⟩;clear JN hown hb2;go_wp2;go_returns;rw [HF.out];exact HR.out
 ·have F1 := FU true;obtain ⟨ys, hys⟩ : ∃ ys, ys = B.full true xs := ⟨_, rfl⟩;rw [<- hys] at F1;have HF : Hid (B.form (cB 3) (jB 3) xs = ys) := (by show _ = _; rw [hys]; rfl);clear FU hys hf;go_enter Tryz.func24, Tryz.ntmps24;go_wp2_with fail;refine F1.mono ?_;intro e w1 hf1;have HR := hz0q hf1;obtain ⟨A1, c1, rfl, _, _⟩ := hf1;clear F1;go_wp2;go_returns;rw [HF.out];exact HR.out
 ·have F1 := FU true;obtain ⟨ys, hys⟩ : ∃ ys, ys = B.full true xs := ⟨_, rfl⟩;rw [<- hys] at F1;have hyR : ∀ y ∈ ys, R32 y := (by rw [hys]; exact HFR.out true);have hyl : ys.length <= 178200 := (by rw [hys]; exact HFL.out true);have HYR := hz0q hyR;obtain ⟨js, hjs⟩ : ∃ js, js = B.join ys := ⟨_, rfl⟩;have HF : Hid (B.form (cB 4) (jB 4) xs = js) := (by show _ = _; rw [hjs, hys]; rfl);have HJS := hz0q hjs;clear FU hys hyR hjs hf;go_enter Tryz.func24, Tryz.ntmps24;go_wp2_with fail;refine F1.mono ?_;intro e w1 hf1;obtain ⟨A1, c1, rfl, hr1, hb1⟩ := hf1.rd;have JN := zei (cp := c1) (HB.out.below hb1) (HK.out.below' hb1) HBD.out A1 ys.length ys hr1 rfl HYR.out (by omega);rw [<- HJS.out] at JN;have HB1 := hz0q hb1;clear F1 hf1 hr1 hb1;go_wp2_with fail;refine JN.mono ?_;rintro e w2 ⟨A2, c2, rfl, hown, hb2⟩;have HR : Hid (zae w js (.returned (.slice A2 js.length c2)) w2) := ⟨A2, c2, rfl, zaw hown HB1.out.size, zb HB1.out hb2⟩;clear JN hown hb2;go_wp2;go_returns;rw [HF.out];exact HR.out
 ·omega
end
end
end Go.Proofs.YtkocaoeednmkpaaGreatDoor
