/- decomp.Ordered: the code. The document's One: the code. -/
import Derived.Test.YtkocaoeednmkpaaGreatDoorH37
set_option linter.unusedSimpArgs false
set_option linter.unusedVariables false
set_option maxRecDepth 20000
set_option maxHeartbeats 4000000
namespace Go.Proofs.YtkocaoeednmkpaaGreatDoor
section
open Go.RowKit
section
variable {w : World} {p : Option Addr} {B : BaseF}
theorem ordered_any (hB : zaj w (.pointer p) B) (A : Option Addr) (n cp : Nat) (xs : List Int) (hrd : Rd w A n (Rs xs)) (hn : xs.length = n) (hx : ∀ x ∈ xs, R32 x) (hn2 : n <= 1000000) :
  Calls Tryz.prog 56 #[.pointer p, .slice A n cp] w fun e w' => e = .returned (.bool (B.srt 0 xs)) /\ Below w.heap.size w w' := by
 have HN := hz0q hn;have HX := hz0q hx;have HB := hz0q hB;have HRD := hz0q hrd;have HS0 : Hid (B.srt 0 xs = B.srt 0 (xs.drop 0)) := rfl;clear hrd hn hx hB;go_enter Tryz.func56, Tryz.ntmps56;go_wp2
 go_loopw [5, 11] (fun s5 i wr => ∃ (k : Nat) (last : Int), k <= n /\ i = .int .i64 k /\ s5 = .int .i64 last /\ Hid (B.srt 0 xs = B.srt last (xs.drop k)) /\ Hid (Below w.heap.size w wr)) (fun _ i _ => n - (intOf i).toNat)
 case atStart => exact ⟨0, 0, Nat.zero_le _, rfl, rfl, HS0, Below.refl _ _⟩
 case round =>
  obtain ⟨k, last, hk, rfl, rfl, HS, HBW⟩ := hrel
  by_cases hlt : k < n
  ·obtain ⟨y, hy⟩ : ∃ y, xs[k]? = some y := ⟨_, List.getElem?_eq_getElem (by rw [HN.out]; exact hlt)⟩;have C1 := zdw (HB.out.below HBW.out) y (HX.out y (List.mem_of_getElem? hy));obtain ⟨b, off, rfl, _, hcx⟩ := (HRD.out.below HBW.out).at_ (by omega);have c0 := hcx k (.int .i32 y) (by simp [Rs, hy]);have hki : (k : Int) < (n : Int) := (by omega);obtain ⟨cl, hcl⟩ : ∃ cl, cl = B.cls y := ⟨_, rfl⟩;have h0 : 0 <= cl := by rw [hcl]; exact B.cls0 y
   have HSR : Hid (B.srt 0 xs = ((decide (cl = 0) || decide (last <= cl)) && B.srt cl (xs.drop (k + 1)))) := by
    show _ = _;have hkl := (List.getElem?_eq_some_iff.1 hy).1;rw [HS.out, List.drop_eq_getElem_cons hkl, (List.getElem?_eq_some_iff.1 hy).2, hcl];rfl
   rw [<- hcl] at C1;clear hy hcx hcl;go_wp2_with fail;refine C1.mono ?_;rintro e w1 ⟨rfl, hb1⟩;have hbW : Hid (Below w.heap.size w w1) := zb HBW.out hb1;clear C1 c0 hb1
   by_cases h1 : 0 < cl
   ·by_cases h2 : cl < last
    ·have HF : Hid (B.srt 0 xs = false) := by
      show _ = _;rw [HSR.out, decide_eq_false (show ¬ cl = 0 by omega), decide_eq_false (show ¬ last <= cl by omega)];rfl
     go_wp2;go_returns;exact ⟨by rw [HF.out]; rfl, hbW.out⟩
    ·have HG : Hid (B.srt 0 xs = B.srt cl (xs.drop (k + 1))) := by
      show _ = _;rw [HSR.out, decide_eq_true (show last <= cl by omega), Bool.or_true, Bool.true_and]
     go_wp2;go_roundw
     case rel => exact ⟨k + 1, cl, by omega, by go_num, rfl, HG, hbW⟩
     case measure => simp [intOf]; omega
   ·have HG : Hid (B.srt 0 xs = B.srt cl (xs.drop (k + 1))) := by
     show _ = _;rw [HSR.out, decide_eq_true (show cl = 0 by omega), Bool.true_or, Bool.true_and]
    go_wp2;go_roundw
    case rel => exact ⟨k + 1, cl, by omega, by go_num, rfl, HG, hbW⟩
    case measure => simp [intOf]; omega
  ·obtain rfl : k = n := (by omega);have hki : (k : Int) <= (k : Int) := Int.le_refl _
   have HT : Hid (B.srt 0 xs = true) := by
    show _ = _;rw [HS.out, List.drop_eq_nil_of_le (by rw [HN.out]; exact Nat.le_refl _)];rfl
   go_wp2;go_returns;exact ⟨by rw [HT.out]; rfl, HBW.out⟩
end
end
section
open Go.RowKit
section
variable {w0 : World} {v : Value} {B : BaseF} {c : Bool}
theorem rone_any (hR : RefIs w0 v B) (hbd : zac B) (r : Int) : R32 r -> ∀ w, Below w0.heap.size w0 w -> Calls Tryz.prog 122 #[v, .bool c, .int .i32 r] w (zae w (B.one c r)) := by
 induction r using B.wf.induction with
 | _ r ih =>
 intro hr w hw;have D1 := rdecomp_is (hR.below hw) (Below.refl _ _) r hr;obtain ⟨kd, il, hd⟩ : ∃ kd il, B.dec r = (kd, il) := ⟨_, _, rfl⟩;rw [hd] at D1;have hil : ∀ y ∈ il, R32 y := (by have := hbd.dec r; rw [hd] at this; exact this);have hl18 : il.length <= 18 := (by have := hbd.declen r; rw [hd] at this; exact this);have HIH : Hid (∀ y ∈ il, ∀ w, Below w0.heap.size w0 w -> Calls Tryz.prog 122 #[v, .bool c, .int .i32 y] w (zae w (B.one c y))) := fun y hy => ih y (by rw [hd]; exact hy) (hil y hy);have HPA : Hid (B.parts c r = if kd ≠ [] /\ c = false then [] else il) := (by show _ = _; unfold BaseF.parts; rw [hd]);have HLEN := hz0q (hbd.len c r);have HW := hz0q hw;clear ih hd hil hbd hw hR;go_enter Tryz.func122, Tryz.ntmps122;go_wp2_with fail;refine D1.mono ?_;rintro e w1 ⟨A, cp, rfl, hrd, hb1, _⟩;clear D1
 by_cases h0 : il = []
 ·subst h0;have HP : Hid (B.parts c r = []) := (by show _ = _; rw [HPA.out]; split <;> rfl);clear hrd;have hone : B.one c r = [r] := B.one_none HP.out
  have hown : (w1.alloc (.cells #[.int .i32 r] 21)).ownsRow w.heap.size 21 1 (.slice (some ⟨w1.heap.size, 0, none⟩) 1 1) 1 (Rs [r]) :=
   ⟨rfl, .inr ⟨w1.heap.size, 1, #[.int .i32 r], rfl, hb1.size, zl _ _ _, Nat.le_refl _, by unfold maxLen; omega, rfl, rfl⟩⟩
  have hb2 : Below w.heap.size w (w1.alloc (.cells #[.int .i32 r] 21)) := hb1.alloc hb1.size _
  have HF : Hid (zae w (B.one c r) (.returned (.slice (some ⟨w1.heap.size, 0, none⟩) 1 1)) (w1.alloc (.cells #[.int .i32 r] 21))) := by
   show zae _ _ _ _;rw [hone];exact ⟨_, _, rfl, hown, hb2⟩
  clear hone hown hb2 hb1;go_wp2;go_returns;exact HF.out
 ·have hpos : 0 < il.length := List.length_pos_iff.2 h0;obtain ⟨m, hm⟩ : ∃ m, m = il.length := ⟨_, rfl⟩;have hmz : ((m : Int) == 0) = false := (by simp; omega);have HM := hz0q hm;have HH0 := hz0q h0;clear h0
  by_cases hkc : kd ≠ [] /\ c = false
  ·have HP : Hid (B.parts c r = []) := (by show _ = _; rw [HPA.out, if_pos hkc]);obtain ⟨hk0, rfl⟩ := hkc
   have hte : (mk8 kd).toList.isEmpty = false := by
    rw [zk, zy]
    cases kd with
    | nil => exact absurd rfl hk0
    | cons a t => rfl
   rw [<- hm];clear hrd hk0 hm hpos;have hone : B.one false r = [r] := B.one_none HP.out
   have hown : (w1.alloc (.cells #[.int .i32 r] 21)).ownsRow w.heap.size 21 1 (.slice (some ⟨w1.heap.size, 0, none⟩) 1 1) 1 (Rs [r]) :=
    ⟨rfl, .inr ⟨w1.heap.size, 1, #[.int .i32 r], rfl, hb1.size, zl _ _ _, Nat.le_refl _, by unfold maxLen; omega, rfl, rfl⟩⟩
   have hb2 : Below w.heap.size w (w1.alloc (.cells #[.int .i32 r] 21)) := hb1.alloc hb1.size _
   have HF : Hid (zae w (B.one false r) (.returned (.slice (some ⟨w1.heap.size, 0, none⟩) 1 1)) (w1.alloc (.cells #[.int .i32 r] 21))) := by
    show zae _ _ _ _;rw [hone];exact ⟨_, _, rfl, hown, hb2⟩
   clear hone hown hb2 hb1;go_wp2;go_returns;exact HF.out
  ·have HP : Hid (B.one c r = il.flatMap (B.one c)) := by
    show _ = _;have hp : B.parts c r = il := (by rw [HPA.out, if_neg hkc]);rw [B.one_some (by rw [hp]; exact HH0.out), hp]
   have HRD := hz0q hrd;have hb1s := hb1.size;have HB1 := hz0q hb1;rw [<- hm];have hm18 : m <= 18 := by omega
   by_cases hk0 : kd = []
   ·subst hk0;have hte : (mk8 ([] : List UInt8)).toList.isEmpty = true := (by rw [zk, zy]; rfl);clear hrd hkc hm hb1 hl18 hpos;go_wp2
    go_loopw [9, 10] (fun s9 i wr => ∃ (k : Nat) (out : List Int) (A9 : Option Addr) (c9 : Nat), k <= m /\ i = .int .i64 k /\ s9 = .slice A9 out.length c9 /\ Hid (out = (il.take k).flatMap (B.one c)) /\ Hid (wr.ownsRow w1.heap.size 21 1 (.slice A9 out.length c9) out.length (Rs out)) /\ Hid (Below w1.heap.size w1 wr)) (fun _ i _ => m - (intOf i).toNat)
    case atStart => exact ⟨0, [], none, 0, Nat.zero_le _, rfl, rfl, rfl, World.ownsRow_nil _ _ _ _, Below.refl _ _⟩
    case round =>
     obtain ⟨k, out, A9, c9, hk, rfl, rfl, HOUT, HOWN, HBW⟩ := hrel
     have hol : out.length <= 54 := by
      have h1 := HLEN.out;rw [HP.out] at h1;have := zgo (f := B.one c) (l := il) k;rw [HOUT.out];omega
     by_cases hlt : k < m
     ·obtain ⟨y, hy⟩ : ∃ y, il[k]? = some y := ⟨_, List.getElem?_eq_getElem (by rw [<- HM.out]; exact hlt)⟩;have REC := HIH.out y (List.mem_of_getElem? hy) wr (zb HW.out (zb HB1.out HBW.out))
      have hly : (B.one c y).length <= 54 := by
       have h1 := HLEN.out;rw [HP.out] at h1;have h2 := zgo (f := B.one c) (l := il) (k + 1);rw [zcb hy, List.length_append] at h2;omega
      obtain ⟨b, off, rfl, _, hcx⟩ := (HRD.out.below HBW.out).at_ (by rw [<- HM.out]; omega);have c0 := hcx k (.int .i32 y) (by simp [Rs, hy]);have hki : (k : Int) < (m : Int) := (by omega);have HFT := hz0q (zcb (f := B.one c) hy);obtain ⟨ys, hys⟩ : ∃ ys, ys = B.one c y := ⟨_, rfl⟩;rw [<- hys] at REC hly;have HYS := hz0q hys;clear hy hcx hys;go_wp2_with fail;refine REC.mono ?_;rintro e w2 ⟨A2, c2, rfl, hown2, hb2⟩;obtain ⟨A3, c3, hv3, _, _, hrd2⟩ := Rd.of_own hown2;injection hv3 with e1 _ e3;subst e1 e3;have hownD := z8 HOWN.out hb2;have hbW := zb HBW.out hb2;have hbs := hbW.size;have hone := ziz ys;clear hown2 REC c0 hb2;go_wp2_with (at_builtin; refine z6 zab _ rfl _ _ rfl w1.heap.size rfl hownD rfl hrd2 hone (by omega) (by omega) hbs ?_)
      intro A4 c4 w4 hown4 hg4 hat4;have hb4 := zbb hbW hbs hownD hg4;have HO : Hid (out ++ ys = (il.take (k + 1)).flatMap (B.one c)) := (by show _ = _; rw [HFT.out, HOUT.out, HYS.out]);have hln : out.length + ys.length = (out ++ ys).length := by simp
      have HN : Hid (w4.ownsRow w1.heap.size 21 1 (.slice A4 (out ++ ys).length c4) (out ++ ys).length (Rs (out ++ ys))) := by
       show w4.ownsRow _ _ _ _ _ _;rw [<- hln];simpa [Rs] using hown4
      have HB4 := hz0q hb4;rw [hln];obtain ⟨o2, ho2⟩ : ∃ o2, o2 = out ++ ys := ⟨_, rfl⟩;rw [<- ho2] at HO HN ⊢;clear hown4 hg4 hat4 hownD hbW hrd2 hb4 hln hone ho2;go_wp2;go_roundw
      case rel => exact ⟨k + 1, o2, A4, c4, by omega, by go_num, rfl, HO, HN, HB4⟩
      case measure => simp [intOf]; omega
     ·obtain rfl : k = m := (by omega);have hki : (k : Int) <= (k : Int) := Int.le_refl _
      have HF : Hid (zae w (B.one c r) (.returned (.slice A9 out.length c9)) wr) := by
       show zae _ _ _ _;have h1 := HOUT.out;rw [HM.out, List.take_length] at h1;rw [HP.out, <- h1];exact ⟨_, _, rfl, zaw HOWN.out hb1s, zb HB1.out HBW.out⟩
      go_wp2;go_returns;exact HF.out
   ·obtain rfl : c = true := by
     cases c with
     | true => rfl
     | false => exact absurd ⟨hk0, rfl⟩ hkc
    have hte : (mk8 kd).toList.isEmpty = false := by
     rw [zk, zy]
     cases kd with
     | nil => exact absurd rfl hk0
     | cons a t => rfl
    clear hrd hkc hk0 hm hb1 hl18 hpos;go_wp2
    go_loopw [9, 10] (fun s9 i wr => ∃ (k : Nat) (out : List Int) (A9 : Option Addr) (c9 : Nat), k <= m /\ i = .int .i64 k /\ s9 = .slice A9 out.length c9 /\ Hid (out = (il.take k).flatMap (B.one true)) /\ Hid (wr.ownsRow w1.heap.size 21 1 (.slice A9 out.length c9) out.length (Rs out)) /\ Hid (Below w1.heap.size w1 wr)) (fun _ i _ => m - (intOf i).toNat)
    case atStart => exact ⟨0, [], none, 0, Nat.zero_le _, rfl, rfl, rfl, World.ownsRow_nil _ _ _ _, Below.refl _ _⟩
    case round =>
     obtain ⟨k, out, A9, c9, hk, rfl, rfl, HOUT, HOWN, HBW⟩ := hrel
     have hol : out.length <= 54 := by
      have h1 := HLEN.out;rw [HP.out] at h1;have := zgo (f := B.one true) (l := il) k;rw [HOUT.out];omega
     by_cases hlt : k < m
     ·obtain ⟨y, hy⟩ : ∃ y, il[k]? = some y := ⟨_, List.getElem?_eq_getElem (by rw [<- HM.out]; exact hlt)⟩;have REC := HIH.out y (List.mem_of_getElem? hy) wr (zb HW.out (zb HB1.out HBW.out))
      have hly : (B.one true y).length <= 54 := by
       have h1 := HLEN.out;rw [HP.out] at h1;have h2 := zgo (f := B.one true) (l := il) (k + 1);rw [zcb hy, List.length_append] at h2;omega
      obtain ⟨b, off, rfl, _, hcx⟩ := (HRD.out.below HBW.out).at_ (by rw [<- HM.out]; omega);have c0 := hcx k (.int .i32 y) (by simp [Rs, hy]);have hki : (k : Int) < (m : Int) := (by omega);have HFT := hz0q (zcb (f := B.one true) hy);obtain ⟨ys, hys⟩ : ∃ ys, ys = B.one true y := ⟨_, rfl⟩;rw [<- hys] at REC hly;have HYS := hz0q hys;clear hy hcx hys;go_wp2_with fail;refine REC.mono ?_;rintro e w2 ⟨A2, c2, rfl, hown2, hb2⟩;obtain ⟨A3, c3, hv3, _, _, hrd2⟩ := Rd.of_own hown2;injection hv3 with e1 _ e3;subst e1 e3;have hownD := z8 HOWN.out hb2;have hbW := zb HBW.out hb2;have hbs := hbW.size;have hone := ziz ys;clear hown2 REC c0 hb2;go_wp2_with (at_builtin; refine z6 zab _ rfl _ _ rfl w1.heap.size rfl hownD rfl hrd2 hone (by omega) (by omega) hbs ?_)
      intro A4 c4 w4 hown4 hg4 hat4;have hb4 := zbb hbW hbs hownD hg4;have HO : Hid (out ++ ys = (il.take (k + 1)).flatMap (B.one true)) := (by show _ = _; rw [HFT.out, HOUT.out, HYS.out]);have hln : out.length + ys.length = (out ++ ys).length := by simp
      have HN : Hid (w4.ownsRow w1.heap.size 21 1 (.slice A4 (out ++ ys).length c4) (out ++ ys).length (Rs (out ++ ys))) := by
       show w4.ownsRow _ _ _ _ _ _;rw [<- hln];simpa [Rs] using hown4
      have HB4 := hz0q hb4;rw [hln];obtain ⟨o2, ho2⟩ : ∃ o2, o2 = out ++ ys := ⟨_, rfl⟩;rw [<- ho2] at HO HN ⊢;clear hown4 hg4 hat4 hownD hbW hrd2 hb4 hln hone ho2;go_wp2;go_roundw
      case rel => exact ⟨k + 1, o2, A4, c4, by omega, by go_num, rfl, HO, HN, HB4⟩
      case measure => simp [intOf]; omega
     ·obtain rfl : k = m := (by omega);have hki : (k : Int) <= (k : Int) := Int.le_refl _
      have HF : Hid (zae w (B.one true r) (.returned (.slice A9 out.length c9)) wr) := by
       show zae _ _ _ _;have h1 := HOUT.out;rw [HM.out, List.take_length] at h1;rw [HP.out, <- h1];exact ⟨_, _, rfl, zaw HOWN.out hb1s, zb HB1.out HBW.out⟩
      go_wp2;go_returns;exact HF.out
end
end
end Go.Proofs.YtkocaoeednmkpaaGreatDoor
