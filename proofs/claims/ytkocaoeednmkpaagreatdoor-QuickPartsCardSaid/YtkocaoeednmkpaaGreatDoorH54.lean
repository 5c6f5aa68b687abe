/- QuickParts: the law. -/
import Derived.Test.YtkocaoeednmkpaaGreatDoorH42
set_option linter.unusedSimpArgs false
set_option linter.unusedVariables false
set_option maxRecDepth 20000
set_option maxHeartbeats 4000000
namespace Go.Proofs.YtkocaoeednmkpaaGreatDoor
section
open Go.RowKit Go.Lib
theorem Rd.zero {w : World} {A : Option Addr} {n : Nat} {xs : List Int} (hn : n = 0) (hx : xs = []) : Rd w A n (Rs xs) := by
 subst hn hx;exact Rd.nil w A
theorem quickparts_yes (s o : ByteArray) (f : Int) (A : Option Addr) (n cp : Nat) (zs : List Int) (w : World) (hE : Env w) (hk : Kinds w) (hz : ArgR w A n cp zs) :
  Calls Tryz.prog 8 #[.agg #[.string s, .string o], .int .i64 f, .slice A n cp] w fun e w' => e = .returned (.bool true) /\ Below w.heap.size w w' := by
 obtain ⟨W0, hW0⟩ : ∃ W0, w.alloc (.cells #[.string s, .string o] 23) = W0 := ⟨_, rfl⟩;have hB0 : Below w.heap.size w W0 := (by rw [<- hW0]; exact (Below.refl _ w).alloc (Nat.le_refl _) _);have bx1 : W0.heap[w.heap.size]? = some (.cells #[.string s, .string o] 23 (0, 0)) := (by rw [<- hW0]; exact zl w _ _);have hc0 := za bx1 0 rfl;have hc1 := za bx1 1 rfl;have BO := zb8 s o W0 (hE.below hB0) (hk.below' hB0);have HEE := hz0q hE;have HKK := hz0q hk;have HZ := hz0q hz;clear hE hk bx1 hz;go_enter Tryz.func8, Tryz.ntmps8;go_wp2_with fail;refine BO.mono ?_;rintro e v0 (⟨rfl, hb0⟩ | ⟨bp, x, B, rfl, hB, hR, hbd, hb0⟩)
 ·have HW := hz0q (zb hB0 hb0);clear BO hc0 hc1 hW0 hB0 hb0;have HE0 := HEE.out.below HW.out;have HK0 := HKK.out.below' HW.out;have AW := zf _ HE0 HK0;go_wp2_with fail;refine AW.mono ?_;rintro e v1 ⟨rfl, hbn⟩;have HW := hz0q (zb HW.out hbn);clear AW hbn;go_wp2;go_returns;exact ⟨rfl, HW.out⟩
 have HW := hz0q (zb hB0 hb0);have ST : Hid (LawSt v0 bp x B) := ⟨hB, hR, hbd, HEE.out.below HW.out, HKK.out.below' HW.out⟩;replace HZ := hz0q (HZ.out.below HW.out);clear BO hc0 hc1 hW0 hB hR hbd hb0 hB0 HEE HKK
 by_cases hn : n <= 30
 rotate_left
 ·have hn1 : (30 : Int) < (n : Int) := (by omega);clear hn;have AW := zf _ ST.out.e ST.out.k;go_wp2_with fail;refine AW.mono ?_;rintro e v1 ⟨rfl, hbn⟩;have HW := hz0q (zb HW.out hbn);clear AW hbn;go_wp2;go_returns;exact ⟨rfl, HW.out⟩
 have hn1 : ¬ (30 : Int) < (n : Int) := by omega
 by_cases hf1 : f < 1
 ·clear hn1;have AW := zf _ ST.out.e ST.out.k;go_wp2_with fail;refine AW.mono ?_;rintro e v1 ⟨rfl, hbn⟩;have HW := hz0q (zb HW.out hbn);clear AW hbn;go_wp2;go_returns;exact ⟨rfl, HW.out⟩
 by_cases hf4 : 4 < f
 ·have hf5 : ¬ (f < 1) := hf1;have AW := zf _ ST.out.e ST.out.k;go_wp2_with fail;refine AW.mono ?_;rintro e v1 ⟨rfl, hbn⟩;have HW := hz0q (zb HW.out hbn);clear AW hbn;go_wp2;go_returns;exact ⟨rfl, HW.out⟩
 have HMT := hz0q ((zbz f).2 ⟨by omega, by omega⟩);have hf14 : 1 <= f /\ f <= 4 := ⟨by omega, by omega⟩;obtain ⟨c, hc⟩ : ∃ c, c = cB f := ⟨_, rfl⟩;obtain ⟨j, hj⟩ : ∃ j, j = jB f := ⟨_, rfl⟩;have HCC := hz0q hc;have HJJ := hz0q hj;obtain ⟨kd, hkd⟩ : ∃ kd, kd = B.check c j zs := ⟨_, rfl⟩;have HKD := hz0q hkd;have h3 := zb0 (B := B) c j zs;rw [<- hkd] at h3;clear hc hj hkd hf1 hf4;have C := zbl ST.out.b ST.out.k ST.out.bd f A n cp zs HZ.out.rd HZ.out.len HZ.out.r (by omega);rw [if_pos HMT.out, if_pos HMT.out, <- HCC.out, <- HJJ.out, <- HKD.out] at C;go_wp2_with fail;refine C.mono ?_;rintro e v1 ⟨rfl, hbn⟩;clear C;replace ST := hz0q (ST.out.below hbn);replace HZ := hz0q (HZ.out.below hbn);replace HW := hz0q (zb HW.out hbn);clear hbn;clear hf14;go_wp2;have HB0 : Hid (Below v1.heap.size v1 v1) := Below.refl _ _
 go_loopw [11] (fun i wr => ∃ k : Nat, k <= n + 1 /\ i = .int .i64 k /\ Hid (Below v1.heap.size v1 wr)) (fun i _ => n + 1 - (intOf i).toNat)
 case atStart => exact ⟨0, by omega, rfl, HB0⟩
 case round =>
  obtain ⟨k, hk, rfl, HBW⟩ := hrel;obtain ⟨wo, rfl⟩ : ∃ wo, wo = wr := ⟨wr, rfl⟩
  by_cases hlt : k <= n
  ·have hki : (k : Int) <= (n : Int) := (by omega);have hk0 : (0 : Int) <= (k : Int) := (by omega);have hwk : IntKind.i64.wrap ((k : Int) + 1) = (k : Int) + 1 := IntWalk.i64_in _ (by omega);have STW := hz0q (ST.out.below HBW.out);have HZW := hz0q (HZ.out.below HBW.out);obtain ⟨x, hx⟩ : ∃ x, x = B.check c j (zs.take k) := ⟨_, rfl⟩;obtain ⟨y, hy⟩ : ∃ y, y = B.check c j (zs.drop k) := ⟨_, rfl⟩;have hzz : zs = zs.take k ++ zs.drop k := (List.take_append_drop k zs).symm;have H1 : Hid (kd = 1 -> x = 1 /\ y = 1) := fun e => by rw [hx, hy]; exact check_left (by rw [<- hzz, <- HKD.out]; exact e)
   have H2 : Hid (kd ≠ 2 -> x ≠ 2 /\ y ≠ 2) := fun e => by rw [hx, hy]; exact check_part (by rw [<- hzz, <- HKD.out]; exact e)
   have HX := hz0q hx;have HY := hz0q hy;have HTL : Hid ((zs.take k).length = k) := (by show _ = _; rw [List.length_take, HZW.out.len]; omega);have HDL : Hid ((zs.drop k).length = n - k) := by show _ = _; rw [List.length_drop, HZW.out.len]
   have CHK : Hid (∀ W A' m' c' xs, Below wo.heap.size wo W -> Rd W A' m' (Rs xs) -> xs.length = m' -> (∀ x ∈ xs, R32 x) -> m' <= 30 -> Calls Tryz.prog 27 #[.pointer (some ⟨bp, 0, none⟩), .int .i64 f, .slice A' m' c'] W fun e w' => e = .returned (.tuple #[.int .i64 (B.check c j xs), .int .i64 0]) /\ Below W.heap.size W w') := fun W A' m' c' xs h1 h2 h3 h4 h5 => by
    have := zbl (cp := c') (STW.out.below h1).b (STW.out.below h1).k STW.out.bd f A' m' xs h2 h3 h4 (by omega);rw [if_pos HMT.out, if_pos HMT.out, <- HCC.out, <- HJJ.out] at this;exact this
   have HTR : Hid (∀ x ∈ zs.take k, R32 x) := fun y hy => HZW.out.r y (List.mem_of_mem_take hy);have HDR : Hid (∀ x ∈ zs.drop k, R32 x) := fun y hy => HZW.out.r y (List.mem_of_mem_drop hy);have HR0 : Hid (Below wo.heap.size wo wo) := Below.refl _ _;have hcap : n <= cp := HZW.out.cap;have hnil := HZW.out.nil;clear hx hy hzz;have hkcp : (k : Int) <= (cp : Int) := (by omega);have hncp : (n : Int) <= (cp : Int) := by omega
   cases A with
   | none =>
    obtain ⟨hn00, hcp0⟩ := hnil rfl;have HN0 : Hid (n = 0 /\ k = 0 /\ zs.take k = [] /\ zs.drop k = []) := ⟨by omega, by omega, List.eq_nil_of_length_eq_zero (by rw [HTL.out]; omega), List.eq_nil_of_length_eq_zero (by rw [HDL.out]; omega)⟩;clear hnil hcap hn00 hcp0;rcases h3 with rfl | rfl | rfl
    ·obtain ⟨rfl, rfl⟩ := H1.out rfl;go_wp2_with fail
     all_goals
      refine (CHK.out _ _ _ _ (zs.take k) HR0.out (Rd.zero (by have := HN0.out; omega) HN0.out.2.2.1) (by rw [HN0.out.2.2.1]; have := HN0.out; simp; omega) HTR.out (by omega)).mono ?_;rintro e w1 ⟨rfl, hbn⟩;rw [<- HX.out];have HR1 := hz0q (zb HR0.out hbn);clear hbn;go_wp2_with fail
      all_goals
       refine (CHK.out _ _ _ _ (zs.drop k) HR1.out (Rd.zero (by have := HN0.out; omega) HN0.out.2.2.2) (by rw [HN0.out.2.2.2]; have := HN0.out; simp; omega) HDR.out (by omega)).mono ?_;rintro e w2 ⟨rfl, hbn⟩;rw [<- HY.out];have HF := hz0q (zb HBW.out (zb HR1.out hbn));clear hbn;go_wp2;go_roundw
       case rel => exact ⟨k + 1, by omega, by go_num, HF⟩
       case measure => simp [intOf] <;> omega
    ·skip;go_wp2_with fail
     all_goals
      refine (CHK.out _ _ _ _ (zs.take k) HR0.out (Rd.zero (by have := HN0.out; omega) HN0.out.2.2.1) (by rw [HN0.out.2.2.1]; have := HN0.out; simp; omega) HTR.out (by omega)).mono ?_;rintro e w1 ⟨rfl, hbn⟩;rw [<- HX.out];have HR1 := hz0q (zb HR0.out hbn);clear hbn;go_wp2_with fail
      all_goals
       refine (CHK.out _ _ _ _ (zs.drop k) HR1.out (Rd.zero (by have := HN0.out; omega) HN0.out.2.2.2) (by rw [HN0.out.2.2.2]; have := HN0.out; simp; omega) HDR.out (by omega)).mono ?_;rintro e w2 ⟨rfl, hbn⟩;rw [<- HY.out];have HF := hz0q (zb HBW.out (zb HR1.out hbn));clear hbn;go_wp2;go_roundw
       case rel => exact ⟨k + 1, by omega, by go_num, HF⟩
       case measure => simp [intOf] <;> omega
    ·obtain ⟨hx0, hy0⟩ := H2.out (by decide);have hx2 : (x == 2) = false := (by simpa using hx0);have hy2 : (y == 2) = false := (by simpa using hy0);clear hx0 hy0;go_wp2_with fail
     all_goals
      refine (CHK.out _ _ _ _ (zs.take k) HR0.out (Rd.zero (by have := HN0.out; omega) HN0.out.2.2.1) (by rw [HN0.out.2.2.1]; have := HN0.out; simp; omega) HTR.out (by omega)).mono ?_;rintro e w1 ⟨rfl, hbn⟩;rw [<- HX.out];have HR1 := hz0q (zb HR0.out hbn);clear hbn;go_wp2_with fail
      all_goals
       refine (CHK.out _ _ _ _ (zs.drop k) HR1.out (Rd.zero (by have := HN0.out; omega) HN0.out.2.2.2) (by rw [HN0.out.2.2.2]; have := HN0.out; simp; omega) HDR.out (by omega)).mono ?_;rintro e w2 ⟨rfl, hbn⟩;rw [<- HY.out];have HF := hz0q (zb HBW.out (zb HR1.out hbn));clear hbn;go_wp2;go_roundw
       case rel => exact ⟨k + 1, by omega, by go_num, HF⟩
       case measure => simp [intOf] <;> omega
   | some a =>
    clear hnil
    by_cases hkc : k = cp
    ·obtain rfl : k = n := (by omega);subst hkc;have HZE : Hid (zs.drop k = [] /\ zs.take k = zs) := ⟨List.eq_nil_of_length_eq_zero (by rw [HDL.out]; omega), List.take_of_length_le (by rw [HZW.out.len]; exact Nat.le_refl _)⟩;rcases h3 with rfl | rfl | rfl
     ·obtain ⟨rfl, rfl⟩ := H1.out rfl;go_wp2_with fail;refine (CHK.out _ _ _ _ (zs.take k) HR0.out (by rw [HZE.out.2]; exact HZW.out.rd) (HTL.out) HTR.out (by omega)).mono ?_;rintro e w1 ⟨rfl, hbn⟩;rw [<- HX.out];have HR1 := hz0q (zb HR0.out hbn);clear hbn;go_wp2_with fail;refine (CHK.out _ _ _ _ (zs.drop k) HR1.out (by rw [HZE.out.1]; exact Rd.nil _ _) (by rw [HZE.out.1]; rfl) HDR.out (by omega)).mono ?_;rintro e w2 ⟨rfl, hbn⟩;rw [<- HY.out];have HF := hz0q (zb HBW.out (zb HR1.out hbn));clear hbn;go_wp2;go_roundw
      case rel => exact ⟨k + 1, by omega, by go_num, HF⟩
      case measure => simp [intOf] <;> omega
     ·skip;go_wp2_with fail;refine (CHK.out _ _ _ _ (zs.take k) HR0.out (by rw [HZE.out.2]; exact HZW.out.rd) (HTL.out) HTR.out (by omega)).mono ?_;rintro e w1 ⟨rfl, hbn⟩;rw [<- HX.out];have HR1 := hz0q (zb HR0.out hbn);clear hbn;go_wp2_with fail;refine (CHK.out _ _ _ _ (zs.drop k) HR1.out (by rw [HZE.out.1]; exact Rd.nil _ _) (by rw [HZE.out.1]; rfl) HDR.out (by omega)).mono ?_;rintro e w2 ⟨rfl, hbn⟩;rw [<- HY.out];have HF := hz0q (zb HBW.out (zb HR1.out hbn));clear hbn;go_wp2;go_roundw
      case rel => exact ⟨k + 1, by omega, by go_num, HF⟩
      case measure => simp [intOf] <;> omega
     ·obtain ⟨hx0, hy0⟩ := H2.out (by decide);have hx2 : (x == 2) = false := (by simpa using hx0);have hy2 : (y == 2) = false := (by simpa using hy0);clear hx0 hy0;go_wp2_with fail;refine (CHK.out _ _ _ _ (zs.take k) HR0.out (by rw [HZE.out.2]; exact HZW.out.rd) (HTL.out) HTR.out (by omega)).mono ?_;rintro e w1 ⟨rfl, hbn⟩;rw [<- HX.out];have HR1 := hz0q (zb HR0.out hbn);clear hbn;go_wp2_with fail;refine (CHK.out _ _ _ _ (zs.drop k) HR1.out (by rw [HZE.out.1]; exact Rd.nil _ _) (by rw [HZE.out.1]; rfl) HDR.out (by omega)).mono ?_;rintro e w2 ⟨rfl, hbn⟩;rw [<- HY.out];have HF := hz0q (zb HBW.out (zb HR1.out hbn));clear hbn;go_wp2;go_roundw
      case rel => exact ⟨k + 1, by omega, by go_num, HF⟩
      case measure => simp [intOf] <;> omega
    ·by_cases hn0 : n = 0
     ·have HN0 : Hid (n = 0 /\ k = 0 /\ zs.take k = [] /\ zs.drop k = []) := ⟨by omega, by omega, List.eq_nil_of_length_eq_zero (by rw [HTL.out]; omega), List.eq_nil_of_length_eq_zero (by rw [HDL.out]; omega)⟩;clear hn0;rcases h3 with rfl | rfl | rfl
      ·obtain ⟨rfl, rfl⟩ := H1.out rfl;go_wp2_with fail
       all_goals
        refine (CHK.out _ _ _ _ (zs.take k) HR0.out (Rd.zero (by have := HN0.out; omega) HN0.out.2.2.1) (by rw [HN0.out.2.2.1]; have := HN0.out; simp; omega) HTR.out (by omega)).mono ?_;rintro e w1 ⟨rfl, hbn⟩;rw [<- HX.out];have HR1 := hz0q (zb HR0.out hbn);clear hbn;go_wp2_with fail
        all_goals
         refine (CHK.out _ _ _ _ (zs.drop k) HR1.out (Rd.zero (by have := HN0.out; omega) HN0.out.2.2.2) (by rw [HN0.out.2.2.2]; have := HN0.out; simp; omega) HDR.out (by omega)).mono ?_;rintro e w2 ⟨rfl, hbn⟩;rw [<- HY.out];have HF := hz0q (zb HBW.out (zb HR1.out hbn));clear hbn;go_wp2;go_roundw
         case rel => exact ⟨k + 1, by omega, by go_num, HF⟩
         case measure => simp [intOf] <;> omega
      ·skip;go_wp2_with fail
       all_goals
        refine (CHK.out _ _ _ _ (zs.take k) HR0.out (Rd.zero (by have := HN0.out; omega) HN0.out.2.2.1) (by rw [HN0.out.2.2.1]; have := HN0.out; simp; omega) HTR.out (by omega)).mono ?_;rintro e w1 ⟨rfl, hbn⟩;rw [<- HX.out];have HR1 := hz0q (zb HR0.out hbn);clear hbn;go_wp2_with fail
        all_goals
         refine (CHK.out _ _ _ _ (zs.drop k) HR1.out (Rd.zero (by have := HN0.out; omega) HN0.out.2.2.2) (by rw [HN0.out.2.2.2]; have := HN0.out; simp; omega) HDR.out (by omega)).mono ?_;rintro e w2 ⟨rfl, hbn⟩;rw [<- HY.out];have HF := hz0q (zb HBW.out (zb HR1.out hbn));clear hbn;go_wp2;go_roundw
         case rel => exact ⟨k + 1, by omega, by go_num, HF⟩
         case measure => simp [intOf] <;> omega
      ·obtain ⟨hx0, hy0⟩ := H2.out (by decide);have hx2 : (x == 2) = false := (by simpa using hx0);have hy2 : (y == 2) = false := (by simpa using hy0);clear hx0 hy0;go_wp2_with fail
       all_goals
        refine (CHK.out _ _ _ _ (zs.take k) HR0.out (Rd.zero (by have := HN0.out; omega) HN0.out.2.2.1) (by rw [HN0.out.2.2.1]; have := HN0.out; simp; omega) HTR.out (by omega)).mono ?_;rintro e w1 ⟨rfl, hbn⟩;rw [<- HX.out];have HR1 := hz0q (zb HR0.out hbn);clear hbn;go_wp2_with fail
        all_goals
         refine (CHK.out _ _ _ _ (zs.drop k) HR1.out (Rd.zero (by have := HN0.out; omega) HN0.out.2.2.2) (by rw [HN0.out.2.2.2]; have := HN0.out; simp; omega) HDR.out (by omega)).mono ?_;rintro e w2 ⟨rfl, hbn⟩;rw [<- HY.out];have HF := hz0q (zb HBW.out (zb HR1.out hbn));clear hbn;go_wp2;go_roundw
         case rel => exact ⟨k + 1, by omega, by go_num, HF⟩
         case measure => simp [intOf] <;> omega
     ·obtain ⟨b, off, ha, _, _⟩ := HZW.out.rd.at_ (by omega);injection ha with ha;subst ha;rcases h3 with rfl | rfl | rfl
      ·obtain ⟨rfl, rfl⟩ := H1.out rfl;go_wp2_with fail;refine (CHK.out _ _ _ _ (zs.take k) HR0.out (HZW.out.rd.take (by omega)) (HTL.out) HTR.out (by omega)).mono ?_;rintro e w1 ⟨rfl, hbn⟩;rw [<- HX.out];have HR1 := hz0q (zb HR0.out hbn);clear hbn;go_wp2_with fail;refine (CHK.out _ _ _ _ (zs.drop k) HR1.out ((HZW.out.rd.below HR1.out).drop (by omega)) (HDL.out) HDR.out (by omega)).mono ?_;rintro e w2 ⟨rfl, hbn⟩;rw [<- HY.out];have HF := hz0q (zb HBW.out (zb HR1.out hbn));clear hbn;go_wp2;go_roundw
       case rel => exact ⟨k + 1, by omega, by go_num, HF⟩
       case measure => simp [intOf] <;> omega
      ·skip;go_wp2_with fail;refine (CHK.out _ _ _ _ (zs.take k) HR0.out (HZW.out.rd.take (by omega)) (HTL.out) HTR.out (by omega)).mono ?_;rintro e w1 ⟨rfl, hbn⟩;rw [<- HX.out];have HR1 := hz0q (zb HR0.out hbn);clear hbn;go_wp2_with fail;refine (CHK.out _ _ _ _ (zs.drop k) HR1.out ((HZW.out.rd.below HR1.out).drop (by omega)) (HDL.out) HDR.out (by omega)).mono ?_;rintro e w2 ⟨rfl, hbn⟩;rw [<- HY.out];have HF := hz0q (zb HBW.out (zb HR1.out hbn));clear hbn;go_wp2;go_roundw
       case rel => exact ⟨k + 1, by omega, by go_num, HF⟩
       case measure => simp [intOf] <;> omega
      ·obtain ⟨hx0, hy0⟩ := H2.out (by decide);have hx2 : (x == 2) = false := (by simpa using hx0);have hy2 : (y == 2) = false := (by simpa using hy0);clear hx0 hy0;go_wp2_with fail;refine (CHK.out _ _ _ _ (zs.take k) HR0.out (HZW.out.rd.take (by omega)) (HTL.out) HTR.out (by omega)).mono ?_;rintro e w1 ⟨rfl, hbn⟩;rw [<- HX.out];have HR1 := hz0q (zb HR0.out hbn);clear hbn;go_wp2_with fail;refine (CHK.out _ _ _ _ (zs.drop k) HR1.out ((HZW.out.rd.below HR1.out).drop (by omega)) (HDL.out) HDR.out (by omega)).mono ?_;rintro e w2 ⟨rfl, hbn⟩;rw [<- HY.out];have HF := hz0q (zb HBW.out (zb HR1.out hbn));clear hbn;go_wp2;go_roundw
       case rel => exact ⟨k + 1, by omega, by go_num, HF⟩
       case measure => simp [intOf] <;> omega
  ·have hki : ¬ (k : Int) <= (n : Int) := (by omega);replace ST := hz0q (ST.out.below HBW.out);replace HW := hz0q (zb HW.out HBW.out);clear HBW HB0;have AW := zf _ ST.out.e ST.out.k;go_wp2_with fail;refine AW.mono ?_;rintro e v2 ⟨rfl, hbn⟩;have HW := hz0q (zb HW.out hbn);clear AW hbn;go_wp2;go_returns;exact ⟨rfl, HW.out⟩
end
end Go.Proofs.YtkocaoeednmkpaaGreatDoor
