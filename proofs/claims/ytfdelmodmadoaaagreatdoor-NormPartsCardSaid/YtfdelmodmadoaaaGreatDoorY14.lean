/- The document's answer for a range of characters. -/
import Derived.Test.YtfdelmodmadoaaaGreatDoorY08
set_option linter.unusedSimpArgs false
set_option linter.unusedVariables false
set_option maxRecDepth 20000
set_option maxHeartbeats 4000000
namespace Go.Proofs.YtfdelmodmadoaaaGreatDoor
section
open Go.RowKit
theorem rhexM (l : List UInt8) (w : World) (hs : (mk8 l).size <= 1073741824) :
  Calls Tryz.prog 151 #[.string (mk8 l)] w fun e w' => e = .returned (.tuple #[.int .i32 (hexS l).1, .int .i64 (hexS l).2]) /\ w = w' := zi3 (mk8 l) w (by omega)
theorem occ_dots (s : ByteArray) (k : Nat) (h : k + 1 < s.size) : Lib.occAt (bs s) [46, 46] k = ((s[k]'(by omega)) == 46 && (s[k + 1]'h) == 46) := by
 unfold Lib.occAt;rw [zbk s k (by omega), zbk s (k + 1) h];simp only [List.isPrefixOf, Bool.and_true];rw [Bool.beq_comm (a := (46 : UInt8)), Bool.beq_comm (a := (46 : UInt8)) (b := (s[k + 1]'h))]
theorem occ_end (s : ByteArray) (k : Nat) (h : s.size <= k + 1) : Lib.occAt (bs s) [46, 46] k = false := by
 unfold Lib.occAt
 by_cases hk : k < s.size
 ·rw [zbk s k hk, za4 s (k + 1) (by omega)];simp [List.isPrefixOf]
 ·rw [za4 s k (by omega)];rfl
theorem range_hit {s : ByteArray} {k : Nat} (h : Lib.index (bs s) [46, 46] = k) : zal (bs s) = za0 (bareL (bs (s.extract 0 k))) (bareL (bs (s.extract (k + 2) s.size))) := by
 have hc : Lib.cut (bs s) [46, 46] = ((bs s).take k, (bs s).drop (k + 2), true) := by
  unfold Lib.cut;rw [h, if_pos (by omega)];rfl
 unfold zal;rw [hc, if_pos rfl, zay, zay, List.take_of_length_le (l := bs s) (i := s.size) (by rw [ze]; exact Nat.le_refl _)];rfl
theorem znt {b c : UInt8} : (((b.toNat : Nat) : Int) == ((c.toNat : Nat) : Int)) = (b == c) := by
 by_cases h : b = c
 ·subst h; simp
 ·have h1 : (b == c) = false := beq_eq_false_iff_ne.2 h;rw [h1];exact beq_eq_false_iff_ne.2 (fun e => h (UInt8.toNat_inj.1 (by omega)))
theorem rrange_any (s : ByteArray) (w : World) (hs : s.size <= 1073741824) :
  Calls Tryz.prog 116 #[.string s] w fun e w' => e = .returned (.tuple #[.int .i32 (zal (bs s)).1, .int .i32 (zal (bs s)).2.1, .int .i64 (zal (bs s)).2.2]) /\ Drew w w' := by
 go_enter Tryz.func116, Tryz.ntmps116;go_wp2
 go_loopw [5, 6, 7] (fun a b i wr => ∃ (k : Nat) (x y : List UInt8), k <= s.size + 1 /\ i = .int .i64 k /\ a = .string (mk8 x) /\ b = .string (mk8 y) /\ x.length <= s.size /\ y.length <= s.size /\ ((x = bs s /\ y = bs s /\ Hid (Lib.NoOcc (bs s) [46, 46] k)) \/ (k = s.size + 1 /\ Hid (zal (bs s) = za0 x y))) /\ Drew w wr) (fun _ _ i _ => s.size + 1 - (intOf i).toNat)
 case atStart => exact ⟨0, bs s, bs s, Nat.zero_le _, rfl, by rw [zea], by rw [zea], by rw [ze]; exact Nat.le_refl _, by rw [ze]; exact Nat.le_refl _, .inl ⟨rfl, rfl, Lib.NoOcc.zero _ _⟩, Drew.refl _⟩
 case round =>
  obtain ⟨k, x, y, hk, rfl, rfl, rfl, hxl, hyl, hst, hd⟩ := hrel
  by_cases hp : k + 1 < s.size
  ·have hi : (k : Int) + 1 < (s.size : Int) := by omega
   obtain ⟨rfl, rfl, HN⟩ : x = bs s /\ y = bs s /\ Hid (Lib.NoOcc (bs s) [46, 46] k) := by
    rcases hst with h | ⟨h, _⟩
    ·exact h
    ·omega
   clear hst;have hocc := occ_dots s k hp;have hp0 : k < s.size := (by omega);have hi0 : (k : Int) < (s.size : Int) := (by omega);have e1 : (((s[k]'hp0).toNat : Int) == 46) = ((s[k]'hp0) == 46) := znt (c := 46);have e2 : (((s[k + 1]'hp).toNat : Int) == 46) = ((s[k + 1]'hp) == 46) := znt (c := 46)
   by_cases hdots : ((s[k]'hp0) == 46 && (s[k + 1]'hp) == 46) = true
   ·have hidx : Lib.index (bs s) [46, 46] = k := Lib.index_hit HN.out (by rw [ze]; omega) (by rw [hocc]; exact hdots);have hR := range_hit hidx;have HR := hz0q hR;rw [Bool.and_eq_true] at hdots;rw [hdots.1] at e1;rw [hdots.2] at e2;have hz1 : (s.extract 0 k).size <= s.size := (by rw [ByteArray.size_extract]; omega);have hz2 : (s.extract (k + 2) s.size).size <= s.size := (by rw [ByteArray.size_extract]; omega);have hx1 := zbn (bs (s.extract 0 k));have hx2 := zbn (bs (s.extract (k + 2) s.size));rw [ze] at hx1 hx2;clear hR hidx hdots hocc;have C1 := fun w => zcq (s.extract 0 k) w (by omega);have C2 := fun w => zcq (s.extract (k + 2) s.size) w (by omega);go_wp2_with fail;refine (C1 _).mono ?_;rintro e w1 ⟨rfl, rfl⟩;go_wp2_with fail;refine (C2 _).mono ?_;rintro e w1 ⟨rfl, rfl⟩;go_wp2;go_roundw
    case rel => exact ⟨s.size + 1, _, _, by omega, by go_num, rfl, rfl, by omega, by omega, .inr ⟨rfl, HR.out⟩, hd⟩
    case measure => simp [intOf]; omega
   ·have hdots' : ((s[k]'hp0) == 46 && (s[k + 1]'hp) == 46) = false := by simpa using hdots
    have HN2 : Hid (Lib.NoOcc (bs s) [46, 46] (k + 1)) := by
     show Lib.NoOcc _ _ _;intro j hj
     by_cases hjk : j < k
     ·exact HN.out j hjk
     ·have : j = k := (by omega);subst this;rw [hocc];exact hdots'
    have hcase : (((s[k]'hp0).toNat : Int) == 46) = false \/ ((((s[k]'hp0).toNat : Int) == 46) = true /\ (((s[k + 1]'hp).toNat : Int) == 46) = false) := by
     rw [e1, e2]
     cases h1 : (s[k]'hp0) == 46
     ·exact .inl rfl
     ·rw [h1] at hdots';exact .inr ⟨rfl, by simpa using hdots'⟩
    clear hdots hdots' hocc e1 e2;rcases hcase with h1 | ⟨h1, h2⟩
    all_goals
     go_wp2;go_roundw
     case rel => exact ⟨k + 1, bs s, bs s, by omega, by go_num, rfl, rfl, hxl, hyl, .inl ⟨rfl, rfl, HN2.out⟩, hd⟩
     case measure => simp [intOf]; omega
  ·have hi : (s.size : Int) <= (k : Int) + 1 := by omega
   have hR : zal (bs s) = za0 x y := by
    rcases hst with ⟨rfl, rfl, HN⟩ | ⟨_, HR⟩
    ·have hno : Lib.index (bs s) [46, 46] = -1 := Lib.index_none (fun j hj => by
      by_cases hjk : j < k
      ·exact HN.out j hjk
      ·exact occ_end s j (by omega))
     unfold zal Lib.cut;rw [hno, if_neg (by rw [if_neg (by omega)]; simp)]
    ·exact HR.out
   have hxz : (mk8 x).size <= 1073741824 := (by rw [zm]; omega);have hyz : (mk8 y).size <= 1073741824 := (by rw [zm]; omega);clear hst
   by_cases h1 : (hexS x).2 = 0
   ·by_cases h2 : (hexS y).2 = 0
    ·have g1 : ((hexS x).2 != 0) = false := (by simp [h1]);have g2 : ((hexS y).2 != 0) = false := by simp [h2]
     by_cases h3 : (hexS y).1 < (hexS x).1
     ·have hr : zal (bs s) = (0, 0, 11) := (by rw [hR]; unfold za0; rw [if_neg (by simp [h1]), if_neg (by simp [h2]), if_pos h3]);have HR := hz0q hr;clear hr hR h1 h2;go_wp2_with fail;refine (rhexM _ _ hxz).mono ?_;rintro e w1 ⟨rfl, rfl⟩;go_wp2_with fail;refine (rhexM _ _ hyz).mono ?_;rintro e w1 ⟨rfl, rfl⟩;go_wp2;go_returns;exact ⟨zcf (by rw [HR.out]) (by rw [HR.out]) (by rw [HR.out]), hd⟩
     ·have hr : zal (bs s) = ((hexS x).1, (hexS y).1, 0) := (by rw [hR]; unfold za0; rw [if_neg (by simp [h1]), if_neg (by simp [h2]), if_neg h3]);have HR := hz0q hr;have g3 : (hexS x).1 <= (hexS y).1 := (by omega);clear hr hR h1 h2 h3;go_wp2_with fail;refine (rhexM _ _ hxz).mono ?_;rintro e w1 ⟨rfl, rfl⟩;go_wp2_with fail;refine (rhexM _ _ hyz).mono ?_;rintro e w1 ⟨rfl, rfl⟩;go_wp2;go_returns;exact ⟨zcf (by rw [HR.out]) (by rw [HR.out]) (by rw [HR.out]), hd⟩
    ·have hr : zal (bs s) = (0, 0, (hexS y).2) := (by rw [hR]; unfold za0; rw [if_neg (by simp [h1]), if_pos h2]);have HR := hz0q hr;have g1 : ((hexS x).2 != 0) = false := (by simp [h1]);have g2 : ((hexS y).2 != 0) = true := (by simp [h2]);clear hr hR h1 h2;go_wp2_with fail;refine (rhexM _ _ hxz).mono ?_;rintro e w1 ⟨rfl, rfl⟩;go_wp2_with fail;refine (rhexM _ _ hyz).mono ?_;rintro e w1 ⟨rfl, rfl⟩;go_wp2;go_returns;exact ⟨zcf (by rw [HR.out]) (by rw [HR.out]) (by rw [HR.out]), hd⟩
   ·have hr : zal (bs s) = (0, 0, (hexS x).2) := (by rw [hR]; unfold za0; rw [if_pos h1]);have HR := hz0q hr;have g1 : ((hexS x).2 != 0) = true := (by simp [h1]);clear hr hR h1;go_wp2_with fail;refine (rhexM _ _ hxz).mono ?_;rintro e w1 ⟨rfl, rfl⟩;go_wp2;go_returns;exact ⟨zcf (by rw [HR.out]) (by rw [HR.out]) (by rw [HR.out]), hd⟩
end
end Go.Proofs.YtfdelmodmadoaaaGreatDoor
