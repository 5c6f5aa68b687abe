/- Bytes that a text tells: the word, and the code's. What stands within a name, and what a character is parted into: the code. -/
import Derived.Test.YtolcabjkbefjgaaGreatDoorZ09
set_option linter.unusedSimpArgs false
set_option linter.unusedVariables false
set_option maxRecDepth 20000
set_option maxHeartbeats 4000000
namespace Go.Proofs.YtolcabjkbefjgaaGreatDoor
section
open Go.RowKit
abbrev Bs (l : List UInt8) : List Value := l.map (fun b => Value.int .u8 b.toNat)
theorem zex (s p : ByteArray) (w : World) :
  Calls Tryz.prog 104 #[.string s, .string p] w fun e w' => e = .returned (.tuple #[.string (mk8 (Lib.trimPrefix (bs s) (bs p))), .bool (Lib.hasPrefix (bs s) (bs p))]) /\ w = w' := by
 refine (Tryz.strings_CutPrefix s p w).mono ?_;rintro e w' ⟨rfl, rfl⟩;exact ⟨rfl, rfl⟩
end
section
open Go.RowKit
theorem zi0 (s : List UInt8) : Lib.trimPrefix s [60] = if Lib.hasPrefix s [60] = true then s.drop 1 else s := by
 unfold Lib.trimPrefix; rfl
theorem cutsuffix_any (s p : ByteArray) (w : World) (hs : s.size <= 9223372036854775807) :
  Calls Tryz.prog 105 #[.string s, .string p] w fun e w' => e = .returned (.tuple #[.string (mk8 (Lib.trimSuffix (bs s) (bs p))), .bool (Lib.hasSuffix (bs s) (bs p))]) /\ w = w' := by
 refine (Tryz.strings_CutSuffix s p w (by omega)).mono ?_;rintro e w' ⟨rfl, rfl⟩;exact ⟨rfl, rfl⟩
theorem zjg (nm en : ByteArray) (w : World) (hs : nm.size <= 9223372036854775807) :
  Calls Tryz.prog 57 #[.string nm, .string en] w fun e w' => e = .returned (.tuple #[.string (mk8 (zbk (bs nm) (bs en)).1), .bool (zbk (bs nm) (bs en)).2]) /\ w = w' := by
 have CP := fun w => zex nm ⟨#[60]⟩ w;rw [show bs ⟨#[60]⟩ = [60] from rfl, zi0] at CP;unfold zbk
 by_cases hp : Lib.hasPrefix (bs nm) [60] = true
 ·rw [if_pos hp, hp] at CP;rw [if_pos hp];have hdl : ((bs nm).drop 1).length <= nm.size := (by rw [List.length_drop, ze]; omega);obtain ⟨t, ht⟩ : ∃ t, t = (bs nm).drop 1 := ⟨_, rfl⟩;rw [<- ht] at CP hdl;rw [<- ht];have CS := fun w => cutsuffix_any (mk8 t) en w (by rw [zab]; omega);rw [zay] at CS;obtain ⟨a, ha⟩ : ∃ a, a = Lib.trimSuffix t (bs en) := ⟨_, rfl⟩;obtain ⟨b, hb⟩ : ∃ b, b = Lib.hasSuffix t (bs en) := ⟨_, rfl⟩;rw [<- ha, <- hb] at CS;rw [<- ha, <- hb];clear ha hb hp ht;go_enter Tryz.func57, Tryz.ntmps57;go_wp2_with fail;refine (CP _).mono ?_;rintro e w1 ⟨rfl, rfl⟩;go_wp2_with fail;refine (CS _).mono ?_;rintro e w1 ⟨rfl, rfl⟩;go_wp2;go_returns;exact ⟨rfl, rfl⟩
 ·have hp' : Lib.hasPrefix (bs nm) [60] = false := (by simpa using hp);rw [if_neg hp, hp'] at CP;rw [if_neg hp];clear hp hp';go_enter Tryz.func57, Tryz.ntmps57;go_wp2_with fail;refine (CP _).mono ?_;rintro e w1 ⟨rfl, rfl⟩;go_wp2;go_returns;exact ⟨rfl, rfl⟩
theorem notlet_any (x : Nat) (w : World) : Calls Tryz.prog 152 #[.int .i32 x] w fun e w' => e = .returned (.bool (zd0 x)) /\ w = w' := by
 rcases (show x < 65 \/ (65 <= x /\ x <= 90) \/ (90 < x /\ x < 97) \/ (97 <= x /\ x <= 122) \/ 122 < x by omega) with h | ⟨h, h'⟩ | ⟨h, h'⟩ | ⟨h, h'⟩ | h
 all_goals
  go_enter Tryz.func152, Tryz.ntmps152;go_wp2;go_returns;exact ⟨zaw (by unfold zd0; symm; first | (rw [decide_eq_true_iff]; omega) | (rw [decide_eq_false_iff_not]; omega) | (rw [Bool.eq_iff_iff]; simp; omega)), rfl⟩
theorem notlet_pred (w : World) : Go.Proofs.PredGrows Tryz.prog 152 #[] zd0 w := by
 intro W x _ _;exact (notlet_any x W).mono fun e w' h => ⟨h.1, h.2 ▸ Below.refl _ _⟩
theorem letters_any (l : List UInt8) (w : World) :
  Calls Tryz.prog 151 #[.string (mk8 l), .func (.func 152) #[] #[]] w fun e w' => e = .returned (.bool (!zbt l)) /\ Below w.heap.size w w' := by
 have := Tryz.strings_ContainsFunc_grows 152 #[] (enters_of Tryz.func152 (by kernel_rfl) rfl) zd0 (mk8 l) w (notlet_pred w);rw [idx_letters0] at this;exact this
def FreshKRE (w : World) (r : List UInt8 × List Int × Int) (e : Ending) (w' : World) : Prop :=
 ∃ A c, e = .returned (.tuple #[.string (mk8 r.1), .slice A r.2.1.length c, .int .i64 r.2.2]) /\ w'.ownsRow w.heap.size 21 1 (.slice A r.2.1.length c) r.2.1.length (Rs r.2.1) /\ Below w.heap.size w w'
theorem trim_any (l : List UInt8) (w : World) (hs : l.length <= 1073741824) :
  Calls Tryz.prog 147 #[.string (mk8 l), .string ⟨#[9, 13, 32]⟩] w fun e w' => e = .returned (.string (mk8 (bareL l))) /\ Below w.heap.size w w' := by
 refine (Any.strings_Trim_laid Tryz.lays160 (by kernel_rfl) (mk8 l) ⟨#[9, 13, 32]⟩ w (by rw [zab]; omega) (by decide) (ascii_of_all (by decide))).mono ?_;rintro e w' ⟨rfl, hb⟩;refine ⟨?_, hb⟩;show Ending.returned (.string (mk8 (Lib.trimS l [9, 13, 32]))) = _;rw [zni]
theorem zjf (k s : List UInt8) (w : World) (hs : s.length <= 1073741824) : Calls Tryz.prog 153 #[.string (mk8 s)] w (zbg w (zc9 s)) := by
 have := runes04_any (mk8 s) w (by rw [zab]; omega);rw [zay] at this;exact this
theorem into_any (s : ByteArray) (w : World) (hE : Env w) (hs : s.size <= 1073741824) :
  Calls Tryz.prog 108 #[.string s] w (FreshKRE w (intoS (bs s))) := by
 have CP := fun w => zex s ⟨#[60]⟩ w;rw [show bs ⟨#[60]⟩ = [60] from rfl, zi0] at CP;unfold intoS
 by_cases hp : Lib.hasPrefix (bs s) [60] = true
 ·rw [if_pos hp, hp] at CP;rw [if_pos hp];have hdl : ((bs s).drop 1).length <= s.size := (by rw [List.length_drop, ze]; omega);obtain ⟨t, ht⟩ : ∃ t, t = (bs s).drop 1 := ⟨_, rfl⟩;rw [<- ht] at CP hdl;rw [<- ht];have CU := fun w h => zj6 (mk8 t) ⟨#[62]⟩ w h (by rw [zab]; omega);rw [zay, show bs ⟨#[62]⟩ = [62] from rfl] at CU;have hcl := zle t [62];obtain ⟨⟨wd, rs, is⟩, hc⟩ : ∃ z, z = Lib.cut t [62] := ⟨_, rfl⟩;rw [<- hc] at CU hcl;rw [<- hc];simp only [] at hcl CU ⊢;have LT := fun w => letters_any wd w;have TR := fun w => trim_any rs w (by omega);have RU := fun w => zjf wd rs w (by omega);clear hp hc ht
  cases his : is
  ·rw [his] at CU;rw [if_pos (.inl rfl)];clear his LT TR hcl RU;go_enter Tryz.func108, Tryz.ntmps108;go_wp2_with fail;refine (CP _).mono ?_;rintro e w1 ⟨rfl, rfl⟩;go_wp2_with fail;refine (CU _ hE).mono ?_;rintro e w2 ⟨rfl, hb⟩;go_wp2;go_returns;exact ⟨none, 0, rfl, World.ownsRow_nil _ _ _ _, hb⟩
  ·rw [his] at CU;clear his
   by_cases hw : wd = []
   ·rw [if_pos (.inr (.inl hw))];have hte : (mk8 wd).toList.isEmpty = true := (by rw [hw, zah, zay]; rfl);clear hw LT TR hcl RU;go_enter Tryz.func108, Tryz.ntmps108;go_wp2_with fail;refine (CP _).mono ?_;rintro e w1 ⟨rfl, rfl⟩;go_wp2_with fail;refine (CU _ hE).mono ?_;rintro e w2 ⟨rfl, hb⟩;go_wp2;go_returns;exact ⟨none, 0, rfl, World.ownsRow_nil _ _ _ _, hb⟩
   ·have hte : (mk8 wd).toList.isEmpty = false := by
     rw [zah, zay]
     cases wd with
     | nil => exact absurd rfl hw
     | cons c r => rfl
    cases hl : zbt wd
    ·rw [if_pos (.inr (.inr (.inl rfl)))];rw [hl] at LT;clear hw hl TR hcl RU;go_enter Tryz.func108, Tryz.ntmps108;go_wp2_with fail;refine (CP _).mono ?_;rintro e w1 ⟨rfl, rfl⟩;go_wp2_with fail;refine (CU _ hE).mono ?_;rintro e w2 ⟨rfl, hb⟩;go_wp2_with fail;refine (LT _).mono ?_;rintro e w3 ⟨rfl, hb3⟩;go_wp2;go_returns;exact ⟨none, 0, rfl, World.ownsRow_nil _ _ _ _, zb hb hb3⟩
    ·rw [hl] at LT
     by_cases hr : bareL rs = []
     ·rw [if_pos (.inr (.inr (.inr hr)))];have hre : (mk8 (bareL rs)).toList.isEmpty = true := (by rw [hr, zah, zay]; rfl);clear hw hl hr hcl RU;go_enter Tryz.func108, Tryz.ntmps108;go_wp2_with fail;refine (CP _).mono ?_;rintro e w1 ⟨rfl, rfl⟩;go_wp2_with fail;refine (CU _ hE).mono ?_;rintro e w2 ⟨rfl, hb⟩;go_wp2_with fail;refine (LT _).mono ?_;rintro e w3 ⟨rfl, hb3⟩;replace hb := zb hb hb3;go_wp2_with fail;refine (TR _).mono ?_;rintro e w4 ⟨rfl, hb4⟩;go_wp2;go_returns;exact ⟨none, 0, rfl, World.ownsRow_nil _ _ _ _, zb hb hb4⟩
     ·rw [if_neg (fun hh => by
       rcases hh with h | h | h | h
       ·exact absurd h (by decide)
       ·exact hw h
       ·exact absurd h (by decide)
       ·exact hr h)]
      have hre : (mk8 (bareL rs)).toList.isEmpty = false := by
       rw [zah, zay]
       cases hq : bareL rs with
       | nil => exact absurd hq hr
       | cons c r => rfl
      unfold intoR;obtain ⟨⟨l, e0⟩, hl2⟩ : ∃ z, z = zc9 rs := ⟨_, rfl⟩;rw [<- hl2] at RU;rw [<- hl2];simp only [];clear hw hl hr hcl hl2
      by_cases he : e0 = 0
      ·subst he;rw [if_neg (by simp)]
       by_cases h18 : 18 < l.length
       ·rw [if_pos h18];have h18i : (18 : Int) < (l.length : Int) := (by omega);clear h18;go_enter Tryz.func108, Tryz.ntmps108;go_wp2_with fail;refine (CP _).mono ?_;rintro e w1 ⟨rfl, rfl⟩;go_wp2_with fail;refine (CU _ hE).mono ?_;rintro e w2 ⟨rfl, hb⟩;go_wp2_with fail;refine (LT _).mono ?_;rintro e w3 ⟨rfl, hb3⟩;replace hb := zb hb hb3;go_wp2_with fail;refine (TR _).mono ?_;rintro e w4 ⟨rfl, hb4⟩;replace hb := zb hb hb4;have hz5 := hb.size;go_wp2_with fail;refine (RU _).mono ?_;intro e w5 hF;obtain ⟨A, c, rfl, hown, hb5⟩ := hF;go_wp2;go_returns;exact ⟨none, 0, rfl, World.ownsRow_nil _ _ _ _, zb hb hb5⟩
       ·rw [if_neg h18];have h18i : (l.length : Int) <= 18 := (by omega);clear h18;go_enter Tryz.func108, Tryz.ntmps108;go_wp2_with fail;refine (CP _).mono ?_;rintro e w1 ⟨rfl, rfl⟩;go_wp2_with fail;refine (CU _ hE).mono ?_;rintro e w2 ⟨rfl, hb⟩;go_wp2_with fail;refine (LT _).mono ?_;rintro e w3 ⟨rfl, hb3⟩;replace hb := zb hb hb3;go_wp2_with fail;refine (TR _).mono ?_;rintro e w4 ⟨rfl, hb4⟩;replace hb := zb hb hb4;have hz5 := hb.size;go_wp2_with fail;refine (RU _).mono ?_;intro e w5 hF;obtain ⟨A, c, rfl, hown, hb5⟩ := hF;go_wp2;go_returns;exact ⟨A, c, rfl, zbj hown hz5, zb hb hb5⟩
      ·rw [if_pos he];have hne : (e0 != 0) = true := (by simpa using he);clear he;go_enter Tryz.func108, Tryz.ntmps108;go_wp2_with fail;refine (CP _).mono ?_;rintro e w1 ⟨rfl, rfl⟩;go_wp2_with fail;refine (CU _ hE).mono ?_;rintro e w2 ⟨rfl, hb⟩;go_wp2_with fail;refine (LT _).mono ?_;rintro e w3 ⟨rfl, hb3⟩;replace hb := zb hb hb3;go_wp2_with fail;refine (TR _).mono ?_;rintro e w4 ⟨rfl, hb4⟩;replace hb := zb hb hb4;have hz5 := hb.size;go_wp2_with fail;refine (RU _).mono ?_;intro e w5 hF;obtain ⟨A, c, rfl, hown, hb5⟩ := hF;go_wp2;go_returns;exact ⟨none, 0, rfl, World.ownsRow_nil _ _ _ _, zb hb hb5⟩
 ·have hp' : Lib.hasPrefix (bs s) [60] = false := (by simpa using hp);rw [if_neg hp, hp'] at CP;rw [if_neg hp];have RU := fun w => zjf [] (bs s) w (by rw [ze]; omega);rw [zmd] at RU CP;unfold intoR;obtain ⟨⟨l, e0⟩, hl2⟩ : ∃ z, z = zc9 (bs s) := ⟨_, rfl⟩;rw [<- hl2] at RU;rw [<- hl2];simp only [];clear hp hp' hl2
  by_cases he : e0 = 0
  ·subst he;rw [if_neg (by simp)]
   by_cases h18 : 18 < l.length
   ·rw [if_pos h18];have h18i : (18 : Int) < (l.length : Int) := (by omega);clear h18;go_enter Tryz.func108, Tryz.ntmps108;go_wp2_with fail;refine (CP _).mono ?_;rintro e w1 ⟨rfl, rfl⟩;go_wp2_with fail;refine (RU _).mono ?_;intro e w5 hF;obtain ⟨A, c, rfl, hown, hb5⟩ := hF;go_wp2;go_returns;exact ⟨none, 0, rfl, World.ownsRow_nil _ _ _ _, hb5⟩
   ·rw [if_neg h18];have h18i : (l.length : Int) <= 18 := (by omega);clear h18;go_enter Tryz.func108, Tryz.ntmps108;go_wp2_with fail;refine (CP _).mono ?_;rintro e w1 ⟨rfl, rfl⟩;go_wp2_with fail;refine (RU _).mono ?_;intro e w5 hF;obtain ⟨A, c, rfl, hown, hb5⟩ := hF;go_wp2;go_returns;exact ⟨A, c, rfl, hown, hb5⟩
  ·rw [if_pos he];have hne : (e0 != 0) = true := (by simpa using he);clear he;go_enter Tryz.func108, Tryz.ntmps108;go_wp2_with fail;refine (CP _).mono ?_;rintro e w1 ⟨rfl, rfl⟩;go_wp2_with fail;refine (RU _).mono ?_;intro e w5 hF;obtain ⟨A, c, rfl, hown, hb5⟩ := hF;go_wp2;go_returns;exact ⟨none, 0, rfl, World.ownsRow_nil _ _ _ _, hb5⟩
end
end Go.Proofs.YtolcabjkbefjgaaGreatDoor
