/- Bytes that a text tells: the word, and the code's. What stands within a name, and what a character is parted into: the code. What a character is parted into: the document's answer. -/
import Derived.Test.YtfdelmodmadoaaaGreatDoorY08
set_option linter.unusedSimpArgs false
set_option linter.unusedVariables false
set_option maxRecDepth 20000
set_option maxHeartbeats 4000000
namespace Go.Proofs.YtfdelmodmadoaaaGreatDoor
section
open Go.RowKit
abbrev Bs (l : List UInt8) : List Value := l.map (fun b => Value.int .u8 b.toNat)
theorem zfb (s p : ByteArray) (w : World) :
  Calls Tryz.prog 100 #[.string s, .string p] w fun e w' => e = .returned (.tuple #[.string (mk8 (Lib.trimPrefix (bs s) (bs p))), .bool (Lib.hasPrefix (bs s) (bs p))]) /\ w = w' := by
 refine (Tryz.strings_CutPrefix s p w).mono ?_;rintro e w' ⟨rfl, rfl⟩;exact ⟨rfl, rfl⟩
end
section
open Go.RowKit
theorem zj3 (s : List UInt8) : Lib.trimPrefix s [60] = if Lib.hasPrefix s [60] = true then s.drop 1 else s := by
 unfold Lib.trimPrefix; rfl
theorem cutsuffix_any (s p : ByteArray) (w : World) (hs : s.size <= 9223372036854775807) :
  Calls Tryz.prog 101 #[.string s, .string p] w fun e w' => e = .returned (.tuple #[.string (mk8 (Lib.trimSuffix (bs s) (bs p))), .bool (Lib.hasSuffix (bs s) (bs p))]) /\ w = w' := by
 refine (Tryz.strings_CutSuffix s p w (by omega)).mono ?_;rintro e w' ⟨rfl, rfl⟩;exact ⟨rfl, rfl⟩
theorem zkm (nm en : ByteArray) (w : World) (hs : nm.size <= 9223372036854775807) :
  Calls Tryz.prog 58 #[.string nm, .string en] w fun e w' => e = .returned (.tuple #[.string (mk8 (zaj (bs nm) (bs en)).1), .bool (zaj (bs nm) (bs en)).2]) /\ w = w' := by
 have CP := fun w => zfb nm ⟨#[60]⟩ w;rw [show bs ⟨#[60]⟩ = [60] from rfl, zj3] at CP;unfold zaj
 by_cases hp : Lib.hasPrefix (bs nm) [60] = true
 ·rw [if_pos hp, hp] at CP;rw [if_pos hp];have hdl : ((bs nm).drop 1).length <= nm.size := (by rw [List.length_drop, ze]; omega);obtain ⟨t, ht⟩ : ∃ t, t = (bs nm).drop 1 := ⟨_, rfl⟩;rw [<- ht] at CP hdl;rw [<- ht];have CS := fun w => cutsuffix_any (mk8 t) en w (by rw [zm]; omega);rw [zz] at CS;obtain ⟨a, ha⟩ : ∃ a, a = Lib.trimSuffix t (bs en) := ⟨_, rfl⟩;obtain ⟨b, hb⟩ : ∃ b, b = Lib.hasSuffix t (bs en) := ⟨_, rfl⟩;rw [<- ha, <- hb] at CS;rw [<- ha, <- hb];clear ha hb hp ht;go_enter Tryz.func58, Tryz.ntmps58;go_wp2_with fail;refine (CP _).mono ?_;rintro e w1 ⟨rfl, rfl⟩;go_wp2_with fail;refine (CS _).mono ?_;rintro e w1 ⟨rfl, rfl⟩;go_wp2;go_returns;exact ⟨rfl, rfl⟩
 ·have hp' : Lib.hasPrefix (bs nm) [60] = false := (by simpa using hp);rw [if_neg hp, hp'] at CP;rw [if_neg hp];clear hp hp';go_enter Tryz.func58, Tryz.ntmps58;go_wp2_with fail;refine (CP _).mono ?_;rintro e w1 ⟨rfl, rfl⟩;go_wp2;go_returns;exact ⟨rfl, rfl⟩
theorem notlet_any (x : Nat) (w : World) : Calls Tryz.prog 136 #[.int .i32 x] w fun e w' => e = .returned (.bool (zd9 x)) /\ w = w' := by
 rcases (show x < 65 \/ (65 <= x /\ x <= 90) \/ (90 < x /\ x < 97) \/ (97 <= x /\ x <= 122) \/ 122 < x by omega) with h | ⟨h, h'⟩ | ⟨h, h'⟩ | ⟨h, h'⟩ | h
 all_goals
  go_enter Tryz.func136, Tryz.ntmps136;go_wp2;go_returns;exact ⟨zo (by unfold zd9; symm; first | (rw [decide_eq_true_iff]; omega) | (rw [decide_eq_false_iff_not]; omega) | (rw [Bool.eq_iff_iff]; simp; omega)), rfl⟩
theorem notlet_pred (w : World) : Go.Proofs.PredGrows Tryz.prog 136 #[] zd9 w := by
 intro W x _ _;exact (notlet_any x W).mono fun e w' h => ⟨h.1, h.2 ▸ Below.refl _ _⟩
theorem letters_any (l : List UInt8) (w : World) :
  Calls Tryz.prog 135 #[.string (mk8 l), .func (.func 136) #[] #[]] w fun e w' => e = .returned (.bool (!zah l)) /\ Below w.heap.size w w' := by
 have := Tryz.strings_ContainsFunc_grows 136 #[] (enters_of Tryz.func136 (by kernel_rfl) rfl) zd9 (mk8 l) w (notlet_pred w);rw [idx_letters0] at this;exact this
def zgo (w : World) (r : List UInt8 × List Int × Int) (e : Ending) (w' : World) : Prop :=
 ∃ A c, e = .returned (.tuple #[.string (mk8 r.1), .slice A r.2.1.length c, .int .i64 r.2.2]) /\ w'.ownsRow w.heap.size 21 1 (.slice A r.2.1.length c) r.2.1.length (Rs r.2.1) /\ Below w.heap.size w w'
theorem trim_any (l : List UInt8) (w : World) (hs : l.length <= 1073741824) :
  Calls Tryz.prog 131 #[.string (mk8 l), .string ⟨#[9, 13, 32]⟩] w fun e w' => e = .returned (.string (mk8 (bareL l))) /\ Below w.heap.size w w' := by
 refine (Any.strings_Trim_laid Tryz.lays160 (by kernel_rfl) (mk8 l) ⟨#[9, 13, 32]⟩ w (by rw [zm]; omega) (by decide) (ascii_of_all (by decide))).mono ?_;rintro e w' ⟨rfl, hb⟩;refine ⟨?_, hb⟩;show Ending.returned (.string (mk8 (Lib.trimS l [9, 13, 32]))) = _;rw [zod]
theorem zkl (k s : List UInt8) (w : World) (hs : s.length <= 1073741824) : Calls Tryz.prog 137 #[.string (mk8 s)] w (za8 w (zbl s)) := by
 have := runes04_any (mk8 s) w (by rw [zm]; omega);rw [zz] at this;exact this
theorem into_any (s : ByteArray) (w : World) (hE : Env w) (hs : s.size <= 1073741824) :
  Calls Tryz.prog 104 #[.string s] w (zgo w (intoS (bs s))) := by
 have CP := fun w => zfb s ⟨#[60]⟩ w;rw [show bs ⟨#[60]⟩ = [60] from rfl, zj3] at CP;unfold intoS
 by_cases hp : Lib.hasPrefix (bs s) [60] = true
 ·rw [if_pos hp, hp] at CP;rw [if_pos hp];have hdl : ((bs s).drop 1).length <= s.size := (by rw [List.length_drop, ze]; omega);obtain ⟨t, ht⟩ : ∃ t, t = (bs s).drop 1 := ⟨_, rfl⟩;rw [<- ht] at CP hdl;rw [<- ht];have CU := fun w h => zlj (mk8 t) ⟨#[62]⟩ w h (by rw [zm]; omega);rw [zz, show bs ⟨#[62]⟩ = [62] from rfl] at CU;have hcl := zmp t [62];obtain ⟨⟨wd, rs, is⟩, hc⟩ : ∃ z, z = Lib.cut t [62] := ⟨_, rfl⟩;rw [<- hc] at CU hcl;rw [<- hc];simp only [] at hcl CU ⊢;have LT := fun w => letters_any wd w;have TR := fun w => trim_any rs w (by omega);have RU := fun w => zkl wd rs w (by omega);clear hp hc ht
  cases his : is
  ·rw [his] at CU;rw [if_pos (.inl rfl)];clear his LT TR hcl RU;go_enter Tryz.func104, Tryz.ntmps104;go_wp2_with fail;refine (CP _).mono ?_;rintro e w1 ⟨rfl, rfl⟩;go_wp2_with fail;refine (CU _ hE).mono ?_;rintro e w2 ⟨rfl, hb⟩;go_wp2;go_returns;exact ⟨none, 0, rfl, World.ownsRow_nil _ _ _ _, hb⟩
  ·rw [his] at CU;clear his
   by_cases hw : wd = []
   ·rw [if_pos (.inr (.inl hw))];have hte : (mk8 wd).toList.isEmpty = true := (by rw [hw, zj, zz]; rfl);clear hw LT TR hcl RU;go_enter Tryz.func104, Tryz.ntmps104;go_wp2_with fail;refine (CP _).mono ?_;rintro e w1 ⟨rfl, rfl⟩;go_wp2_with fail;refine (CU _ hE).mono ?_;rintro e w2 ⟨rfl, hb⟩;go_wp2;go_returns;exact ⟨none, 0, rfl, World.ownsRow_nil _ _ _ _, hb⟩
   ·have hte : (mk8 wd).toList.isEmpty = false := by
     rw [zj, zz]
     cases wd with
     | nil => exact absurd rfl hw
     | cons c r => rfl
    cases hl : zah wd
    ·rw [if_pos (.inr (.inr (.inl rfl)))];rw [hl] at LT;clear hw hl TR hcl RU;go_enter Tryz.func104, Tryz.ntmps104;go_wp2_with fail;refine (CP _).mono ?_;rintro e w1 ⟨rfl, rfl⟩;go_wp2_with fail;refine (CU _ hE).mono ?_;rintro e w2 ⟨rfl, hb⟩;go_wp2_with fail;refine (LT _).mono ?_;rintro e w3 ⟨rfl, hb3⟩;go_wp2;go_returns;exact ⟨none, 0, rfl, World.ownsRow_nil _ _ _ _, zb hb hb3⟩
    ·rw [hl] at LT
     by_cases hr : bareL rs = []
     ·rw [if_pos (.inr (.inr (.inr hr)))];have hre : (mk8 (bareL rs)).toList.isEmpty = true := (by rw [hr, zj, zz]; rfl);clear hw hl hr hcl RU;go_enter Tryz.func104, Tryz.ntmps104;go_wp2_with fail;refine (CP _).mono ?_;rintro e w1 ⟨rfl, rfl⟩;go_wp2_with fail;refine (CU _ hE).mono ?_;rintro e w2 ⟨rfl, hb⟩;go_wp2_with fail;refine (LT _).mono ?_;rintro e w3 ⟨rfl, hb3⟩;replace hb := zb hb hb3;go_wp2_with fail;refine (TR _).mono ?_;rintro e w4 ⟨rfl, hb4⟩;go_wp2;go_returns;exact ⟨none, 0, rfl, World.ownsRow_nil _ _ _ _, zb hb hb4⟩
     ·rw [if_neg (fun hh => by
       rcases hh with h | h | h | h
       ·exact absurd h (by decide)
       ·exact hw h
       ·exact absurd h (by decide)
       ·exact hr h)]
      have hre : (mk8 (bareL rs)).toList.isEmpty = false := by
       rw [zj, zz]
       cases hq : bareL rs with
       | nil => exact absurd hq hr
       | cons c r => rfl
      unfold intoR;obtain ⟨⟨l, e0⟩, hl2⟩ : ∃ z, z = zbl rs := ⟨_, rfl⟩;rw [<- hl2] at RU;rw [<- hl2];simp only [];clear hw hl hr hcl hl2
      by_cases he : e0 = 0
      ·subst he;rw [if_neg (by simp)]
       by_cases h18 : 18 < l.length
       ·rw [if_pos h18];have h18i : (18 : Int) < (l.length : Int) := (by omega);clear h18;go_enter Tryz.func104, Tryz.ntmps104;go_wp2_with fail;refine (CP _).mono ?_;rintro e w1 ⟨rfl, rfl⟩;go_wp2_with fail;refine (CU _ hE).mono ?_;rintro e w2 ⟨rfl, hb⟩;go_wp2_with fail;refine (LT _).mono ?_;rintro e w3 ⟨rfl, hb3⟩;replace hb := zb hb hb3;go_wp2_with fail;refine (TR _).mono ?_;rintro e w4 ⟨rfl, hb4⟩;replace hb := zb hb hb4;have hz5 := hb.size;go_wp2_with fail;refine (RU _).mono ?_;intro e w5 hF;obtain ⟨A, c, rfl, hown, hb5⟩ := hF;go_wp2;go_returns;exact ⟨none, 0, rfl, World.ownsRow_nil _ _ _ _, zb hb hb5⟩
       ·rw [if_neg h18];have h18i : (l.length : Int) <= 18 := (by omega);clear h18;go_enter Tryz.func104, Tryz.ntmps104;go_wp2_with fail;refine (CP _).mono ?_;rintro e w1 ⟨rfl, rfl⟩;go_wp2_with fail;refine (CU _ hE).mono ?_;rintro e w2 ⟨rfl, hb⟩;go_wp2_with fail;refine (LT _).mono ?_;rintro e w3 ⟨rfl, hb3⟩;replace hb := zb hb hb3;go_wp2_with fail;refine (TR _).mono ?_;rintro e w4 ⟨rfl, hb4⟩;replace hb := zb hb hb4;have hz5 := hb.size;go_wp2_with fail;refine (RU _).mono ?_;intro e w5 hF;obtain ⟨A, c, rfl, hown, hb5⟩ := hF;go_wp2;go_returns;exact ⟨A, c, rfl, za1 hown hz5, zb hb hb5⟩
      ·rw [if_pos he];have hne : (e0 != 0) = true := (by simpa using he);clear he;go_enter Tryz.func104, Tryz.ntmps104;go_wp2_with fail;refine (CP _).mono ?_;rintro e w1 ⟨rfl, rfl⟩;go_wp2_with fail;refine (CU _ hE).mono ?_;rintro e w2 ⟨rfl, hb⟩;go_wp2_with fail;refine (LT _).mono ?_;rintro e w3 ⟨rfl, hb3⟩;replace hb := zb hb hb3;go_wp2_with fail;refine (TR _).mono ?_;rintro e w4 ⟨rfl, hb4⟩;replace hb := zb hb hb4;have hz5 := hb.size;go_wp2_with fail;refine (RU _).mono ?_;intro e w5 hF;obtain ⟨A, c, rfl, hown, hb5⟩ := hF;go_wp2;go_returns;exact ⟨none, 0, rfl, World.ownsRow_nil _ _ _ _, zb hb hb5⟩
 ·have hp' : Lib.hasPrefix (bs s) [60] = false := (by simpa using hp);rw [if_neg hp, hp'] at CP;rw [if_neg hp];have RU := fun w => zkl [] (bs s) w (by rw [ze]; omega);rw [zea] at RU CP;unfold intoR;obtain ⟨⟨l, e0⟩, hl2⟩ : ∃ z, z = zbl (bs s) := ⟨_, rfl⟩;rw [<- hl2] at RU;rw [<- hl2];simp only [];clear hp hp' hl2
  by_cases he : e0 = 0
  ·subst he;rw [if_neg (by simp)]
   by_cases h18 : 18 < l.length
   ·rw [if_pos h18];have h18i : (18 : Int) < (l.length : Int) := (by omega);clear h18;go_enter Tryz.func104, Tryz.ntmps104;go_wp2_with fail;refine (CP _).mono ?_;rintro e w1 ⟨rfl, rfl⟩;go_wp2_with fail;refine (RU _).mono ?_;intro e w5 hF;obtain ⟨A, c, rfl, hown, hb5⟩ := hF;go_wp2;go_returns;exact ⟨none, 0, rfl, World.ownsRow_nil _ _ _ _, hb5⟩
   ·rw [if_neg h18];have h18i : (l.length : Int) <= 18 := (by omega);clear h18;go_enter Tryz.func104, Tryz.ntmps104;go_wp2_with fail;refine (CP _).mono ?_;rintro e w1 ⟨rfl, rfl⟩;go_wp2_with fail;refine (RU _).mono ?_;intro e w5 hF;obtain ⟨A, c, rfl, hown, hb5⟩ := hF;go_wp2;go_returns;exact ⟨A, c, rfl, hown, hb5⟩
  ·rw [if_pos he];have hne : (e0 != 0) = true := (by simpa using he);clear he;go_enter Tryz.func104, Tryz.ntmps104;go_wp2_with fail;refine (CP _).mono ?_;rintro e w1 ⟨rfl, rfl⟩;go_wp2_with fail;refine (RU _).mono ?_;intro e w5 hF;obtain ⟨A, c, rfl, hown, hb5⟩ := hF;go_wp2;go_returns;exact ⟨none, 0, rfl, World.ownsRow_nil _ _ _ _, hb5⟩
end
section
open Go.RowKit
theorem zle (l : List UInt8) (c : UInt8) (j : Nat) : Lib.occAt l [c] j = true ↔ l[j]? = some c := by
 unfold Lib.occAt
 by_cases hj : j < l.length
 ·rw [List.drop_eq_getElem_cons hj, zi8, List.getElem?_eq_getElem hj];simp only [beq_iff_eq, Option.some.injEq];exact ⟨fun h => h.symm, fun h => h.symm⟩
 ·rw [List.drop_eq_nil_of_le (by omega), List.getElem?_eq_none (by omega)];simp
theorem cut_at {l : List UInt8} {c : UInt8} {p : Nat} (h : l[p]? = some c) (hn : ∀ j, j < p -> l[j]? ≠ some c) : Lib.cut l [c] = (l.take p, l.drop (p + 1), true) := by
 have hp : p < l.length := (List.getElem?_eq_some_iff.1 h).1
 have hi : Lib.index l [c] = p := Lib.index_first (by omega) ((zle l c p).2 h) (fun j hj => by
  cases ho : Lib.occAt l [c] j with
  | false => rfl
  | true => exact absurd ((zle l c j).1 ho) (hn j hj))
 unfold Lib.cut;rw [hi, if_pos (by omega)];simp
theorem cut_none {l : List UInt8} {c : UInt8} (hn : ∀ j : Nat, l[j]? ≠ some c) : Lib.cut l [c] = (l, [], false) := by
 have hi : Lib.index l [c] = -1 := Lib.index_none (fun j _ => by
  cases ho : Lib.occAt l [c] j with
  | false => rfl
  | true => exact absurd ((zle l c j).1 ho) (hn j))
 unfold Lib.cut;rw [hi, if_neg (by decide)]
theorem zgh {s wd rs : List UInt8} {is : Bool} (hp : Lib.hasPrefix s [60] = true) (hc : Lib.cut (s.drop 1) [62] = (wd, rs, is)) (h : is = false \/ wd = [] \/ zah wd = false \/ bareL rs = []) : intoS s = ([], [], 10) := by
 unfold intoS;rw [if_pos hp, hc, if_pos h]
theorem into_good {s wd rs : List UInt8} (hp : Lib.hasPrefix s [60] = true) (hc : Lib.cut (s.drop 1) [62] = (wd, rs, true)) (hw : wd ≠ []) (hl : zah wd = true) (hr : bareL rs ≠ []) : intoS s = intoR wd rs := by
 unfold intoS
 rw [if_pos hp, hc, if_neg (fun hh => by
  rcases hh with h | h | h | h
  ·exact absurd h (by simp)
  ·exact hw h
  ·rw [hl] at h; exact absurd h (by decide)
  ·exact hr h)]
theorem into_plain {s : List UInt8} (hp : Lib.hasPrefix s [60] = false) : intoS s = intoR [] s := by
 unfold intoS;rw [if_neg (by rw [hp]; simp)]
theorem zbt {w w' : World} {R : List UInt8 × List Int × Int} {c : Int} (h : R = ([], [], c)) (hb : Below w.heap.size w w') : zgo w R (.returned (.tuple #[.string ⟨#[]⟩, .slice none 0 0, .int .i64 c])) w' := by
 subst h;exact ⟨none, 0, rfl, World.ownsRow_nil _ _ _ _, hb⟩
theorem zfq {w w' : World} {R : List UInt8 × List Int × Int} {k : List UInt8} {l : List Int} {A : Option Addr} {c : Nat} (h : R = (k, l, 0)) (ho : w'.ownsRow w.heap.size 21 1 (.slice A l.length c) l.length (Rs l)) (hb : Below w.heap.size w w') : zgo w R (.returned (.tuple #[.string (mk8 k), .slice A l.length c, .int .i64 0])) w' := by
 subst h;exact ⟨A, c, rfl, ho, hb⟩
theorem zkk {k s : List UInt8} {l : List Int} {e : Int} (h : zbl s = (l, e)) (he : e ≠ 0) : intoR k s = ([], [], e) := by
 unfold intoR; rw [h, if_pos he]
theorem zip {k s : List UInt8} {l : List Int} (h : zbl s = (l, 0)) (hl : 18 < l.length) : intoR k s = ([], [], 11) := by
 unfold intoR; rw [h, if_neg (by simp), if_pos hl]
theorem zmg {k s : List UInt8} {l : List Int} (h : zbl s = (l, 0)) (hl : ¬ 18 < l.length) : intoR k s = (k, l, 0) := by
 unfold intoR; rw [h, if_neg (by simp), if_neg hl]
theorem zk9 (l : List UInt8) (w : World) (hs : l.length <= 1073741824) : Calls Tryz.prog 182 #[.string (mk8 l)] w (za8 w (zbl l)) := by
 have := rrunes_any (mk8 l) w (by rw [zm]; omega);rw [zz] at this;exact this
theorem rbareM (l : List UInt8) (w : World) (hs : l.length <= 1073741824) : Calls Tryz.prog 150 #[.string (mk8 l)] w fun e w' => e = .returned (.string (mk8 (bareL l))) /\ w = w' := by
 have := zcq (mk8 l) w (by rw [zm]; omega);rw [zz] at this;exact this
theorem rlettersM (l : List UInt8) (w : World) (hs : l.length <= 1073741824) : Calls Tryz.prog 181 #[.string (mk8 l)] w fun e w' => e = .returned (.bool (zah l)) /\ w = w' := by
 have := rletters_any (mk8 l) w (by rw [zm]; omega);rw [zz] at this;exact this
theorem nil_empty {l : List UInt8} (h : l = []) : (mk8 l).toList.isEmpty = true := by rw [h, zj, zz]; rfl
theorem cons_empty {l : List UInt8} (h : l ≠ []) : (mk8 l).toList.isEmpty = false := by
 rw [zj, zz]
 cases l with
 | nil => exact absurd rfl h
 | cons c t => rfl
theorem rinto_any (s : ByteArray) (w : World) (hs : s.size <= 1073741824) :
  Calls Tryz.prog 153 #[.string s] w (zgo w (intoS (bs s))) := by
 have hsi : (s.size : Int) <= 1073741824 := (by omega);obtain ⟨R, hR⟩ : ∃ R, R = intoS (bs s) := ⟨_, rfl⟩;rw [<- hR];have HRES := hz0q hR;clear hR
 by_cases hs0 : s.size = 0
 ·have hse : s.toList.isEmpty = true := (by rw [zj, zdh hs0]; rfl);have hse2 : (!s.toList.isEmpty) = false := (by rw [hse]; rfl);have hb0 : bs s = [] := zdh hs0;have hRR : R = ([], [], 0) := (by rw [HRES.out, hb0]; rfl);have HRR := hz0q hRR;have RU := fun w => zk9 [] w (by simp);rw [show mk8 [] = s from zhv (by rw [zz, hb0]), show zbl [] = ([], 0) from rfl] at RU;clear hs0 hb0 hRR hs HRES;go_enter Tryz.func153, Tryz.ntmps153;go_wp2_with fail;refine (RU _).mono ?_;intro e w1 hF;obtain ⟨A, c, rfl, hown, hb⟩ := hF;go_wp2;go_returns;exact zfq (k := []) (l := []) HRR.out hown hb
 ·have hse := zde hs0;have hse2 : (!s.toList.isEmpty) = true := (by rw [hse]; rfl);have h0 : 0 < s.size := (by omega);have h0i : (0 : Int) < (s.size : Int) := (by omega);have hd := zbk s 0 h0;rw [List.drop_zero] at hd;have hx0 := fun w => zgi s 0 0 h0 rfl w;obtain ⟨x0, hxe⟩ : ∃ x, (s[0]'h0) = x := ⟨_, rfl⟩;rw [hxe] at hd hx0
  by_cases h60 : x0 = 60
  ·subst h60;rw [show ((UInt8.toNat 60 : Nat) : Int) = 60 from rfl] at hx0;have hpre : Lib.hasPrefix (bs s) [60] = true := (by rw [hd]; simp [Lib.hasPrefix]);have HP := hz0q hpre;clear hd hxe hpre hs0;go_enter Tryz.func153, Tryz.ntmps153;go_wp2;go_loop [6] (fun v => ∃ n : Nat, 1 <= n /\ n <= s.size /\ v = .int .i64 n /\ Hid (∀ j, j < n - 1 -> ((bs s).drop 1)[j]? ≠ some 62)) (fun v => s.size - (intOf v).toNat)
   case atStart => exact ⟨1, Nat.le_refl _, by omega, rfl, (fun j hj => by omega)⟩
   case round =>
    obtain ⟨n, hn1, hns, rfl, HN⟩ := hrel;have hn1i : (1 : Int) <= (n : Int) := by omega
    by_cases hlt : n < s.size
    ·have hki : (n : Int) < (s.size : Int) := (by omega);have hx := fun w => zgi s (n : Int) n hlt rfl w;have hgx := znu s n hlt;obtain ⟨x, hxe⟩ : ∃ x, (s[n]'hlt) = x := ⟨_, rfl⟩;rw [hxe] at hx hgx;have hgd : ((bs s).drop 1)[n - 1]? = some x := (by rw [List.getElem?_drop, show 1 + (n - 1) = n by omega]; exact hgx);clear hxe hgx
     by_cases h62 : x = 62
     ·subst h62;rw [show ((UInt8.toNat 62 : Nat) : Int) = 62 from rfl] at hx;have hcut := cut_at hgd HN.out;rw [List.drop_drop, show 1 + (n - 1 + 1) = n + 1 by omega] at hcut;have hu1 : s.extract 1 n = mk8 (((bs s).drop 1).take (n - 1)) := zhv (by rw [zay, zz, List.drop_take]);have hu2 : s.extract (n + 1) s.size = mk8 ((bs s).drop (n + 1)) := zhv (by rw [zay, zz, List.take_of_length_le (by rw [ze]; exact Nat.le_refl _)]);have hl1 : (((bs s).drop 1).take (n - 1)).length = n - 1 := (by rw [List.length_take, List.length_drop, ze]; omega);have hl2 : ((bs s).drop (n + 1)).length <= 1073741824 := (by rw [List.length_drop, ze]; omega);have SL1 := fun w => zh7 s 1 n hn1 hns 1 (n : Int) rfl rfl w;have SL2 := fun w => zg1 s ((n : Int) + 1) (n + 1) (by omega) (by omega) w;rw [hu1] at SL1;rw [hu2] at SL2;obtain ⟨wd, hwd⟩ : ∃ wd, wd = ((bs s).drop 1).take (n - 1) := ⟨_, rfl⟩;obtain ⟨rs, hrs⟩ : ∃ rs, rs = (bs s).drop (n + 1) := ⟨_, rfl⟩;rw [<- hwd] at hcut SL1 hl1;rw [<- hrs] at hcut SL2 hl2;clear hwd hrs hu1 hu2 hgd;have LT := fun w => rlettersM wd w (by omega);have BR := fun w => rbareM rs w hl2;have RU := fun w => zk9 rs w hl2;have HC := hz0q hcut;clear hcut
      by_cases hn : n = 1
      ·have hRR : R = ([], [], 10) := (by rw [HRES.out, zgh HP.out HC.out (.inr (.inl (List.eq_nil_of_length_eq_zero (by omega))))]);have HRR := hz0q hRR;have hnq : ((n : Int) == 1) = true := (by rw [hn]; rfl);have hnq2 : ((n : Int) == (s.size : Int)) = false := beq_eq_false_iff_ne.2 (by omega);clear hn hRR hl1 HC LT BR RU HN;go_wp2;go_returns;exact zbt HRR.out (Below.refl _ _)
      ·have hwne : wd ≠ [] := fun h => by rw [h] at hl1; simp at hl1; omega
       have hnq : ((n : Int) == 1) = false := beq_eq_false_iff_ne.2 (by omega);have hnq2 : ((n : Int) == (s.size : Int)) = false := beq_eq_false_iff_ne.2 (by omega);have HWN := hz0q hwne;clear hwne hl1 HN
       cases hlt2 : zah wd
       ·rw [hlt2] at LT;have hRR : R = ([], [], 10) := (by rw [HRES.out, zgh HP.out HC.out (.inr (.inr (.inl hlt2)))]);have HRR := hz0q hRR;clear hRR HC BR RU hlt2;go_wp2_with fail;refine (LT _).mono ?_;rintro e w1 ⟨rfl, rfl⟩;go_wp2;go_returns;exact zbt HRR.out (Below.refl _ _)
       ·rw [hlt2] at LT;have HLT := hz0q hlt2;clear hlt2
        by_cases hbr : bareL rs = []
        ·have hRR : R = ([], [], 10) := (by rw [HRES.out, zgh HP.out HC.out (.inr (.inr (.inr hbr)))]);have HRR := hz0q hRR;have hbe := nil_empty hbr;clear hRR HC RU hbr;go_wp2_with fail;refine (LT _).mono ?_;rintro e w1 ⟨rfl, rfl⟩;go_wp2_with fail;refine (BR _).mono ?_;rintro e w1 ⟨rfl, rfl⟩;go_wp2;go_returns;exact zbt HRR.out (Below.refl _ _)
        ·have hRI : R = intoR wd rs := (by rw [HRES.out, into_good HP.out HC.out HWN.out HLT.out hbr]);have HRI := hz0q hRI;have hbe := cons_empty hbr;obtain ⟨⟨l, e0⟩, hl⟩ : ∃ z, z = zbl rs := ⟨_, rfl⟩;rw [<- hl] at RU;have HL := hz0q hl.symm;clear hRI HC hbr hl
         by_cases he : e0 = 0
         ·subst he
          by_cases h18 : 18 < l.length
          ·have h18i : (18 : Int) < (l.length : Int) := (by omega);have HRR : Hid (R = ([], [], 11)) := (by show _ = _; rw [HRI.out, zip HL.out h18]);clear h18 HL HRI;go_wp2_with fail;refine (LT _).mono ?_;rintro e w1 ⟨rfl, rfl⟩;go_wp2_with fail;refine (BR _).mono ?_;rintro e w1 ⟨rfl, rfl⟩;go_wp2_with fail;refine (RU _).mono ?_;intro e w5 hF;obtain ⟨A, c, rfl, hown, hb5⟩ := hF;go_wp2;go_returns;exact zbt HRR.out hb5
          ·have h18i : (l.length : Int) <= 18 := (by omega);have HRR : Hid (R = (wd, l, 0)) := (by show _ = _; rw [HRI.out, zmg HL.out h18]);clear h18 HL HRI;go_wp2_with fail;refine (LT _).mono ?_;rintro e w1 ⟨rfl, rfl⟩;go_wp2_with fail;refine (BR _).mono ?_;rintro e w1 ⟨rfl, rfl⟩;go_wp2_with fail;refine (RU _).mono ?_;intro e w5 hF;obtain ⟨A, c, rfl, hown, hb5⟩ := hF;go_wp2;go_returns;exact zfq HRR.out hown hb5
         ·have HRR : Hid (R = ([], [], e0)) := (by show _ = _; rw [HRI.out, zkk HL.out he]);have hne : (e0 != 0) = true := (by simpa using he);clear he HL HRI;go_wp2_with fail;refine (LT _).mono ?_;rintro e w1 ⟨rfl, rfl⟩;go_wp2_with fail;refine (BR _).mono ?_;rintro e w1 ⟨rfl, rfl⟩;go_wp2_with fail;refine (RU _).mono ?_;intro e w5 hF;obtain ⟨A, c, rfl, hown, hb5⟩ := hF;go_wp2;go_returns;exact zbt HRR.out hb5
     ·have HN2 : Hid (∀ j, j < n + 1 - 1 -> ((bs s).drop 1)[j]? ≠ some 62) := by
       intro j hj
       by_cases hjn : j = n - 1
       ·subst hjn;rw [hgd];exact fun h => h62 (by injection h)
       ·exact HN.out j (by omega)
      have hxn : (((x.toNat : Nat) : Int) == 62) = false := by
       rw [beq_eq_false_iff_ne];exact fun h => h62 (UInt8.toNat_inj.1 (by rw [show (62 : UInt8).toNat = 62 from rfl]; omega))
      have hxn2 : (((x.toNat : Nat) : Int) != 62) = true := by
       have : ¬ (((x.toNat : Nat) : Int) = 62) := (by simpa using hxn);simpa using this
      clear hgd h62;go_wp2;go_round
      case rel => exact ⟨n + 1, by omega, by omega, by go_num, HN2⟩
      case measure => simp [intOf]; omega
    ·have hnn : n = s.size := (by omega);subst hnn;have hki : (s.size : Int) <= (s.size : Int) := by omega
     have hcut := cut_none (l := (bs s).drop 1) (c := 62) (fun j => by
      by_cases hj : j < s.size - 1
      ·exact HN.out j hj
      ·rw [List.getElem?_eq_none (by rw [List.length_drop, ze]; omega)]; simp)
     have hRR : R = ([], [], 10) := (by rw [HRES.out, zgh HP.out hcut (.inl rfl)]);have HRR := hz0q hRR;have hnq : ((s.size : Int) == (s.size : Int)) = true := (by simp);clear hRR hcut HN;go_wp2;go_returns;exact zbt HRR.out (Below.refl _ _)
  ·have hpre : Lib.hasPrefix (bs s) [60] = false := by
    rw [hd];simp only [Lib.hasPrefix, zi8];simpa using fun e => h60 e.symm
   have hxn : (((x0.toNat : Nat) : Int) == 60) = false := by
    rw [beq_eq_false_iff_ne];exact fun h => h60 (UInt8.toNat_inj.1 (by rw [show (60 : UInt8).toNat = 60 from rfl]; omega))
   have hRI : R = intoR [] (bs s) := (by rw [HRES.out, into_plain hpre]);have HRI := hz0q hRI;have RU := fun w => zk9 (bs s) w (by rw [ze]; omega);rw [zea] at RU;obtain ⟨⟨l, e0⟩, hl⟩ : ∃ z, z = zbl (bs s) := ⟨_, rfl⟩;rw [<- hl] at RU;have HL := hz0q hl.symm;clear hRI hl hpre hd hxe h60 hs0
   by_cases he : e0 = 0
   ·subst he
    by_cases h18 : 18 < l.length
    ·have h18i : (18 : Int) < (l.length : Int) := (by omega);have HRR : Hid (R = ([], [], 11)) := (by show _ = _; rw [HRI.out, zip HL.out h18]);clear h18 HL HRI;go_enter Tryz.func153, Tryz.ntmps153;go_wp2_with fail;refine (RU _).mono ?_;intro e w5 hF;obtain ⟨A, c, rfl, hown, hb5⟩ := hF;go_wp2;go_returns;exact zbt HRR.out hb5
    ·have h18i : (l.length : Int) <= 18 := (by omega);have HRR : Hid (R = ([], l, 0)) := (by show _ = _; rw [HRI.out, zmg HL.out h18]);clear h18 HL HRI;go_enter Tryz.func153, Tryz.ntmps153;go_wp2_with fail;refine (RU _).mono ?_;intro e w5 hF;obtain ⟨A, c, rfl, hown, hb5⟩ := hF;go_wp2;go_returns;exact zfq HRR.out hown hb5
   ·have HRR : Hid (R = ([], [], e0)) := (by show _ = _; rw [HRI.out, zkk HL.out he]);have hne : (e0 != 0) = true := (by simpa using he);clear he HL HRI;go_enter Tryz.func153, Tryz.ntmps153;go_wp2_with fail;refine (RU _).mono ?_;intro e w5 hF;obtain ⟨A, c, rfl, hown, hb5⟩ := hF;go_wp2;go_returns;exact zbt HRR.out hb5
end
end Go.Proofs.YtfdelmodmadoaaaGreatDoor
