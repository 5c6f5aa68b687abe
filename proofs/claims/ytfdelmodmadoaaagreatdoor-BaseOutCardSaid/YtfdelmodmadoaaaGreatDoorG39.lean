/- A character's four digits, told as an exclusion, and what that turns: plain. inkhornlaw08.hex: a character's four digits. -/
import Derived.Test.YtfdelmodmadoaaaGreatDoorG34
set_option linter.unusedSimpArgs false
set_option linter.unusedVariables false
set_option maxRecDepth 20000
set_option maxHeartbeats 4000000
namespace Go.Proofs.YtfdelmodmadoaaaGreatDoor
section
open Go.RowKit
def hxd (d : Nat) : UInt8 := UInt8.ofNat (if d < 10 then 48 + d else 55 + d)
theorem zbs : ∀ d, d < 16 -> zo ((hxd d).toNat : Int) = d /\ zac (hxd d) = false /\ hxd d ≠ 46 /\ hxd d ≠ 59 /\ hxd d ≠ 35 /\ hxd d ≠ 10 := by decide
def hex4 (c : Nat) : List UInt8 := [hxd (c / 4096 % 16), hxd (c / 256 % 16), hxd (c / 16 % 16), hxd (c % 16)]
theorem zdj {P : UInt8 -> Prop} (hP : ∀ d, d < 16 -> P (hxd d)) (c : Nat) : ∀ b ∈ hex4 c, P b := by
 intro b hb;simp only [hex4, List.mem_cons, List.not_mem_nil, or_false] at hb;rcases hb with rfl | rfl | rfl | rfl <;> exact hP _ (Nat.mod_lt _ (by omega))
theorem hexS_4 {c : Nat} (h : c < 65536) (hs : zy c = true) : hexS (hex4 c) = ((c : Int), 0) := by
 have h1 := fun d (hd : d < 16) => (zbs d hd).1
 have hn : numS 16 6 (hex4 c) = c := by
  unfold numS;rw [if_neg (by simp [hex4])];unfold hex4;have e1 := h1 (c / 4096 % 16) (Nat.mod_lt _ (by omega));have e2 := h1 (c / 256 % 16) (Nat.mod_lt _ (by omega));have e3 := h1 (c / 16 % 16) (Nat.mod_lt _ (by omega));have e4 := h1 (c % 16) (Nat.mod_lt _ (by omega));rw [zax (by rw [e1]; omega) (by rw [e1]; omega), e1, zax (by rw [e2]; omega) (by rw [e2]; omega), e2, zax (by rw [e3]; omega) (by rw [e3]; omega), e3, zax (by rw [e4]; omega) (by rw [e4]; omega), e4];show _ = _;simp only [zr];omega
 unfold hexS;rw [hn, if_neg (by omega), if_pos hs]
theorem zjc {c : UInt8} : ∀ {l : List UInt8}, (∀ b ∈ l, b ≠ c) -> Lib.index l [c] = -1
 | [], _ => rfl
 | b :: t, h => by
  have hb : b ≠ c := h b (by simp);have := zjc (l := t) fun d hd => h d (by simp [hd])
  have hp : [c].isPrefixOf (b :: t) = false := by
   simp only [List.isPrefixOf, Bool.and_eq_false_iff];left;simpa using fun e => hb e.symm
  simp only [Lib.index, this];rw [hp];rfl
theorem zie : ∀ {l : List UInt8}, (∀ b ∈ l, b ≠ 46) -> Lib.index l [46, 46] = -1
 | [], _ => rfl
 | b :: t, h => by
  have hb : b ≠ 46 := h b (by simp);have := zie (l := t) fun d hd => h d (by simp [hd])
  have hp : [46, 46].isPrefixOf (b :: t) = false := by
   simp only [List.isPrefixOf, Bool.and_eq_false_iff];left;simpa using fun e => hb e.symm
  simp only [Lib.index, this];rw [hp];rfl
theorem zis (c : Nat) : bareL (hex4 c) = hex4 c := by
 have h := zdj (P := fun b => zac b = false) (fun d hd => (zbs d hd).2.1) c;have e : hex4 c = hxd (c / 4096 % 16) :: [hxd (c / 256 % 16), hxd (c / 16 % 16), hxd (c % 16)] := rfl;have e2 : hex4 c = [hxd (c / 4096 % 16), hxd (c / 256 % 16), hxd (c / 16 % 16)] ++ [hxd (c % 16)] := rfl;have h1 : lstrip (hex4 c) = hex4 c := (by rw [e]; exact zdh (h _ (by simp [hex4])));have h2 : rstrip (hex4 c) = hex4 c := (by rw [e2]; exact rstrip_no (h _ (by simp [hex4])));unfold bareL;rw [h1, h2]
theorem rangeS_4 {c : Nat} (h : c < 65536) (hs : zy c = true) : zas (hex4 c) = ((c : Int), (c : Int), 0) := by
 have hc : Lib.cut (hex4 c) [46, 46] = (hex4 c, [], false) := by
  unfold Lib.cut;rw [zie (zdj (fun d hd => (zbs d hd).2.2.1) c)];rfl
 have hx := hexS_4 h hs;unfold zas;rw [hc];simp [zam, hx]
theorem zfw {c : UInt8} {l : List UInt8} (h : ∀ b ∈ l, b ≠ c) : cutL c l = [l] := by
 have key : ∀ (m p : List UInt8), (∀ b ∈ m, b ≠ c) -> m.foldl (zad c) ([], p) = ([], p ++ m) := by
  intro m;induction m with
  | nil => intro p _; simp
  | cons b t ih =>
   intro p hm;rw [List.foldl_cons]
   have : zad c ([], p) b = ([], p ++ [b]) := by
    unfold zad;rw [if_neg (by simpa using hm b (by simp))]
   rw [this, ih _ fun d hd => hm d (by simp [hd])];simp
 have hk : cutF c l = ([], l) := by
  have := key l [] h;rw [List.nil_append] at this;exact this
 show (cutF c l).1 ++ [(cutF c l).2] = [l];rw [hk];rfl
theorem zf3 {c : Nat} (h : c < 65536) (hs : zy c = true) : setsS (hex4 c) = ([(c : Int)], 0, 0) := by
 have h10 : cutL 10 (hex4 c) = [hex4 c] := zfw (zdj (fun d hd => (zbs d hd).2.2.2.2.2) c);have h59 : cutL 59 (hex4 c) = [hex4 c] := zfw (zdj (fun d hd => (zbs d hd).2.2.2.1) c)
 have ht : tellL (hex4 c) = hex4 c := by
  unfold tellL
  have : Lib.cut (hex4 c) [35] = (hex4 c, [], false) := by
   unfold Lib.cut;rw [zjc (zdj (fun d hd => (zbs d hd).2.2.2.2.1) c)];rfl
  rw [this];exact zis c
 have hl : zak (hex4 c) = ([(1, hex4 c)], 0) := by
  unfold zak;rw [h10, if_neg (by simp), zb1 (by simp [hex4]) (by rw [ht]; simp [hex4]), ht];rfl
 have hf : fldS (hex4 c) = hex4 c := by
  unfold fldS;rw [h59];show bareL (hex4 c) = _;exact zis c
 have hst : zaf [] (hex4 c) = ([(c : Int)], 0) := by
  unfold zaf;rw [hf, rangeS_4 h hs];unfold setR;rw [if_neg (by simp), if_neg (by simp)]
  have ha : zd6 [] (c : Int) c = ([(c : Int)], false) := by
   unfold zd6;have e1 : ((c : Int) - c + 1).toNat = 0 + 1 := (by omega);have hadd : addO [] (c : Int) = [(c : Int)] := (by unfold addO; rw [if_pos hs]; rfl);rw [e1, zfa (by rw [hadd]; simp), hadd];rfl
  rw [ha];rfl
 unfold setsS;rw [hl, if_neg (by simp)];show setsE (setsW [] [(1, hex4 c)]) = _;rw [zcn (by rw [hst])];show setsE (setsW (zaf [] (hex4 c)).1 []) = _;rw [hst];show (srt [(c : Int)], (0 : Int), (0 : Int)) = _;rw [List.perm_singleton.1 (zat [(c : Int)])]
theorem zh6 : setsS [] = ([], 0, 0) := by decide +kernel
theorem zdg {cls : Int -> Int} {prt : Int -> Option (List UInt8 × List Int)} (c x : Int) : madeQ cls prt [c] x = (madeQ cls prt [] x && !decide (x = c)) := by
 unfold madeQ;split
 ·by_cases h : x = c
  ·simp [h]
  ·simp [h]
 ·rfl
theorem newOk_out {rows : List RowS} (h : NewOk rows []) (c : Int) : NewOk rows [c] where
 there := h.there
 form := h.form
 ends := h.ends
 few := h.few
 join := fun x hx => h.join x (by rw [zdg, Bool.and_eq_true] at hx; exact hx.1)
 one := fun x y hx hy he => h.one x y (by rw [zdg, Bool.and_eq_true] at hx; exact hx.1) (by rw [zdg, Bool.and_eq_true] at hy; exact hy.1) he
theorem newC_out {s : List UInt8} {c : Nat} (h : c < 65536) (hs : zy c = true) (hC : NewC s []) : NewC s (hex4 c) := by
 obtain ⟨h1, _, h3⟩ := hC;rw [zh6] at h3;refine ⟨h1, by rw [zf3 h hs], ?_⟩;rw [zf3 h hs];exact newOk_out h3 c
theorem zfi : ∀ {a b : List Int}, a.Pairwise (· < ·) -> b.Pairwise (· < ·) -> (∀ x, x ∈ a ↔ x ∈ b) -> a = b
 | [], b, _, _, h => by
  cases b with
  | nil => rfl
  | cons y b => exact absurd ((h y).2 (by simp)) (by simp)
 | x :: a, [], _, _, h => absurd ((h x).1 (by simp)) (by simp)
 | x :: a, y :: b, ha, hb, h => by
  rw [List.pairwise_cons] at ha hb
  have e : x = y := by
   have h1 := (h x).1 (by simp);have h2 := (h y).2 (by simp);rcases List.mem_cons.1 h1 with h1 | h1
   ·exact h1
   ·rcases List.mem_cons.1 h2 with h2 | h2
    ·exact h2.symm
    ·have := hb.1 x h1;have := ha.1 y h2;omega
  subst e;rw [zfi ha.2 hb.2 fun z => ?_];constructor
  ·intro hz;have h1 := (h z).1 (by simp [hz]);rcases List.mem_cons.1 h1 with h1 | h1
   ·have := ha.1 z hz; omega
   ·exact h1
  ·intro hz;have h1 := (h z).2 (by simp [hz]);rcases List.mem_cons.1 h1 with h1 | h1
   ·have := hb.1 z hz; omega
   ·exact h1
theorem zjs {zs : List Int} (h : zs.Nodup) : (srt zs).Pairwise (· < ·) := by
 have h1 := zfg zs;have h2 : (srt zs).Nodup := (zat zs).nodup_iff.2 h;exact (h1.and h2).imp fun hab => by have := hab.1; have := hab.2; omega
theorem keys_out {md1 md2 : Int -> Option (Int × Int)} {ss1 ss2 : List Int} {c : Int} (h1 : zar R32 md1 ss1) (h2 : zar R32 md2 ss2) (hm : ∀ x, (md2 x).isSome = ((md1 x).isSome && !decide (x = c))) :
  srt ss2 = (srt ss1).filter fun x => decide (x ≠ c) := by
 refine zfi (zjs h2.1) ((zjs h1.1).filter _) fun x => ?_;rw [(zat ss2).mem_iff, List.mem_filter, (zat ss1).mem_iff, h1.2, h2.2, hm x]
 by_cases e : x = c
 ·simp [e]
 ·simp [e]
end
section
open Go.RowKit
def hexK (c : Nat) : Nat -> List UInt8
 | 0 => []
 | k + 1 => hxd (c / 16 ^ k % 16) :: hexK c k
theorem hexK_4 (c : Nat) : hexK c 4 = hex4 c := by simp [hexK, hex4]
theorem zim (c : Nat) : ∀ k, (hexK c k).length = k
 | 0 => rfl
 | k + 1 => by rw [hexK, List.length_cons, zim c k]
theorem hexL : ∀ d, d < 16 -> (⟨#[48, 49, 50, 51, 52, 53, 54, 55, 56, 57, 65, 66, 67, 68, 69, 70]⟩ : ByteArray).extract d (d + 1) = mk8 [hxd d] := by decide +kernel
theorem hexo_any (c : Nat) (w : World) (hc : c < 65536) : Calls Tryz.prog 13 #[.int .i32 c] w fun e w' => e = .returned (.string (mk8 (hex4 c))) /\ w = w' := by
 go_enter Tryz.func13, Tryz.ntmps13;go_wp2_with fail;go_loop [0, 4, 5] (fun vc vs vi => ∃ (k m : Nat), k <= 4 /\ Hid (m = c / 16 ^ k) /\ m < 65536 /\ vi = .int .i64 k /\ vc = .int .i32 m /\ vs = .string (mk8 (hexK c k))) (fun _ _ vi => 4 - (intOf vi).toNat)
 case atStart => exact ⟨0, c, by omega, by show _ = _; simp, hc, rfl, rfl, rfl⟩
 case round =>
  obtain ⟨k, m, hk, HM, hm, rfl, rfl, rfl⟩ := hrel
  by_cases hlt : k < 4
  ·have hi : (k : Int) < 4 := (by omega);obtain ⟨d, hd⟩ : ∃ d, d = m % 16 := ⟨_, rfl⟩;have hd16 : d < 16 := (by rw [hd]; exact Nat.mod_lt _ (by omega));obtain ⟨q, hq⟩ : ∃ q, q = m / 16 := ⟨_, rfl⟩;have hqm : q < 65536 := (by rw [hq]; exact Nat.lt_of_le_of_lt (Nat.div_le_self _ _) hm);have e1 : ((m : Int).tmod 16) = (d : Int) := (by rw [hd]; rfl);have e2 : ((m : Int).tdiv 16) = (q : Int) := (by rw [hq]; rfl);have e3 := hexL d hd16;have hdl : (d : Int) + 1 <= 16 := by omega
   have HS : Hid (mk8 [hxd d] ++ mk8 (hexK c k) = mk8 (hexK c (k + 1))) := by
    show _ = _;apply zjk;rw [bs_append, zah, zah, zah];show _ = hxd (c / 16 ^ k % 16) :: hexK c k;rw [<- HM.out, <- hd];rfl
   have hs1 : (mk8 (hexK c k)).size = k := (by rw [zt, zim]);have hs2 : (mk8 [hxd d]).size = 1 := zt _
   have HQ : Hid (q = c / 16 ^ (k + 1)) := by
    show _ = _;rw [hq, HM.out, Nat.div_div_eq_div_mul, Nat.pow_succ]
   have hov : ¬ (9223372036854775807 < (mk8 [hxd d]).size + (mk8 (hexK c k)).size) := (by rw [hs1, hs2]; omega);clear hd hq HM;go_wp2;go_round
   case rel => exact ⟨k + 1, q, by omega, HQ, hqm, by go_num, rfl, by rw [<- HS.out]⟩
   case measure => simp [intOf]; omega
  ·obtain rfl : k = 4 := (by omega);have hi : (4 : Int) <= 4 := Int.le_refl _;go_wp2;go_returns;exact ⟨by rw [<- hexK_4]; rfl, rfl⟩
end
end Go.Proofs.YtfdelmodmadoaaaGreatDoor
