/- What the library's own words for texts (split, cut, trim, fields) say at blanks and single bytes: the words of FldSpec. No program stands here. The contracts of the document's answer for fields: blanks, and what stands between bytes. The contracts of the document's answer for numbers that digits tell. A table of characters: its blocks as values, and how they are made, compared and told. -/
import Derived.Lib.SplitLaws
import Derived.Lib.SlTrimSet
import Derived.Lib.FieldsP
import Derived.Lib.SpaceUEq
import Derived.Test.YtfdelmodmadoaaaGreatDoorY02
import Derived.Deep.WholeRow
set_option linter.unusedSimpArgs false
set_option linter.unusedVariables false
set_option maxRecDepth 20000
set_option maxHeartbeats 4000000
namespace Go.Proofs.YtfdelmodmadoaaaGreatDoor
section
open Go.RowKit
def cutR (c : UInt8) : List UInt8 -> List UInt8 -> List (List UInt8)
 | cur, [] => [cur]
 | cur, b :: t => if b = c then cur :: cutR c [] t else cutR c (cur ++ [b]) t
theorem zfv (c : UInt8) : ∀ (l cur : List UInt8) (acc : List (List UInt8)), (l.foldl (za3 c) (acc, cur)).1 ++ [(l.foldl (za3 c) (acc, cur)).2] = acc ++ cutR c cur l
 | [], cur, acc => rfl
 | b :: t, cur, acc => by
  rw [List.foldl_cons];simp only [cutR, za3];split
  ·rw [zfv c t [] (acc ++ [cur])]; simp
  ·rw [zfv c t (cur ++ [b]) acc]
theorem zoa (c : UInt8) (l : List UInt8) : cutL c l = cutR c [] l := by
 have := zfv c l [] [];simpa [cutL, cutF] using this
theorem zi8 (c b : UInt8) (t : List UInt8) : [c].isPrefixOf (b :: t) = (c == b) := by simp [List.isPrefixOf]
theorem zhr (c : UInt8) : ∀ (l cur : List UInt8), Lib.index l [c] = -1 -> cutR c cur l = [cur ++ l]
 | [], cur, _ => by simp [cutR]
 | b :: t, cur, h => by
  simp only [Lib.index] at h;rw [zi8] at h
  by_cases hb : c = b
  ·rw [if_pos (by simp [hb])] at h; omega
  ·rw [if_neg (by simp [hb])] at h
   have ht : Lib.index t [c] = -1 := by
    by_cases hx : Lib.index t [c] = -1
    ·exact hx
    ·rw [if_neg (by simp [hx])] at h;have := Lib.index_ge t [c];omega
   simp only [cutR];rw [if_neg (fun e => hb e.symm), zhr c t (cur ++ [b]) ht];simp
theorem zji (c : UInt8) : ∀ (l cur : List UInt8) (i : Nat), Lib.index l [c] = i -> cutR c cur l = (cur ++ l.take i) :: cutR c [] (l.drop (i + 1))
 | [], cur, i, h => by
  simp only [Lib.index] at h;simp at h
 | b :: t, cur, i, h => by
  simp only [Lib.index] at h;rw [zi8] at h
  by_cases hb : c = b
  ·rw [if_pos (by simp [hb])] at h;have : i = 0 := (by omega);subst this;simp only [cutR];rw [if_pos hb.symm];simp
  ·rw [if_neg (by simp [hb])] at h
   by_cases hx : Lib.index t [c] = -1
   ·rw [if_pos (by simp [hx])] at h; omega
   ·rw [if_neg (by simp [hx])] at h;obtain ⟨j, hj⟩ : ∃ j : Nat, Lib.index t [c] = j := ⟨(Lib.index t [c]).toNat, by have := Lib.index_ge t [c]; omega⟩;have : i = j + 1 := (by omega);subst this;simp only [cutR];rw [if_neg (fun e => hb e.symm), zji c t (cur ++ [b]) j hj];simp
theorem split_R (c : UInt8) : ∀ (k : Nat) (l : List UInt8), Lib.count l [c] = k -> Lib.splitK [c] 0 k l = cutR c [] l := by
 intro k;induction k with
 | zero =>
  intro l h
  by_cases hx : Lib.index l [c] = -1
  ·rw [zhr c l [] hx]; rfl
  ·exfalso;obtain ⟨j, hj⟩ : ∃ j : Nat, Lib.index l [c] = j := ⟨(Lib.index l [c]).toNat, by have := Lib.index_ge l [c]; omega⟩;rw [Lib.count_hit (by simp) hj] at h;omega
 | succ k ih =>
  intro l h
  by_cases hx : Lib.index l [c] = -1
  ·rw [Lib.count_miss hx] at h; omega
  ·obtain ⟨j, hj⟩ : ∃ j : Nat, Lib.index l [c] = j := ⟨(Lib.index l [c]).toNat, by have := Lib.index_ge l [c]; omega⟩;rw [Lib.count_hit (by simp) hj] at h;simp only [Lib.splitK];rw [if_neg (by simp [hx]), zji c l [] j hj, hj];simp only [Int.toNat_natCast, List.length_singleton, Nat.add_zero, List.nil_append] at h ⊢;rw [ih _ (by omega)]
theorem zjp (s : ByteArray) (c : UInt8) : Lib.splitB ⟨#[c]⟩ 0 (Lib.countB s ⟨#[c]⟩) s = (cutL c (bs s)).map mk8 := by
 have h := Lib.splitB_data ⟨#[c]⟩ 0 (Lib.countB s ⟨#[c]⟩) s;have h2 : Lib.splitK [c] 0 (Lib.countB s ⟨#[c]⟩) (bs s) = cutL c (bs s) := (by rw [zoa]; exact split_R c _ _ rfl);have h3 : (Lib.splitB ⟨#[c]⟩ 0 (Lib.countB s ⟨#[c]⟩) s).map bs = cutL c (bs s) := h.trans h2;rw [<- h3, List.map_map];conv => lhs; rw [<- List.map_id (Lib.splitB ⟨#[c]⟩ 0 (Lib.countB s ⟨#[c]⟩) s)]
 exact List.map_congr_left fun x _ => (zea x).symm
theorem split_len (s : ByteArray) (c : UInt8) : Lib.countB s ⟨#[c]⟩ + 1 = (cutL c (bs s)).length := by
 have h := Lib.splitB_all ⟨#[c]⟩ (Nat.le_refl 1) 0 (Lib.countB s ⟨#[c]⟩) s rfl;rw [<- h, zjp, List.length_map]
theorem cut_first (c : UInt8) (l : List UInt8) : (cutL c l)[0]? = some (Lib.cut l [c]).1 := by
 rw [zoa];unfold Lib.cut
 by_cases hx : Lib.index l [c] = -1
 ·rw [if_neg (by omega), zhr c l [] hx]; rfl
 ·obtain ⟨j, hj⟩ : ∃ j : Nat, Lib.index l [c] = j := ⟨(Lib.index l [c]).toNat, by have := Lib.index_ge l [c]; omega⟩;rw [if_pos (by omega), zji c l [] j hj, hj];simp
theorem zkv (b : UInt8) : ([9, 13, 32] : List UInt8).contains b = zai b := by
 have h9 : (b = 9) ↔ b.toNat = 9 := ⟨fun h => by rw [h]; rfl, fun h => UInt8.toNat.inj h⟩;have h13 : (b = 13) ↔ b.toNat = 13 := ⟨fun h => by rw [h]; rfl, fun h => UInt8.toNat.inj h⟩;have h32 : (b = 32) ↔ b.toNat = 32 := ⟨fun h => by rw [h]; rfl, fun h => UInt8.toNat.inj h⟩
 have e : zai b = decide (b = 9 \/ b = 13 \/ b = 32) := by
  unfold zai zcx;refine decide_eq_decide.2 ⟨fun h => ?_, fun h => ?_⟩
  ·rcases h with h | h | h
   ·exact .inl (h9.2 (by omega))
   ·exact .inr (.inl (h13.2 (by omega)))
   ·exact .inr (.inr (h32.2 (by omega)))
  ·rcases h with h | h | h
   ·have := h9.1 h; omega
   ·have := h13.1 h; omega
   ·have := h32.1 h; omega
 rw [e];simp only [List.contains_cons, List.contains_nil, Bool.or_false]
 by_cases a : b = 9 <;> by_cases c : b = 13 <;> by_cases d : b = 32 <;> simp [a, c, d]
theorem lstrip_S (l : List UInt8) : Lib.trimLeftS l [9, 13, 32] = lstrip l := by
 unfold Lib.trimLeftS lstrip;congr 1;funext b;exact zkv b
theorem rstrip_S (l : List UInt8) : Lib.trimRightS l [9, 13, 32] = rstrip l := by
 unfold Lib.trimRightS rstrip;have : (fun b : UInt8 => ([9, 13, 32] : List UInt8).contains b) = zai := (by funext b; exact zkv b);rw [this]
theorem zg4 (b : UInt8) (t : List UInt8) : rstrip (b :: t) = if rstrip t = [] then (if zai b = true then [] else [b]) else b :: rstrip t := by
 simp only [rstrip, List.reverse_cons, List.dropWhile_append, List.isEmpty_iff]
 by_cases h : List.dropWhile zai t.reverse = []
 ·by_cases hb : zai b = true <;> simp [h, List.dropWhile_cons, hb]
 ·simp [h]
theorem zgw : ∀ l : List UInt8, lstrip (rstrip l) = rstrip (lstrip l)
 | [] => rfl
 | b :: t => by
  have ih := zgw t;rw [zg4]
  by_cases hb : zai b = true
  ·rw [lstrip_yes hb, <- ih];split
   ·rename_i h;rw [h]
   ·rw [lstrip_yes hb]
  ·have hb' : zai b = false := (by simpa using hb);rw [ze4 hb', zg4];split
   ·rw [ze4 hb']
   ·rw [ze4 hb']
theorem zod (l : List UInt8) : Lib.trimS l [9, 13, 32] = bareL l := by
 unfold Lib.trimS bareL;rw [lstrip_S, rstrip_S, zgw]
def zdv (x : Nat) : Bool := zcx x
theorem words_blankE {b : UInt8} {w t : List UInt8} (h : zai b = true) (hw : w ≠ []) : zk w (b :: t) = w :: zk [] t := by rw [zc2 _ _ h, if_neg hw]
theorem zfg : ∀ (n : Nat) (l w : List UInt8), n <= l.length -> (∀ j, j < n -> ∀ b, l[j]? = some b -> zai b = false) -> zk w l = zk (w ++ l.take n) (l.drop n)
 | 0, l, w, _, _ => by simp
 | n + 1, [], w, h, _ => by simp at h
 | n + 1, b :: t, w, h, hb => by
  rw [zck w t (hb 0 (by omega) b rfl), zfg n t (w ++ [b]) (by simp at h; omega) (fun j hj c hc => hb (j + 1) (by omega) c (by simpa using hc))];simp
theorem high_bytes (s : ByteArray) (pos : Nat) (h : pos < s.size) (ha : 128 <= (s[pos]'h).toNat) :
  pos + (Utf8.decode s pos).2 <= s.size /\ ∀ j, j < (Utf8.decode s pos).2 -> ∀ b, ((bs s).drop pos)[j]? = some b -> zai b = false := by
 have hd := Lib.decodeN_conts ((bs s).length - pos) (((bs s).getD pos 0).toNat) (((bs s).getD (pos + 1) 0).toNat) (((bs s).getD (pos + 2) 0).toNat) (((bs s).getD (pos + 3) 0).toNat);have hN : Utf8.decode s pos = Lib.decodeN ((bs s).length - pos) (((bs s).getD pos 0).toNat) (((bs s).getD (pos + 1) 0).toNat) (((bs s).getD (pos + 2) 0).toNat) (((bs s).getD (pos + 3) 0).toNat) := Lib.decode_N s pos;rw [<- hN] at hd;obtain ⟨c2, c3, c4, c5⟩ := hd;have hl : (bs s).length = s.size := ze s;have hw := (decode_high s pos h ha).2;refine ⟨by omega, fun j hj b hb => ?_⟩;rw [List.getElem?_drop] at hb
 have hbig : 128 <= b.toNat := by
  have hg : ∀ i, (bs s)[i]? = some b -> ((bs s).getD i 0) = b := fun i hi => by simp [List.getD, hi]
  rcases (show j = 0 \/ j = 1 \/ j = 2 \/ j = 3 by omega) with e | e | e | e
  ·subst e;rw [Nat.add_zero, znu s pos h] at hb;injection hb with hb;rw [<- hb]; exact ha
  ·subst e; have := c2 (by omega); rw [hg _ hb] at this; omega
  ·subst e; have := c3 (by omega); rw [hg _ hb] at this; omega
  ·subst e; have := c4 (by omega); rw [hg _ hb] at this; omega
 simp only [zai, zcx, decide_eq_false_iff_not];omega
theorem zir {x : Nat} (h : 128 <= x) : zdv x = false := by
 simp only [zdv, zcx, decide_eq_false_iff_not];omega
theorem zcd (s : ByteArray) (a pos n : Nat) (h : a <= pos) : ((bs s).take (pos + n)).drop a = ((bs s).take pos).drop a ++ ((bs s).drop pos).take n := by
 by_cases hp : pos <= (bs s).length
 ·rw [List.take_add, List.drop_append, List.length_take, Nat.min_eq_left hp, Nat.sub_eq_zero_of_le h, List.drop_zero]
 ·rw [List.take_of_length_le (by omega), List.take_of_length_le (by omega), List.drop_of_length_le (l := bs s) (i := pos) (by omega)];simp
theorem spans_words (s : ByteArray) : ∀ (f pos : Nat) (st : Option Nat) (acc : List (Nat × Nat)), s.size - pos <= f -> pos <= s.size -> (∀ a, st = some a -> a < pos) ->
  ((Lib.closeSpans s (Lib.spansFromP zdv s f pos st acc)).map fun x => bs (s.extract x.1 x.2)) = (acc.map fun x => bs (s.extract x.1 x.2)) ++ zk (match st with | some a => ((bs s).take pos).drop a | none => []) ((bs s).drop pos) := by
 have hl : (bs s).length = s.size := ze s
 have hend : ∀ (pos : Nat) (st : Option Nat) (acc : List (Nat × Nat)), pos = s.size -> (∀ a, st = some a -> a < pos) ->
   ((Lib.closeSpans s (acc, st)).map fun x => bs (s.extract x.1 x.2)) = (acc.map fun x => bs (s.extract x.1 x.2)) ++ zk (match st with | some a => ((bs s).take pos).drop a | none => []) ((bs s).drop pos) := by
  intro pos st acc hp hst;subst hp;rw [za4 s s.size (Nat.le_refl _)]
  cases st with
  | none => simp [Lib.closeSpans, zk]
  | some a =>
   have hne : ((bs s).take s.size).drop a ≠ [] := by
    intro h;have := congrArg List.length h;have := hst a rfl;simp only [List.length_drop, List.length_take, List.length_nil] at *;omega
   simp only [zk];rw [if_neg hne];simp [Lib.closeSpans, zay]
 intro f;induction f with
 | zero =>
  intro pos st acc hf hp hst;exact hend pos st acc (by omega) hst
 | succ f ih =>
  intro pos st acc hf hp hst
  by_cases hin : pos < s.size
  ·unfold Lib.spansFromP;rw [if_pos hin];have hd := zbk s pos hin
   by_cases hasc : (s[pos]'hin).toNat < 128
   ·have hdec := decode_ascii s pos hin hasc;rw [hdec];simp only []
    by_cases hbl : zai (s[pos]'hin) = true
    ·rw [if_pos (show zdv (s[pos]'hin).toNat = true from hbl)]
     cases st with
     | none =>
      simp only [];rw [ih (pos + 1) none acc (by omega) (by omega) (by simp), hd, zc2 _ _ hbl, if_pos rfl]
     | some a =>
      have hlt := hst a rfl
      have hne : ((bs s).take pos).drop a ≠ [] := by
       intro h;have := congrArg List.length h;simp only [List.length_drop, List.length_take, List.length_nil] at this;omega
      simp only [];rw [ih (pos + 1) none (acc ++ [(a, pos)]) (by omega) (by omega) (by simp), hd, words_blankE hbl hne];simp [zay]
    ·have hbl' : zai (s[pos]'hin) = false := (by simpa using hbl);rw [if_neg (show ¬ zdv (s[pos]'hin).toNat = true from hbl)]
     cases st with
     | none =>
      simp only [];rw [ih (pos + 1) (some pos) acc (by omega) (by omega) (by intro a h; injection h with h; omega), hd, zck _ _ hbl'];simp only [List.nil_append];rw [zcd s pos pos 1 (Nat.le_refl _), hd, List.drop_of_length_le (by rw [List.length_take]; omega)];simp
     | some a =>
      have hlt := hst a rfl;simp only [];rw [ih (pos + 1) (some a) acc (by omega) (by omega) (by intro b h; injection h with h; omega), hd, zck _ _ hbl'];simp only [];rw [zcd s a pos 1 (by omega), hd];simp
   ·have ha : 128 <= (s[pos]'hin).toNat := (by omega);obtain ⟨hw, hno⟩ := high_bytes s pos hin ha;obtain ⟨hbig, hw1⟩ := decode_high s pos hin ha;obtain ⟨r, n, hrn⟩ : ∃ r n, Utf8.decode s pos = (r, n) := ⟨_, _, rfl⟩;rw [hrn] at hw hno hbig hw1 ⊢;simp only [] at hw hno hbig hw1 ⊢;rw [if_neg (by rw [zir hbig]; simp)];have hdl : n <= ((bs s).drop pos).length := by rw [List.length_drop]; omega
    cases st with
    | none =>
     simp only [];rw [ih (pos + n) (some pos) acc (by omega) (by omega) (by intro a h; injection h with h; omega), zfg n ((bs s).drop pos) [] hdl hno];simp only [List.nil_append, List.drop_drop];rw [zcd s pos pos n (Nat.le_refl _), List.drop_of_length_le (l := List.take pos (bs s)) (by rw [List.length_take]; omega)];simp
    | some a =>
     have hlt := hst a rfl;simp only [];rw [ih (pos + n) (some a) acc (by omega) (by omega) (by intro b h; injection h with h; omega), zfg n ((bs s).drop pos) _ hdl hno];simp only [List.drop_drop];rw [zcd s a pos n (by omega)]
  ·rw [Lib.spansFromP_end _ _ _ _ _ _ hin];exact hend pos st acc (by omega) hst
theorem fields_words (s : ByteArray) : Lib.goFieldsP zdv s = (zdi (bs s)).map mk8 := by
 have h := spans_words s s.size 0 none [] (by omega) (by omega) (by simp);simp only [List.map_nil, List.nil_append, List.drop_zero] at h;unfold Lib.goFieldsP Lib.spansOfP zdi;rw [<- h, List.map_map];exact List.map_congr_left fun x _ => (zea _).symm
end
section
open Go.RowKit
theorem ret_str {a b : ByteArray} (h : a = b) : Ending.returned (.string a) = .returned (.string b) := by rw [h]
theorem zbs (b : Int) (w : World) : Calls Tryz.prog 179 #[.int .u8 b] w fun e w' => e = .returned (.bool (zcx b)) /\ w = w' := by
 rcases (show b = 9 \/ b = 13 \/ b = 32 \/ (b ≠ 9 /\ b ≠ 13 /\ b ≠ 32) by omega) with rfl | rfl | rfl | ⟨h1, h2, h3⟩
 ·go_enter Tryz.func179, Tryz.ntmps179;go_wp2;go_returns;exact ⟨zo (by decide), rfl⟩
 ·go_enter Tryz.func179, Tryz.ntmps179;go_wp2;go_returns;exact ⟨zo (by decide), rfl⟩
 ·go_enter Tryz.func179, Tryz.ntmps179;go_wp2;go_returns;exact ⟨zo (by decide), rfl⟩
 ·have e1 : (b == 9) = false := (by simpa using h1);have e2 : (b == 13) = false := (by simpa using h2);have e3 : (b == 32) = false := (by simpa using h3);go_enter Tryz.func179, Tryz.ntmps179;go_wp2;go_returns;exact ⟨zo (by unfold zcx; symm; rw [decide_eq_false_iff_not]; omega), rfl⟩
theorem zcq (s : ByteArray) (w : World) (hs : s.size <= 4611686018427387904) :
  Calls Tryz.prog 150 #[.string s] w fun e w' => e = .returned (.string (mk8 (bareL (bs s)))) /\ w = w' := by
 go_enter Tryz.func150, Tryz.ntmps150;go_wp2_with fail;go_loop [0] (fun v => ∃ t : ByteArray, v = .string t /\ t.size <= s.size /\ Hid (lstrip (bs t) = lstrip (bs s))) (fun v => zlm v)
 case atStart => exact ⟨s, rfl, Nat.le_refl _, rfl⟩
 case round =>
  obtain ⟨t, rfl, hts, HT⟩ := hrel
  by_cases hyes : ∃ h : 0 < t.size, zai (t[0]'h) = true
  ·obtain ⟨h0, hb⟩ := hyes;have hne : t.toList.isEmpty = false := zde (by omega);have hne2 : (!t.toList.isEmpty) = true := (by rw [hne]; rfl);have hb' : zcx ((t[0]'h0).toNat : Int) = true := hb;have hd := zbk t 0 h0;rw [List.drop_zero] at hd
   have HL : Hid (lstrip (bs (t.extract 1 t.size)) = lstrip (bs s)) := by
    show _ = _;rw [<- HT.out, hd, lstrip_yes hb, zay, List.take_of_length_le (by rw [ze]; exact Nat.le_refl _)]
   have h1s : (t.extract 1 t.size).size = t.size - 1 := (by simp);clear hd hb;go_wp2_with (go_at_call 179; refine (zbs _ _).mono ?_; rintro e w' ⟨rfl, rfl⟩)
   go_round
   case rel => exact ⟨_, rfl, by rw [h1s]; omega, HL⟩
   case measure => simp [zlm]; omega
  ·have HU : Hid (bs t = lstrip (bs s)) := by
    show _ = _;rw [<- HT.out]
    by_cases h0 : 0 < t.size
    ·have hd := zbk t 0 h0;rw [List.drop_zero] at hd;rw [hd, ze4];rcases Bool.eq_false_or_eq_true (zai (t[0]'h0)) with h | h
     ·exact absurd ⟨h0, h⟩ hyes
     ·exact h
    ·rw [zdh (by omega)]; rfl
   have hway : (t.size = 0 /\ t.toList = [] /\ t.toList.isEmpty = true) \/ ∃ h0 : 0 < t.size, t.toList.isEmpty = false /\ (!t.toList.isEmpty) = true /\ zcx ((t[0]'h0).toNat : Int) = false := by
    by_cases h0 : 0 < t.size
    ·refine .inr ⟨h0, zde (by omega), by rw [zde (by omega)]; rfl, ?_⟩;rcases Bool.eq_false_or_eq_true (zai (t[0]'h0)) with h | h
     ·exact absurd ⟨h0, h⟩ hyes
     ·exact h
    ·have hz : t.size = 0 := (by omega);exact .inl ⟨hz, by rw [zj, zdh hz], by rw [zj, zdh hz]; rfl⟩
   clear hyes HT;rcases hway with ⟨hz, hne, hne2⟩ | ⟨h0, hne, hne2, hbn⟩
   all_goals
    go_wp2_with (go_at_call 179; refine (zbs _ _).mono ?_; rintro e w' ⟨rfl, rfl⟩)
    go_loop [0] (fun v => ∃ u : ByteArray, v = .string u /\ u.size <= s.size /\ Hid (rstrip (bs u) = bareL (bs s))) (fun v => zlm v)
    case atStart => exact ⟨t, rfl, hts, by show rstrip _ = rstrip _; rw [HU.out]⟩
    case round =>
     obtain ⟨u, rfl, hus, HR⟩ := hrel
     by_cases hyes : ∃ h : 0 < u.size, zai (u[u.size - 1]'(by omega)) = true
     ·obtain ⟨h0, hb⟩ := hyes;have hne' : u.toList.isEmpty = false := zde (by omega);have hne2' : (!u.toList.isEmpty) = true := (by rw [hne']; rfl);have hb' : zcx ((u[u.size - 1]'(by omega)).toNat : Int) = true := hb;have hlt : u.size - 1 < u.size := (by omega);have hd := zcl (s := u) (k := u.size - 1) hlt;rw [show u.size - 1 + 1 = u.size by omega, List.take_of_length_le (by rw [ze]; exact Nat.le_refl _)] at hd
      have HL : Hid (rstrip (bs (u.extract 0 (u.size - 1))) = bareL (bs s)) := by
       show _ = _;rw [<- HR.out, hd, rstrip_yes hb, zay, List.drop_zero]
      have h1s : (u.extract 0 (u.size - 1)).size = u.size - 1 := (by simp);clear hd hb;go_wp2_with (go_at_call 179; refine (zbs _ _).mono ?_; rintro e w' ⟨rfl, rfl⟩)
      go_round
      case rel => exact ⟨_, rfl, by simp; omega, HL⟩
      case measure => simp [zlm]; omega
     ·have HE : Hid (bs u = bareL (bs s)) := by
       show _ = _;rw [<- HR.out]
       by_cases h0 : 0 < u.size
       ·have hlt : u.size - 1 < u.size := (by omega);have hd := zcl (s := u) (k := u.size - 1) hlt;rw [show u.size - 1 + 1 = u.size by omega, List.take_of_length_le (by rw [ze]; exact Nat.le_refl _)] at hd;rw [hd, rstrip_no];rcases Bool.eq_false_or_eq_true (zai (u[u.size - 1]'hlt)) with h | h
        ·exact absurd ⟨h0, h⟩ hyes
        ·exact h
       ·rw [zdh (by omega)]; rfl
      have hway : (u.size = 0 /\ u.toList = [] /\ u.toList.isEmpty = true) \/ ∃ h0 : u.size - 1 < u.size, 0 < u.size /\ u.toList.isEmpty = false /\ (!u.toList.isEmpty) = true /\ zcx ((u[u.size - 1]'h0).toNat : Int) = false := by
       by_cases h0 : 0 < u.size
       ·refine .inr ⟨by omega, h0, zde (by omega), by rw [zde (by omega)]; rfl, ?_⟩;rcases Bool.eq_false_or_eq_true (zai (u[u.size - 1]'(by omega))) with h | h
        ·exact absurd ⟨h0, h⟩ hyes
        ·exact h
       ·have hz : u.size = 0 := (by omega);exact .inl ⟨hz, by rw [zj, zdh hz], by rw [zj, zdh hz]; rfl⟩
      clear hyes HR;rcases hway with ⟨hz', hne', hne2'⟩ | ⟨h0', h1', hne', hne2', hbn'⟩
      all_goals
       go_wp2_with (go_at_call 179; refine (zbs _ _).mono ?_; rintro e w' ⟨rfl, rfl⟩)
       go_returns;exact ⟨ret_str (mk8_eq HE.out), rfl⟩
theorem zh4 {α : Type} {l : List α} {k : Nat} {z : α} (h : l[k]? = some z) : l.take (k + 1) = l.take k ++ [z] := by
 rw [List.take_add_one, h]; rfl
theorem zi4 (s : ByteArray) (sep : UInt8) (w : World) (hs : s.size <= 1073741824) :
  Calls Tryz.prog 149 #[.string s, .int .u8 sep.toNat] w (zff w (cutL sep (bs s))) := by
 go_enter Tryz.func149, Tryz.ntmps149;go_wp2
 go_loopw [5, 6, 7] (fun v n i wr => ∃ (k : Nat) (os : List (List UInt8)) (t : ByteArray) (A' : Option Addr) (c' : Nat), k <= s.size /\ i = .int .i64 k /\ Hid (os = (cutF sep ((bs s).take k)).1) /\ n = .string t /\ Hid (bs t = (cutF sep ((bs s).take k)).2) /\ v = .slice A' os.length c' /\ wr.ownsRow w.heap.size 9 1 (.slice A' os.length c') os.length (Ss os) /\ Below w.heap.size w wr) (fun _ _ i _ => s.size - (intOf i).toNat)
 case atStart => exact ⟨0, [], ⟨#[]⟩, none, 0, Nat.zero_le _, rfl, rfl, rfl, rfl, rfl, World.ownsRow_nil _ _ _ _, Below.refl _ _⟩
 case round =>
  obtain ⟨k, os, t, A', c', hk, rfl, HO, rfl, HT, rfl, hown, hb⟩ := hrel;have hz := hb.size;have hlen := zmq sep ((bs s).take k);rw [<- HO.out, <- HT.out, ze] at hlen;have hlt' : os.length + t.size <= k := (by have := List.length_take_le k (bs s); omega);clear hlen
  by_cases hp : k < s.size
  ·have hst := cutF_take (sep := sep) hp;obtain ⟨b, hbb⟩ : ∃ b, b = s[k]'hp := ⟨_, rfl⟩;rw [<- hbb] at hst;have hi : (k : Int) < (s.size : Int) := by omega
   by_cases he : b = sep
   ·have heb : (((s[k]'hp).toNat : Int) == (sep.toNat : Int)) = true := (by rw [<- hbb, he]; simp);have h1 : (cutF sep ((bs s).take (k + 1))).1 = os ++ [bs t] := (by rw [hst]; unfold za3; rw [if_pos he, <- HO.out, <- HT.out]);have h2 : (cutF sep ((bs s).take (k + 1))).2 = [] := (by rw [hst]; unfold za3; rw [if_pos he]);have H1 := hz0q h1; have H2 := hz0q h2;clear h1 h2 hst hbb he;go_wp2_with (at_builtin; refine z6 zm1 _ rfl _ _ rfl w.heap.size rfl (hown.alloc _) rfl (Rd.new1 _ _ _) (zb6 rfl) (by omega) (by omega) (by simp; omega) ?_)
    intro A1 c1 w1 hown1 hg1 hat1;have hb1 := za7 (hb.alloc hz _) (by simp; omega) (hown.alloc _) hg1;go_wp2;go_roundw
    case rel => exact ⟨k + 1, os ++ [bs t], ⟨#[]⟩, A1, c1, by omega, by go_num, H1.out.symm, rfl, by show _ = _; rw [H2.out]; rfl, by simp, by simpa [zea] using hown1, hb1⟩
    case measure => simp [intOf]; omega
   ·have heb : (((s[k]'hp).toNat : Int) == (sep.toNat : Int)) = false := by
     rw [<- hbb, beq_eq_false_iff_ne];intro hh;exact he (UInt8.toNat_inj.1 (by omega))
    have h1 : (cutF sep ((bs s).take (k + 1))).1 = os := by rw [hst]; unfold za3; rw [if_neg he, <- HO.out]
    have h2 : (cutF sep ((bs s).take (k + 1))).2 = bs (t ++ s.extract k (k + 1)) := by
     rw [hst]; unfold za3;rw [if_neg he, <- HT.out, zkt, zay, zcl hp, List.drop_append, List.drop_of_length_le (List.length_take_le _ _), hbb];have hlk : ((bs s).take k).length = k := (by rw [List.length_take, ze]; omega);rw [hlk];simp
    have H1 := hz0q h1; have H2 := hz0q h2;clear h1 h2 hst hbb he;go_wp2;go_roundw
    case rel => exact ⟨k + 1, os, t ++ s.extract k (k + 1), A', c', by omega, by go_num, H1.out.symm, rfl, H2.out.symm, rfl, hown, hb⟩
    case measure => simp [intOf]; omega
  ·have hkn : k = s.size := (by omega);subst hkn;rw [List.take_of_length_le (by rw [ze]; exact Nat.le_refl _)] at HO HT;go_wp2_with (at_builtin; refine z6 zm1 _ rfl _ _ rfl w.heap.size rfl (hown.alloc _) rfl (Rd.new1 _ _ _) (zb6 rfl) (by omega) (by omega) (by simp; omega) ?_)
   intro A1 c1 w1 hown1 hg1 hat1;have hb1 := za7 (hb.alloc hz _) (by simp; omega) (hown.alloc _) hg1;go_wp2;go_returns;have e : cutL sep (bs s) = os ++ [bs t] := (by unfold cutL; rw [<- HO.out, <- HT.out]);rw [e];exact ⟨A1, c1, by simp, by simpa [zea] using hown1, hb1⟩
theorem zia (s : ByteArray) (sep : UInt8) (w : World) (hs : s.size <= 1073741824) :
  Calls Tryz.prog 117 #[.string s, .int .u8 sep.toNat] w (zff w ((cutL sep (bs s)).map bareL)) := by
 have hlen := zgl sep (bs s);have hpart := zbv sep (bs s);rw [ze] at hlen hpart;obtain ⟨ls, hls⟩ : ∃ ls, ls = cutL sep (bs s) := ⟨_, rfl⟩;rw [<- hls] at hlen hpart;have HLS := hz0q hls;have HPT := hz0q hpart;clear hpart hls;go_enter Tryz.func117, Tryz.ntmps117;go_wp2_with fail;refine (zi4 s sep _ hs).mono ?_;rw [<- HLS.out];rintro e w1 ⟨A, c, rfl, hown, hb⟩;go_wp2
 go_loopw [6] (fun i wr => ∃ (k : Nat), k <= ls.length /\ i = .int .i64 k /\ wr.ownsRow w.heap.size 9 1 (.slice A ls.length c) ls.length (Ss ((ls.take k).map bareL ++ ls.drop k)) /\ Below w.heap.size w wr) (fun i _ => ls.length - (intOf i).toNat)
 case atStart => exact ⟨0, Nat.zero_le _, rfl, by simpa using hown, hb⟩
 case round =>
  obtain ⟨k, hk, rfl, hownr, hbr⟩ := hrel
  by_cases hlt : k < ls.length
  ·obtain ⟨l, hl⟩ : ∃ l, ls[k]? = some l := ⟨_, List.getElem?_eq_getElem hlt⟩;have hll := HPT.out l (List.mem_of_getElem? hl);obtain ⟨g, cap, hform, hg0, hgl⟩ := hownr.form (by omega);injection hform with hA _ hc;subst hA hc
   have hget : ((ls.take k).map bareL ++ ls.drop k)[k]? = some l := by
    rw [List.getElem?_append_right (by simp; omega)];simp [hl];rw [Nat.min_eq_left (by omega), Nat.sub_self, Nat.add_zero, hl]
   have hci : wr.cell? ⟨g, k, none⟩ = some (.string (mk8 l)) := (by rw [hownr.cellAt k (by omega)]; exact zhz hget);have hfi : wr.frozen? ⟨g, k, none⟩ = false := hownr.frozenAt k;have hst := hownr.stored k (.string (mk8 (bareL l)))
   have hset : (Ss ((ls.take k).map bareL ++ ls.drop k)).set k (.string (mk8 (bareL l))) = Ss ((ls.take (k + 1)).map bareL ++ ls.drop (k + 1)) := by
    rw [zh4 hl, List.drop_eq_getElem_cons hlt];simp only [Ss, List.map_append, List.map_cons, List.map_nil];rw [List.set_append_right _ _ (by simp; omega)];simp;rw [Nat.min_eq_left (by omega), Nat.sub_self];simp
   rw [hset] at hst;have HST := hz0q hst.1;have hbs := hbr.setCell (p := ⟨g, k, none⟩) hg0 (.string (mk8 (bareL l)));have HBS := hz0q hbs;have hsz : (mk8 l).size <= 4611686018427387904 := (by rw [zm]; omega);have HL := hz0q hl;clear hst hset hget hl hown hb hbs;have hi : (k : Int) < (ls.length : Int) := (by omega);go_wp2_with (go_at_call 150; refine (zcq _ _ hsz).mono ?_; rw [zz]; rintro e w' ⟨rfl, rfl⟩)
   go_roundw
   case rel => exact ⟨k + 1, by omega, by go_num, HST.out, HBS.out⟩
   case measure => simp [intOf]; omega
  ·have hkn : k = ls.length := (by omega);subst hkn;go_wp2;go_returns;rw [<- HLS.out];refine ⟨A, c, by simp, ?_, hbr⟩;simpa using hownr
end
section
open Go.RowKit
theorem zns (s : ByteArray) (k : Nat) (h : k < s.size) : (s[k]'h).toNat < 256 := UInt8.toNat_lt _
theorem hexS_bad {s : ByteArray} (h : zq 16 0 (bs s) = -1) : hexS (bs s) = (0, 10) := by
 have : numS 16 6 (bs s) = -1 := (by unfold numS; split <;> simp [h]);unfold hexS;rw [this];decide
theorem hexS_len {s : ByteArray} (h : s.size = 0 \/ 6 < s.size) : hexS (bs s) = (0, 10) := by
 have : numS 16 6 (bs s) = -1 := (by unfold numS; rw [ze, if_pos h]);unfold hexS;rw [this];decide
theorem hexS_good {s : ByteArray} {n : Int} (h0 : ¬ (s.size = 0 \/ 6 < s.size)) (h : zq 16 0 (bs s) = n) (hn : 0 <= n) : hexS (bs s) = if zaq n = true then (n, 0) else (0, 11) := by
 have : numS 16 6 (bs s) = n := (by unfold numS; rw [ze, if_neg h0, h]);unfold hexS;rw [this, if_neg (by omega)]
theorem zi3 (s : ByteArray) (w : World) (hs : s.size <= 4611686018427387904) :
  Calls Tryz.prog 151 #[.string s] w fun e w' => e = .returned (.tuple #[.int .i32 (hexS (bs s)).1, .int .i64 (hexS (bs s)).2]) /\ w = w' := by
 by_cases h0 : s.size = 0 \/ 6 < s.size
 ·have HX := hz0q (hexS_len h0);rcases h0 with h0 | h0
  ·have h1 : (s.size : Int) < 1 := (by omega);go_enter Tryz.func151, Tryz.ntmps151;go_wp2;go_returns;exact ⟨zf6 (by rw [HX.out]) (by rw [HX.out]), rfl⟩
  ·have h1 : (1 : Int) <= (s.size : Int) := (by omega);have h2 : (6 : Int) < (s.size : Int) := (by omega);go_enter Tryz.func151, Tryz.ntmps151;go_wp2;go_returns;exact ⟨zf6 (by rw [HX.out]) (by rw [HX.out]), rfl⟩
 ·have h1 : (1 : Int) <= (s.size : Int) := (by omega);have h2 : (s.size : Int) <= 6 := (by omega);have H0 := hz0q h0; clear h0;go_enter Tryz.func151, Tryz.ntmps151;go_wp2;go_loop [4, 5] (fun n i => ∃ (k : Nat) (v : Int), k <= s.size /\ i = .int .i64 k /\ n = .int .i64 v /\ 0 <= v /\ v < pow16 k /\ Hid (zq 16 0 (bs s) = zq 16 v ((bs s).drop k))) (fun _ i => s.size - (intOf i).toNat)
  case atStart => exact ⟨0, 0, Nat.zero_le _, rfl, rfl, Int.le_refl _, by decide, rfl⟩
  case round =>
   obtain ⟨k, v, hk, rfl, rfl, hv0, hv1, HN⟩ := hrel;have hv2 : v <= 16777215 := by have := zi9 k (by omega); omega
   by_cases hp : k < s.size
   ·have hdr := zbk s k hp;rw [hdr] at HN;have hd1 := zen ((s[k]'hp).toNat : Int);have hd2 := zc9 ((s[k]'hp).toNat : Int);have hbl := zns s k hp;clear hdr;have hi : (k : Int) < (s.size : Int) := by omega
    by_cases hbad : zp ((s[k]'hp).toNat : Int) < 0
    ·have HX := hz0q (hexS_bad (s := s) (by rw [HN.out]; exact zbd (.inl hbad)));go_wp2_with (go_at_call 180; refine (zig _ _ (by omega) (by omega)).mono ?_; rintro e w' ⟨rfl, rfl⟩)
     go_returns;exact ⟨zf6 (by rw [HX.out]) (by rw [HX.out]), rfl⟩
    ·have HB := hz0q (zcb (base := 16) (n := v) (b := s[k]'hp) (t := (bs s).drop (k + 1)) (by omega) (by omega));have hbad' : 0 <= zp ((s[k]'hp).toNat : Int) := (by omega);go_wp2_with (go_at_call 180; refine (zig _ _ (by omega) (by omega)).mono ?_; rintro e w' ⟨rfl, rfl⟩)
     go_round
     case rel => exact ⟨k + 1, 16 * v + zp ((s[k]'hp).toNat : Int), by omega, by go_num, by go_num, by omega, by simp only [pow16]; omega, by show _ = _; rw [HN.out, HB.out, Int.mul_comm v 16]⟩
     case measure => simp [intOf]; omega
   ·have hks : k = s.size := (by omega);subst hks;rw [za4 s _ (Nat.le_refl _)] at HN;have HN' : zq 16 0 (bs s) = v := (by rw [HN.out]; rfl);have hx := hexS_good H0.out HN' hv0;clear HN';rcases Bool.eq_false_or_eq_true (zaq v) with hsc | hsc
    ·rw [if_pos hsc] at hx;have HX := hz0q hx; clear hx;go_wp2_with (go_at_call 12; refine (zbg _ _).mono ?_; rintro e w' ⟨rfl, rfl⟩)
     go_returns;exact ⟨zf6 (by rw [HX.out]) (by rw [HX.out]), rfl⟩
    ·rw [if_neg (by rw [hsc]; simp)] at hx;have HX := hz0q hx; clear hx;go_wp2_with (go_at_call 12; refine (zbg _ _).mono ?_; rintro e w' ⟨rfl, rfl⟩)
     go_returns;exact ⟨zf6 (by rw [HX.out]) (by rw [HX.out]), rfl⟩
theorem dec_digit {b : Int} : (48 <= b /\ b <= 57 -> zp b = b - 48) /\ (¬ (48 <= b /\ b <= 57) -> zp b < 0 \/ 10 <= zp b) := by
 unfold zp;refine ⟨fun h => by rw [if_pos h], fun h => ?_⟩;rw [if_neg h];split
 ·omega
 ·split <;> omega
theorem decS_bad {s : ByteArray} (h : zq 10 0 (bs s) = -1) : decS (bs s) = (0, 10) := by
 have : numS 10 5 (bs s) = -1 := (by unfold numS; split <;> simp [h]);unfold decS;rw [this];decide
theorem decS_len {s : ByteArray} (h : s.size = 0 \/ 5 < s.size) : decS (bs s) = (0, 10) := by
 have : numS 10 5 (bs s) = -1 := (by unfold numS; rw [ze, if_pos h]);unfold decS;rw [this];decide
theorem decS_good {s : ByteArray} {n : Int} (h0 : ¬ (s.size = 0 \/ 5 < s.size)) (h : zq 10 0 (bs s) = n) (hn : 0 <= n) : decS (bs s) = (n, 0) := by
 have : numS 10 5 (bs s) = n := (by unfold numS; rw [ze, if_neg h0, h]);unfold decS;rw [this, if_neg (by omega)]
theorem rdec_any (s : ByteArray) (w : World) (hs : s.size <= 4611686018427387904) :
  Calls Tryz.prog 152 #[.string s] w fun e w' => e = .returned (.tuple #[.int .i64 (decS (bs s)).1, .int .i64 (decS (bs s)).2]) /\ w = w' := by
 go_enter Tryz.func152, Tryz.ntmps152;go_wp2;go_loop [4, 5] (fun n i => ∃ (k : Nat) (v : Int), k <= s.size /\ k <= 6 /\ i = .int .i64 k /\ n = .int .i64 v /\ 0 <= v /\ v < pow10 k /\ Hid (zq 10 0 (bs s) = zq 10 v ((bs s).drop k))) (fun _ i => s.size - (intOf i).toNat)
 case atStart => exact ⟨0, 0, Nat.zero_le _, by omega, rfl, rfl, Int.le_refl _, by decide, rfl⟩
 case round =>
  obtain ⟨k, v, hk, hk6, rfl, rfl, hv0, hv1, HN⟩ := hrel;have hv2 : v <= 16777215 := by have := zja k (by omega); omega
  by_cases hp : k < s.size /\ k < 6
  ·obtain ⟨hp, hk5⟩ := hp;have hdr := zbk s k hp;rw [hdr] at HN;have hbl := zns s k hp;clear hdr;have hi : (k : Int) < (s.size : Int) := (by omega);have hi6 : (k : Int) < 6 := (by omega);have hdd := dec_digit (b := ((s[k]'hp).toNat : Int))
   by_cases hgood : 48 <= ((s[k]'hp).toNat : Int) /\ ((s[k]'hp).toNat : Int) <= 57
   ·have hdv := hdd.1 hgood;obtain ⟨hg1, hg2⟩ := hgood;have HB := hz0q (zcb (base := 10) (n := v) (b := s[k]'hp) (t := (bs s).drop (k + 1)) (by omega) (by omega));rw [hdv] at HB;clear hdv hdd;go_wp2;go_round
    case rel => exact ⟨k + 1, 10 * v + ((s[k]'hp).toNat : Int) - 48, by omega, by omega, by go_num, by go_num, by omega, by simp only [pow10]; omega, by show _ = _; rw [HN.out, HB.out, Int.mul_comm v 10, Int.add_sub_assoc]⟩
    case measure => simp [intOf]; omega
   ·have HX := hz0q (decS_bad (s := s) (by rw [HN.out]; exact zbd (hdd.2 hgood)));rcases (show ((s[k]'hp).toNat : Int) < 48 \/ (48 <= ((s[k]'hp).toNat : Int) /\ 57 < ((s[k]'hp).toNat : Int)) by omega) with hl | ⟨hl, hl2⟩
    all_goals
     clear hdd hgood;go_wp2;go_returns;exact ⟨zif (by rw [HX.out]) (by rw [HX.out]), rfl⟩
  ·have hin : (s.size : Int) <= (k : Int) \/ ((k : Int) < (s.size : Int) /\ 6 <= (k : Int)) := by omega
   by_cases hlen : s.size = 0 \/ 5 < s.size
   ·have HX := hz0q (decS_len hlen);rcases hlen with hl | hl
    ·have hl1 : (s.size : Int) < 1 := (by omega);have hin' : (s.size : Int) <= (k : Int) := (by omega);clear hin hp;go_wp2;go_returns;exact ⟨zif (by rw [HX.out]) (by rw [HX.out]), rfl⟩
    ·have hl1 : (1 : Int) <= (s.size : Int) := (by omega);have hl2 : (5 : Int) < (s.size : Int) := (by omega);clear hp;rcases hin with hin | ⟨hin, hin2⟩
     all_goals
      go_wp2;go_returns;exact ⟨zif (by rw [HX.out]) (by rw [HX.out]), rfl⟩
   ·have hks : k = s.size := (by omega);subst hks;rw [za4 s _ (Nat.le_refl _)] at HN;have HN' : zq 10 0 (bs s) = v := (by rw [HN.out]; rfl);have HX := hz0q (decS_good hlen HN' hv0);clear HN';have hl1 : (1 : Int) <= (s.size : Int) := (by omega);have hl2 : (s.size : Int) <= 5 := (by omega);clear hin hp hlen;go_wp2;go_returns;exact ⟨zif (by rw [HX.out]) (by rw [HX.out]), rfl⟩
end
section
open Go.RowKit Go.Lib Go.Maps
def zn (g : Nat -> Int) : List Value := (List.range 256).map fun i => .int .i64 (g i)
abbrev zfc (g : Nat -> Int) : Value := .agg (zn g).toArray
theorem zam (g : Nat -> Int) : (zn g).length = 256 := by simp [zn]
theorem zb8 (g : Nat -> Int) {i : Nat} (hi : i < 256) : (zn g)[i]? = some (.int .i64 (g i)) := by simp [zn, hi]
theorem zfz (g : Nat -> Int) : ∀ v ∈ zn g, v.oneCell' = true := fun v hv => by
 obtain ⟨i, _, rfl⟩ := List.mem_map.1 hv;rfl
theorem zbe {g h : Nat -> Int} (e : ∀ i, i < 256 -> g i = h i) : zn g = zn h := by
 apply List.map_congr_left;intro i hi;rw [e i (List.mem_range.1 hi)]
theorem zcn {P : Program} {e : TypeId} (he : P.underlying e = some (.int .i64)) (d : Nat) (g h : Nat -> Int) (w : World) : ∀ is : List Nat, (∀ i ∈ is, i < 256) ->
  (Op.eqItems (d + 1) e 1 (zn g).toArray (zn h).toArray is).run P w = .ok (is.all fun i => g i == h i) w
 | [], _ => by simp [Op.eqItems]
 | i :: is, hs => by
  have hi := hs i (by simp);have hp : P.plainKey e = true := (by simp [Program.plainKey, he]);have h1 := run_part_plain (P := P) w hp (xs := (zn g).toArray) (off := i * 1) (v := .int .i64 (g i)) (by simpa using zb8 g hi);have h2 := run_part_plain (P := P) w hp (xs := (zn h).toArray) (off := i * 1) (v := .int .i64 (h i)) (by simpa using zb8 h hi);simp only [Op.eqItems, Sem.run_bind, h1, h2, Result.andThen_ok, run_equalIn_int w d e .i64 .i64 (g i) (h i) he]
  cases hgh : (g i == h i)
  ·simp [hgh]
  ·have := zcn he d g h w is (fun j hj => hs j (by simp [hj]));simp [hgh, this]
theorem run_eql_block {P : Program} {t e : TypeId} {i : TypeInfo} (ht : P.underlying t = some (.array 256 e)) (he : P.underlying e = some (.int .i64)) (hi : P.info? e = some i) (hc : P.cellsOf e = 1) (g h : Nat -> Int) (w : World) :
  (binOp .eql t (zfc g) (zfc h)).run P w = .ok (.bool ((List.range 256).all fun i => g i == h i)) w := by
 unfold zfc;rw [run_eql_struct, run_equalIn_array w 9999 _ _ ht hi, hc, zcn he 9998 g h w _ (fun j hj => List.mem_range.1 hj)];rfl
section
variable {P : Program} {ops : Array Oper} {rest : List Oper} {o : Oper} {a : Act} {Q : Exit -> Act -> World -> Prop} {w : World}
theorem zar {t e : TypeId} {n b : Nat} {c : Array Value} {fr : Nat × Nat} {x : Operand} (hg : o.guard = none) (hop : o.op = Op.load t x) (hu : P.underlying t = some (.array n e)) (hi : (P.info? t).map (·.size) = some c.size) (h : w.heap[b]? = some (.cells c t fr))
  (hx : a.eval x = .pointer (some ⟨b, 0, none⟩)) (hK : wpList P ops Q rest (a.put o.dst (.agg c)) w) : wpList P ops Q (o :: rest) a w := by
 refine wpList_plain hg fun K' hK' => ?_;have hrun := run_loadVar_row (P := P) w b t t c fr _ h hu rfl hi
 have hr2 : (Instr.loadAt t (.pointer (some ⟨b, 0, none⟩))).run P w = .ok (.agg c) w := by
  simp only [Instr.loadAt, Instr.sureAddr, Sem.run_bind, Sem.run_pure, Result.andThen];exact hrun
 unfold Oper.wp;simp [execOp, hop, hx, hr2, Result.andThen];exact hK' _ _ hK
theorem zc0 {t : TypeId} {b : Nat} {old c : Array Value} {x v : Operand} (hg : o.guard = none) (hop : o.op = Op.store t x v) (hi : (P.info? t).map (·.size) = some c.size) (ho : old.size = c.size) (h1 : c.all (·.oneCell') = true) (h : w.heap[b]? = some (.cells old t (0, 0)))
  (hx : a.eval x = .pointer (some ⟨b, 0, none⟩)) (hv : a.eval v = .agg c) (hK : wpList P ops Q rest (a.put o.dst undef) (w.setRow b c)) : wpList P ops Q (o :: rest) a w := by
 refine wpList_plain hg fun K' hK' => ?_;have hrun := run_storeVar_row (P := P) w b t t old c h hi ho h1
 have hr2 : (Instr.storeAt t (.pointer (some ⟨b, 0, none⟩)) (.agg c)).run P w = .ok () (w.setRow b c) := by
  simp only [Instr.storeAt, Instr.sureAddr, Sem.run_bind, Sem.run_pure, Result.andThen];exact hrun
 unfold Oper.wp;simp [execOp, hop, hx, hv, hr2, Result.andThen];exact hK' _ _ hK
theorem ziv {t e : TypeId} {n b : Nat} {c : Array Value} {fr : Nat × Nat} {x : Operand} (hop : o.op = Op.load t x) (hu : P.underlying t = some (.array n e)) (hi : (P.info? t).map (·.size) = some c.size) (h : w.heap[b]? = some (.cells c t fr))
  (hx : a.eval x = .pointer (some ⟨b, 0, none⟩)) : (execOp a.eval o).run P w = .ok (.value (.agg c)) w := by
 have hrun := run_loadVar_row (P := P) w b t t c fr _ h hu rfl hi
 have hr2 : (Instr.loadAt t (.pointer (some ⟨b, 0, none⟩))).run P w = .ok (.agg c) w := by
  simp only [Instr.loadAt, Instr.sureAddr, Sem.run_bind, Sem.run_pure, Result.andThen];exact hrun
 simp [execOp, hop, hx, hr2, Result.andThen]
end
theorem setRow_blk {w : World} {b : Nat} {old c : Array Value} {t : TypeId} {fr : Nat × Nat} (h : w.heap[b]? = some (.cells old t fr)) : (w.setRow b c).heap[b]? = some (.cells c t fr) := by
 have hb := (Array.getElem?_eq_some_iff.1 h).1;simp [World.setRow, Array.getElem?_modify, h]
theorem setRow_other {w : World} {b k : Nat} {c : Array Value} (h : k ≠ b) : (w.setRow b c).heap[k]? = w.heap[k]? := by
 have hne : ¬ b = k := fun e => h e.symm;simp [World.setRow, Array.getElem?_modify, hne]
theorem setRow_size {w : World} {b : Nat} {c : Array Value} : (w.setRow b c).heap.size = w.heap.size := by simp [World.setRow]
theorem setRow_below {B b : Nat} {w w' : World} (h : Below B w w') (hb : B <= b) (c : Array Value) : Below B w (w'.setRow b c) :=
 ⟨h.os, h.tape, h.output, by rw [setRow_size]; exact h.size, fun k hk => (setRow_other (by omega)).trans (h.block k hk)⟩
end
end Go.Proofs.YtfdelmodmadoaaaGreatDoor
