/- What the library's own words for texts (split, cut, trim, fields) say at blanks and single bytes: the words of FldSpec. No program stands here. -/
import Derived.Lib.SplitLaws
import Derived.Lib.SlTrimSet
import Derived.Lib.FieldsP
import Derived.Lib.SpaceUEq
import Derived.Test.YtfdelmodmadoaaaGreatDoorG02
set_option linter.unusedSimpArgs false
set_option linter.unusedVariables false
set_option maxRecDepth 20000
set_option maxHeartbeats 4000000
namespace Go.Proofs.YtfdelmodmadoaaaGreatDoor
section
open Go.RowKit
def cutR (c : UInt8) : List UInt8 -> List UInt8 -> List (List UInt8)
 | cur, [] => [cur]
 | cur, b :: t => if b = c then cur :: cutR c [] t else cutR c (cur ++ [b]) t
theorem zdz (c : UInt8) : ∀ (l cur : List UInt8) (acc : List (List UInt8)), (l.foldl (zad c) (acc, cur)).1 ++ [(l.foldl (zad c) (acc, cur)).2] = acc ++ cutR c cur l
 | [], cur, acc => rfl
 | b :: t, cur, acc => by
  rw [List.foldl_cons];simp only [cutR, zad];split
  ·rw [zdz c t [] (acc ++ [cur])]; simp
  ·rw [zdz c t (cur ++ [b]) acc]
theorem cutL_R (c : UInt8) (l : List UInt8) : cutL c l = cutR c [] l := by
 have := zdz c l [] [];simpa [cutL, cutF] using this
theorem zi9 (c b : UInt8) (t : List UInt8) : [c].isPrefixOf (b :: t) = (c == b) := by simp [List.isPrefixOf]
theorem zhl (c : UInt8) : ∀ (l cur : List UInt8), Lib.index l [c] = -1 -> cutR c cur l = [cur ++ l]
 | [], cur, _ => by simp [cutR]
 | b :: t, cur, h => by
  simp only [Lib.index] at h;rw [zi9] at h
  by_cases hb : c = b
  ·rw [if_pos (by simp [hb])] at h; omega
  ·rw [if_neg (by simp [hb])] at h
   have ht : Lib.index t [c] = -1 := by
    by_cases hx : Lib.index t [c] = -1
    ·exact hx
    ·rw [if_neg (by simp [hx])] at h;have := Lib.index_ge t [c];omega
   simp only [cutR];rw [if_neg (fun e => hb e.symm), zhl c t (cur ++ [b]) ht];simp
theorem ziq (c : UInt8) : ∀ (l cur : List UInt8) (i : Nat), Lib.index l [c] = i -> cutR c cur l = (cur ++ l.take i) :: cutR c [] (l.drop (i + 1))
 | [], cur, i, h => by
  simp only [Lib.index] at h;simp at h
 | b :: t, cur, i, h => by
  simp only [Lib.index] at h;rw [zi9] at h
  by_cases hb : c = b
  ·rw [if_pos (by simp [hb])] at h;have : i = 0 := (by omega);subst this;simp only [cutR];rw [if_pos hb.symm];simp
  ·rw [if_neg (by simp [hb])] at h
   by_cases hx : Lib.index t [c] = -1
   ·rw [if_pos (by simp [hx])] at h; omega
   ·rw [if_neg (by simp [hx])] at h;obtain ⟨j, hj⟩ : ∃ j : Nat, Lib.index t [c] = j := ⟨(Lib.index t [c]).toNat, by have := Lib.index_ge t [c]; omega⟩;have : i = j + 1 := (by omega);subst this;simp only [cutR];rw [if_neg (fun e => hb e.symm), ziq c t (cur ++ [b]) j hj];simp
theorem split_R (c : UInt8) : ∀ (k : Nat) (l : List UInt8), Lib.count l [c] = k -> Lib.splitK [c] 0 k l = cutR c [] l := by
 intro k;induction k with
 | zero =>
  intro l h
  by_cases hx : Lib.index l [c] = -1
  ·rw [zhl c l [] hx]; rfl
  ·exfalso;obtain ⟨j, hj⟩ : ∃ j : Nat, Lib.index l [c] = j := ⟨(Lib.index l [c]).toNat, by have := Lib.index_ge l [c]; omega⟩;rw [Lib.count_hit (by simp) hj] at h;omega
 | succ k ih =>
  intro l h
  by_cases hx : Lib.index l [c] = -1
  ·rw [Lib.count_miss hx] at h; omega
  ·obtain ⟨j, hj⟩ : ∃ j : Nat, Lib.index l [c] = j := ⟨(Lib.index l [c]).toNat, by have := Lib.index_ge l [c]; omega⟩;rw [Lib.count_hit (by simp) hj] at h;simp only [Lib.splitK];rw [if_neg (by simp [hx]), ziq c l [] j hj, hj];simp only [Int.toNat_natCast, List.length_singleton, Nat.add_zero, List.nil_append] at h ⊢;rw [ih _ (by omega)]
theorem zgo (s : ByteArray) (c : UInt8) : Lib.splitB ⟨#[c]⟩ 0 (Lib.countB s ⟨#[c]⟩) s = (cutL c (bs s)).map mk8 := by
 have h := Lib.splitB_data ⟨#[c]⟩ 0 (Lib.countB s ⟨#[c]⟩) s;have h2 : Lib.splitK [c] 0 (Lib.countB s ⟨#[c]⟩) (bs s) = cutL c (bs s) := (by rw [cutL_R]; exact split_R c _ _ rfl);have h3 : (Lib.splitB ⟨#[c]⟩ 0 (Lib.countB s ⟨#[c]⟩) s).map bs = cutL c (bs s) := h.trans h2;rw [<- h3, List.map_map];conv => lhs; rw [<- List.map_id (Lib.splitB ⟨#[c]⟩ 0 (Lib.countB s ⟨#[c]⟩) s)]
 exact List.map_congr_left fun x _ => (zjd x).symm
theorem split_len (s : ByteArray) (c : UInt8) : Lib.countB s ⟨#[c]⟩ + 1 = (cutL c (bs s)).length := by
 have h := Lib.splitB_all ⟨#[c]⟩ (Nat.le_refl 1) 0 (Lib.countB s ⟨#[c]⟩) s rfl;rw [<- h, zgo, List.length_map]
theorem zhp (b : UInt8) : ([9, 13, 32] : List UInt8).contains b = zac b := by
 have h9 : (b = 9) ↔ b.toNat = 9 := ⟨fun h => by rw [h]; rfl, fun h => UInt8.toNat.inj h⟩;have h13 : (b = 13) ↔ b.toNat = 13 := ⟨fun h => by rw [h]; rfl, fun h => UInt8.toNat.inj h⟩;have h32 : (b = 32) ↔ b.toNat = 32 := ⟨fun h => by rw [h]; rfl, fun h => UInt8.toNat.inj h⟩
 have e : zac b = decide (b = 9 \/ b = 13 \/ b = 32) := by
  unfold zac zhq;refine decide_eq_decide.2 ⟨fun h => ?_, fun h => ?_⟩
  ·rcases h with h | h | h
   ·exact .inl (h9.2 (by omega))
   ·exact .inr (.inl (h13.2 (by omega)))
   ·exact .inr (.inr (h32.2 (by omega)))
  ·rcases h with h | h | h
   ·have := h9.1 h; omega
   ·have := h13.1 h; omega
   ·have := h32.1 h; omega
 rw [e];simp only [List.contains_cons, List.contains_nil, Bool.or_false]
 by_cases a : b = 9 <;> by_cases c : b = 13 <;> by_cases d : b = 32 <;> simp [a, c, d]
theorem lstrip_S (l : List UInt8) : Lib.trimLeftS l [9, 13, 32] = lstrip l := by
 unfold Lib.trimLeftS lstrip;congr 1;funext b;exact zhp b
theorem rstrip_S (l : List UInt8) : Lib.trimRightS l [9, 13, 32] = rstrip l := by
 unfold Lib.trimRightS rstrip;have : (fun b : UInt8 => ([9, 13, 32] : List UInt8).contains b) = zac := (by funext b; exact zhp b);rw [this]
theorem zeq (b : UInt8) (t : List UInt8) : rstrip (b :: t) = if rstrip t = [] then (if zac b = true then [] else [b]) else b :: rstrip t := by
 simp only [rstrip, List.reverse_cons, List.dropWhile_append, List.isEmpty_iff]
 by_cases h : List.dropWhile zac t.reverse = []
 ·by_cases hb : zac b = true <;> simp [h, List.dropWhile_cons, hb]
 ·simp [h]
theorem zeh : ∀ l : List UInt8, lstrip (rstrip l) = rstrip (lstrip l)
 | [] => rfl
 | b :: t => by
  have ih := zeh t;rw [zeq]
  by_cases hb : zac b = true
  ·rw [lstrip_yes hb, <- ih];split
   ·rename_i h;rw [h]
   ·rw [lstrip_yes hb]
  ·have hb' : zac b = false := (by simpa using hb);rw [zdh hb', zeq];split
   ·rw [zdh hb']
   ·rw [zdh hb']
theorem zj7 (l : List UInt8) : Lib.trimS l [9, 13, 32] = bareL l := by
 unfold Lib.trimS bareL;rw [lstrip_S, rstrip_S, zeh]
def zci (x : Nat) : Bool := zhq x
theorem words_blankE {b : UInt8} {w t : List UInt8} (h : zac b = true) (hw : w ≠ []) : zm w (b :: t) = w :: zm [] t := by rw [zc1 _ _ h, if_neg hw]
theorem zdr : ∀ (n : Nat) (l w : List UInt8), n <= l.length -> (∀ j, j < n -> ∀ b, l[j]? = some b -> zac b = false) -> zm w l = zm (w ++ l.take n) (l.drop n)
 | 0, l, w, _, _ => by simp
 | n + 1, [], w, h, _ => by simp at h
 | n + 1, b :: t, w, h, hb => by
  rw [zcm w t (hb 0 (by omega) b rfl), zdr n t (w ++ [b]) (by simp at h; omega) (fun j hj c hc => hb (j + 1) (by omega) c (by simpa using hc))];simp
theorem high_bytes (s : ByteArray) (pos : Nat) (h : pos < s.size) (ha : 128 <= (s[pos]'h).toNat) :
  pos + (Utf8.decode s pos).2 <= s.size /\ ∀ j, j < (Utf8.decode s pos).2 -> ∀ b, ((bs s).drop pos)[j]? = some b -> zac b = false := by
 have hd := Lib.decodeN_conts ((bs s).length - pos) (((bs s).getD pos 0).toNat) (((bs s).getD (pos + 1) 0).toNat) (((bs s).getD (pos + 2) 0).toNat) (((bs s).getD (pos + 3) 0).toNat);have hN : Utf8.decode s pos = Lib.decodeN ((bs s).length - pos) (((bs s).getD pos 0).toNat) (((bs s).getD (pos + 1) 0).toNat) (((bs s).getD (pos + 2) 0).toNat) (((bs s).getD (pos + 3) 0).toNat) := Lib.decode_N s pos;rw [<- hN] at hd;obtain ⟨c2, c3, c4, c5⟩ := hd;have hl : (bs s).length = s.size := zl s;have hw := (decode_high s pos h ha).2;refine ⟨by omega, fun j hj b hb => ?_⟩;rw [List.getElem?_drop] at hb
 have hbig : 128 <= b.toNat := by
  have hg : ∀ i, (bs s)[i]? = some b -> ((bs s).getD i 0) = b := fun i hi => by simp [List.getD, hi]
  rcases (show j = 0 \/ j = 1 \/ j = 2 \/ j = 3 by omega) with e | e | e | e
  ·subst e;rw [Nat.add_zero, bs_get s pos h] at hb;injection hb with hb;rw [<- hb]; exact ha
  ·subst e; have := c2 (by omega); rw [hg _ hb] at this; omega
  ·subst e; have := c3 (by omega); rw [hg _ hb] at this; omega
  ·subst e; have := c4 (by omega); rw [hg _ hb] at this; omega
 simp only [zac, zhq, decide_eq_false_iff_not];omega
theorem zfr {x : Nat} (h : 128 <= x) : zci x = false := by
 simp only [zci, zhq, decide_eq_false_iff_not];omega
theorem zbi (s : ByteArray) (a pos n : Nat) (h : a <= pos) : ((bs s).take (pos + n)).drop a = ((bs s).take pos).drop a ++ ((bs s).drop pos).take n := by
 by_cases hp : pos <= (bs s).length
 ·rw [List.take_add, List.drop_append, List.length_take, Nat.min_eq_left hp, Nat.sub_eq_zero_of_le h, List.drop_zero]
 ·rw [List.take_of_length_le (by omega), List.take_of_length_le (by omega), List.drop_of_length_le (l := bs s) (i := pos) (by omega)];simp
theorem spans_words (s : ByteArray) : ∀ (f pos : Nat) (st : Option Nat) (acc : List (Nat × Nat)), s.size - pos <= f -> pos <= s.size -> (∀ a, st = some a -> a < pos) ->
  ((Lib.closeSpans s (Lib.spansFromP zci s f pos st acc)).map fun x => bs (s.extract x.1 x.2)) = (acc.map fun x => bs (s.extract x.1 x.2)) ++ zm (match st with | some a => ((bs s).take pos).drop a | none => []) ((bs s).drop pos) := by
 have hl : (bs s).length = s.size := zl s
 have hend : ∀ (pos : Nat) (st : Option Nat) (acc : List (Nat × Nat)), pos = s.size -> (∀ a, st = some a -> a < pos) ->
   ((Lib.closeSpans s (acc, st)).map fun x => bs (s.extract x.1 x.2)) = (acc.map fun x => bs (s.extract x.1 x.2)) ++ zm (match st with | some a => ((bs s).take pos).drop a | none => []) ((bs s).drop pos) := by
  intro pos st acc hp hst;subst hp;rw [zc8 s s.size (Nat.le_refl _)]
  cases st with
  | none => simp [Lib.closeSpans, zm]
  | some a =>
   have hne : ((bs s).take s.size).drop a ≠ [] := by
    intro h;have := congrArg List.length h;have := hst a rfl;simp only [List.length_drop, List.length_take, List.length_nil] at *;omega
   simp only [zm];rw [if_neg hne];simp [Lib.closeSpans, zfy]
 intro f;induction f with
 | zero =>
  intro pos st acc hf hp hst;exact hend pos st acc (by omega) hst
 | succ f ih =>
  intro pos st acc hf hp hst
  by_cases hin : pos < s.size
  ·unfold Lib.spansFromP;rw [if_pos hin];have hd := zgg s pos hin
   by_cases hasc : (s[pos]'hin).toNat < 128
   ·have hdec := decode_ascii s pos hin hasc;rw [hdec];simp only []
    by_cases hbl : zac (s[pos]'hin) = true
    ·rw [if_pos (show zci (s[pos]'hin).toNat = true from hbl)]
     cases st with
     | none =>
      simp only [];rw [ih (pos + 1) none acc (by omega) (by omega) (by simp), hd, zc1 _ _ hbl, if_pos rfl]
     | some a =>
      have hlt := hst a rfl
      have hne : ((bs s).take pos).drop a ≠ [] := by
       intro h;have := congrArg List.length h;simp only [List.length_drop, List.length_take, List.length_nil] at this;omega
      simp only [];rw [ih (pos + 1) none (acc ++ [(a, pos)]) (by omega) (by omega) (by simp), hd, words_blankE hbl hne];simp [zfy]
    ·have hbl' : zac (s[pos]'hin) = false := (by simpa using hbl);rw [if_neg (show ¬ zci (s[pos]'hin).toNat = true from hbl)]
     cases st with
     | none =>
      simp only [];rw [ih (pos + 1) (some pos) acc (by omega) (by omega) (by intro a h; injection h with h; omega), hd, zcm _ _ hbl'];simp only [List.nil_append];rw [zbi s pos pos 1 (Nat.le_refl _), hd, List.drop_of_length_le (by rw [List.length_take]; omega)];simp
     | some a =>
      have hlt := hst a rfl;simp only [];rw [ih (pos + 1) (some a) acc (by omega) (by omega) (by intro b h; injection h with h; omega), hd, zcm _ _ hbl'];simp only [];rw [zbi s a pos 1 (by omega), hd];simp
   ·have ha : 128 <= (s[pos]'hin).toNat := (by omega);obtain ⟨hw, hno⟩ := high_bytes s pos hin ha;obtain ⟨hbig, hw1⟩ := decode_high s pos hin ha;obtain ⟨r, n, hrn⟩ : ∃ r n, Utf8.decode s pos = (r, n) := ⟨_, _, rfl⟩;rw [hrn] at hw hno hbig hw1 ⊢;simp only [] at hw hno hbig hw1 ⊢;rw [if_neg (by rw [zfr hbig]; simp)];have hdl : n <= ((bs s).drop pos).length := by rw [List.length_drop]; omega
    cases st with
    | none =>
     simp only [];rw [ih (pos + n) (some pos) acc (by omega) (by omega) (by intro a h; injection h with h; omega), zdr n ((bs s).drop pos) [] hdl hno];simp only [List.nil_append, List.drop_drop];rw [zbi s pos pos n (Nat.le_refl _), List.drop_of_length_le (l := List.take pos (bs s)) (by rw [List.length_take]; omega)];simp
    | some a =>
     have hlt := hst a rfl;simp only [];rw [ih (pos + n) (some a) acc (by omega) (by omega) (by intro b h; injection h with h; omega), zdr n ((bs s).drop pos) _ hdl hno];simp only [List.drop_drop];rw [zbi s a pos n (by omega)]
  ·rw [Lib.spansFromP_end _ _ _ _ _ _ hin];exact hend pos st acc (by omega) hst
theorem fields_words (s : ByteArray) : Lib.goFieldsP zci s = (zd4 (bs s)).map mk8 := by
 have h := spans_words s s.size 0 none [] (by omega) (by omega) (by simp);simp only [List.map_nil, List.nil_append, List.drop_zero] at h;unfold Lib.goFieldsP Lib.spansOfP zd4;rw [<- h, List.map_map];exact List.map_congr_left fun x _ => (zjd _).symm
end
end Go.Proofs.YtfdelmodmadoaaaGreatDoor
