/- What the library's own words for texts (split, cut, trim, fields) say at blanks and single bytes: the words of FldSpec. No program stands here. Slices of elements of k cells each (structs): what one reads as, and append. Over any program. Two lists that grow side by side. The law on texts with a blank between them: true. -/
import Derived.Lib.SpaceUEq
import Derived.Test.YtolcabjkbefjgaaGreatDoorZ02
import Derived.Shelf.Strings.SlTrimAscii
import Derived.Shelf.Strings.OnBuilder
import Derived.Shelf.Small.Wraps
import Derived.Shelf.Strings.BuilderRune
import Derived.Shelf.Strings.Shaped
import Derived.Shelf.GgClosure.StringsRunes
import Derived.Shelf.Strings.SplitShaped
import Derived.Shelf.Strings.Explode
import Derived.Shelf.Strings.FieldsFuncGrows
import Derived.Shelf.Strings.BuilderCap
import Derived.Shelf.Slices.Turned
import Derived.Shelf.Slices.Clone
import Derived.Shelf.Slices.SearchI
set_option linter.unusedSimpArgs false
set_option linter.unusedVariables false
set_option maxRecDepth 20000
set_option maxHeartbeats 4000000
namespace Go.Proofs.YtolcabjkbefjgaaGreatDoor
section
open Go.RowKit
def cutR (c : UInt8) : List UInt8 -> List UInt8 -> List (List UInt8)
 | cur, [] => [cur]
 | cur, b :: t => if b = c then cur :: cutR c [] t else cutR c (cur ++ [b]) t
theorem ze8 (c : UInt8) : ∀ (l cur : List UInt8) (acc : List (List UInt8)), (l.foldl (zbe c) (acc, cur)).1 ++ [(l.foldl (zbe c) (acc, cur)).2] = acc ++ cutR c cur l
 | [], cur, acc => rfl
 | b :: t, cur, acc => by
  rw [List.foldl_cons];simp only [cutR, zbe];split
  ·rw [ze8 c t [] (acc ++ [cur])]; simp
  ·rw [ze8 c t (cur ++ [b]) acc]
theorem cutL_R (c : UInt8) (l : List UInt8) : cutL c l = cutR c [] l := by
 have := ze8 c l [] [];simpa [cutL, cutF] using this
theorem zl7 (c b : UInt8) (t : List UInt8) : [c].isPrefixOf (b :: t) = (c == b) := by simp [List.isPrefixOf]
theorem zjk (c : UInt8) : ∀ (l cur : List UInt8), Lib.index l [c] = -1 -> cutR c cur l = [cur ++ l]
 | [], cur, _ => by simp [cutR]
 | b :: t, cur, h => by
  simp only [Lib.index] at h;rw [zl7] at h
  by_cases hb : c = b
  ·rw [if_pos (by simp [hb])] at h; omega
  ·rw [if_neg (by simp [hb])] at h
   have ht : Lib.index t [c] = -1 := by
    by_cases hx : Lib.index t [c] = -1
    ·exact hx
    ·rw [if_neg (by simp [hx])] at h;have := Lib.index_ge t [c];omega
   simp only [cutR];rw [if_neg (fun e => hb e.symm), zjk c t (cur ++ [b]) ht];simp
theorem zlh (c : UInt8) : ∀ (l cur : List UInt8) (i : Nat), Lib.index l [c] = i -> cutR c cur l = (cur ++ l.take i) :: cutR c [] (l.drop (i + 1))
 | [], cur, i, h => by
  simp only [Lib.index] at h;simp at h
 | b :: t, cur, i, h => by
  simp only [Lib.index] at h;rw [zl7] at h
  by_cases hb : c = b
  ·rw [if_pos (by simp [hb])] at h;have : i = 0 := (by omega);subst this;simp only [cutR];rw [if_pos hb.symm];simp
  ·rw [if_neg (by simp [hb])] at h
   by_cases hx : Lib.index t [c] = -1
   ·rw [if_pos (by simp [hx])] at h; omega
   ·rw [if_neg (by simp [hx])] at h;obtain ⟨j, hj⟩ : ∃ j : Nat, Lib.index t [c] = j := ⟨(Lib.index t [c]).toNat, by have := Lib.index_ge t [c]; omega⟩;have : i = j + 1 := (by omega);subst this;simp only [cutR];rw [if_neg (fun e => hb e.symm), zlh c t (cur ++ [b]) j hj];simp
theorem split_R (c : UInt8) : ∀ (k : Nat) (l : List UInt8), Lib.count l [c] = k -> Lib.splitK [c] 0 k l = cutR c [] l := by
 intro k;induction k with
 | zero =>
  intro l h
  by_cases hx : Lib.index l [c] = -1
  ·rw [zjk c l [] hx]; rfl
  ·exfalso;obtain ⟨j, hj⟩ : ∃ j : Nat, Lib.index l [c] = j := ⟨(Lib.index l [c]).toNat, by have := Lib.index_ge l [c]; omega⟩;rw [Lib.count_hit (by simp) hj] at h;omega
 | succ k ih =>
  intro l h
  by_cases hx : Lib.index l [c] = -1
  ·rw [Lib.count_miss hx] at h; omega
  ·obtain ⟨j, hj⟩ : ∃ j : Nat, Lib.index l [c] = j := ⟨(Lib.index l [c]).toNat, by have := Lib.index_ge l [c]; omega⟩;rw [Lib.count_hit (by simp) hj] at h;simp only [Lib.splitK];rw [if_neg (by simp [hx]), zlh c l [] j hj, hj];simp only [Int.toNat_natCast, List.length_singleton, Nat.add_zero, List.nil_append] at h ⊢;rw [ih _ (by omega)]
theorem zim (s : ByteArray) (c : UInt8) : Lib.splitB ⟨#[c]⟩ 0 (Lib.countB s ⟨#[c]⟩) s = (cutL c (bs s)).map mk8 := by
 have h := Lib.splitB_data ⟨#[c]⟩ 0 (Lib.countB s ⟨#[c]⟩) s;have h2 : Lib.splitK [c] 0 (Lib.countB s ⟨#[c]⟩) (bs s) = cutL c (bs s) := (by rw [cutL_R]; exact split_R c _ _ rfl);have h3 : (Lib.splitB ⟨#[c]⟩ 0 (Lib.countB s ⟨#[c]⟩) s).map bs = cutL c (bs s) := h.trans h2;rw [<- h3, List.map_map];conv => lhs; rw [<- List.map_id (Lib.splitB ⟨#[c]⟩ 0 (Lib.countB s ⟨#[c]⟩) s)]
 exact List.map_congr_left fun x _ => (zmd x).symm
theorem split_len (s : ByteArray) (c : UInt8) : Lib.countB s ⟨#[c]⟩ + 1 = (cutL c (bs s)).length := by
 have h := Lib.splitB_all ⟨#[c]⟩ (Nat.le_refl 1) 0 (Lib.countB s ⟨#[c]⟩) s rfl;rw [<- h, zim, List.length_map]
theorem zjn (b : UInt8) : ([9, 13, 32] : List UInt8).contains b = zao b := by
 have h9 : (b = 9) ↔ b.toNat = 9 := ⟨fun h => by rw [h]; rfl, fun h => UInt8.toNat.inj h⟩;have h13 : (b = 13) ↔ b.toNat = 13 := ⟨fun h => by rw [h]; rfl, fun h => UInt8.toNat.inj h⟩;have h32 : (b = 32) ↔ b.toNat = 32 := ⟨fun h => by rw [h]; rfl, fun h => UInt8.toNat.inj h⟩
 have e : zao b = decide (b = 9 \/ b = 13 \/ b = 32) := by
  unfold zao zjo;refine decide_eq_decide.2 ⟨fun h => ?_, fun h => ?_⟩
  ·rcases h with h | h | h
   ·exact .inl (h9.2 (by omega))
   ·exact .inr (.inl (h13.2 (by omega)))
   ·exact .inr (.inr (h32.2 (by omega)))
  ·rcases h with h | h | h
   ·have := h9.1 h; omega
   ·have := h13.1 h; omega
   ·have := h32.1 h; omega
 rw [e];simp only [List.contains_cons, List.contains_nil, Bool.or_false]
 by_cases a : b = 9 <;> by_cases c : b = 13 <;> by_cases d : b = 32 <;> simp [a, c, d]
theorem lstrip_S (l : List UInt8) : Lib.trimLeftS l [9, 13, 32] = lstrip l := by
 unfold Lib.trimLeftS lstrip;congr 1;funext b;exact zjn b
theorem rstrip_S (l : List UInt8) : Lib.trimRightS l [9, 13, 32] = rstrip l := by
 unfold Lib.trimRightS rstrip;have : (fun b : UInt8 => ([9, 13, 32] : List UInt8).contains b) = zao := (by funext b; exact zjn b);rw [this]
theorem zga (b : UInt8) (t : List UInt8) : rstrip (b :: t) = if rstrip t = [] then (if zao b = true then [] else [b]) else b :: rstrip t := by
 simp only [rstrip, List.reverse_cons, List.dropWhile_append, List.isEmpty_iff]
 by_cases h : List.dropWhile zao t.reverse = []
 ·by_cases hb : zao b = true <;> simp [h, List.dropWhile_cons, hb]
 ·simp [h]
theorem zf0 : ∀ l : List UInt8, lstrip (rstrip l) = rstrip (lstrip l)
 | [] => rfl
 | b :: t => by
  have ih := zf0 t;rw [zga]
  by_cases hb : zao b = true
  ·rw [lstrip_yes hb, <- ih];split
   ·rename_i h;rw [h]
   ·rw [lstrip_yes hb]
  ·have hb' : zao b = false := (by simpa using hb);rw [zgi hb', zga];split
   ·rw [zgi hb']
   ·rw [zgi hb']
theorem zni (l : List UInt8) : Lib.trimS l [9, 13, 32] = bareL l := by
 unfold Lib.trimS bareL;rw [lstrip_S, rstrip_S, zf0]
def zdj (x : Nat) : Bool := zjo x
theorem words_blankE {b : UInt8} {w t : List UInt8} (h : zao b = true) (hw : w ≠ []) : zq w (b :: t) = w :: zq [] t := by rw [zd7 _ _ h, if_neg hw]
theorem ze1 : ∀ (n : Nat) (l w : List UInt8), n <= l.length -> (∀ j, j < n -> ∀ b, l[j]? = some b -> zao b = false) -> zq w l = zq (w ++ l.take n) (l.drop n)
 | 0, l, w, _, _ => by simp
 | n + 1, [], w, h, _ => by simp at h
 | n + 1, b :: t, w, h, hb => by
  rw [zdk w t (hb 0 (by omega) b rfl), ze1 n t (w ++ [b]) (by simp at h; omega) (fun j hj c hc => hb (j + 1) (by omega) c (by simpa using hc))];simp
theorem high_bytes (s : ByteArray) (pos : Nat) (h : pos < s.size) (ha : 128 <= (s[pos]'h).toNat) :
  pos + (Utf8.decode s pos).2 <= s.size /\ ∀ j, j < (Utf8.decode s pos).2 -> ∀ b, ((bs s).drop pos)[j]? = some b -> zao b = false := by
 have hd := Lib.decodeN_conts ((bs s).length - pos) (((bs s).getD pos 0).toNat) (((bs s).getD (pos + 1) 0).toNat) (((bs s).getD (pos + 2) 0).toNat) (((bs s).getD (pos + 3) 0).toNat);have hN : Utf8.decode s pos = Lib.decodeN ((bs s).length - pos) (((bs s).getD pos 0).toNat) (((bs s).getD (pos + 1) 0).toNat) (((bs s).getD (pos + 2) 0).toNat) (((bs s).getD (pos + 3) 0).toNat) := Lib.decode_N s pos;rw [<- hN] at hd;obtain ⟨c2, c3, c4, c5⟩ := hd;have hl : (bs s).length = s.size := ze s;have hw := (decode_high s pos h ha).2;refine ⟨by omega, fun j hj b hb => ?_⟩;rw [List.getElem?_drop] at hb
 have hbig : 128 <= b.toNat := by
  have hg : ∀ i, (bs s)[i]? = some b -> ((bs s).getD i 0) = b := fun i hi => by simp [List.getD, hi]
  rcases (show j = 0 \/ j = 1 \/ j = 2 \/ j = 3 by omega) with e | e | e | e
  ·subst e;rw [Nat.add_zero, zlk s pos h] at hb;injection hb with hb;rw [<- hb]; exact ha
  ·subst e; have := c2 (by omega); rw [hg _ hb] at this; omega
  ·subst e; have := c3 (by omega); rw [hg _ hb] at this; omega
  ·subst e; have := c4 (by omega); rw [hg _ hb] at this; omega
 simp only [zao, zjo, decide_eq_false_iff_not];omega
theorem zhl {x : Nat} (h : 128 <= x) : zdj x = false := by
 simp only [zdj, zjo, decide_eq_false_iff_not];omega
theorem zcg (s : ByteArray) (a pos n : Nat) (h : a <= pos) : ((bs s).take (pos + n)).drop a = ((bs s).take pos).drop a ++ ((bs s).drop pos).take n := by
 by_cases hp : pos <= (bs s).length
 ·rw [List.take_add, List.drop_append, List.length_take, Nat.min_eq_left hp, Nat.sub_eq_zero_of_le h, List.drop_zero]
 ·rw [List.take_of_length_le (by omega), List.take_of_length_le (by omega), List.drop_of_length_le (l := bs s) (i := pos) (by omega)];simp
theorem spans_words (s : ByteArray) : ∀ (f pos : Nat) (st : Option Nat) (acc : List (Nat × Nat)), s.size - pos <= f -> pos <= s.size -> (∀ a, st = some a -> a < pos) ->
  ((Lib.closeSpans s (Lib.spansFromP zdj s f pos st acc)).map fun x => bs (s.extract x.1 x.2)) = (acc.map fun x => bs (s.extract x.1 x.2)) ++ zq (match st with | some a => ((bs s).take pos).drop a | none => []) ((bs s).drop pos) := by
 have hl : (bs s).length = s.size := ze s
 have hend : ∀ (pos : Nat) (st : Option Nat) (acc : List (Nat × Nat)), pos = s.size -> (∀ a, st = some a -> a < pos) ->
   ((Lib.closeSpans s (acc, st)).map fun x => bs (s.extract x.1 x.2)) = (acc.map fun x => bs (s.extract x.1 x.2)) ++ zq (match st with | some a => ((bs s).take pos).drop a | none => []) ((bs s).drop pos) := by
  intro pos st acc hp hst;subst hp;rw [zbf s s.size (Nat.le_refl _)]
  cases st with
  | none => simp [Lib.closeSpans, zq]
  | some a =>
   have hne : ((bs s).take s.size).drop a ≠ [] := by
    intro h;have := congrArg List.length h;have := hst a rfl;simp only [List.length_drop, List.length_take, List.length_nil] at *;omega
   simp only [zq];rw [if_neg hne];simp [Lib.closeSpans, z8]
 intro f;induction f with
 | zero =>
  intro pos st acc hf hp hst;exact hend pos st acc (by omega) hst
 | succ f ih =>
  intro pos st acc hf hp hst
  by_cases hin : pos < s.size
  ·unfold Lib.spansFromP;rw [if_pos hin];have hd := zc1 s pos hin
   by_cases hasc : (s[pos]'hin).toNat < 128
   ·have hdec := decode_ascii s pos hin hasc;rw [hdec];simp only []
    by_cases hbl : zao (s[pos]'hin) = true
    ·rw [if_pos (show zdj (s[pos]'hin).toNat = true from hbl)]
     cases st with
     | none =>
      simp only [];rw [ih (pos + 1) none acc (by omega) (by omega) (by simp), hd, zd7 _ _ hbl, if_pos rfl]
     | some a =>
      have hlt := hst a rfl
      have hne : ((bs s).take pos).drop a ≠ [] := by
       intro h;have := congrArg List.length h;simp only [List.length_drop, List.length_take, List.length_nil] at this;omega
      simp only [];rw [ih (pos + 1) none (acc ++ [(a, pos)]) (by omega) (by omega) (by simp), hd, words_blankE hbl hne];simp [z8]
    ·have hbl' : zao (s[pos]'hin) = false := (by simpa using hbl);rw [if_neg (show ¬ zdj (s[pos]'hin).toNat = true from hbl)]
     cases st with
     | none =>
      simp only [];rw [ih (pos + 1) (some pos) acc (by omega) (by omega) (by intro a h; injection h with h; omega), hd, zdk _ _ hbl'];simp only [List.nil_append];rw [zcg s pos pos 1 (Nat.le_refl _), hd, List.drop_of_length_le (by rw [List.length_take]; omega)];simp
     | some a =>
      have hlt := hst a rfl;simp only [];rw [ih (pos + 1) (some a) acc (by omega) (by omega) (by intro b h; injection h with h; omega), hd, zdk _ _ hbl'];simp only [];rw [zcg s a pos 1 (by omega), hd];simp
   ·have ha : 128 <= (s[pos]'hin).toNat := (by omega);obtain ⟨hw, hno⟩ := high_bytes s pos hin ha;obtain ⟨hbig, hw1⟩ := decode_high s pos hin ha;obtain ⟨r, n, hrn⟩ : ∃ r n, Utf8.decode s pos = (r, n) := ⟨_, _, rfl⟩;rw [hrn] at hw hno hbig hw1 ⊢;simp only [] at hw hno hbig hw1 ⊢;rw [if_neg (by rw [zhl hbig]; simp)];have hdl : n <= ((bs s).drop pos).length := by rw [List.length_drop]; omega
    cases st with
    | none =>
     simp only [];rw [ih (pos + n) (some pos) acc (by omega) (by omega) (by intro a h; injection h with h; omega), ze1 n ((bs s).drop pos) [] hdl hno];simp only [List.nil_append, List.drop_drop];rw [zcg s pos pos n (Nat.le_refl _), List.drop_of_length_le (l := List.take pos (bs s)) (by rw [List.length_take]; omega)];simp
    | some a =>
     have hlt := hst a rfl;simp only [];rw [ih (pos + n) (some a) acc (by omega) (by omega) (by intro b h; injection h with h; omega), ze1 n ((bs s).drop pos) _ hdl hno];simp only [List.drop_drop];rw [zcg s a pos n (by omega)]
  ·rw [Lib.spansFromP_end _ _ _ _ _ _ hin];exact hend pos st acc (by omega) hst
theorem fields_words (s : ByteArray) : Lib.goFieldsP zdj s = (zff (bs s)).map mk8 := by
 have h := spans_words s s.size 0 none [] (by omega) (by omega) (by simp);simp only [List.map_nil, List.nil_append, List.drop_zero] at h;unfold Lib.goFieldsP Lib.spansOfP zff;rw [<- h, List.map_map];exact List.map_congr_left fun x _ => (zmd _).symm
end
section
open Go.RowKit
def RdK (w : World) (A : Option Addr) (n k : Nat) (xs : List Value) : Prop :=
 xs.length = n * k /\ (0 < n -> ∃ b off, A = some ⟨b, off, none⟩ /\ ∀ j u, xs[j]? = some u -> w.cell? ⟨b, off + j, none⟩ = some u)
section
variable {w w' : World} {A : Option Addr} {n k : Nat} {xs : List Value}
theorem RdK.nil (w : World) (A : Option Addr) : RdK w A 0 k [] := ⟨by simp, fun h => absurd h (by omega)⟩
theorem RdK.at_ (hk0 : 0 < k) (h : RdK w A n k xs) (hn : 0 < n) : ∃ b off, A = some ⟨b, off, none⟩ /\ b < w.heap.size /\ ∀ j u, xs[j]? = some u -> w.cell? ⟨b, off + j, none⟩ = some u := by
 obtain ⟨b, off, hA, hc⟩ := h.2 hn;refine ⟨b, off, hA, ?_, hc⟩;have hl := h.1;have hp : 0 < n * k := Nat.mul_pos hn hk0;have h0 := hc 0 _ (List.getElem?_eq_getElem (by omega));exact World.block_lt_of_cell? w _ h0
theorem RdK.below (hk0 : 0 < k) (h : RdK w A n k xs) (hb : Below w.heap.size w w') : RdK w' A n k xs := by
 refine ⟨h.1, fun hn => ?_⟩;obtain ⟨b, off, rfl, hl, hc⟩ := h.at_ hk0 hn;exact ⟨b, off, rfl, fun j u hu => (hb.cell hl).trans (hc j u hu)⟩
theorem RdK.new (w : World) (e : TypeId) (n : Nat) (l : List Value) (hl : l.length = n * k) : RdK (w.alloc (.cells l.toArray e)) (some ⟨w.heap.size, 0, none⟩) n k l := by
 refine ⟨hl, fun _ => ⟨_, _, rfl, fun j u hu => ?_⟩⟩;rw [World.cell?_alloc_at _ _ _ _ rfl];simpa using hu
theorem RdK.of_own {base : Nat} {e : TypeId} {v : Value} (h : w.ownsRow base e k v n xs) : ∃ A c, v = .slice A n c /\ n <= c /\ c <= maxLen /\ RdK w A n k xs := by
 have hl := h.1;rcases h.2 with ⟨rfl, rfl⟩ | ⟨g, cap, cur, rfl, _, hh, hn, hm, _, htake⟩
 ·exact ⟨none, 0, rfl, Nat.le_refl _, by unfold maxLen; omega, hl, fun hh => absurd hh (by omega)⟩
 ·refine ⟨_, cap, rfl, hn, hm, hl, fun _ => ⟨g, 0, rfl, fun j u hu => ?_⟩⟩;rw [Nat.zero_add, cell_of_row w g j cur e (0, 0) hh];rw [<- htake, List.getElem?_take] at hu;split at hu
  ·simpa using hu
  ·cases hu
end
structure ElemK (P : Program) (t e : TypeId) (z : Value) (k bytes : Nat) : Prop where
 ht : P.underlying t = some (.slice e)
 hi : (P.info? e).map (fun i => (i.zero, i.size, i.bytes)) = some (some z, k, bytes)
 hz : z.cells.size = k
 hk : 0 < k
section
variable {P : Program}
theorem ze5 {w : World} {base : Nat} {e : TypeId} {v : Value} {n k : Nat} {xs : List Value} (h : w.ownsRow base e k v n xs) : ∃ A c, v = .slice A n c := by
 obtain ⟨A, c, rfl, _⟩ := RdK.of_own h;exact ⟨A, c, rfl⟩
theorem zkj {t e : TypeId} {z : Value} {k bytes : Nat} (E : ElemK P t e z k bytes) (w : World) (ty : TypeId) (base : Nat)
  {v : Value} {n : Nat} {xs : List Value} (hown : w.ownsRow base e k v n xs) {A : Option Addr} {m c : Nat} {news : List Value} (hr : RdK w A m k news) (h1 : ∀ u ∈ news, u.oneCell' = true)
  (h63 : n + m <= 1099511627776) (hby : bytes <= 64) (hbase : base <= w.heap.size) :
  ∃ A' c' w', (Builtin.append_ #[t, t] ty #[v, .slice A m c]).run P w = .ok (.slice A' (n + m) c') w' /\ w'.ownsRow base e k (.slice A' (n + m) c') (n + m) (xs ++ news) /\ w.grownBy w' v.ownBlock /\
   ((Value.slice A' (n + m) c').ownBlock = v.ownBlock \/ (Value.slice A' (n + m) c').ownBlock = some w.heap.size) := by
 obtain ⟨i, hi, hz0, hz1, hz2⟩ := info_parts E.hi;have hb : (n + m) * bytes <= 140737488355328 := Nat.le_trans (Nat.mul_le_mul h63 hby) (by omega);have hml : n + m <= maxLen := by unfold maxLen; omega
 have fin : ∀ (ad : Addr), (∀ j u, news[j]? = some u -> w.cell? (ad.add j) = some u) -> ∃ A' c' w', (Builtin.append_ #[t, t] ty #[v, .slice (some ad) m c]).run P w = .ok (.slice A' (n + m) c') w' /\ w'.ownsRow base e k (.slice A' (n + m) c') (n + m) (xs ++ news) /\ w.grownBy w' v.ownBlock /\
   ((Value.slice A' (n + m) c').ownBlock = v.ownBlock \/ (Value.slice A' (n + m) c').ownBlock = some w.heap.size) := by
  intro ad had;obtain ⟨v', w', hrun, h2, h3, _, h5⟩ := run_append_own_at (P := P) w base t ty e i z k bytes E.ht hi hz0 hz1 hz2 E.hz E.hk v n xs hown ad m c news hr.1 had h1 hml hb hbase;obtain ⟨A', c', rfl⟩ := ze5 h2;exact ⟨A', c', w', hrun, h2, h3, h5⟩
 rcases Nat.eq_zero_or_pos m with h0 | h0
 ·subst h0;have hn : news = [] := List.eq_nil_of_length_eq_zero (by rw [hr.1]; simp);subst hn
  cases A with
  | none =>
   obtain ⟨A', c', rfl⟩ := ze5 hown;exact ⟨A', c', w, zdz w base t ty e i k E.ht hi _ n xs hown c, by simpa using hown, World.grownBy.refl w _, .inl rfl⟩
  | some ad => exact fin ad (fun j u hu => by simp at hu)
 ·obtain ⟨b, off, rfl, hcell⟩ := hr.2 h0;exact fin ⟨b, off, none⟩ (fun j u hu => by rw [Addr.add_lit]; exact hcell j u hu)
theorem zaz {t e : TypeId} {z : Value} {k bytes : Nat} (E : ElemK P t e z k bytes) (w : World) {ops : Array Oper} {rest : List Oper} {o : Oper} {a : Act} {Q : Exit -> Act -> World -> Prop} (hgd : o.guard = none) (s x : Operand)
  (ho : o.op = .call { callee := .builtin .append, args := #[s, x], argTypes := #[t, t] }) (base : Nat)
  {v : Value} {n : Nat} {xs : List Value} (hs : a.eval s = v) (hown : w.ownsRow base e k v n xs) {A : Option Addr} {m c : Nat} {news : List Value} (hx : a.eval x = .slice A m c) (hr : RdK w A m k news) (h1 : ∀ u ∈ news, u.oneCell' = true)
  (h63 : n + m <= 1099511627776) (hby : bytes <= 64) (hbase : base <= w.heap.size)
  (h : ∀ A' c' w', w'.ownsRow base e k (.slice A' (n + m) c') (n + m) (xs ++ news) -> w.grownBy w' v.ownBlock ->
   ((Value.slice A' (n + m) c').ownBlock = v.ownBlock \/ (Value.slice A' (n + m) c').ownBlock = some w.heap.size) -> wpList P ops Q rest (a.put o.dst (.slice A' (n + m) c')) w') : wpList P ops Q (o :: rest) a w := by
 refine wpList_plain hgd fun K hK => ?_;obtain ⟨A', c', w', hrun, h2, h3, h4⟩ := zkj E w o.type base hown (c := c) hr h1 h63 hby hbase;unfold Oper.wp execOp;simp only [ho, resolve, invoke, builtin, Sem.run_bind, Sem.run_pure, Result.andThen_ok, List.map_toArray, List.map_cons, List.map_nil, hs, hx, hrun];exact hK _ _ (h A' c' w' h2 h3 h4)
end
theorem zn {w w' : World} {base k : Nat} {e : TypeId} {v : Value} {n : Nat} {xs : List Value} (h : w.ownsRow base e k v n xs) (hb : Below w.heap.size w w') : w'.ownsRow base e k v n xs := by
 refine ⟨h.1, ?_⟩;rcases h.2 with hn | ⟨g, cap, cur, hv, hg, hh, rest⟩
 ·exact .inl hn
 ·exact .inr ⟨g, cap, cur, hv, hg, (hb.block g (Array.getElem?_eq_some_iff.1 hh).1).trans hh, rest⟩
theorem zba {w : World} {B B' k : Nat} {e : TypeId} {v : Value} {n : Nat} {xs : List Value} (h : w.ownsRow B e k v n xs) (hb : B' <= B) : w.ownsRow B' e k v n xs := by
 obtain ⟨h1, h2⟩ := h;refine ⟨h1, ?_⟩;rcases h2 with h2 | ⟨g, cap, cur, h2, h3, h4⟩
 ·exact .inl h2
 ·exact .inr ⟨g, cap, cur, h2, by omega, h4⟩
theorem zaq {base b : Nat} {w0 w w' : World} {e : TypeId} {v : Value} {n k : Nat} {xs : List Value} (hb : Below b w0 w) (hB : b <= w.heap.size) (hbb : b <= base) (hown : w.ownsRow base e k v n xs) (hg : w.grownBy w' v.ownBlock) : Below b w0 w' :=
 hb.grown hg hB (fun j hj => Nat.le_trans hbb (hown.lt j hj).1)
end
section
open Go.RowKit
def Apart (u v : Value) : Prop := ∀ b, v.ownBlock = some b -> u.ownBlock ≠ some b
theorem Apart.symm {u v : Value} (h : Apart u v) : Apart v u := fun b hb hv => h b hv hb
theorem Apart.step {u u' v : Value} {H : Nat} (h : Apart u v) (hu : u'.ownBlock = u.ownBlock \/ u'.ownBlock = some H) (hv : ∀ b, v.ownBlock = some b -> b < H) : Apart u' v := by
 intro b hb hc;rcases hu with hu | hu
 ·exact h b hb (hu ▸ hc)
 ·rw [hu] at hc;injection hc with hc;have := hv b hb;omega
end
section
open Go.RowKit
theorem ziv {w : World} {B : Nat} {e : TypeId} {A : Option Addr} {n c : Nat} {xs : List Value} (h : w.ownsRow B e 1 (.slice A n c) n xs) : Rd w A n xs := by
 obtain ⟨A', c', e2, _, _, hr⟩ := Rd.of_own h;injection e2 with e2a _ _;subst e2a;exact hr
theorem zi3 {w : World} {B : Nat} {e : TypeId} {A : Option Addr} {n c : Nat} {xs : List Value} (h : w.ownsRow B e 1 (.slice A n c) n xs) : ∀ a, A = some a -> B <= a.block /\ a.block < w.heap.size := by
 intro a ha;subst ha;exact h.lt a.block rfl
end
end Go.Proofs.YtolcabjkbefjgaaGreatDoor
