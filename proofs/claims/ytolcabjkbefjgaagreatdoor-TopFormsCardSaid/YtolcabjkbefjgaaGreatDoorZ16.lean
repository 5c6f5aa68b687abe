/- Readers of bytes, and where bytes may be cut: plain. utf8.lead, second, Next. utf8.Next. strings.Join of one text; utf8.Decode. wide.of, get: the form of a kind, a unit's number. wide's next. -/
import Derived.Test.YtolcabjkbefjgaaGreatDoorZ13
set_option linter.unusedSimpArgs false
set_option linter.unusedVariables false
set_option maxRecDepth 20000
set_option maxHeartbeats 4000000
namespace Go.Proofs.YtolcabjkbefjgaaGreatDoor
section
abbrev Nx := List UInt8 -> Int × Nat × Int
def NxOk (nx : Nx) : Prop := ∀ s, s ≠ [] -> 0 < (nx s).2.1 /\ (nx s).2.1 <= s.length
def putN (p : Int) (q : Int × Nat × Int) : List Int := if q.2.2 = 0 then [q.1] else if p = 2 then [65533] else []
def rdF (nx : Nx) (p : Int) : Nat -> List UInt8 -> List Int × Bool
 | 0, _ => ([], true)
 | k + 1, s => if s = [] then ([], true) else if (nx s).2.2 ≠ 0 /\ p = 1 then ([], false) else
  (putN p (nx s) ++ (rdF nx p k (s.drop (nx s).2.1)).1, (rdF nx p k (s.drop (nx s).2.1)).2)
def rdN (nx : Nx) (p : Int) (s : List UInt8) : List Int × Bool := rdF nx p s.length s
section
variable {nx : Nx} {p : Int}
theorem zkm (h : NxOk nx) : ∀ (k m : Nat) (s : List UInt8), s.length <= k -> s.length <= m -> rdF nx p k s = rdF nx p m s
 | 0, 0, s, _, _ => rfl
 | 0, m + 1, s, hk, _ => by
  have : s = [] := List.length_eq_zero_iff.1 (by omega);subst this;rfl
 | k + 1, 0, s, _, hm => by
  have : s = [] := List.length_eq_zero_iff.1 (by omega);subst this;rfl
 | k + 1, m + 1, s, hk, hm => by
  unfold rdF;split
  ·rfl
  ·rename_i hs;have := h s hs;rw [zkm h k m (s.drop (nx s).2.1) (by rw [List.length_drop]; omega) (by rw [List.length_drop]; omega)]
theorem zfh : rdN nx p [] = ([], true) := rfl
theorem zcx (h : NxOk nx) {s : List UInt8} (hs : s ≠ []) : rdN nx p s = if (nx s).2.2 ≠ 0 /\ p = 1 then ([], false) else
  (putN p (nx s) ++ (rdN nx p (s.drop (nx s).2.1)).1, (rdN nx p (s.drop (nx s).2.1)).2) := by
 have h1 := h s hs;unfold rdN;obtain ⟨k, hk⟩ : ∃ k, s.length = k + 1 := ⟨s.length - 1, by have := List.length_pos_iff.2 hs; omega⟩;rw [hk];show (if s = [] then _ else _) = _;rw [if_neg hs, zkm h k (s.drop (nx s).2.1).length (s.drop (nx s).2.1) (by rw [List.length_drop]; omega) (Nat.le_refl _)]
theorem zl6 (h : NxOk nx) : ∀ (n : Nat) (s : List UInt8), s.length <= n -> (rdN nx p s).1.length <= s.length
 | 0, s, hn => by
  have : s = [] := List.length_eq_zero_iff.1 (by omega);subst this;exact Nat.le_refl _
 | n + 1, s, hn => by
  by_cases hs : s = []
  ·subst hs; exact Nat.le_refl _
  ·rw [zcx h hs];have h1 := h s hs;split
   ·exact Nat.zero_le _
   ·have h2 := zl6 h n (s.drop (nx s).2.1) (by rw [List.length_drop]; omega);rw [List.length_drop] at h2;show (putN p (nx s) ++ _).length <= _;rw [List.length_append]
    have h3 : (putN p (nx s)).length <= 1 := by
     unfold putN;split
     ·simp
     ·split <;> simp
    omega
def Agree (a b : Int × Nat × Int) : Prop := a.2.1 = b.2.1 /\ (a.2.2 = 0 ↔ b.2.2 = 0) /\ (a.2.2 = 0 -> a.1 = b.1)
theorem Agree.refl (a : Int × Nat × Int) : Agree a a := ⟨rfl, Iff.rfl, fun _ => rfl⟩
theorem Agree.put {a b : Int × Nat × Int} (h : Agree a b) : putN p a = putN p b := by
 obtain ⟨_, h2, h3⟩ := h;unfold putN
 by_cases h0 : a.2.2 = 0
 ·rw [if_pos h0, if_pos (h2.1 h0), h3 h0]
 ·rw [if_neg h0, if_neg (fun e => h0 (h2.2 e))]
def CutB (nx : Nx) (s : List UInt8) (n : Nat) : Prop := n <= s.length /\ ∀ (p : Int) (t : List UInt8), rdN nx p (s ++ t) =
 if (rdN nx p (s.take n)).2 = true then ((rdN nx p (s.take n)).1 ++ (rdN nx p (s.drop n ++ t)).1, (rdN nx p (s.drop n ++ t)).2) else rdN nx p (s.take n)
theorem zms (h : NxOk nx) {s : List UInt8} {n : Nat} (hn : n <= s.length) (D : Nat -> Prop) (h0 : D 0)
  (hD : ∀ i t, i < n -> D i -> Agree (nx ((s.take n).drop i)) (nx ((s ++ t).drop i)) /\ D (i + (nx ((s.take n).drop i)).2.1)) : CutB nx s n := by
 refine ⟨hn, fun p t => ?_⟩
 have key : ∀ (m i : Nat), n - i <= m -> i <= n -> D i -> rdN nx p ((s ++ t).drop i) =
   if (rdN nx p ((s.take n).drop i)).2 = true then ((rdN nx p ((s.take n).drop i)).1 ++ (rdN nx p ((s ++ t).drop n)).1, (rdN nx p ((s ++ t).drop n)).2) else rdN nx p ((s.take n).drop i) := by
  intro m;induction m with
  | zero =>
   intro i hm hi _;obtain rfl : i = n := (by omega);have : (s.take i).drop i = [] := List.drop_eq_nil_of_le (by rw [List.length_take]; omega);rw [this, zfh];simp
  | succ m ih =>
   intro i hm hi hd
   by_cases he : i = n
   ·subst he;have : (s.take i).drop i = [] := List.drop_eq_nil_of_le (by rw [List.length_take]; omega);rw [this, zfh];simp
   ·have hlt : i < n := by omega
    have hs1 : (s.take n).drop i ≠ [] := by
     intro e;have := congrArg List.length e;rw [List.length_drop, List.length_take] at this;simp at this;omega
    have hs2 : (s ++ t).drop i ≠ [] := by
     intro e;have := congrArg List.length e;rw [List.length_drop, List.length_append] at this;simp at this;omega
    obtain ⟨hA, hD2⟩ := hD i t hlt hd;have hp := h _ hs1;rw [List.length_drop, List.length_take] at hp;rw [zcx h hs1, zcx h hs2];obtain ⟨a1, a2, a3⟩ := hA;rw [<- a1, <- (show putN p _ = putN p _ from Agree.put ⟨a1, a2, a3⟩)];have a4 : ((nx ((s ++ t).drop i)).2.2 ≠ 0 /\ p = 1) ↔ ((nx ((s.take n).drop i)).2.2 ≠ 0 /\ p = 1) := and_congr (not_congr a2.symm) Iff.rfl
    by_cases hc : (nx ((s.take n).drop i)).2.2 ≠ 0 /\ p = 1
    ·rw [if_pos (a4.2 hc), if_pos hc, if_neg (by simp)]
    ·rw [if_neg (fun e => hc (a4.1 e)), if_neg hc, List.drop_drop, List.drop_drop, ih _ (by omega) (by omega) hD2];split
     ·simp
     ·rfl
 have := key n 0 (by omega) (by omega) h0;simp only [List.drop_zero] at this;rw [this, List.drop_append_of_le_length hn]
end
def leadU (b : UInt8) : Nat × Int :=
 if b.toNat < 128 then (1, b.toNat) else if 192 <= b.toNat /\ b.toNat < 224 then (2, b.toNat - 192) else if 224 <= b.toNat /\ b.toNat < 240 then (3, b.toNat - 224) else if 240 <= b.toNat /\ b.toNat < 248 then (4, b.toNat - 240) else (0, 0)
def zbd (b : UInt8) : Nat × Nat :=
 if b.toNat = 224 then (160, 191) else if b.toNat = 237 then (128, 159) else if b.toNat = 240 then (144, 191) else if b.toNat = 244 then (128, 143) else (128, 191)
def tailU (many : Nat) : Nat -> Int -> Nat × Nat -> List UInt8 -> Int × Nat × Int
 | n, x, ft, [] => if many <= n then (x, many, 0) else (0, n, 18)
 | n, x, ft, c :: t => if many <= n then (x, many, 0) else if c.toNat < ft.1 \/ ft.2 < c.toNat then (0, n, 17) else tailU many (n + 1) (x * 64 + c.toNat % 64) (128, 191) t
def nextU : Nx
 | [] => (0, 0, 18)
 | b :: t => if (leadU b).1 = 0 \/ (leadU b).1 = 2 /\ b.toNat < 194 \/ 244 < b.toNat then (0, 1, 17) else tailU (leadU b).1 1 (leadU b).2 (zbd b) t
theorem za6 (b : UInt8) (t : List UInt8) : nextU (b :: t) = if (leadU b).1 = 0 \/ (leadU b).1 = 2 /\ b.toNat < 194 \/ 244 < b.toNat then (0, 1, 17) else tailU (leadU b).1 1 (leadU b).2 (zbd b) t := rfl
theorem second_in (b : UInt8) : 128 <= (zbd b).1 /\ (zbd b).2 <= 191 := by
 unfold zbd;split
 ·simp
 split
 ·simp
 split
 ·simp
 split <;> simp
theorem zmi (b : UInt8) : (leadU b).1 <= 4 := by
 unfold leadU;split
 ·simp
 split
 ·simp
 split
 ·simp
 split <;> simp
theorem zja {b : UInt8} : (leadU b).1 = 0 ↔ (128 <= b.toNat /\ b.toNat < 192) \/ 248 <= b.toNat := by
 unfold leadU;split
 ·simp; omega
 split
 ·simp; omega
 split
 ·simp; omega
 split
 ·simp; omega
 ·simp; omega
theorem zkd (many : Nat) : ∀ (t : List UInt8) (n : Nat) (x : Int) (ft : Nat × Nat), 1 <= n -> n <= many -> 0 < (tailU many n x ft t).2.1 /\ (tailU many n x ft t).2.1 <= n + t.length
 | [], n, x, ft, h1, h2 => by
  unfold tailU;split
  ·simp; omega
  ·simp; omega
 | c :: t, n, x, ft, h1, h2 => by
  unfold tailU;split
  ·simp; omega
  ·split
   ·simp; omega
   ·have := zkd many t (n + 1) (x * 64 + c.toNat % 64) (128, 191) (by omega) (by omega);rw [List.length_cons];omega
theorem zcd : NxOk nextU
 | [], h => absurd rfl h
 | b :: t, _ => by
  rw [za6];split
  ·simp
  ·rename_i h;have h0 : (leadU b).1 ≠ 0 := fun e => h (.inl e);have := zkd (leadU b).1 t 1 (leadU b).2 (zbd b) (by omega) (by omega);rw [List.length_cons];omega
theorem zke (many : Nat) : ∀ (t : List UInt8) (n : Nat) (x : Int) (ft : Nat × Nat) (u : List UInt8), (tailU many n x ft t).2.2 ≠ 18 -> tailU many n x ft (t ++ u) = tailU many n x ft t
 | [], n, x, ft, u, h => by
  unfold tailU at h;split at h
  ·rename_i hm
   cases u <;> simp [tailU, hm]
  ·exact absurd rfl h
 | c :: t, n, x, ft, u, h => by
  rw [List.cons_append];unfold tailU at h ⊢;split at h
  ·rename_i hm; rw [if_pos hm, if_pos hm]
  ·rename_i hm;rw [if_neg hm, if_neg hm];split at h
   ·rename_i hc; rw [if_pos hc, if_pos hc]
   ·rename_i hc; rw [if_neg hc, if_neg hc]; exact zke many t _ _ _ u h
theorem nextU_app {s : List UInt8} (hs : s ≠ []) (u : List UInt8) (h : (nextU s).2.2 ≠ 18) : nextU (s ++ u) = nextU s := by
 cases s with
 | nil => exact absurd rfl hs
 | cons b t =>
  rw [List.cons_append, za6, za6];rw [za6] at h;split at h
  ·rename_i hc; rw [if_pos hc, if_pos hc]
  ·rename_i hc; rw [if_neg hc, if_neg hc]; exact zke _ t _ _ _ u h
theorem zil (many : Nat) : ∀ (t : List UInt8) (n : Nat) (x : Int) (ft : Nat × Nat), 128 <= ft.1 /\ ft.2 <= 191 -> (tailU many n x ft t).2.2 = 18 -> n + t.length < many /\ (tailU many n x ft t).2.1 = n + t.length /\ (∀ c ∈ t, 128 <= c.toNat /\ c.toNat < 192) /\
  ∀ (c : UInt8) (u : List UInt8), (c.toNat < 128 \/ 192 <= c.toNat) -> tailU many n x ft (t ++ c :: u) = (0, n + t.length, 17)
 | [], n, x, ft, hf, h => by
  unfold tailU at h;split at h
  ·cases h
  ·rename_i hm;refine ⟨by simp; omega, by unfold tailU; rw [if_neg hm]; simp, by simp, fun c u hc => ?_⟩;rw [List.nil_append];unfold tailU;rw [if_neg hm, if_pos (by omega)];simp
 | c :: t, n, x, ft, hf, h => by
  unfold tailU at h;split at h
  ·cases h
  ·rename_i hm;split at h
   ·cases h
   ·rename_i hc;obtain ⟨a1, a2, a3, a4⟩ := zil many t (n + 1) (x * 64 + c.toNat % 64) (128, 191) (by simp) h;refine ⟨by rw [List.length_cons]; omega, ?_, ?_, fun d u hd => ?_⟩
    ·unfold tailU;rw [if_neg hm, if_neg hc, a2, List.length_cons];omega
    ·intro d hd;rcases List.mem_cons.1 hd with rfl | hd
     ·omega
     ·exact a3 d hd
    ·rw [List.cons_append];unfold tailU;rw [if_neg hm, if_neg hc, a4 d u hd, List.length_cons];congr 2;omega
theorem nextU_more {s : List UInt8} (hs : s ≠ []) (h : (nextU s).2.2 = 18) : s.length < 4 /\ (nextU s).2.1 = s.length /\ (∃ b t, s = b :: t /\ 0 < (leadU b).1 /\ ∀ c ∈ t, (leadU c).1 = 0) /\
  ∀ (c : UInt8) (u : List UInt8), 0 < (leadU c).1 -> (nextU (s ++ c :: u)).2.1 = s.length /\ (nextU (s ++ c :: u)).2.2 = 17 := by
 cases s with
 | nil => exact absurd rfl hs
 | cons b t =>
  rw [za6] at h;split at h
  ·cases h
  ·rename_i hc;obtain ⟨a1, a2, a3, a4⟩ := zil _ t 1 _ _ (second_in b) h;have hb := zmi b;refine ⟨by rw [List.length_cons]; omega, ?_, ⟨b, t, rfl, by omega, fun c hc => zja.2 (.inl (a3 c hc))⟩, fun c u hu => ?_⟩
   ·rw [za6, if_neg hc, a2, List.length_cons]; omega
   ·have h1 : ¬ ((128 <= c.toNat /\ c.toNat < 192) \/ 248 <= c.toNat) := fun e => by have := zja.2 e; omega
    rw [List.cons_append];rw [za6, if_neg hc, a4 c u (by omega), List.length_cons];exact ⟨by simp; omega, rfl⟩
def cutUW (s : List UInt8) : Nat -> Nat -> Nat
 | 0, _ => s.length
 | m + 1, k => if k <= s.length then (if 0 < (leadU (s.getD (s.length - k) 0)).1 then (if (nextU (s.drop (s.length - k))).2.2 = 18 then s.length - k else s.length) else cutUW s m (k + 1)) else s.length
def cutU (s : List UInt8) : Nat := cutUW s 3 1
theorem zlf (s : List UInt8) : ∀ (m k : Nat), cutUW s m k <= s.length /\ (cutUW s m k < s.length -> 0 < (leadU (s.getD (cutUW s m k) 0)).1)
 | 0, k => ⟨Nat.le_refl _, fun h => absurd h (Nat.lt_irrefl _)⟩
 | m + 1, k => by
  unfold cutUW;split
  ·split
   ·rename_i h0;split
    ·exact ⟨by omega, fun _ => h0⟩
    ·exact ⟨Nat.le_refl _, fun h => absurd h (Nat.lt_irrefl _)⟩
   ·exact zlf s m (k + 1)
  ·exact ⟨Nat.le_refl _, fun h => absurd h (Nat.lt_irrefl _)⟩
theorem zlg (s : List UInt8) {i : Nat} (hi : i < s.length) (hn : (nextU (s.drop i)).2.2 = 18) (hl : 0 < (leadU (s.getD i 0)).1) (hc : ∀ j, i < j -> j < s.length -> (leadU (s.getD j 0)).1 = 0) :
  ∀ (m k : Nat), 1 <= k -> k <= s.length - i -> s.length - i < k + m -> cutUW s m k = i
 | 0, k, _, h1, h2 => by omega
 | m + 1, k, h0, h1, h2 => by
  unfold cutUW;rw [if_pos (by omega)]
  by_cases he : k = s.length - i
  ·have : s.length - k = i := (by omega);rw [this, if_pos hl, if_pos hn]
  ·rw [hc (s.length - k) (by omega) (by omega), if_neg (Nat.lt_irrefl _)];exact zlg s hi hn hl hc m (k + 1) (by omega) (by omega) (by omega)
theorem cutU_ok (s : List UInt8) : CutB nextU s (cutU s) := by
 obtain ⟨hle, hlead⟩ := zlf s 3 1;refine zms zcd hle (fun _ => True) trivial fun i t hi _ => ⟨?_, trivial⟩
 have hv : (s.take (cutU s)).drop i ≠ [] := by
  intro e;have := congrArg List.length e;rw [List.length_drop, List.length_take] at this;have h2 : cutU s <= s.length := hle;simp at this;omega
 have hsplit : (s ++ t).drop i = (s.take (cutU s)).drop i ++ (s.drop (cutU s) ++ t) := by
  have h2 : cutU s <= s.length := hle;rw [<- List.append_assoc, <- List.drop_append_of_le_length (by rw [List.length_take]; omega), List.take_append_drop, List.drop_append_of_le_length (by omega)]
 rw [hsplit]
 by_cases hm : (nextU ((s.take (cutU s)).drop i)).2.2 = 18
 ·obtain ⟨m1, m2, ⟨b, tl, m3, m4, m5⟩, m6⟩ := nextU_more hv hm
  by_cases hlt : cutU s < s.length
  ·have h0 := hlead hlt
   obtain ⟨c, u, hcu⟩ : ∃ c u, s.drop (cutU s) = c :: u := by
    cases hd : s.drop (cutU s) with
    | nil => have := congrArg List.length hd; rw [List.length_drop] at this; simp at this; omega
    | cons c u => exact ⟨c, u, rfl⟩
   have hc : s.getD (cutU s) 0 = c := by
    have := congrArg (fun l => l[0]?) hcu;simp only [List.getElem?_drop, List.getElem?_cons_zero, Nat.add_zero] at this;rw [List.getD_eq_getElem?_getD, this];rfl
   rw [hcu, List.cons_append];have h0' : 0 < (leadU c).1 := (by rw [<- hc]; exact h0);obtain ⟨k1, k2⟩ := m6 c (u ++ t) h0';exact ⟨by rw [m2, k1], by rw [hm, k2]; decide, fun e => by rw [hm] at e; cases e⟩
  ·exfalso;have hE : cutU s = s.length := (by have : cutU s <= s.length := hle; omega);rw [hE, List.take_length] at m3 m1 hm;have hlen : (s.drop i).length = s.length - i := List.length_drop;have hi2 : i < s.length := by omega
   have key := zlg s hi2 hm (by
    have := congrArg (fun l => l[0]?) m3;simp only [List.getElem?_drop, List.getElem?_cons_zero, Nat.add_zero] at this;rw [List.getD_eq_getElem?_getD, this];exact m4) (fun j hj hj2 => by
    have := congrArg (fun l => l[j - i]?) m3;simp only [List.getElem?_drop] at this;have e : i + (j - i) = (j - i - 1) + 1 + i := (by omega);rw [show i + (j - i) = j by omega] at this;obtain ⟨q, hq⟩ : ∃ q, j - i = q + 1 := ⟨j - i - 1, by omega⟩;rw [hq, List.getElem?_cons_succ] at this
    have hq2 : q < tl.length := by
     have := congrArg List.length m3;rw [hlen, List.length_cons] at this;omega
    rw [List.getElem?_eq_getElem hq2] at this;rw [List.getD_eq_getElem?_getD, this]
    exact m5 _ (List.getElem_mem hq2)) 3 1 (by omega) (by omega) (by omega)
   have : cutU s = i := key;omega
 ·rw [nextU_app hv _ hm];exact Agree.refl _
def getW (big : Bool) (s : List UInt8) : Nat := (if big = true then s else s.reverse).foldl (fun n b => n * 256 + b.toNat) 0
def sizeW (k : Int) : Nat := if k <= 2 then 2 else 4
def bigW (k : Int) : Bool := decide (k.tmod 2 = 0)
def unitW (k : Int) (s : List UInt8) : Nat := getW (bigW k) (s.take (sizeW k))
def nextW (k : Int) : Nx := fun s =>
 if s.length < sizeW k then (0, s.length, 18)
 else if k <= 2 /\ 55296 <= unitW k s /\ unitW k s < 56320 then
  if s.length < 2 * sizeW k then (0, s.length, 18)
  else if 56320 <= unitW k (s.drop (sizeW k)) /\ unitW k (s.drop (sizeW k)) < 57344 then (65536 + ((unitW k s : Int) - 55296) * 1024 + unitW k (s.drop (sizeW k)) - 56320, 2 * sizeW k, 0)
  else (0, sizeW k, 17)
 else if 1114111 < unitW k s \/ (55296 <= unitW k s /\ unitW k s <= 57343) then (0, sizeW k, 17)
 else (unitW k s, sizeW k, 0)
theorem zio (k : Int) : 0 < sizeW k := by unfold sizeW; split <;> simp
theorem zcc (k : Int) : NxOk (nextW k) := fun s hs => by
 have h1 := zio k;have h2 := List.length_pos_iff.2 hs;unfold nextW;split
 ·simp; omega
 ·split
  ·split
   ·simp; omega
   ·split
    ·simp; omega
    ·simp; omega
  ·split
   ·simp; omega
   ·simp; omega
theorem zc7 (k : Int) {s : List UInt8} (u : List UInt8) (h : sizeW k <= s.length) : unitW k (s ++ u) = unitW k s := by unfold unitW; rw [List.take_append_of_le_length h]
def cutW (k : Int) (s : List UInt8) : Nat :=
 let a := s.length / sizeW k * sizeW k
 if k <= 2 /\ 0 < a /\ 55296 <= unitW k (s.drop (a - sizeW k)) /\ unitW k (s.drop (a - sizeW k)) < 56320 then a - sizeW k else a
theorem cutW_le (k : Int) (s : List UInt8) : cutW k s <= s.length /\ cutW k s % sizeW k = 0 := by
 have h1 := zio k;have h2 := Nat.div_mul_le_self s.length (sizeW k);unfold cutW;simp only [];split
 ·refine ⟨Nat.le_trans (Nat.sub_le _ _) h2, ?_⟩;rename_i h;have h0 := h.2.1
  obtain ⟨q, hq⟩ : ∃ q, s.length / sizeW k = q + 1 := by
   cases hq : s.length / sizeW k with
   | zero => rw [hq] at h0; simp at h0
   | succ q => exact ⟨q, rfl⟩
  rw [hq, Nat.add_mul, Nat.one_mul, Nat.add_sub_cancel];exact Nat.mul_mod_left _ _
 ·exact ⟨h2, Nat.mul_mod_left _ _⟩
theorem za9 {k : Int} (h : k <= 2) : sizeW k = 2 := if_pos h
theorem zci {k : Int} (h : ¬ k <= 2) : sizeW k = 4 := if_neg h
theorem zj1 {k : Int} (hk : ¬ k <= 2) {s : List UInt8} (h : 4 <= s.length) : nextW k s = if 1114111 < unitW k s \/ (55296 <= unitW k s /\ unitW k s <= 57343) then ((0 : Int), 4, (17 : Int)) else ((unitW k s : Int), 4, 0) := by
 unfold nextW;rw [zci hk, if_neg (by omega), if_neg (fun e => hk e.1)]
theorem zj2 {k : Int} (hk : k <= 2) {s : List UInt8} (h : 2 <= s.length) : nextW k s = if 55296 <= unitW k s /\ unitW k s < 56320 then
  (if s.length < 4 then (0, s.length, 18) else if 56320 <= unitW k (s.drop 2) /\ unitW k (s.drop 2) < 57344 then (65536 + ((unitW k s : Int) - 55296) * 1024 + unitW k (s.drop 2) - 56320, 4, 0) else (0, 2, 17))
  else if 1114111 < unitW k s \/ (55296 <= unitW k s /\ unitW k s <= 57343) then (0, 2, 17) else (unitW k s, 2, 0) := by
 unfold nextW;rw [za9 hk, if_neg (by omega)]
 by_cases h1 : 55296 <= unitW k s /\ unitW k s < 56320
 ·rw [if_pos ⟨hk, h1⟩, if_pos h1]
 ·rw [if_neg (fun e => h1 e.2), if_neg h1]
theorem cutW_ok (k : Int) (s : List UInt8) : CutB (nextW k) s (cutW k s) := by
 obtain ⟨hle, hmod⟩ := cutW_le k s;have hdef : cutW k s = if k <= 2 /\ 0 < s.length / sizeW k * sizeW k /\ 55296 <= unitW k (s.drop (s.length / sizeW k * sizeW k - sizeW k)) /\ unitW k (s.drop (s.length / sizeW k * sizeW k - sizeW k)) < 56320 then s.length / sizeW k * sizeW k - sizeW k else s.length / sizeW k * sizeW k := rfl;generalize cutW k s = n at hle hmod hdef;refine zms (zcc k) hle (fun i => i % sizeW k = 0) (Nat.zero_mod _) fun i t hi hd => ?_;have hvl : ((s.take n).drop i).length = n - i := by rw [List.length_drop, List.length_take]; omega
 have hsplit : (s ++ t).drop i = (s.take n).drop i ++ (s.drop n ++ t) := by
  rw [<- List.append_assoc, <- List.drop_append_of_le_length (by rw [List.length_take]; omega), List.take_append_drop, List.drop_append_of_le_length (by omega)]
 rw [hsplit]
 by_cases hk : k <= 2
 ·rw [za9 hk] at hmod hdef hd ⊢;have h2 : 2 <= n - i := (by omega);have hu : unitW k ((s.take n).drop i ++ (s.drop n ++ t)) = unitW k ((s.take n).drop i) := zc7 k _ (by rw [za9 hk, hvl]; exact h2);rw [zj2 hk (by omega), zj2 hk (by rw [List.length_append]; omega), hu]
  by_cases hh : 55296 <= unitW k ((s.take n).drop i) /\ unitW k ((s.take n).drop i) < 56320
  ·rw [if_pos hh, if_pos hh]
   by_cases h4 : n - i < 4
   ·have hi2 : i = n - 2 := by omega
    have hun : unitW k (s.drop (n - 2)) = unitW k ((s.take n).drop (n - 2)) := by
     have : s.drop (n - 2) = (s.take n).drop (n - 2) ++ s.drop n := by
      rw [<- List.drop_append_of_le_length (by rw [List.length_take]; omega), List.take_append_drop]
     rw [this];exact zc7 k _ (by rw [za9 hk, List.length_drop, List.length_take]; omega)
    rw [hi2, <- hun] at hh
    by_cases hc : k <= 2 /\ 0 < s.length / 2 * 2 /\ 55296 <= unitW k (s.drop (s.length / 2 * 2 - 2)) /\ unitW k (s.drop (s.length / 2 * 2 - 2)) < 56320
    ·rw [if_pos hc] at hdef;have hlen : n + 2 <= s.length := by omega
     have hrest : unitW k (((s.take n).drop i ++ (s.drop n ++ t)).drop 2) = unitW k (s.drop n) := by
      rw [List.drop_append_of_le_length (by omega), List.drop_eq_nil_of_le (by omega), List.nil_append];exact zc7 k _ (by rw [za9 hk, List.length_drop]; omega)
     have hvn : ((s.take n).drop i).length = 2 := (by omega);rw [if_pos (by omega), if_neg (by rw [List.length_append, hvn, List.length_append, List.length_drop]; omega), hrest, hvn, if_neg (by rw [hdef]; omega)];exact ⟨⟨rfl, by simp, by simp⟩, by simp; omega⟩
    ·exfalso;rw [if_neg hc] at hdef;rw [<- hdef] at hc;exact hc ⟨hk, by omega, hh⟩
   ·have hd2 : ((s.take n).drop i ++ (s.drop n ++ t)).drop 2 = ((s.take n).drop i).drop 2 ++ (s.drop n ++ t) := List.drop_append_of_le_length (by omega);rw [if_neg (by omega : ¬ ((s.take n).drop i).length < 4), if_neg (by rw [List.length_append]; omega : ¬ ((s.take n).drop i ++ (s.drop n ++ t)).length < 4), hd2, zc7 k _ (by rw [za9 hk, List.length_drop]; omega)];refine ⟨Agree.refl _, ?_⟩;split
    ·simp; omega
    ·simp; omega
  ·rw [if_neg hh, if_neg hh];refine ⟨Agree.refl _, ?_⟩;split
   ·simp; omega
   ·simp; omega
 ·rw [zci hk] at hmod hd ⊢;have h2 : 4 <= n - i := (by omega);rw [zj1 hk (by omega), zj1 hk (by rw [List.length_append]; omega), zc7 k _ (by rw [zci hk, hvl]; exact h2)];refine ⟨Agree.refl _, ?_⟩;split
  ·simp; omega
  ·simp; omega
def nextK (k : Int) : Nx := if k = 5 then nextU else nextW k
def cutK (k : Int) (s : List UInt8) : Nat := if k = 5 then cutU s else cutW k s
theorem zkv (k : Int) : NxOk (nextK k) := by
 unfold nextK;split
 ·exact zcd
 ·exact zcc k
theorem zj7 (k : Int) (s : List UInt8) : CutB (nextK k) s (cutK k s) := by
 unfold nextK cutK;split
 ·exact cutU_ok s
 ·exact cutW_ok k s
def zfl : List (Int × List UInt8) := [(5, [0xef, 0xbb, 0xbf]), (3, [0xff, 0xfe, 0, 0]), (4, [0, 0, 0xfe, 0xff]), (1, [0xff, 0xfe]), (2, [0xfe, 0xff])]
def za1 (s : List UInt8) : List (Int × List UInt8) -> Int × Nat
 | [] => (0, 0)
 | x :: t => if x.2 <+: s then (x.1, x.2.length) else za1 s t
def zap (s : List UInt8) : Int × Nat := za1 s zfl
def OpenS (s : List UInt8) : Prop := s.length < 4 /\ s ≠ [0xef, 0xbb, 0xbf] /\ ∃ x ∈ zfl, s <+: x.2
instance (s : List UInt8) : Decidable (OpenS s) := by unfold OpenS; infer_instance
theorem zgh {s : List UInt8} (t : List UInt8) : ∀ l : List (Int × List UInt8), (∀ x ∈ l, x.2 <+: s ++ t -> x.2 <+: s) -> za1 (s ++ t) l = za1 s l
 | [], _ => rfl
 | x :: l, h => by
  have ih := zgh t l fun y hy => h y (by simp [hy]);unfold za1
  by_cases hx : x.2 <+: s
  ·rw [if_pos hx, if_pos (hx.trans (List.prefix_append _ _))]
  ·rw [if_neg hx, if_neg (fun e => hx (h x (by simp) e)), ih]
theorem marked_app {s : List UInt8} (t : List UInt8) (h : ¬ OpenS s) : zap (s ++ t) = zap s := by
 by_cases h0 : s = [0xef, 0xbb, 0xbf]
 ·subst h0;unfold zap zfl za1;rw [if_pos (List.prefix_append _ _), if_pos (List.prefix_refl _)]
 ·refine zgh t _ fun x hx hp => ?_
  by_cases hl : x.2.length <= s.length
  ·exact List.prefix_of_prefix_length_le hp (List.prefix_append _ _) hl
  ·have h4 : x.2.length <= 4 := by
    simp only [zfl, List.mem_cons, List.not_mem_nil, or_false] at hx;rcases hx with rfl | rfl | rfl | rfl | rfl <;> decide
   exact absurd ⟨by omega, h0, x, hx, List.prefix_of_prefix_length_le (List.prefix_append _ _) hp (by omega)⟩ h
theorem zgf (s : List UInt8) : (zap s).2 <= s.length := by
 unfold zap;generalize zfl = l;induction l with
 | nil => exact Nat.zero_le _
 | cons x l ih =>
  unfold za1;split
  ·rename_i h; exact h.length_le
  ·exact ih
theorem zgg (s : List UInt8) : (zap s).1 = 0 \/ 1 <= (zap s).1 /\ (zap s).1 <= 5 := by
 unfold zap zfl;unfold za1;split
 ·exact .inr (by decide)
 unfold za1;split
 ·exact .inr (by decide)
 unfold za1;split
 ·exact .inr (by decide)
 unfold za1;split
 ·exact .inr (by decide)
 unfold za1;split
 ·exact .inr (by decide)
 exact .inl rfl
def zas (k : Int) (s : List UInt8) : Int × List UInt8 := if 0 < (zap s).1 then ((zap s).1, s.drop (zap s).2) else (k, s)
def zb9 (k p : Int) (g : Bool) (s : List UInt8) : List Int := if g = true then (rdN (nextK (zas k s).1) p (zas k s).2).1 else (rdN (nextK k) p s).1
def Strm (k0 p : Int) (g0 : Bool) (all : List UInt8) (out : List Int) (k : Int) (g : Bool) (rest : List UInt8) (over : Bool) : Prop :=
 (∀ t, zb9 k0 p g0 (all ++ t) = out ++ (if over = true then [] else zb9 k p g (rest ++ t))) /\ rest.length <= all.length
section
variable {k0 p k : Int} {g0 g over : Bool} {all rest : List UInt8} {out : List Int}
theorem Strm.start (k0 p : Int) (g0 : Bool) : Strm k0 p g0 [] [] k0 g0 [] false := ⟨fun t => by simp, Nat.le_refl _⟩
theorem Strm.more (h : Strm k0 p g0 all out k g rest false) (l : List UInt8) : Strm k0 p g0 (all ++ l) out k g (rest ++ l) false :=
 ⟨fun t => by rw [List.append_assoc, h.1, List.append_assoc], by have := h.2; simp; omega⟩
theorem Strm.isOver (h : Strm k0 p g0 all out k g rest true) (l : List UInt8) : Strm k0 p g0 (all ++ l) out k g rest true :=
 ⟨fun t => by rw [List.append_assoc, h.1]; simp, by have := h.2; simp; omega⟩
theorem Strm.mark (h : Strm k0 p g0 all out k true rest false) (ho : ¬ OpenS rest) : Strm k0 p g0 all out (zas k rest).1 false (zas k rest).2 false := by
 refine ⟨fun t => ?_, ?_⟩
 ·rw [h.1 t];congr 1;have hm := marked_app t ho;have hl := zgf rest;show (rdN (nextK (zas k (rest ++ t)).1) p (zas k (rest ++ t)).2).1 = (rdN (nextK (zas k rest).1) p ((zas k rest).2 ++ t)).1;unfold zas;rw [hm];split
  ·rw [List.drop_append_of_le_length hl]
  ·rfl
 ·have := h.2;unfold zas;split
  ·simp; omega
  ·exact this
theorem Strm.take (h : Strm k0 p g0 all out k false rest false) {n : Nat} (hc : CutB (nextK k) rest n) : Strm k0 p g0 all (out ++ (rdN (nextK k) p (rest.take n)).1) k false (if (rdN (nextK k) p (rest.take n)).2 = true then rest.drop n else []) (!(rdN (nextK k) p (rest.take n)).2) := by
 refine ⟨fun t => ?_, ?_⟩
 ·rw [h.1 t];show out ++ (rdN (nextK k) p (rest ++ t)).1 = _;rw [hc.2 p t]
  cases (rdN (nextK k) p (rest.take n)).2
  ·simp
  ·simp [zb9]
 ·have := h.2;split
  ·simp; omega
  ·exact Nat.zero_le _
theorem Strm.close (h : Strm k0 p g0 all out k g rest over) : out ++ (if over = true then [] else zb9 k p g rest) = zb9 k0 p g0 all := by
 have := h.1 [];rw [List.append_nil, List.append_nil] at this;exact this.symm
end
end
section
open Go.RowKit
structure RowsU (w : World) : Prop where
 c0 : w.cell? ⟨0, 0, none⟩ = some (.int .i32 127)
 c1 : w.cell? ⟨0, 1, none⟩ = some (.int .i64 0)
 c2 : w.cell? ⟨0, 2, none⟩ = some (.int .i64 7)
 c3 : w.cell? ⟨0, 3, none⟩ = some (.int .i32 2047)
 c4 : w.cell? ⟨0, 4, none⟩ = some (.int .i64 192)
 c5 : w.cell? ⟨0, 5, none⟩ = some (.int .i64 5)
 c6 : w.cell? ⟨0, 6, none⟩ = some (.int .i32 65535)
 c7 : w.cell? ⟨0, 7, none⟩ = some (.int .i64 224)
 c8 : w.cell? ⟨0, 8, none⟩ = some (.int .i64 4)
 c9 : w.cell? ⟨0, 9, none⟩ = some (.int .i32 1114111)
 c10 : w.cell? ⟨0, 10, none⟩ = some (.int .i64 240)
 c11 : w.cell? ⟨0, 11, none⟩ = some (.int .i64 3)
theorem RowsU.lt {w : World} (h : RowsU w) : 0 < w.heap.size := World.block_lt_of_cell? w _ h.c0
theorem RowsU.keep {w w' : World} (h : RowsU w) (hc : ∀ o, w'.cell? ⟨0, o, none⟩ = w.cell? ⟨0, o, none⟩) : RowsU w' :=
 ⟨(hc 0).trans h.c0, (hc 1).trans h.c1, (hc 2).trans h.c2, (hc 3).trans h.c3, (hc 4).trans h.c4, (hc 5).trans h.c5, (hc 6).trans h.c6, (hc 7).trans h.c7, (hc 8).trans h.c8, (hc 9).trans h.c9, (hc 10).trans h.c10, (hc 11).trans h.c11⟩
theorem RowsU.below {w w' : World} (h : RowsU w) (hb : Below w.heap.size w w') : RowsU w' := h.keep fun _ => hb.cell h.lt
abbrev tabU : Value := .agg #[.int .i32 127, .int .i64 0, .int .i64 7, .int .i32 2047, .int .i64 192, .int .i64 5, .int .i32 65535, .int .i64 224, .int .i64 4, .int .i32 1114111, .int .i64 240, .int .i64 3]
theorem tab0 (W : World) : Sem.run Tryz.prog (Instr.index 223 tabU (.int .i64 0)) W = .ok (.agg #[.int .i32 127, .int .i64 0, .int .i64 7]) W := by kernel_rfl
theorem tab1 (W : World) : Sem.run Tryz.prog (Instr.index 223 tabU (.int .i64 1)) W = .ok (.agg #[.int .i32 2047, .int .i64 192, .int .i64 5]) W := by kernel_rfl
theorem tab2 (W : World) : Sem.run Tryz.prog (Instr.index 223 tabU (.int .i64 2)) W = .ok (.agg #[.int .i32 65535, .int .i64 224, .int .i64 4]) W := by kernel_rfl
theorem tab3 (W : World) : Sem.run Tryz.prog (Instr.index 223 tabU (.int .i64 3)) W = .ok (.agg #[.int .i32 1114111, .int .i64 240, .int .i64 3]) W := by kernel_rfl
section
variable {w : World}
theorem zkx (b : UInt8) (w : World) (hU : RowsU w) : Calls Tryz.prog 96 #[.int .u8 b.toNat] w fun e w' => e = .returned (.tuple #[.int .i64 (leadU b).1, .int .i64 (leadU b).2]) /\ Below w.heap.size w w' := by
 obtain ⟨n, hn⟩ : ∃ n, n = b.toNat := ⟨_, rfl⟩;have hn2 : n < 256 := (by rw [hn]; exact b.toNat_lt);have HL : Hid (leadU b = if n < 128 then (1, (n : Int)) else if 192 <= n /\ n < 224 then (2, (n : Int) - 192) else if 224 <= n /\ n < 240 then (3, (n : Int) - 224) else if 240 <= n /\ n < 248 then (4, (n : Int) - 240) else (0, 0)) := (by rw [hn]; rfl);rw [<- hn];clear hn;obtain ⟨c0, c1, c2, c3, c4, c5, c6, c7, c8, c9, c10, c11⟩ := hU;go_enter Tryz.func96, Tryz.ntmps96;go_wp2
 go_loopw [8] (fun i wr => ∃ v : Int, i = .int .i64 v /\ Hid (v = 0 \/ (v = 1 /\ 128 <= n) \/ (v = 2 /\ 128 <= n /\ (n < 192 \/ 224 <= n)) \/ (v = 3 /\ 128 <= n /\ (n < 192 \/ 240 <= n)) \/ (v = 4 /\ 128 <= n /\ (n < 192 \/ 248 <= n))) /\ Below w.heap.size w wr) (fun i _ => 4 - (intOf i).toNat)
 case atStart => exact ⟨0, rfl, .inl rfl, Below.refl _ _⟩
 case round =>
  obtain ⟨v, rfl, hv, hb⟩ := hrel;obtain ⟨wo, rfl⟩ : ∃ wo, wo = wr := ⟨wr, rfl⟩;have hz := hb.size;rcases hv.out with rfl | ⟨rfl, g1⟩ | ⟨rfl, g1, g2⟩ | ⟨rfl, g1, g2⟩ | ⟨rfl, g1, g2⟩
  ·have hx := tab0
   by_cases hm : n < 128
   ·have hm0 : (0 : Int) <= (n : Int) - 0 := (by omega);have hm1 : (n : Int) - 0 < 128 := (by omega);have hL : leadU b = (1, (n : Int) - 0) := (by rw [HL.out, if_pos hm]; simp);go_wp2;go_returns;exact ⟨by first | rfl | (rw [hL]; simp), hb.alloc hz _⟩
   ·have hm1 : ¬ ((n : Int) - 0 < 128) := (by omega);have hm0 : (0 : Int) <= (n : Int) - 0 := (by omega);go_wp2;go_roundw
    case rel => exact ⟨1, rfl, .inr (.inl ⟨rfl, by omega⟩), hb.alloc hz _⟩
    case measure => simp [intOf]
  ·have hx := tab1
   by_cases hm : 192 <= n /\ n < 224
   ·have hm0 : (0 : Int) <= (n : Int) - 192 := (by omega);have hm1 : (n : Int) - 192 < 32 := (by omega);have hL : leadU b = (2, (n : Int) - 192) := (by rw [HL.out, if_neg (by omega), if_pos hm]);go_wp2;go_returns;exact ⟨by first | rfl | (rw [hL]; simp), hb.alloc hz _⟩
   ·by_cases h0 : n < 192
    ·have hm0 : ¬ ((0 : Int) <= (n : Int) - 192) := (by omega);go_wp2;go_roundw
     case rel => exact ⟨2, rfl, .inr (.inr (.inl ⟨rfl, by omega, by omega⟩)), hb.alloc hz _⟩
     case measure => simp [intOf]
    ·have hm0 : (0 : Int) <= (n : Int) - 192 := (by omega);have hm1 : ¬ ((n : Int) - 192 < 32) := (by omega);go_wp2;go_roundw
     case rel => exact ⟨2, rfl, .inr (.inr (.inl ⟨rfl, by omega, by omega⟩)), hb.alloc hz _⟩
     case measure => simp [intOf]
  ·have hx := tab2
   by_cases hm : 224 <= n /\ n < 240
   ·have hm0 : (0 : Int) <= (n : Int) - 224 := (by omega);have hm1 : (n : Int) - 224 < 16 := (by omega);have hL : leadU b = (3, (n : Int) - 224) := (by rw [HL.out, if_neg (by omega), if_neg (by omega), if_pos hm]);go_wp2;go_returns;exact ⟨by first | rfl | (rw [hL]; simp), hb.alloc hz _⟩
   ·by_cases h0 : n < 224
    ·have hm0 : ¬ ((0 : Int) <= (n : Int) - 224) := (by omega);go_wp2;go_roundw
     case rel => exact ⟨3, rfl, .inr (.inr (.inr (.inl ⟨rfl, by omega, by omega⟩))), hb.alloc hz _⟩
     case measure => simp [intOf]
    ·have hm0 : (0 : Int) <= (n : Int) - 224 := (by omega);have hm1 : ¬ ((n : Int) - 224 < 16) := (by omega);go_wp2;go_roundw
     case rel => exact ⟨3, rfl, .inr (.inr (.inr (.inl ⟨rfl, by omega, by omega⟩))), hb.alloc hz _⟩
     case measure => simp [intOf]
  ·have hx := tab3
   by_cases hm : 240 <= n /\ n < 248
   ·have hm0 : (0 : Int) <= (n : Int) - 240 := (by omega);have hm1 : (n : Int) - 240 < 8 := (by omega);have hL : leadU b = (4, (n : Int) - 240) := (by rw [HL.out, if_neg (by omega), if_neg (by omega), if_neg (by omega), if_pos hm]);go_wp2;go_returns;exact ⟨by first | rfl | (rw [hL]; simp), hb.alloc hz _⟩
   ·by_cases h0 : n < 240
    ·have hm0 : ¬ ((0 : Int) <= (n : Int) - 240) := (by omega);go_wp2;go_roundw
     case rel => exact ⟨4, rfl, .inr (.inr (.inr (.inr ⟨rfl, by omega, by omega⟩))), hb.alloc hz _⟩
     case measure => simp [intOf]
    ·have hm0 : (0 : Int) <= (n : Int) - 240 := (by omega);have hm1 : ¬ ((n : Int) - 240 < 8) := (by omega);go_wp2;go_roundw
     case rel => exact ⟨4, rfl, .inr (.inr (.inr (.inr ⟨rfl, by omega, by omega⟩))), hb.alloc hz _⟩
     case measure => simp [intOf]
  ·have hL : leadU b = (0, 0) := (by rw [HL.out, if_neg (by omega), if_neg (by omega), if_neg (by omega), if_neg (by omega)]);go_wp2;go_returns;exact ⟨by first | rfl | (rw [hL]; rfl), hb⟩
theorem second_any (b : UInt8) (w : World) : Calls Tryz.prog 97 #[.int .u8 b.toNat] w fun e w' => e = .returned (.tuple #[.int .u8 (zbd b).1, .int .u8 (zbd b).2]) /\ w = w' := by
 obtain ⟨n, hn⟩ : ∃ n, n = b.toNat := ⟨_, rfl⟩;have HL : Hid (zbd b = if n = 224 then (160, 191) else if n = 237 then (128, 159) else if n = 240 then (144, 191) else if n = 244 then (128, 143) else (128, 191)) := (by rw [hn]; rfl);rw [<- hn];clear hn
 by_cases h1 : n = 224
 ·subst h1;rw [HL.out];go_enter Tryz.func97, Tryz.ntmps97;go_wp2;go_returns;exact ⟨rfl, rfl⟩
 by_cases h2 : n = 237
 ·subst h2;rw [HL.out];go_enter Tryz.func97, Tryz.ntmps97;go_wp2;go_returns;exact ⟨rfl, rfl⟩
 by_cases h3 : n = 240
 ·subst h3;rw [HL.out];go_enter Tryz.func97, Tryz.ntmps97;go_wp2;go_returns;exact ⟨rfl, rfl⟩
 by_cases h4 : n = 244
 ·subst h4;rw [HL.out];go_enter Tryz.func97, Tryz.ntmps97;go_wp2;go_returns;exact ⟨rfl, rfl⟩
 rw [HL.out, if_neg h1, if_neg h2, if_neg h3, if_neg h4];have g1 : ((n : Int) == 224) = false := (by simpa using fun e : (n : Int) = 224 => h1 (by omega));have g2 : ((n : Int) == 237) = false := (by simpa using fun e : (n : Int) = 237 => h2 (by omega));have g3 : ((n : Int) == 240) = false := (by simpa using fun e : (n : Int) = 240 => h3 (by omega));have g4 : ((n : Int) == 244) = false := (by simpa using fun e : (n : Int) = 244 => h4 (by omega));go_enter Tryz.func97, Tryz.ntmps97;go_wp2;go_returns;exact ⟨rfl, rfl⟩
end
end
section
open Go.RowKit
theorem zeh (n : Int) (h₀ : 0 <= n) (h₁ : n < 2 ^ 62) : IntKind.i64.wrap n = n := by rw [IntKind.wrap_i64]; omega
theorem zib (x y : Int) (hx₀ : 0 <= x) (hx₁ : x < 2147483648) (h₀ : 0 <= y) (h₁ : y < 64) : bits .or .i64 (x * 64) y = x * 64 + y :=
 bits_join .i64 62 (by decide) zeh 6 (x * 64) y (by omega) (by omega) (by omega) h₀ h₁ (by omega)
theorem zmk (x y : Int) (hx₀ : 0 <= x) (hx₁ : x < 2147483648) (h₀ : 0 <= y) (h₁ : y < 256) : bits .or .i64 (x * 256) y = x * 256 + y :=
 bits_join .i64 62 (by decide) zeh 8 (x * 256) y (by omega) (by omega) (by omega) h₀ h₁ (by omega)
theorem zek {many n : Nat} {x : Int} {ft : Nat × Nat} (h : many <= n) (t : List UInt8) : tailU many n x ft t = (x, many, 0) := by
 cases t <;> simp [tailU, h]
theorem zej {many n : Nat} {x : Int} {ft : Nat × Nat} (h : n < many) : tailU many n x ft [] = (0, n, 18) := by
 unfold tailU;rw [if_neg (by omega)]
theorem zbv {many n : Nat} {x : Int} {ft : Nat × Nat} (h : n < many) {c : UInt8} {t : List UInt8} (hc : c.toNat < ft.1 \/ ft.2 < c.toNat) : tailU many n x ft (c :: t) = (0, n, 17) := by
 unfold tailU;rw [if_neg (by omega), if_pos hc]
theorem zfm {many n : Nat} {x : Int} {ft : Nat × Nat} (h : n < many) {c : UInt8} {t : List UInt8} (hc : ¬ (c.toNat < ft.1 \/ ft.2 < c.toNat)) : tailU many n x ft (c :: t) = tailU many (n + 1) (x * 64 + c.toNat % 64) (128, 191) t := by
 conv => lhs; unfold tailU
 rw [if_neg (by omega), if_neg hc]
theorem lead_bd (b : UInt8) : 0 <= (leadU b).2 /\ (leadU b).2 < 128 := by
 have := b.toNat_lt;unfold leadU;split
 ·simp; omega
 split
 ·simp; omega
 split
 ·simp; omega
 split
 ·simp; omega
 ·simp
theorem second_bd (b : UInt8) : (zbd b).1 <= 255 /\ (zbd b).2 <= 255 := by
 unfold zbd;split
 ·simp
 split
 ·simp
 split
 ·simp
 split <;> simp
section
variable {w : World}
theorem zfp (s : ByteArray) (w : World) (hU : RowsU w) (hs : s.size <= 4611686018427387904) :
  Calls Tryz.prog 48 #[.string s] w fun e w' => e = .returned (.tuple #[.int .i32 (nextU (bs s)).1, .int .i64 (nextU (bs s)).2.1, .int .i64 (nextU (bs s)).2.2]) /\ Below w.heap.size w w' := by
 by_cases h0 : 0 < s.size
 ·have hne : s.toList.isEmpty = false := zkf (by omega);have hne2 : (!s.toList.isEmpty) = true := (by rw [hne]; rfl);have hd := zc1 s 0 h0;rw [List.drop_zero] at hd;obtain ⟨b, hb⟩ : ∃ b, b = s[0]'h0 := ⟨_, rfl⟩;have LD := zkx b w hU;have SD := fun W => second_any b W;have hlb := lead_bd b;have hsb := second_bd b;have hle := zmi b;have hN : nextU (bs s) = if (leadU b).1 = 0 \/ (leadU b).1 = 2 /\ b.toNat < 194 \/ 244 < b.toNat then (0, 1, 17) else tailU (leadU b).1 1 (leadU b).2 (zbd b) ((bs s).drop 1) := (by rw [hd, <- hb]; exact za6 _ _);obtain ⟨m, hm⟩ : ∃ m, m = (leadU b).1 := ⟨_, rfl⟩;obtain ⟨x, hx⟩ : ∃ x, x = (leadU b).2 := ⟨_, rfl⟩;obtain ⟨ft, hft⟩ : ∃ ft, ft = zbd b := ⟨_, rfl⟩;obtain ⟨f1, f2⟩ := ft;rw [<- hm, <- hx] at LD hN;rw [<- hft] at SD hN hsb;rw [<- hx] at hlb;rw [<- hm] at hle;have hbt : b.toNat < 256 := b.toNat_lt;have HB := hz0q hb;obtain ⟨k0, hk0⟩ : ∃ k0, k0 = b.toNat := ⟨_, rfl⟩;have hbz : ((s[0]'h0).toNat : Int) = (k0 : Int) := (by rw [<- hb, hk0]);rw [<- hk0] at LD SD hN hbt;have HK := hz0q hk0;have HN := hz0q hN;clear hd hb hm hx hft hU hN hk0
  by_cases c1 : m = 0
  ·subst c1;have HR : Hid (nextU (bs s) = (0, 1, 17)) := (by show _ = _; rw [HN.out, if_pos (.inl rfl)]);go_enter Tryz.func48, Tryz.ntmps48;go_wp2_with (go_at_call 96; refine LD.mono ?_; rintro e w' ⟨rfl, hb1⟩)
   go_returns;exact ⟨by rw [HR.out]; rfl, hb1⟩
  by_cases c2 : m = 2 /\ k0 < 194
  ·obtain ⟨rfl, c2⟩ := c2;have HR : Hid (nextU (bs s) = (0, 1, 17)) := (by show _ = _; rw [HN.out, if_pos (.inr (.inl ⟨rfl, c2⟩))]);have c3 : (k0 : Int) < 194 := (by omega);go_enter Tryz.func48, Tryz.ntmps48;go_wp2_with (go_at_call 96; refine LD.mono ?_; rintro e w' ⟨rfl, hb1⟩)
   go_returns;exact ⟨by rw [HR.out]; rfl, hb1⟩
  have e0 : ((m : Int) == 0) = false := by simpa using fun e : (m : Int) = 0 => c1 (by omega)
  by_cases c3 : 244 < k0
  ·have HR : Hid (nextU (bs s) = (0, 1, 17)) := (by show _ = _; rw [HN.out, if_pos (.inr (.inr c3))]);have c4 : (244 : Int) < (k0 : Int) := by omega
   by_cases c5 : m = 2
   ·subst c5;have c6 : ¬ ((k0 : Int) < 194) := (by omega);go_enter Tryz.func48, Tryz.ntmps48;go_wp2_with (go_at_call 96; refine LD.mono ?_; rintro e w' ⟨rfl, hb1⟩)
    go_returns;exact ⟨by rw [HR.out]; rfl, hb1⟩
   ·have c6 : ((m : Int) == 2) = false := (by simpa using fun e : (m : Int) = 2 => c5 (by omega));go_enter Tryz.func48, Tryz.ntmps48;go_wp2_with (go_at_call 96; refine LD.mono ?_; rintro e w' ⟨rfl, hb1⟩)
    go_returns;exact ⟨by rw [HR.out]; rfl, hb1⟩
  have HT : Hid (nextU (bs s) = tailU m 1 x (f1, f2) ((bs s).drop 1)) := by
   show _ = _;rw [HN.out, if_neg];rintro (h | h | h)
   ·exact c1 h
   ·exact c2 h
   ·exact c3 h
  have c4 : ¬ ((244 : Int) < (k0 : Int)) := (by omega);have c6 : m = 2 -> ¬ ((k0 : Int) < 194) := fun h => by omega
  clear HN c2 c3;rcases (show m = 1 \/ m = 2 \/ m = 3 \/ m = 4 by omega) with rfl | rfl | rfl | rfl
  ·have c7 := c6;simp at c7;clear c6;go_enter Tryz.func48, Tryz.ntmps48;go_wp2_with fail;refine LD.mono ?_;rintro e w1 ⟨rfl, hb1⟩;have SD1 := SD w1;clear LD SD;go_wp2_with fail;refine SD1.mono ?_;rintro e w2 ⟨rfl, rfl⟩;clear SD1;go_wp2_with fail;go_loop [3, 6, 7, 8] (fun vn vx v7 v8 => ∃ (k : Nat) (y : Int) (g1 g2 : Nat), vn = .int .i64 k /\ vx = .int .i64 y /\ v7 = .int .u8 g1 /\ v8 = .int .u8 g2 /\ 1 <= k /\ k <= 1 /\ k <= s.size /\ 0 <= y /\ Hid (y < 128 * 64 ^ (k - 1)) /\ g1 <= 255 /\ g2 <= 255 /\ Hid (nextU (bs s) = tailU 1 k y (g1, g2) ((bs s).drop k))) (fun vn _ _ _ => 1 - (intOf vn).toNat)
   case atStart => exact ⟨1, x, f1, f2, rfl, rfl, rfl, rfl, Nat.le_refl _, by omega, h0, hlb.1, by show _ < _; simpa using hlb.2, hsb.1, hsb.2, HT⟩
   case round =>
    obtain ⟨k, y, g1, g2, rfl, rfl, rfl, rfl, hk1, hkm, hks, hy0, HY, hg1, hg2, HD⟩ := hrel
    by_cases hlt : k < 1
    ·have hi : (k : Int) < 1 := by omega
     by_cases hend : k = s.size
     ·have he : ((k : Int) == (s.size : Int)) = true := (by simp [hend]);have HR : Hid (nextU (bs s) = (0, k, 18)) := (by show _ = _; rw [HD.out, zbf s k (by omega), zej hlt]);clear HD hend;go_wp2;go_returns;exact ⟨by rw [HR.out]; rfl, hb1⟩
     ·have hks : k < s.size := (by omega);have he : ((k : Int) == (s.size : Int)) = false := (by simpa using fun e : (k : Int) = s.size => hend (by omega));have hii : (k : Int) < (s.size : Int) := (by omega);have hd := zc1 s k hks;obtain ⟨c, hc⟩ : ∃ c, c = s[k]'hks := ⟨_, rfl⟩;obtain ⟨cn, hcn⟩ : ∃ cn, cn = c.toNat := ⟨_, rfl⟩;have hcz : ((s[k]'hks).toNat : Int) = (cn : Int) := (by rw [<- hc, hcn]);have hc256 : cn < 256 := (by rw [hcn]; exact c.toNat_lt);have HD2 : Hid (nextU (bs s) = tailU 1 k y (g1, g2) (c :: (bs s).drop (k + 1))) := (by show _ = _; rw [HD.out, hd, <- hc]);have HC := hz0q hcn;clear HD hd hc hcn
      by_cases hb : cn < g1
      ·have hb2 : (cn : Int) < (g1 : Int) := (by omega);have HR : Hid (nextU (bs s) = (0, k, 17)) := (by show _ = _; rw [HD2.out, zbv hlt (.inl (by rw [<- HC.out]; exact hb))]);clear HD2;go_wp2;go_returns;exact ⟨by rw [HR.out]; rfl, hb1⟩
      by_cases hb' : g2 < cn
      ·have hb2 : ¬ ((cn : Int) < (g1 : Int)) := (by omega);have hb3 : (g2 : Int) < (cn : Int) := (by omega);have HR : Hid (nextU (bs s) = (0, k, 17)) := (by show _ = _; rw [HD2.out, zbv hlt (.inr (by rw [<- HC.out]; exact hb'))]);clear HD2;go_wp2;go_returns;exact ⟨by rw [HR.out]; rfl, hb1⟩
      have hb2 : ¬ ((cn : Int) < (g1 : Int)) := (by omega);have hb3 : ¬ ((g2 : Int) < (cn : Int)) := by omega
      have HD3 : Hid (nextU (bs s) = tailU 1 (k + 1) (y * 64 + (cn : Int) % 64) (128, 191) ((bs s).drop (k + 1))) := by
       show _ = _;rw [HD2.out, zfm hlt (by rw [<- HC.out]; omega), <- HC.out]
      have hy25 : y < 33554432 := by
       have h1 := HY.out;have h2 : (64 : Int) ^ (k - 1) <= 64 ^ 3 := (by exact_mod_cast Nat.pow_le_pow_right (by decide) (by omega : k - 1 <= 3));omega
      have e1 : bits .and .u8 (cn : Int) 63 = (cn : Int) % 64 := u8_and63 _ (by omega) (by omega);have e2 : bits .or .i64 (y * 64) ((cn : Int) % 64) = y * 64 + (cn : Int) % 64 := zib y _ hy0 (by omega) (by omega) (by omega)
      have HY2 : Hid (y * 64 + (cn : Int) % 64 < 128 * 64 ^ (k + 1 - 1)) := by
       show _ < _;have h1 := HY.out;obtain ⟨j, rfl⟩ : ∃ j, k = j + 1 := ⟨k - 1, by omega⟩;simp only [Nat.add_sub_cancel] at h1 ⊢;rw [Int.pow_succ];generalize (64 : Int) ^ j = P at h1 ⊢;omega
      clear HD2 hb hb' HY;go_wp2;go_round
      case rel => exact ⟨k + 1, y * 64 + (cn : Int) % 64, 128, 191, by go_num, by rfl, rfl, rfl, by omega, by omega, by omega, by omega, HY2, by decide, by decide, HD3⟩
      case measure => simp [intOf]; omega
    ·obtain rfl : k = 1 := (by omega);have hi : (1 : Int) <= 1 := Int.le_refl _
     have hy25 : y < 33554432 := by
      have h1 := HY.out;simp at h1;omega
     have HR : Hid (nextU (bs s) = (y, 1, 0)) := (by show _ = _; rw [HD.out, zek (Nat.le_refl _)]);have hw := wraps_i32 y hy0 (by omega);clear HD HY;go_wp2;go_returns;exact ⟨by rw [HR.out]; rfl, hb1⟩
  ·have c7 := c6;simp at c7;clear c6;go_enter Tryz.func48, Tryz.ntmps48;go_wp2_with fail;refine LD.mono ?_;rintro e w1 ⟨rfl, hb1⟩;have SD1 := SD w1;clear LD SD;go_wp2_with fail;refine SD1.mono ?_;rintro e w2 ⟨rfl, rfl⟩;clear SD1;go_wp2_with fail;go_loop [3, 6, 7, 8] (fun vn vx v7 v8 => ∃ (k : Nat) (y : Int) (g1 g2 : Nat), vn = .int .i64 k /\ vx = .int .i64 y /\ v7 = .int .u8 g1 /\ v8 = .int .u8 g2 /\ 1 <= k /\ k <= 2 /\ k <= s.size /\ 0 <= y /\ Hid (y < 128 * 64 ^ (k - 1)) /\ g1 <= 255 /\ g2 <= 255 /\ Hid (nextU (bs s) = tailU 2 k y (g1, g2) ((bs s).drop k))) (fun vn _ _ _ => 2 - (intOf vn).toNat)
   case atStart => exact ⟨1, x, f1, f2, rfl, rfl, rfl, rfl, Nat.le_refl _, by omega, h0, hlb.1, by show _ < _; simpa using hlb.2, hsb.1, hsb.2, HT⟩
   case round =>
    obtain ⟨k, y, g1, g2, rfl, rfl, rfl, rfl, hk1, hkm, hks, hy0, HY, hg1, hg2, HD⟩ := hrel
    by_cases hlt : k < 2
    ·have hi : (k : Int) < 2 := by omega
     by_cases hend : k = s.size
     ·have he : ((k : Int) == (s.size : Int)) = true := (by simp [hend]);have HR : Hid (nextU (bs s) = (0, k, 18)) := (by show _ = _; rw [HD.out, zbf s k (by omega), zej hlt]);clear HD hend;go_wp2;go_returns;exact ⟨by rw [HR.out]; rfl, hb1⟩
     ·have hks : k < s.size := (by omega);have he : ((k : Int) == (s.size : Int)) = false := (by simpa using fun e : (k : Int) = s.size => hend (by omega));have hii : (k : Int) < (s.size : Int) := (by omega);have hd := zc1 s k hks;obtain ⟨c, hc⟩ : ∃ c, c = s[k]'hks := ⟨_, rfl⟩;obtain ⟨cn, hcn⟩ : ∃ cn, cn = c.toNat := ⟨_, rfl⟩;have hcz : ((s[k]'hks).toNat : Int) = (cn : Int) := (by rw [<- hc, hcn]);have hc256 : cn < 256 := (by rw [hcn]; exact c.toNat_lt);have HD2 : Hid (nextU (bs s) = tailU 2 k y (g1, g2) (c :: (bs s).drop (k + 1))) := (by show _ = _; rw [HD.out, hd, <- hc]);have HC := hz0q hcn;clear HD hd hc hcn
      by_cases hb : cn < g1
      ·have hb2 : (cn : Int) < (g1 : Int) := (by omega);have HR : Hid (nextU (bs s) = (0, k, 17)) := (by show _ = _; rw [HD2.out, zbv hlt (.inl (by rw [<- HC.out]; exact hb))]);clear HD2;go_wp2;go_returns;exact ⟨by rw [HR.out]; rfl, hb1⟩
      by_cases hb' : g2 < cn
      ·have hb2 : ¬ ((cn : Int) < (g1 : Int)) := (by omega);have hb3 : (g2 : Int) < (cn : Int) := (by omega);have HR : Hid (nextU (bs s) = (0, k, 17)) := (by show _ = _; rw [HD2.out, zbv hlt (.inr (by rw [<- HC.out]; exact hb'))]);clear HD2;go_wp2;go_returns;exact ⟨by rw [HR.out]; rfl, hb1⟩
      have hb2 : ¬ ((cn : Int) < (g1 : Int)) := (by omega);have hb3 : ¬ ((g2 : Int) < (cn : Int)) := by omega
      have HD3 : Hid (nextU (bs s) = tailU 2 (k + 1) (y * 64 + (cn : Int) % 64) (128, 191) ((bs s).drop (k + 1))) := by
       show _ = _;rw [HD2.out, zfm hlt (by rw [<- HC.out]; omega), <- HC.out]
      have hy25 : y < 33554432 := by
       have h1 := HY.out;have h2 : (64 : Int) ^ (k - 1) <= 64 ^ 3 := (by exact_mod_cast Nat.pow_le_pow_right (by decide) (by omega : k - 1 <= 3));omega
      have e1 : bits .and .u8 (cn : Int) 63 = (cn : Int) % 64 := u8_and63 _ (by omega) (by omega);have e2 : bits .or .i64 (y * 64) ((cn : Int) % 64) = y * 64 + (cn : Int) % 64 := zib y _ hy0 (by omega) (by omega) (by omega)
      have HY2 : Hid (y * 64 + (cn : Int) % 64 < 128 * 64 ^ (k + 1 - 1)) := by
       show _ < _;have h1 := HY.out;obtain ⟨j, rfl⟩ : ∃ j, k = j + 1 := ⟨k - 1, by omega⟩;simp only [Nat.add_sub_cancel] at h1 ⊢;rw [Int.pow_succ];generalize (64 : Int) ^ j = P at h1 ⊢;omega
      clear HD2 hb hb' HY;go_wp2;go_round
      case rel => exact ⟨k + 1, y * 64 + (cn : Int) % 64, 128, 191, by go_num, by rfl, rfl, rfl, by omega, by omega, by omega, by omega, HY2, by decide, by decide, HD3⟩
      case measure => simp [intOf]; omega
    ·obtain rfl : k = 2 := (by omega);have hi : (2 : Int) <= 2 := Int.le_refl _
     have hy25 : y < 33554432 := by
      have h1 := HY.out;simp at h1;omega
     have HR : Hid (nextU (bs s) = (y, 2, 0)) := (by show _ = _; rw [HD.out, zek (Nat.le_refl _)]);have hw := wraps_i32 y hy0 (by omega);clear HD HY;go_wp2;go_returns;exact ⟨by rw [HR.out]; rfl, hb1⟩
  ·have c7 := c6;simp at c7;clear c6;go_enter Tryz.func48, Tryz.ntmps48;go_wp2_with fail;refine LD.mono ?_;rintro e w1 ⟨rfl, hb1⟩;have SD1 := SD w1;clear LD SD;go_wp2_with fail;refine SD1.mono ?_;rintro e w2 ⟨rfl, rfl⟩;clear SD1;go_wp2_with fail;go_loop [3, 6, 7, 8] (fun vn vx v7 v8 => ∃ (k : Nat) (y : Int) (g1 g2 : Nat), vn = .int .i64 k /\ vx = .int .i64 y /\ v7 = .int .u8 g1 /\ v8 = .int .u8 g2 /\ 1 <= k /\ k <= 3 /\ k <= s.size /\ 0 <= y /\ Hid (y < 128 * 64 ^ (k - 1)) /\ g1 <= 255 /\ g2 <= 255 /\ Hid (nextU (bs s) = tailU 3 k y (g1, g2) ((bs s).drop k))) (fun vn _ _ _ => 3 - (intOf vn).toNat)
   case atStart => exact ⟨1, x, f1, f2, rfl, rfl, rfl, rfl, Nat.le_refl _, by omega, h0, hlb.1, by show _ < _; simpa using hlb.2, hsb.1, hsb.2, HT⟩
   case round =>
    obtain ⟨k, y, g1, g2, rfl, rfl, rfl, rfl, hk1, hkm, hks, hy0, HY, hg1, hg2, HD⟩ := hrel
    by_cases hlt : k < 3
    ·have hi : (k : Int) < 3 := by omega
     by_cases hend : k = s.size
     ·have he : ((k : Int) == (s.size : Int)) = true := (by simp [hend]);have HR : Hid (nextU (bs s) = (0, k, 18)) := (by show _ = _; rw [HD.out, zbf s k (by omega), zej hlt]);clear HD hend;go_wp2;go_returns;exact ⟨by rw [HR.out]; rfl, hb1⟩
     ·have hks : k < s.size := (by omega);have he : ((k : Int) == (s.size : Int)) = false := (by simpa using fun e : (k : Int) = s.size => hend (by omega));have hii : (k : Int) < (s.size : Int) := (by omega);have hd := zc1 s k hks;obtain ⟨c, hc⟩ : ∃ c, c = s[k]'hks := ⟨_, rfl⟩;obtain ⟨cn, hcn⟩ : ∃ cn, cn = c.toNat := ⟨_, rfl⟩;have hcz : ((s[k]'hks).toNat : Int) = (cn : Int) := (by rw [<- hc, hcn]);have hc256 : cn < 256 := (by rw [hcn]; exact c.toNat_lt);have HD2 : Hid (nextU (bs s) = tailU 3 k y (g1, g2) (c :: (bs s).drop (k + 1))) := (by show _ = _; rw [HD.out, hd, <- hc]);have HC := hz0q hcn;clear HD hd hc hcn
      by_cases hb : cn < g1
      ·have hb2 : (cn : Int) < (g1 : Int) := (by omega);have HR : Hid (nextU (bs s) = (0, k, 17)) := (by show _ = _; rw [HD2.out, zbv hlt (.inl (by rw [<- HC.out]; exact hb))]);clear HD2;go_wp2;go_returns;exact ⟨by rw [HR.out]; rfl, hb1⟩
      by_cases hb' : g2 < cn
      ·have hb2 : ¬ ((cn : Int) < (g1 : Int)) := (by omega);have hb3 : (g2 : Int) < (cn : Int) := (by omega);have HR : Hid (nextU (bs s) = (0, k, 17)) := (by show _ = _; rw [HD2.out, zbv hlt (.inr (by rw [<- HC.out]; exact hb'))]);clear HD2;go_wp2;go_returns;exact ⟨by rw [HR.out]; rfl, hb1⟩
      have hb2 : ¬ ((cn : Int) < (g1 : Int)) := (by omega);have hb3 : ¬ ((g2 : Int) < (cn : Int)) := by omega
      have HD3 : Hid (nextU (bs s) = tailU 3 (k + 1) (y * 64 + (cn : Int) % 64) (128, 191) ((bs s).drop (k + 1))) := by
       show _ = _;rw [HD2.out, zfm hlt (by rw [<- HC.out]; omega), <- HC.out]
      have hy25 : y < 33554432 := by
       have h1 := HY.out;have h2 : (64 : Int) ^ (k - 1) <= 64 ^ 3 := (by exact_mod_cast Nat.pow_le_pow_right (by decide) (by omega : k - 1 <= 3));omega
      have e1 : bits .and .u8 (cn : Int) 63 = (cn : Int) % 64 := u8_and63 _ (by omega) (by omega);have e2 : bits .or .i64 (y * 64) ((cn : Int) % 64) = y * 64 + (cn : Int) % 64 := zib y _ hy0 (by omega) (by omega) (by omega)
      have HY2 : Hid (y * 64 + (cn : Int) % 64 < 128 * 64 ^ (k + 1 - 1)) := by
       show _ < _;have h1 := HY.out;obtain ⟨j, rfl⟩ : ∃ j, k = j + 1 := ⟨k - 1, by omega⟩;simp only [Nat.add_sub_cancel] at h1 ⊢;rw [Int.pow_succ];generalize (64 : Int) ^ j = P at h1 ⊢;omega
      clear HD2 hb hb' HY;go_wp2;go_round
      case rel => exact ⟨k + 1, y * 64 + (cn : Int) % 64, 128, 191, by go_num, by rfl, rfl, rfl, by omega, by omega, by omega, by omega, HY2, by decide, by decide, HD3⟩
      case measure => simp [intOf]; omega
    ·obtain rfl : k = 3 := (by omega);have hi : (3 : Int) <= 3 := Int.le_refl _
     have hy25 : y < 33554432 := by
      have h1 := HY.out;simp at h1;omega
     have HR : Hid (nextU (bs s) = (y, 3, 0)) := (by show _ = _; rw [HD.out, zek (Nat.le_refl _)]);have hw := wraps_i32 y hy0 (by omega);clear HD HY;go_wp2;go_returns;exact ⟨by rw [HR.out]; rfl, hb1⟩
  ·have c7 := c6;simp at c7;clear c6;go_enter Tryz.func48, Tryz.ntmps48;go_wp2_with fail;refine LD.mono ?_;rintro e w1 ⟨rfl, hb1⟩;have SD1 := SD w1;clear LD SD;go_wp2_with fail;refine SD1.mono ?_;rintro e w2 ⟨rfl, rfl⟩;clear SD1;go_wp2_with fail;go_loop [3, 6, 7, 8] (fun vn vx v7 v8 => ∃ (k : Nat) (y : Int) (g1 g2 : Nat), vn = .int .i64 k /\ vx = .int .i64 y /\ v7 = .int .u8 g1 /\ v8 = .int .u8 g2 /\ 1 <= k /\ k <= 4 /\ k <= s.size /\ 0 <= y /\ Hid (y < 128 * 64 ^ (k - 1)) /\ g1 <= 255 /\ g2 <= 255 /\ Hid (nextU (bs s) = tailU 4 k y (g1, g2) ((bs s).drop k))) (fun vn _ _ _ => 4 - (intOf vn).toNat)
   case atStart => exact ⟨1, x, f1, f2, rfl, rfl, rfl, rfl, Nat.le_refl _, by omega, h0, hlb.1, by show _ < _; simpa using hlb.2, hsb.1, hsb.2, HT⟩
   case round =>
    obtain ⟨k, y, g1, g2, rfl, rfl, rfl, rfl, hk1, hkm, hks, hy0, HY, hg1, hg2, HD⟩ := hrel
    by_cases hlt : k < 4
    ·have hi : (k : Int) < 4 := by omega
     by_cases hend : k = s.size
     ·have he : ((k : Int) == (s.size : Int)) = true := (by simp [hend]);have HR : Hid (nextU (bs s) = (0, k, 18)) := (by show _ = _; rw [HD.out, zbf s k (by omega), zej hlt]);clear HD hend;go_wp2;go_returns;exact ⟨by rw [HR.out]; rfl, hb1⟩
     ·have hks : k < s.size := (by omega);have he : ((k : Int) == (s.size : Int)) = false := (by simpa using fun e : (k : Int) = s.size => hend (by omega));have hii : (k : Int) < (s.size : Int) := (by omega);have hd := zc1 s k hks;obtain ⟨c, hc⟩ : ∃ c, c = s[k]'hks := ⟨_, rfl⟩;obtain ⟨cn, hcn⟩ : ∃ cn, cn = c.toNat := ⟨_, rfl⟩;have hcz : ((s[k]'hks).toNat : Int) = (cn : Int) := (by rw [<- hc, hcn]);have hc256 : cn < 256 := (by rw [hcn]; exact c.toNat_lt);have HD2 : Hid (nextU (bs s) = tailU 4 k y (g1, g2) (c :: (bs s).drop (k + 1))) := (by show _ = _; rw [HD.out, hd, <- hc]);have HC := hz0q hcn;clear HD hd hc hcn
      by_cases hb : cn < g1
      ·have hb2 : (cn : Int) < (g1 : Int) := (by omega);have HR : Hid (nextU (bs s) = (0, k, 17)) := (by show _ = _; rw [HD2.out, zbv hlt (.inl (by rw [<- HC.out]; exact hb))]);clear HD2;go_wp2;go_returns;exact ⟨by rw [HR.out]; rfl, hb1⟩
      by_cases hb' : g2 < cn
      ·have hb2 : ¬ ((cn : Int) < (g1 : Int)) := (by omega);have hb3 : (g2 : Int) < (cn : Int) := (by omega);have HR : Hid (nextU (bs s) = (0, k, 17)) := (by show _ = _; rw [HD2.out, zbv hlt (.inr (by rw [<- HC.out]; exact hb'))]);clear HD2;go_wp2;go_returns;exact ⟨by rw [HR.out]; rfl, hb1⟩
      have hb2 : ¬ ((cn : Int) < (g1 : Int)) := (by omega);have hb3 : ¬ ((g2 : Int) < (cn : Int)) := by omega
      have HD3 : Hid (nextU (bs s) = tailU 4 (k + 1) (y * 64 + (cn : Int) % 64) (128, 191) ((bs s).drop (k + 1))) := by
       show _ = _;rw [HD2.out, zfm hlt (by rw [<- HC.out]; omega), <- HC.out]
      have hy25 : y < 33554432 := by
       have h1 := HY.out;have h2 : (64 : Int) ^ (k - 1) <= 64 ^ 3 := (by exact_mod_cast Nat.pow_le_pow_right (by decide) (by omega : k - 1 <= 3));omega
      have e1 : bits .and .u8 (cn : Int) 63 = (cn : Int) % 64 := u8_and63 _ (by omega) (by omega);have e2 : bits .or .i64 (y * 64) ((cn : Int) % 64) = y * 64 + (cn : Int) % 64 := zib y _ hy0 (by omega) (by omega) (by omega)
      have HY2 : Hid (y * 64 + (cn : Int) % 64 < 128 * 64 ^ (k + 1 - 1)) := by
       show _ < _;have h1 := HY.out;obtain ⟨j, rfl⟩ : ∃ j, k = j + 1 := ⟨k - 1, by omega⟩;simp only [Nat.add_sub_cancel] at h1 ⊢;rw [Int.pow_succ];generalize (64 : Int) ^ j = P at h1 ⊢;omega
      clear HD2 hb hb' HY;go_wp2;go_round
      case rel => exact ⟨k + 1, y * 64 + (cn : Int) % 64, 128, 191, by go_num, by rfl, rfl, rfl, by omega, by omega, by omega, by omega, HY2, by decide, by decide, HD3⟩
      case measure => simp [intOf]; omega
    ·obtain rfl : k = 4 := (by omega);have hi : (4 : Int) <= 4 := Int.le_refl _
     have hy25 : y < 33554432 := by
      have h1 := HY.out;simp at h1;omega
     have HR : Hid (nextU (bs s) = (y, 4, 0)) := (by show _ = _; rw [HD.out, zek (Nat.le_refl _)]);have hw := wraps_i32 y hy0 (by omega);clear HD HY;go_wp2;go_returns;exact ⟨by rw [HR.out]; rfl, hb1⟩
 ·have he : s.toList.isEmpty = true := (by rw [zah, zlj (by omega)]; rfl);have HR : Hid (nextU (bs s) = (0, 0, 18)) := (by show _ = _; rw [zlj (by omega)]; rfl);go_enter Tryz.func48, Tryz.ntmps48;go_wp2;go_returns;exact ⟨by rw [HR.out]; rfl, Below.refl _ _⟩
end
end
section
open Go.RowKit
theorem zb5 (A : Option Addr) (c : Nat) (s : ByteArray) (w : World) (h : Rd w A 1 [.string s]) :
  Calls Tryz.prog 47 #[.slice A 1 c, .string ⟨#[]⟩] w fun e w' => e = .returned (.string s) /\ w = w' := by
 obtain ⟨b, off, rfl, hb, hc⟩ := h.at_ (by omega);have c0 : w.cell? ⟨b, off, none⟩ = some (.string s) := hc 0 _ rfl;clear hc h;go_enter Tryz.func47, Tryz.ntmps47;go_wp2;go_returns;exact ⟨rfl, rfl⟩
theorem za2 : ElemK Tryz.prog 47 128 (.agg #[.int .i64 0, .int .i64 0]) 2 16 := ⟨Tryz.underlying47, by kernel_rfl, rfl, by omega⟩
def Fs (fs : List (Int × Int)) : List Value := fs.flatMap fun f => [.int .i64 f.1, .int .i64 f.2]
theorem zg4 (a : List (Int × Int)) (x y : Int) : Fs a ++ [.int .i64 x, .int .i64 y] = Fs (a ++ [(x, y)]) := by simp [Fs]
theorem zag {w w' : World} {base k : Nat} {e : TypeId} {v : Value} {n : Nat} {xs : List Value} {row : Option Nat} (h : w.ownsRow base e k v n xs) (hg : w.grownBy w' row) (hne : ∀ b, v.ownBlock = some b -> row ≠ some b) : w'.ownsRow base e k v n xs := by
 refine ⟨h.1, ?_⟩;rcases h.2 with hn | ⟨g, cap, cur, hv, hgb, hh, rest⟩
 ·exact .inl hn
 ·refine .inr ⟨g, cap, cur, hv, hgb, (hg.block g (Array.getElem?_eq_some_iff.1 hh).1 ?_).trans hh, rest⟩;have := hne g (by rw [hv]; rfl);exact fun h => this h.symm
theorem zam {w : World} {b1 b2 k1 k2 n1 n2 : Nat} {e1 e2 : TypeId} {v1 v2 : Value} {x1 x2 : List Value} (h1 : w.ownsRow b1 e1 k1 v1 n1 x1) (h2 : w.ownsRow b2 e2 k2 v2 n2 x2) (hne : e1 ≠ e2) : ∀ b, v1.ownBlock = some b -> v2.ownBlock ≠ some b := by
 intro b hb hb2;rcases h1.2 with ⟨rfl, _⟩ | ⟨g, cap, cur, rfl, _, hh, _⟩
 ·cases hb
 ·rcases h2.2 with ⟨rfl, _⟩ | ⟨g2, cap2, cur2, rfl, _, hh2, _⟩
  ·cases hb2
  ·injection hb with hb;injection hb2 with hb2;subst hb;subst hb2;rw [hh] at hh2;injection hh2 with hh2;injection hh2 with _ hh2;exact hne hh2
def DecBP (zs : List Int) (ok : Bool) (lim : Nat) (w : World) (e : Ending) (w' : World) : Prop :=
 ∃ A c A2 n2 c2 fs, e = .returned (.tuple #[.slice A zs.length c, .slice A2 n2 c2, .int .i64 (if ok = true then 0 else 17)]) /\ w'.ownsRow w.heap.size 21 1 (.slice A zs.length c) zs.length (Rs zs) /\ w'.ownsRow w.heap.size 128 2 (.slice A2 n2 c2) n2 (Fs fs) /\ fs.length = n2 /\ n2 <= lim /\ Below w.heap.size w w'
theorem zbs (x y : Int) : ∀ u ∈ [Value.int .i64 x, Value.int .i64 y], u.oneCell' = true := by
 intro u hu;simp only [List.mem_cons, List.not_mem_nil, or_false] at hu;rcases hu with rfl | rfl <;> rfl
section
variable {w : World}
theorem decode8_any (p : Int) (hp1 : 1 <= p) (hp3 : p <= 3) (A0 : Option Addr) (c0 : Nat) (s : ByteArray) (w : World) (h0 : Rd w A0 1 [.string s]) (hU : RowsU w) (hs : s.size <= 1073741824) :
  Calls Tryz.prog 20 #[.int .i64 p, .slice A0 1 c0] w (DecBP (rdN (nextU) p (bs s)).1 (rdN (nextU) p (bs s)).2 s.size w) := by
 rcases (show p = 1 \/ p = 2 \/ p = 3 by omega) with rfl | rfl | rfl
 ·clear hp1 hp3;have JN := zb5 A0 c0 s w h0;go_enter Tryz.func20, Tryz.ntmps20;go_wp2_with fail;refine JN.mono ?_;rintro e wj ⟨rfl, rfl⟩;have HU := hz0q hU;clear JN h0 hU;go_wp2_with fail
  go_loopw [8, 9, 10] (fun v8 v9 v10 wr => ∃ (i : Nat) (A : Option Addr) (c : Nat) (A2 : Option Addr) (c2 : Nat) (zs : List Int) (fs : List (Int × Int)), v10 = .int .i64 i /\ i <= s.size /\ v8 = .slice A zs.length c /\ v9 = .slice A2 fs.length c2 /\ wr.ownsRow w.heap.size 21 1 (.slice A zs.length c) zs.length (Rs zs) /\ wr.ownsRow w.heap.size 128 2 (.slice A2 fs.length c2) fs.length (Fs fs) /\ fs.length <= i /\ zs.length <= i /\ Below w.heap.size w wr /\ Hid (rdN (nextU) 1 (bs s) = (zs ++ (rdN (nextU) 1 ((bs s).drop i)).1, (rdN (nextU) 1 ((bs s).drop i)).2)))
   (fun _ _ v10 _ => s.size - (intOf v10).toNat)
  case atStart => exact ⟨0, none, 0, none, 0, [], [], rfl, Nat.zero_le _, rfl, rfl, World.ownsRow_nil _ _ _ _, World.ownsRow_nil _ _ _ _, Nat.zero_le _, Nat.zero_le _, Below.refl _ _, by show _ = _; simp⟩
  case round =>
   obtain ⟨i, A, c, A2, c2, zs, fs, rfl, hi, rfl, rfl, ho1, ho2, hf, hz, hb, HQ0⟩ := hrel;obtain ⟨w1, rfl⟩ : ∃ w1, w1 = wr := ⟨wr, rfl⟩;have hsz := hb.size
   by_cases hlt : i < s.size
   ·have hii : (i : Int) < (s.size : Int) := by omega
    have hne : (bs s).drop i ≠ [] := by
     intro e;have := congrArg List.length e;rw [List.length_drop, ze] at this;simp at this;omega
    have hok := zcd _ hne;rw [List.length_drop, ze] at hok;have hrc := zcx (p := 1) (zcd) hne;have hbe : bs (s.extract i s.size) = (bs s).drop i := (by rw [z8, List.take_of_length_le (by rw [ze]; exact Nat.le_refl _)]);have NE := zfp (s.extract i s.size) w1 (HU.out.below hb) (by simp; omega);rw [hbe] at NE;obtain ⟨r, hr⟩ : ∃ r, r = (nextU ((bs s).drop i)).1 := ⟨_, rfl⟩;obtain ⟨n, hn⟩ : ∃ n, n = (nextU ((bs s).drop i)).2.1 := ⟨_, rfl⟩;obtain ⟨ev, hev⟩ : ∃ ev, ev = (nextU ((bs s).drop i)).2.2 := ⟨_, rfl⟩;rw [<- hr, <- hn, <- hev] at NE;rw [<- hn] at hok;have hput : putN 1 (nextU ((bs s).drop i)) = if ev = 0 then [r] else if (1 : Int) = 2 then [65533] else [] := (by rw [hr, hev]; rfl);rw [hput, <- hn, <- hev, List.drop_drop] at hrc;have HRC := hz0q hrc;have HO1 := hz0q ho1;have HO2 := hz0q ho2;have HB := hz0q hb;have hin : i + n <= s.size := (by omega);clear hr hn hev hne hbe hrc hput ho1 ho2 hb;go_wp2_with fail;refine NE.mono ?_;rintro e w3 ⟨rfl, hb3⟩;have ho1 := zl HO1.out hb3;have ho2 := zn HO2.out hb3;have hb13 := HB.out.trans (hb3.mono hsz);have hs3 : w.heap.size <= w3.heap.size := hb13.size;clear NE hb3 HO1 HO2 HB
    by_cases h0 : ev = 0
    ·subst h0
     have HQ : Hid (rdN (nextU) 1 (bs s) = ((zs ++ [r]) ++ (rdN (nextU) 1 ((bs s).drop (i + n))).1, (rdN (nextU) 1 ((bs s).drop (i + n))).2)) := by
      show _ = _;rw [HQ0.out, HRC.out];simp
     clear HQ0 HRC;have hs4 : w.heap.size <= (w3.alloc (.cells #[.int .i32 r] 21)).heap.size := (by simp; omega);have hbA : Below w.heap.size w (w3.alloc (.cells #[.int .i32 r] 21)) := hb13.alloc (by omega) _;have ho1a := zl ho1 ((Below.refl _ _).alloc (Nat.le_refl _) (.cells #[.int .i32 r] 21));have ho2a := zn ho2 ((Below.refl _ _).alloc (Nat.le_refl _) (.cells #[.int .i32 r] 21));go_wp2_with (at_builtin; refine zu zz _ rfl _ _ rfl w.heap.size rfl ho1a rfl (Rd.new1 _ _ _) (zbw rfl) (by omega) (by decide) hs4 ?_)
     intro A8 c8 w8 ho8 hg8 hat8;have ho28 := zag ho2a hg8 (zam ho2a ho1a (by decide));have HB8 := hz0q (za4 hbA hs4 ho1a hg8);rw [show Rs zs ++ [.int .i32 r] = Rs (zs ++ [r]) by simp [Rs]] at ho8;have HO8 := hz0q ho8;have HO28 := hz0q ho28;clear ho1a ho2a hg8 hat8 hbA ho8 ho28 hs4;go_wp2;go_roundw
     case rel => exact ⟨i + n, A8, c8, A2, c2, zs ++ [r], fs, by go_num, by omega, by rw [List.length_append]; rfl, rfl, by rw [List.length_append]; exact HO8.out, HO28.out, by omega, by rw [List.length_append]; simp; omega, HB8.out, HQ⟩
     case measure => simp [intOf]; omega
    ·have hev1 : ((ev : Int) != 0) = true := (by simpa using h0);have hev2 : ((ev : Int) == 0) = false := (by simpa using h0);have hs4 : w.heap.size <= (w3.alloc (.cells #[.int .i64 i, .int .i64 n] 128)).heap.size := (by simp; omega);have hbA : Below w.heap.size w (w3.alloc (.cells #[.int .i64 i, .int .i64 n] 128)) := hb13.alloc (by omega) _;have ho1a := zl ho1 ((Below.refl _ _).alloc (Nat.le_refl _) (.cells #[.int .i64 i, .int .i64 n] 128));have ho2a := zn ho2 ((Below.refl _ _).alloc (Nat.le_refl _) (.cells #[.int .i64 i, .int .i64 n] 128))
     have HQF : Hid (rdN (nextU) 1 (bs s) = (zs, false)) := by
      show _ = _;rw [HQ0.out, HRC.out];simp [h0]
     clear HQ0 HRC h0 ho1 ho2;go_wp2_with (at_builtin; refine zaz za2 _ rfl _ _ rfl w.heap.size rfl ho2a rfl (RdK.new _ _ 1 _ rfl) (zbs _ _) (by omega) (by decide) hs4 ?_)
     intro A9 c9 w9 ho9 hg9 hat9;have ho19 := zag ho1a hg9 (zam ho1a ho2a (by decide));have hb9 := zaq hbA hs4 (Nat.le_refl _) ho2a hg9;rw [zg4] at ho9;have hs9 := hb9.size;clear ho1a ho2a hg9 hat9 hbA hs4;go_wp2;go_returns;exact ⟨A, c, A9, fs.length + 1, c9, fs ++ [((i : Int), (n : Int))], by rw [HQF.out]; rfl, by rw [HQF.out]; exact ho19, ho9, by simp, by omega, hb9⟩
   ·obtain rfl : i = s.size := (by omega);have hii : (s.size : Int) <= (s.size : Int) := Int.le_refl _
    have HQ : Hid (rdN (nextU) 1 (bs s) = (zs, true)) := by
     show _ = _;rw [HQ0.out, List.drop_of_length_le (by rw [ze]; exact Nat.le_refl _), zfh];simp
    have HO1 := hz0q ho1;have HO2 := hz0q ho2;have HB := hz0q hb;clear HQ0 ho1 ho2 hb;go_wp2;go_returns;exact ⟨A, c, A2, fs.length, c2, fs, by rw [HQ.out]; rfl, by rw [HQ.out]; exact HO1.out, HO2.out, rfl, hf, HB.out⟩
 ·clear hp1 hp3;have JN := zb5 A0 c0 s w h0;go_enter Tryz.func20, Tryz.ntmps20;go_wp2_with fail;refine JN.mono ?_;rintro e wj ⟨rfl, rfl⟩;have HU := hz0q hU;clear JN h0 hU;go_wp2_with fail
  go_loopw [8, 9, 10] (fun v8 v9 v10 wr => ∃ (i : Nat) (A : Option Addr) (c : Nat) (A2 : Option Addr) (c2 : Nat) (zs : List Int) (fs : List (Int × Int)), v10 = .int .i64 i /\ i <= s.size /\ v8 = .slice A zs.length c /\ v9 = .slice A2 fs.length c2 /\ wr.ownsRow w.heap.size 21 1 (.slice A zs.length c) zs.length (Rs zs) /\ wr.ownsRow w.heap.size 128 2 (.slice A2 fs.length c2) fs.length (Fs fs) /\ fs.length <= i /\ zs.length <= i /\ Below w.heap.size w wr /\ Hid (rdN (nextU) 2 (bs s) = (zs ++ (rdN (nextU) 2 ((bs s).drop i)).1, (rdN (nextU) 2 ((bs s).drop i)).2)))
   (fun _ _ v10 _ => s.size - (intOf v10).toNat)
  case atStart => exact ⟨0, none, 0, none, 0, [], [], rfl, Nat.zero_le _, rfl, rfl, World.ownsRow_nil _ _ _ _, World.ownsRow_nil _ _ _ _, Nat.zero_le _, Nat.zero_le _, Below.refl _ _, by show _ = _; simp⟩
  case round =>
   obtain ⟨i, A, c, A2, c2, zs, fs, rfl, hi, rfl, rfl, ho1, ho2, hf, hz, hb, HQ0⟩ := hrel;obtain ⟨w1, rfl⟩ : ∃ w1, w1 = wr := ⟨wr, rfl⟩;have hsz := hb.size
   by_cases hlt : i < s.size
   ·have hii : (i : Int) < (s.size : Int) := by omega
    have hne : (bs s).drop i ≠ [] := by
     intro e;have := congrArg List.length e;rw [List.length_drop, ze] at this;simp at this;omega
    have hok := zcd _ hne;rw [List.length_drop, ze] at hok;have hrc := zcx (p := 2) (zcd) hne;have hbe : bs (s.extract i s.size) = (bs s).drop i := (by rw [z8, List.take_of_length_le (by rw [ze]; exact Nat.le_refl _)]);have NE := zfp (s.extract i s.size) w1 (HU.out.below hb) (by simp; omega);rw [hbe] at NE;obtain ⟨r, hr⟩ : ∃ r, r = (nextU ((bs s).drop i)).1 := ⟨_, rfl⟩;obtain ⟨n, hn⟩ : ∃ n, n = (nextU ((bs s).drop i)).2.1 := ⟨_, rfl⟩;obtain ⟨ev, hev⟩ : ∃ ev, ev = (nextU ((bs s).drop i)).2.2 := ⟨_, rfl⟩;rw [<- hr, <- hn, <- hev] at NE;rw [<- hn] at hok;have hput : putN 2 (nextU ((bs s).drop i)) = if ev = 0 then [r] else if (2 : Int) = 2 then [65533] else [] := (by rw [hr, hev]; rfl);rw [hput, <- hn, <- hev, List.drop_drop] at hrc;have HRC := hz0q hrc;have HO1 := hz0q ho1;have HO2 := hz0q ho2;have HB := hz0q hb;have hin : i + n <= s.size := (by omega);clear hr hn hev hne hbe hrc hput ho1 ho2 hb;go_wp2_with fail;refine NE.mono ?_;rintro e w3 ⟨rfl, hb3⟩;have ho1 := zl HO1.out hb3;have ho2 := zn HO2.out hb3;have hb13 := HB.out.trans (hb3.mono hsz);have hs3 : w.heap.size <= w3.heap.size := hb13.size;clear NE hb3 HO1 HO2 HB
    by_cases h0 : ev = 0
    ·subst h0
     have HQ : Hid (rdN (nextU) 2 (bs s) = ((zs ++ [r]) ++ (rdN (nextU) 2 ((bs s).drop (i + n))).1, (rdN (nextU) 2 ((bs s).drop (i + n))).2)) := by
      show _ = _;rw [HQ0.out, HRC.out];simp
     clear HQ0 HRC;have hs4 : w.heap.size <= (w3.alloc (.cells #[.int .i32 r] 21)).heap.size := (by simp; omega);have hbA : Below w.heap.size w (w3.alloc (.cells #[.int .i32 r] 21)) := hb13.alloc (by omega) _;have ho1a := zl ho1 ((Below.refl _ _).alloc (Nat.le_refl _) (.cells #[.int .i32 r] 21));have ho2a := zn ho2 ((Below.refl _ _).alloc (Nat.le_refl _) (.cells #[.int .i32 r] 21));go_wp2_with (at_builtin; refine zu zz _ rfl _ _ rfl w.heap.size rfl ho1a rfl (Rd.new1 _ _ _) (zbw rfl) (by omega) (by decide) hs4 ?_)
     intro A8 c8 w8 ho8 hg8 hat8;have ho28 := zag ho2a hg8 (zam ho2a ho1a (by decide));have HB8 := hz0q (za4 hbA hs4 ho1a hg8);rw [show Rs zs ++ [.int .i32 r] = Rs (zs ++ [r]) by simp [Rs]] at ho8;have HO8 := hz0q ho8;have HO28 := hz0q ho28;clear ho1a ho2a hg8 hat8 hbA ho8 ho28 hs4;go_wp2;go_roundw
     case rel => exact ⟨i + n, A8, c8, A2, c2, zs ++ [r], fs, by go_num, by omega, by rw [List.length_append]; rfl, rfl, by rw [List.length_append]; exact HO8.out, HO28.out, by omega, by rw [List.length_append]; simp; omega, HB8.out, HQ⟩
     case measure => simp [intOf]; omega
    ·have hev1 : ((ev : Int) != 0) = true := (by simpa using h0);have hev2 : ((ev : Int) == 0) = false := (by simpa using h0);have hs4 : w.heap.size <= (w3.alloc (.cells #[.int .i64 i, .int .i64 n] 128)).heap.size := (by simp; omega);have hbA : Below w.heap.size w (w3.alloc (.cells #[.int .i64 i, .int .i64 n] 128)) := hb13.alloc (by omega) _;have ho1a := zl ho1 ((Below.refl _ _).alloc (Nat.le_refl _) (.cells #[.int .i64 i, .int .i64 n] 128));have ho2a := zn ho2 ((Below.refl _ _).alloc (Nat.le_refl _) (.cells #[.int .i64 i, .int .i64 n] 128))
     have HQF : Hid (rdN (nextU) 2 (bs s) = ((zs ++ [65533]) ++ (rdN (nextU) 2 ((bs s).drop (i + n))).1, (rdN (nextU) 2 ((bs s).drop (i + n))).2)) := by
      show _ = _;rw [HQ0.out, HRC.out];simp [h0]
     clear HQ0 HRC h0 ho1 ho2;go_wp2_with (at_builtin; refine zaz za2 _ rfl _ _ rfl w.heap.size rfl ho2a rfl (RdK.new _ _ 1 _ rfl) (zbs _ _) (by omega) (by decide) hs4 ?_)
     intro A9 c9 w9 ho9 hg9 hat9;have ho19 := zag ho1a hg9 (zam ho1a ho2a (by decide));have hb9 := zaq hbA hs4 (Nat.le_refl _) ho2a hg9;rw [zg4] at ho9;have hs9 := hb9.size;clear ho1a ho2a hg9 hat9 hbA hs4;have HQ := HQF;have hs4 : w.heap.size <= (w9.alloc (.cells #[.int .i32 65533] 21)).heap.size := (by simp; omega);have hbA : Below w.heap.size w (w9.alloc (.cells #[.int .i32 65533] 21)) := hb9.alloc (by omega) _;have ho1a := zl ho19 ((Below.refl _ _).alloc (Nat.le_refl _) (.cells #[.int .i32 65533] 21));have ho2a := zn ho9 ((Below.refl _ _).alloc (Nat.le_refl _) (.cells #[.int .i32 65533] 21));go_wp2_with (at_builtin; refine zu zz _ rfl _ _ rfl w.heap.size rfl ho1a rfl (Rd.new1 _ _ _) (zbw rfl) (by omega) (by decide) hs4 ?_)
     intro A8 c8 w8 ho8 hg8 hat8;have ho28 := zag ho2a hg8 (zam ho2a ho1a (by decide));have HB8 := hz0q (za4 hbA hs4 ho1a hg8);rw [show Rs zs ++ [.int .i32 65533] = Rs (zs ++ [65533]) by simp [Rs]] at ho8;have HO8 := hz0q ho8;have HO28 := hz0q ho28;clear ho1a ho2a hg8 hat8 hbA ho8 ho28 hs4;go_wp2;go_roundw
     case rel => exact ⟨i + n, A8, c8, A9, c9, zs ++ [65533], fs ++ [((i : Int), (n : Int))], by go_num, by omega, by rw [List.length_append]; rfl, by rw [List.length_append]; rfl, by rw [List.length_append]; exact HO8.out, by rw [List.length_append]; exact HO28.out, by rw [List.length_append]; simp; omega, by rw [List.length_append]; simp; omega, HB8.out, HQ⟩
     case measure => simp [intOf]; omega
   ·obtain rfl : i = s.size := (by omega);have hii : (s.size : Int) <= (s.size : Int) := Int.le_refl _
    have HQ : Hid (rdN (nextU) 2 (bs s) = (zs, true)) := by
     show _ = _;rw [HQ0.out, List.drop_of_length_le (by rw [ze]; exact Nat.le_refl _), zfh];simp
    have HO1 := hz0q ho1;have HO2 := hz0q ho2;have HB := hz0q hb;clear HQ0 ho1 ho2 hb;go_wp2;go_returns;exact ⟨A, c, A2, fs.length, c2, fs, by rw [HQ.out]; rfl, by rw [HQ.out]; exact HO1.out, HO2.out, rfl, hf, HB.out⟩
 ·clear hp1 hp3;have JN := zb5 A0 c0 s w h0;go_enter Tryz.func20, Tryz.ntmps20;go_wp2_with fail;refine JN.mono ?_;rintro e wj ⟨rfl, rfl⟩;have HU := hz0q hU;clear JN h0 hU;go_wp2_with fail
  go_loopw [8, 9, 10] (fun v8 v9 v10 wr => ∃ (i : Nat) (A : Option Addr) (c : Nat) (A2 : Option Addr) (c2 : Nat) (zs : List Int) (fs : List (Int × Int)), v10 = .int .i64 i /\ i <= s.size /\ v8 = .slice A zs.length c /\ v9 = .slice A2 fs.length c2 /\ wr.ownsRow w.heap.size 21 1 (.slice A zs.length c) zs.length (Rs zs) /\ wr.ownsRow w.heap.size 128 2 (.slice A2 fs.length c2) fs.length (Fs fs) /\ fs.length <= i /\ zs.length <= i /\ Below w.heap.size w wr /\ Hid (rdN (nextU) 3 (bs s) = (zs ++ (rdN (nextU) 3 ((bs s).drop i)).1, (rdN (nextU) 3 ((bs s).drop i)).2)))
   (fun _ _ v10 _ => s.size - (intOf v10).toNat)
  case atStart => exact ⟨0, none, 0, none, 0, [], [], rfl, Nat.zero_le _, rfl, rfl, World.ownsRow_nil _ _ _ _, World.ownsRow_nil _ _ _ _, Nat.zero_le _, Nat.zero_le _, Below.refl _ _, by show _ = _; simp⟩
  case round =>
   obtain ⟨i, A, c, A2, c2, zs, fs, rfl, hi, rfl, rfl, ho1, ho2, hf, hz, hb, HQ0⟩ := hrel;obtain ⟨w1, rfl⟩ : ∃ w1, w1 = wr := ⟨wr, rfl⟩;have hsz := hb.size
   by_cases hlt : i < s.size
   ·have hii : (i : Int) < (s.size : Int) := by omega
    have hne : (bs s).drop i ≠ [] := by
     intro e;have := congrArg List.length e;rw [List.length_drop, ze] at this;simp at this;omega
    have hok := zcd _ hne;rw [List.length_drop, ze] at hok;have hrc := zcx (p := 3) (zcd) hne;have hbe : bs (s.extract i s.size) = (bs s).drop i := (by rw [z8, List.take_of_length_le (by rw [ze]; exact Nat.le_refl _)]);have NE := zfp (s.extract i s.size) w1 (HU.out.below hb) (by simp; omega);rw [hbe] at NE;obtain ⟨r, hr⟩ : ∃ r, r = (nextU ((bs s).drop i)).1 := ⟨_, rfl⟩;obtain ⟨n, hn⟩ : ∃ n, n = (nextU ((bs s).drop i)).2.1 := ⟨_, rfl⟩;obtain ⟨ev, hev⟩ : ∃ ev, ev = (nextU ((bs s).drop i)).2.2 := ⟨_, rfl⟩;rw [<- hr, <- hn, <- hev] at NE;rw [<- hn] at hok;have hput : putN 3 (nextU ((bs s).drop i)) = if ev = 0 then [r] else if (3 : Int) = 2 then [65533] else [] := (by rw [hr, hev]; rfl);rw [hput, <- hn, <- hev, List.drop_drop] at hrc;have HRC := hz0q hrc;have HO1 := hz0q ho1;have HO2 := hz0q ho2;have HB := hz0q hb;have hin : i + n <= s.size := (by omega);clear hr hn hev hne hbe hrc hput ho1 ho2 hb;go_wp2_with fail;refine NE.mono ?_;rintro e w3 ⟨rfl, hb3⟩;have ho1 := zl HO1.out hb3;have ho2 := zn HO2.out hb3;have hb13 := HB.out.trans (hb3.mono hsz);have hs3 : w.heap.size <= w3.heap.size := hb13.size;clear NE hb3 HO1 HO2 HB
    by_cases h0 : ev = 0
    ·subst h0
     have HQ : Hid (rdN (nextU) 3 (bs s) = ((zs ++ [r]) ++ (rdN (nextU) 3 ((bs s).drop (i + n))).1, (rdN (nextU) 3 ((bs s).drop (i + n))).2)) := by
      show _ = _;rw [HQ0.out, HRC.out];simp
     clear HQ0 HRC;have hs4 : w.heap.size <= (w3.alloc (.cells #[.int .i32 r] 21)).heap.size := (by simp; omega);have hbA : Below w.heap.size w (w3.alloc (.cells #[.int .i32 r] 21)) := hb13.alloc (by omega) _;have ho1a := zl ho1 ((Below.refl _ _).alloc (Nat.le_refl _) (.cells #[.int .i32 r] 21));have ho2a := zn ho2 ((Below.refl _ _).alloc (Nat.le_refl _) (.cells #[.int .i32 r] 21));go_wp2_with (at_builtin; refine zu zz _ rfl _ _ rfl w.heap.size rfl ho1a rfl (Rd.new1 _ _ _) (zbw rfl) (by omega) (by decide) hs4 ?_)
     intro A8 c8 w8 ho8 hg8 hat8;have ho28 := zag ho2a hg8 (zam ho2a ho1a (by decide));have HB8 := hz0q (za4 hbA hs4 ho1a hg8);rw [show Rs zs ++ [.int .i32 r] = Rs (zs ++ [r]) by simp [Rs]] at ho8;have HO8 := hz0q ho8;have HO28 := hz0q ho28;clear ho1a ho2a hg8 hat8 hbA ho8 ho28 hs4;go_wp2;go_roundw
     case rel => exact ⟨i + n, A8, c8, A2, c2, zs ++ [r], fs, by go_num, by omega, by rw [List.length_append]; rfl, rfl, by rw [List.length_append]; exact HO8.out, HO28.out, by omega, by rw [List.length_append]; simp; omega, HB8.out, HQ⟩
     case measure => simp [intOf]; omega
    ·have hev1 : ((ev : Int) != 0) = true := (by simpa using h0);have hev2 : ((ev : Int) == 0) = false := (by simpa using h0);have hs4 : w.heap.size <= (w3.alloc (.cells #[.int .i64 i, .int .i64 n] 128)).heap.size := (by simp; omega);have hbA : Below w.heap.size w (w3.alloc (.cells #[.int .i64 i, .int .i64 n] 128)) := hb13.alloc (by omega) _;have ho1a := zl ho1 ((Below.refl _ _).alloc (Nat.le_refl _) (.cells #[.int .i64 i, .int .i64 n] 128));have ho2a := zn ho2 ((Below.refl _ _).alloc (Nat.le_refl _) (.cells #[.int .i64 i, .int .i64 n] 128))
     have HQF : Hid (rdN (nextU) 3 (bs s) = (zs ++ (rdN (nextU) 3 ((bs s).drop (i + n))).1, (rdN (nextU) 3 ((bs s).drop (i + n))).2)) := by
      show _ = _;rw [HQ0.out, HRC.out];simp [h0]
     clear HQ0 HRC h0 ho1 ho2;go_wp2_with (at_builtin; refine zaz za2 _ rfl _ _ rfl w.heap.size rfl ho2a rfl (RdK.new _ _ 1 _ rfl) (zbs _ _) (by omega) (by decide) hs4 ?_)
     intro A9 c9 w9 ho9 hg9 hat9;have ho19 := zag ho1a hg9 (zam ho1a ho2a (by decide));have hb9 := zaq hbA hs4 (Nat.le_refl _) ho2a hg9;rw [zg4] at ho9;have hs9 := hb9.size;clear ho1a ho2a hg9 hat9 hbA hs4;have HO9 := hz0q ho9;have HO19 := hz0q ho19;have HB9 := hz0q hb9;clear ho9 ho19 hb9;go_wp2;go_roundw
     case rel => exact ⟨i + n, A, c, A9, c9, zs, fs ++ [((i : Int), (n : Int))], by go_num, by omega, rfl, by rw [List.length_append]; rfl, HO19.out, by rw [List.length_append]; exact HO9.out, by rw [List.length_append]; simp; omega, by omega, HB9.out, HQF⟩
     case measure => simp [intOf]; omega
   ·obtain rfl : i = s.size := (by omega);have hii : (s.size : Int) <= (s.size : Int) := Int.le_refl _
    have HQ : Hid (rdN (nextU) 3 (bs s) = (zs, true)) := by
     show _ = _;rw [HQ0.out, List.drop_of_length_le (by rw [ze]; exact Nat.le_refl _), zfh];simp
    have HO1 := hz0q ho1;have HO2 := hz0q ho2;have HB := hz0q hb;clear HQ0 ho1 ho2 hb;go_wp2;go_returns;exact ⟨A, c, A2, fs.length, c2, fs, by rw [HQ.out]; rfl, by rw [HQ.out]; exact HO1.out, HO2.out, rfl, hf, HB.out⟩
end
end
section
open Go.RowKit
def fvW (k : Int) : Value := .agg #[.int .i64 (sizeW k), .bool (bigW k), .bool (decide (k <= 2))]
theorem zca (k : Int) (h1 : 1 <= k) (h4 : k <= 4) (w : World) : Calls Tryz.prog 173 #[.int .i64 k] w fun e w' => e = .returned (.tuple #[fvW k, .bool true]) /\ Below w.heap.size w w' := by
 rcases (show k = 1 \/ k = 2 \/ k = 3 \/ k = 4 by omega) with rfl | rfl | rfl | rfl
 all_goals
  clear h1 h4;go_enter Tryz.func173, Tryz.ntmps173;go_wp2;go_returns;exact ⟨rfl, ((Below.refl _ w).alloc (Nat.le_refl _) _).alloc (by simp) _⟩
def foldB (l : List UInt8) : Nat := l.foldl (fun n b => n * 256 + b.toNat) 0
theorem foldB_snoc (l : List UInt8) (b : UInt8) : foldB (l ++ [b]) = foldB l * 256 + b.toNat := by simp [foldB]
theorem zlb : ∀ (l : List UInt8) (n : Nat), l.foldl (fun n b => n * 256 + b.toNat) n < (n + 1) * 256 ^ l.length
 | [], n => by simp
 | b :: t, n => by
  have h := zlb t (n * 256 + b.toNat);have hb := b.toNat_lt;rw [List.foldl_cons, List.length_cons, Nat.pow_succ];refine Nat.lt_of_lt_of_le h ?_;rw [Nat.mul_comm (256 ^ t.length) 256, <- Nat.mul_assoc];exact Nat.mul_le_mul_right _ (by omega)
theorem zla (l : List UInt8) : foldB l < 256 ^ l.length := by
 have := zlb l 0;simpa [foldB] using this
def seqW (big : Bool) (z : Nat) (l : List UInt8) : List UInt8 := if big = true then l.take z else (l.take z).reverse
theorem getW_seq (big : Bool) (z : Nat) (l : List UInt8) : getW big (l.take z) = foldB (seqW big z l) := rfl
theorem zki {big : Bool} {z : Nat} {l : List UInt8} (h : z <= l.length) : (seqW big z l).length = z := by
 unfold seqW;split <;> simp <;> omega
theorem zhv (k : Int) {s : List UInt8} (h : sizeW k <= s.length) : unitW k s < 256 ^ sizeW k := by
 have := zla (seqW (bigW k) (sizeW k) s);rw [zki h] at this;exact this
theorem zfy (big : Bool) (z : Nat) (hz : z <= 4) (s : ByteArray) (hzs : z <= s.size) (w : World) : Calls Tryz.prog 174 #[.agg #[.int .i64 z, .bool big], .string s] w fun e w' => e = .returned (.int .i64 (getW big ((bs s).take z))) /\ Below w.heap.size w w' := by
 have hb0 : Below w.heap.size w (w.alloc (.cells #[.int .i64 z, .bool big] 299)) := (Below.refl _ _).alloc (Nat.le_refl _) _;have HB := hz0q hb0;have hx : (w.alloc (.cells #[.int .i64 z, .bool big] 299)).heap[w.heap.size]? = some (.cells #[.int .i64 z, .bool big] 299 (0, 0)) := zj w _ _;have c0 := za hx 0 rfl;have c1 := za hx 1 rfl;have HL : Hid ((seqW big z (bs s)).length = z) := zki (by rw [ze]; exact hzs);rw [getW_seq];clear hb0 hx;go_enter Tryz.func174, Tryz.ntmps174;go_wp2_with fail;go_loop [5, 10] (fun vn vi => ∃ (i n : Nat), vi = .int .i64 i /\ vn = .int .i64 n /\ i <= z /\ Hid (n = foldB ((seqW big z (bs s)).take i))) (fun _ vi => z - (intOf vi).toNat)
 case atStart => exact ⟨0, 0, rfl, rfl, Nat.zero_le _, rfl⟩
 case round =>
  obtain ⟨i, n, rfl, rfl, hi, HN⟩ := hrel
  by_cases hlt : i < z
  ·have hii : (i : Int) < (z : Int) := (by omega);obtain ⟨c, hc⟩ : ∃ c, (seqW big z (bs s))[i]? = some c := ⟨_, List.getElem?_eq_getElem (by rw [HL.out]; exact hlt)⟩
   have hn24 : n < 16777216 := by
    have h1 := zla ((seqW big z (bs s)).take i);rw [<- HN.out, List.length_take, HL.out, Nat.min_eq_left (by omega)] at h1;have h2 : (256 : Nat) ^ i <= 256 ^ 3 := Nat.pow_le_pow_right (by decide) (by omega);omega
   have HN2 : Hid (n * 256 + c.toNat = foldB ((seqW big z (bs s)).take (i + 1))) := by
    show _ = _;rw [List.take_add_one, hc];show _ = foldB (_ ++ [c]);rw [foldB_snoc, <- HN.out]
   have hc2 := c.toNat_lt;obtain ⟨cn, hcn⟩ : ∃ cn, cn = c.toNat := ⟨_, rfl⟩;have hs0 : i < s.size := (by omega);have hsi : (i : Int) < (s.size : Int) := by omega
   cases big with
   | true =>
    have hcz : ((s[i]'hs0).toNat : Int) = (cn : Int) := by
     have h1 : (bs s)[i]? = some c := by
      have : (seqW true z (bs s))[i]? = (bs s)[i]? := (by unfold seqW; rw [if_pos rfl, List.getElem?_take, if_pos hlt]);rw [<- this]; exact hc
     rw [zlk s i hs0] at h1;injection h1 with h1;rw [h1, hcn]
    have e2 : bits .or .i64 ((n : Int) * 256) (cn : Int) = (n : Int) * 256 + (cn : Int) := zmk n _ (by omega) (by omega) (by omega) (by omega);rw [<- hcn] at HN2 hc2;clear hc hcn HN;go_wp2;go_round
    case rel => exact ⟨i + 1, n * 256 + cn, by go_num, by first | rfl | (simp; done), by omega, HN2⟩
    case measure => simp [intOf]; omega
   | false =>
    obtain ⟨j, hj⟩ : ∃ j : Nat, (z : Int) - 1 - (i : Int) = (j : Int) := ⟨z - 1 - i, by omega⟩;have hjs : j < s.size := (by omega);have hji : (j : Int) < (s.size : Int) := by omega
    have hcz : ((s[j]'hjs).toNat : Int) = (cn : Int) := by
     have h1 : (bs s)[j]? = some c := by
      have h2 : (seqW false z (bs s))[i]? = (bs s)[j]? := by
       unfold seqW;rw [if_neg (by simp), List.getElem?_reverse (by rw [List.length_take, ze]; omega), List.length_take, ze, List.getElem?_take, if_pos (by omega)];congr 1;omega
      rw [<- h2]; exact hc
     rw [zlk s j hjs] at h1;injection h1 with h1;rw [h1, hcn]
    have e2 : bits .or .i64 ((n : Int) * 256) (cn : Int) = (n : Int) * 256 + (cn : Int) := zmk n _ (by omega) (by omega) (by omega) (by omega);rw [<- hcn] at HN2 hc2;clear hc hcn HN;go_wp2;go_round
    case rel => exact ⟨i + 1, n * 256 + cn, by go_num, by first | rfl | (simp; done), by omega, HN2⟩
    case measure => simp [intOf]; omega
  ·obtain rfl : i = z := (by omega);have hii : (i : Int) <= (i : Int) := Int.le_refl _;have HR : Hid (n = foldB (seqW big i (bs s))) := (by show _ = _; rw [HN.out, List.take_of_length_le (by rw [HL.out]; exact Nat.le_refl _)]);clear HN;go_wp2;go_returns;exact ⟨by rw [<- HR.out]; rfl, HB.out⟩
end
section
open Go.RowKit
theorem zge {k : Int} {s : List UInt8} (h : s.length < sizeW k) : nextW k s = (0, s.length, 18) := by unfold nextW; rw [if_pos h]
theorem zb1 (n : Nat) : zaa (n : Int) = (!(decide (1114111 < n) || (decide (55296 <= n) && decide (n <= 57343)))) := by
 unfold zaa
 by_cases h1 : 1114111 < n <;> by_cases h2 : 55296 <= n <;> by_cases h3 : n <= 57343 <;> simp [h1, h2, h3] <;> omega
section
variable {w : World}
theorem zfx (k : Int) (h1 : 1 <= k) (h4 : k <= 4) (s : ByteArray) (w : World) (hs : s.size <= 1073741824) :
  Calls Tryz.prog 175 #[fvW k, .string s] w fun e w' => e = .returned (.tuple #[.int .i32 (nextW k (bs s)).1, .int .i64 (nextW k (bs s)).2.1, .int .i64 (nextW k (bs s)).2.2]) /\ Below w.heap.size w w' := by
 obtain ⟨big, hbig⟩ : ∃ big, big = bigW k := ⟨_, rfl⟩;have hl := ze s;have HBG := hz0q hbig;clear hbig
 by_cases hk : k <= 2
 ·have hv : fvW k = .agg #[.int .i64 2, .bool big, .bool true] := (by unfold fvW; rw [za9 hk, <- HBG.out, decide_eq_true hk]; rfl);rw [hv];have hb0 : Below w.heap.size w (w.alloc (.cells #[.int .i64 2, .bool big, .bool true] 301)) := (Below.refl _ _).alloc (Nat.le_refl _) _;have hx : (w.alloc (.cells #[.int .i64 2, .bool big, .bool true] 301)).heap[w.heap.size]? = some (.cells #[.int .i64 2, .bool big, .bool true] 301 (0, 0)) := zj w _ _
  have GT : ∀ (t : ByteArray) W, 2 <= t.size -> Calls Tryz.prog 174 #[.agg #[.int .i64 2, .bool big], .string t] W fun e w' => e = .returned (.int .i64 (unitW k (bs t))) /\ Below W.heap.size W w' := fun t W ht => by
   have h := zfy big 2 (by omega) t ht W;unfold unitW;rw [za9 hk, <- HBG.out];exact h
  by_cases hs2 : s.size < 2
  ·have c0 := za hx 0 rfl;have hsi : (s.size : Int) < 2 := (by omega);have HR : Hid (nextW k (bs s) = (0, s.size, 18)) := (by show _ = _; rw [zge (by rw [za9 hk, hl]; exact hs2), hl]);clear GT hx;go_enter Tryz.func175, Tryz.ntmps175;go_wp2;go_returns;exact ⟨by rw [HR.out]; rfl, hb0⟩
  have hsi : ¬ (s.size : Int) < 2 := (by omega);have c0 := za hx 0 rfl;have c1 := za hx 1 rfl;have G1 := GT s (w.alloc (.cells #[.int .i64 2, .bool big, .bool true] 301)) (by omega);have hnl : unitW k (bs s) < 256 ^ 2 := (by have := zhv k (s := bs s) (by rw [za9 hk, hl]; omega); rwa [za9 hk] at this);obtain ⟨n, hn⟩ : ∃ n, n = unitW k (bs s) := ⟨_, rfl⟩;rw [<- hn] at hnl G1;have HNX := hz0q (zj2 hk (s := bs s) (by rw [hl]; omega));have HN := hz0q hn;have HX := hz0q hx;have HB0 := hz0q hb0;clear hn hx hb0;go_enter Tryz.func175, Tryz.ntmps175;go_wp2_with fail;refine G1.mono ?_;rintro e w1 ⟨rfl, hb1⟩;have hb01 := zb HB0.out hb1;have c0 := za (zd HX.out hb1) 0 rfl;have c1 := za (zd HX.out hb1) 1 rfl;have c2 := za (zd HX.out hb1) 2 rfl;have HX1 := hz0q (zd HX.out hb1);have HB01 := hz0q hb01;clear G1 hb1 hb01
  by_cases hp : 55296 <= n /\ n < 56320
  ·have q1 : (55296 : Int) <= (n : Int) := (by omega);have q2 : (n : Int) < 56320 := by omega
   by_cases hs4 : s.size < 4
   ·have q3 : (s.size : Int) < 4 := (by omega);have HR : Hid (nextW k (bs s) = (0, s.size, 18)) := (by show _ = _; rw [HNX.out, <- HN.out, if_pos hp, if_pos (by rw [hl]; exact hs4), hl]);clear HNX GT hp hs4 hs2 hk hv;go_wp2;go_returns;exact ⟨by rw [HR.out]; rfl, HB01.out⟩
   ·have q4 : decide ((s.size : Int) < 4) = false := (by simp; omega);have hbe : bs (s.extract 2 s.size) = (bs s).drop 2 := by rw [z8, List.take_of_length_le (by rw [hl]; exact Nat.le_refl _)]
    have G2 : Hid (∀ W, Calls Tryz.prog 174 #[.agg #[.int .i64 2, .bool big], .string (s.extract 2 s.size)] W fun e w' => e = .returned (.int .i64 (unitW k ((bs s).drop 2))) /\ Below W.heap.size W w') := by
     show ∀ W, _;intro W;have h := GT (s.extract 2 s.size) W (by simp; omega);rwa [hbe] at h
    have hml : unitW k ((bs s).drop 2) < 256 ^ 2 := (by have := zhv k (s := (bs s).drop 2) (by rw [za9 hk, List.length_drop, hl]; omega); rwa [za9 hk] at this);obtain ⟨m, hm⟩ : ∃ m, m = unitW k ((bs s).drop 2) := ⟨_, rfl⟩;rw [<- hm] at G2 hml;have HM := hz0q hm;have h2s : (2 : Int) <= (s.size : Int) := by omega
    have HNX2 : Hid (nextW k (bs s) = if 56320 <= m /\ m < 57344 then (65536 + ((n : Int) - 55296) * 1024 + m - 56320, 4, 0) else (0, 2, 17)) := by
     show _ = _;rw [HNX.out, <- HN.out, if_pos hp, if_neg (by rw [hl]; exact hs4), <- HM.out]
    clear GT hbe hm HNX hp hs4 hs2 hk hv;go_upto_region 7 with fail
    go_cut [8] from 41 to 86 (fun s8 wx => s8 = .int .i64 m /\ ∃ W, W = wx /\ Hid (Below w1.heap.size w1 W))
    case first =>
     go_region_with (refine (G2.out _).mono ?_; rintro e w3 ⟨rfl, hb3⟩)
     all_goals
      first | go_meet | (go_wp2; go_meet)
      case rel => exact ⟨rfl, _, rfl, zb (Drew.to ⟨1, rfl⟩ : Below w1.heap.size w1 w1.drew) hb3⟩
    case rest =>
    obtain ⟨rfl, w3, rfl, HB13⟩ := hcut;have hb13 := HB13.out;have c0 := za (zd HX1.out hb13) 0 rfl;have HB3 := hz0q (zb HB01.out hb13);clear hb13 G2
    by_cases hm1 : m < 56320
    ·have p1 : ¬ (56320 : Int) <= (m : Int) := (by omega);have HR : Hid (nextW k (bs s) = (0, 2, 17)) := (by show _ = _; rw [HNX2.out, if_neg (by omega)]);clear HNX2;try clear hm1
     try clear hm2
     go_wp2;go_quiet (fail)
     go_wp2;go_returns;exact ⟨by rw [HR.out]; rfl, zh HB3.out _⟩
    by_cases hm2 : m < 57344
    ·have p1 : (56320 : Int) <= (m : Int) := (by omega);have p2 : (m : Int) < 57344 := (by omega);have HR : Hid (nextW k (bs s) = (65536 + ((n : Int) - 55296) * 1024 + m - 56320, 4, 0)) := (by show _ = _; rw [HNX2.out, if_pos (by omega)]);have e1 : IntKind.i32.wrap (65536 + ((n : Int) - 55296) * 1024 + (m : Int) - 56320) = 65536 + ((n : Int) - 55296) * 1024 + (m : Int) - 56320 := wraps_i32 _ (by omega) (by omega);clear HNX2;try clear hm1
     try clear hm2
     go_wp2;go_quiet (fail)
     go_wp2;go_returns;exact ⟨by rw [HR.out]; rfl, zh HB3.out _⟩
    ·have p1 : (56320 : Int) <= (m : Int) := (by omega);have p2 : ¬ (m : Int) < 57344 := (by omega);have HR : Hid (nextW k (bs s) = (0, 2, 17)) := (by show _ = _; rw [HNX2.out, if_neg (by omega)]);clear HNX2;try clear hm1
     try clear hm2
     go_wp2;go_quiet (fail)
     go_wp2;go_returns;exact ⟨by rw [HR.out]; rfl, zh HB3.out _⟩
  by_cases hp1 : 55296 <= n
  ·have q1 : (55296 : Int) <= (n : Int) := (by omega);have q2 : decide ((n : Int) < 56320) = false := (by simp; omega);have hnm : decide ((1114111 : Int) < (n : Int)) = false := (by simp; omega);have SC := fun W => zaj (n : Int) W;have e1 : IntKind.i32.wrap (n : Int) = (n : Int) := wraps_i32 _ (by omega) (by omega)
   by_cases hsc : 55296 <= n /\ n <= 57343
   ·have hsb : zaa (n : Int) = false := (by rw [zb1]; simp; omega);rw [hsb] at SC;have HR : Hid (nextW k (bs s) = (0, 2, 17)) := (by show _ = _; rw [HNX.out, <- HN.out, if_neg hp, if_pos (.inr hsc)]);clear HNX GT hsc hsb hs2 hk hv;try clear hp
    try clear hp1
    try clear hbg
    go_upto_region 12 with (go_at_call 64; refine (SC _).mono ?_; rintro e w' ⟨rfl, rfl⟩)
    go_quiet (fail)
    go_wp2;go_returns;exact ⟨by rw [HR.out]; rfl, zh HB01.out _⟩
   ·have hsb : zaa (n : Int) = true := (by rw [zb1]; simp; omega);rw [hsb] at SC;have HR : Hid (nextW k (bs s) = ((n : Int), 2, 0)) := (by show _ = _; rw [HNX.out, <- HN.out, if_neg hp, if_neg (by omega)]);clear HNX GT hsc hsb hs2 hk hv;try clear hp
    try clear hp1
    try clear hbg
    go_upto_region 13 with (go_at_call 64; refine (SC _).mono ?_; rintro e w' ⟨rfl, rfl⟩)
    go_quiet (fail)
    go_wp2;go_returns;exact ⟨by rw [HR.out]; rfl, zh HB01.out _⟩
  ·have q1 : decide ((55296 : Int) <= (n : Int)) = false := (by simp; omega);have hnm : decide ((1114111 : Int) < (n : Int)) = false := (by simp; omega);have SC := fun W => zaj (n : Int) W;have e1 : IntKind.i32.wrap (n : Int) = (n : Int) := wraps_i32 _ (by omega) (by omega)
   by_cases hsc : 55296 <= n /\ n <= 57343
   ·have hsb : zaa (n : Int) = false := (by rw [zb1]; simp; omega);rw [hsb] at SC;have HR : Hid (nextW k (bs s) = (0, 2, 17)) := (by show _ = _; rw [HNX.out, <- HN.out, if_neg hp, if_pos (.inr hsc)]);clear HNX GT hsc hsb hs2 hk hv;try clear hp
    try clear hp1
    try clear hbg
    go_upto_region 12 with (go_at_call 64; refine (SC _).mono ?_; rintro e w' ⟨rfl, rfl⟩)
    go_quiet (fail)
    go_wp2;go_returns;exact ⟨by rw [HR.out]; rfl, zh HB01.out _⟩
   ·have hsb : zaa (n : Int) = true := (by rw [zb1]; simp; omega);rw [hsb] at SC;have HR : Hid (nextW k (bs s) = ((n : Int), 2, 0)) := (by show _ = _; rw [HNX.out, <- HN.out, if_neg hp, if_neg (by omega)]);clear HNX GT hsc hsb hs2 hk hv;try clear hp
    try clear hp1
    try clear hbg
    go_upto_region 13 with (go_at_call 64; refine (SC _).mono ?_; rintro e w' ⟨rfl, rfl⟩)
    go_quiet (fail)
    go_wp2;go_returns;exact ⟨by rw [HR.out]; rfl, zh HB01.out _⟩
 ·have hv : fvW k = .agg #[.int .i64 4, .bool big, .bool false] := (by unfold fvW; rw [zci hk, <- HBG.out, decide_eq_false hk]; rfl);rw [hv];have hb0 : Below w.heap.size w (w.alloc (.cells #[.int .i64 4, .bool big, .bool false] 301)) := (Below.refl _ _).alloc (Nat.le_refl _) _;have hx : (w.alloc (.cells #[.int .i64 4, .bool big, .bool false] 301)).heap[w.heap.size]? = some (.cells #[.int .i64 4, .bool big, .bool false] 301 (0, 0)) := zj w _ _
  have GT : ∀ (t : ByteArray) W, 4 <= t.size -> Calls Tryz.prog 174 #[.agg #[.int .i64 4, .bool big], .string t] W fun e w' => e = .returned (.int .i64 (unitW k (bs t))) /\ Below W.heap.size W w' := fun t W ht => by
   have h := zfy big 4 (by omega) t ht W;unfold unitW;rw [zci hk, <- HBG.out];exact h
  by_cases hs2 : s.size < 4
  ·have c0 := za hx 0 rfl;have hsi : (s.size : Int) < 4 := (by omega);have HR : Hid (nextW k (bs s) = (0, s.size, 18)) := (by show _ = _; rw [zge (by rw [zci hk, hl]; exact hs2), hl]);clear GT hx;go_enter Tryz.func175, Tryz.ntmps175;go_wp2;go_returns;exact ⟨by rw [HR.out]; rfl, hb0⟩
  have hsi : ¬ (s.size : Int) < 4 := (by omega);have c0 := za hx 0 rfl;have c1 := za hx 1 rfl;have G1 := GT s (w.alloc (.cells #[.int .i64 4, .bool big, .bool false] 301)) (by omega);have hnl : unitW k (bs s) < 256 ^ 4 := (by have := zhv k (s := bs s) (by rw [zci hk, hl]; omega); rwa [zci hk] at this);obtain ⟨n, hn⟩ : ∃ n, n = unitW k (bs s) := ⟨_, rfl⟩;rw [<- hn] at hnl G1;have HNX := hz0q (zj1 hk (s := bs s) (by rw [hl]; omega));have HN := hz0q hn;have HX := hz0q hx;have HB0 := hz0q hb0;clear hn hx hb0;go_enter Tryz.func175, Tryz.ntmps175;go_wp2_with fail;refine G1.mono ?_;rintro e w1 ⟨rfl, hb1⟩;have hb01 := zb HB0.out hb1;have c0 := za (zd HX.out hb1) 0 rfl;have c1 := za (zd HX.out hb1) 1 rfl;have c2 := za (zd HX.out hb1) 2 rfl;have HX1 := hz0q (zd HX.out hb1);have HB01 := hz0q hb01;clear G1 hb1 hb01
  by_cases hbg : 1114111 < n
  ·have hnm : (1114111 : Int) < (n : Int) := (by omega);have HR : Hid (nextW k (bs s) = (0, 4, 17)) := (by show _ = _; rw [HNX.out, <- HN.out, if_pos (.inl hbg)]);clear HNX GT;go_wp2;go_quiet (fail)
   go_wp2;go_returns;exact ⟨by rw [HR.out]; rfl, zh HB01.out _⟩
  ·have hnm : decide ((1114111 : Int) < (n : Int)) = false := (by simp; omega);have SC := fun W => zaj (n : Int) W;have e1 : IntKind.i32.wrap (n : Int) = (n : Int) := wraps_i32 _ (by omega) (by omega)
   by_cases hsc : 55296 <= n /\ n <= 57343
   ·have hsb : zaa (n : Int) = false := (by rw [zb1]; simp; omega);rw [hsb] at SC;have HR : Hid (nextW k (bs s) = (0, 4, 17)) := (by show _ = _; rw [HNX.out, <- HN.out, if_pos (.inr hsc)]);clear HNX GT hsc hsb hs2 hk hv;try clear hp
    try clear hp1
    try clear hbg
    go_upto_region 12 with (go_at_call 64; refine (SC _).mono ?_; rintro e w' ⟨rfl, rfl⟩)
    go_quiet (fail)
    go_wp2;go_returns;exact ⟨by rw [HR.out]; rfl, zh HB01.out _⟩
   ·have hsb : zaa (n : Int) = true := (by rw [zb1]; simp; omega);rw [hsb] at SC;have HR : Hid (nextW k (bs s) = ((n : Int), 4, 0)) := (by show _ = _; rw [HNX.out, <- HN.out, if_neg (by omega)]);clear HNX GT hsc hsb hs2 hk hv;try clear hp
    try clear hp1
    try clear hbg
    go_upto_region 13 with (go_at_call 64; refine (SC _).mono ?_; rintro e w' ⟨rfl, rfl⟩)
    go_quiet (fail)
    go_wp2;go_returns;exact ⟨by rw [HR.out]; rfl, zh HB01.out _⟩
end
end
end Go.Proofs.YtolcabjkbefjgaaGreatDoor
