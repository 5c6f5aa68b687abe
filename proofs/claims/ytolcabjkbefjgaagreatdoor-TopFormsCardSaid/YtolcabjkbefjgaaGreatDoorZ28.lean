/- Rows of a file: plain laws. Rows of two texts, one behind the other: plain laws. Rows rise, and may be; what sets tell rises: plain laws. Lists of lists of characters in memory; how decomp.Runs cuts: plain. -/
import Derived.Test.YtolcabjkbefjgaaGreatDoorZ22
import Derived.Shelf.SlIter.Collect
import Derived.Shelf.SlIterI.Keys
import Derived.RangeFuncBound
import Derived.RangeFuncNested
set_option linter.unusedSimpArgs false
set_option linter.unusedVariables false
set_option maxRecDepth 20000
set_option maxHeartbeats 4000000
section
section
namespace Go.Proofs.YtolcabjkbefjgaaGreatDoor
open Go.RowKit
theorem zis {P : RowS -> Prop} (hp : ∀ l, (zaf l).2 = 0 -> P (zaf l).1) (hc : ∀ f x, P f -> P x -> ¬ zc6 f x -> P (zfi f x)) :
  ∀ (ls : List (Int × List UInt8)) (st : StU), (∀ x ∈ st.out, P x) -> (∀ f, st.op = some f -> P f) -> ∀ x ∈ (rowsW st ls).1.out, P x
 | [], st, ho, hf => ho
 | p :: ls, st, ho, hf => by
  have key : (∀ x ∈ (takeS st p.2).1.out, P x) /\ ∀ f, (takeS st p.2).1.op = some f -> P f := by
   unfold takeS;split
   ·exact ⟨ho, hf⟩
   ·have hx := hp p.2 (by simpa using ‹¬ (zaf p.2).2 ≠ 0›);generalize (zaf p.2).1 = x at *;unfold takeR zcp freeS;split
    ·rename_i f hst;split
     ·exact ⟨ho, hf⟩
     ·split
      ·exact ⟨ho, hf⟩
      ·refine ⟨fun y hy => ?_, fun f h => absurd h (by simp)⟩;rcases List.mem_append.1 hy with hy | hy
       ·exact ho y hy
       ·rw [List.mem_singleton] at hy;subst hy;exact hc f x (hf f hst) hx (by assumption)
    ·split
     ·exact ⟨ho, hf⟩
     ·split
      ·exact ⟨ho, hf⟩
      ·split
       ·exact ⟨ho, fun f h => by injection h with h; subst h; exact hx⟩
       ·refine ⟨fun y hy => ?_, fun f h => absurd h (by simp)⟩;rcases List.mem_append.1 hy with hy | hy
        ·exact ho y hy
        ·rw [List.mem_singleton] at hy;subst hy;exact hx
  by_cases he : (takeS st p.2).2 = 0
  ·rw [zdr he];exact zis hp hc ls _ key.1 key.2
  ·rw [zep he];exact ho
theorem rowsS_all {P : RowS -> Prop} (hp : ∀ l, (zaf l).2 = 0 -> P (zaf l).1) (hc : ∀ f x, P f -> P x -> ¬ zc6 f x -> P (zfi f x)) (s : List UInt8) : ∀ x ∈ (rowsS s).1, P x := by
 unfold rowsS endU;split
 ·intro x hx; simp at hx
 ·split
  ·intro x hx; simp at hx
  ·split
   ·intro x hx; simp at hx
   ·exact zis hp hc _ _ (fun x hx => by simp at hx) (fun f h => by simp at h)
theorem takeS_len (st : StU) (l : List UInt8) : (takeS st l).1.out.length <= st.out.length + 1 := by
 unfold takeS;split
 ·exact Nat.le_succ _
 ·generalize (zaf l).1 = x;unfold takeR zcp freeS;repeat' split
  all_goals simp
theorem zir : ∀ (ls : List (Int × List UInt8)) (st : StU), (rowsW st ls).1.out.length <= st.out.length + ls.length
 | [], st => by simp [rowsW]
 | p :: ls, st => by
  have h1 := takeS_len st p.2
  by_cases he : (takeS st p.2).2 = 0
  ·rw [zdr he];have := zir ls (takeS st p.2).1;simp only [List.length_cons];omega
  ·rw [zep he];simp only [];omega
theorem zit (s : List UInt8) : (rowsS s).1.length <= 4096 := by
 have hl := (zgn s).2;unfold rowsS endU;split
 ·simp
 ·split
  ·simp
  ·split
   ·simp
   ·have := zir (zbo s).1 ⟨[], none, -1⟩;simp only [List.length_nil] at this;show (rowsW ⟨[], none, -1⟩ (zbo s).1).1.out.length <= 4096;omega
end Go.Proofs.YtolcabjkbefjgaaGreatDoor
end
section
namespace Go.Proofs.YtolcabjkbefjgaaGreatDoor
open Go.RowKit
def zjb (l : List RowS) : Int := match l.getLast? with | some x => x.up | none => -1
theorem zgo (l : List RowS) (x : RowS) : zjb (l ++ [x]) = x.up := by simp [zjb]
theorem parse_up (l : List UInt8) : (zaf l).1.up = (zaf l).1.fr := by
 unfold zaf zi1;repeat' split
 all_goals rfl
theorem take_cases {st : StU} {l : List UInt8} (h : (takeS st l).2 = 0) :
  (∃ f, st.op = some f /\ ¬ zc6 f (zaf l).1 /\ (takeS st l).1 = ⟨st.out ++ [zfi f (zaf l).1], none, (zaf l).1.fr⟩) \/
  (st.op = none /\ st.was < (zaf l).1.fr /\ ((takeS st l).1 = ⟨st.out, some (zaf l).1, st.was⟩ \/ (takeS st l).1 = ⟨st.out ++ [(zaf l).1], none, (zaf l).1.fr⟩)) := by
 have hp : (zaf l).2 = 0 := by
  by_cases hp : (zaf l).2 = 0
  ·exact hp
  ·exfalso;unfold takeS at h;rw [if_pos hp] at h;exact hp h
 have ht : takeS st l = takeR st (zaf l).1 := (by unfold takeS; rw [if_neg (by rw [hp]; simp)]);rw [ht] at h ⊢;generalize (zaf l).1 = x at *;unfold takeR at *
 cases hst : st.op with
 | some f =>
  simp only [hst] at h ⊢;refine .inl ⟨f, rfl, ?_⟩;split at h
  ·simp at h
  ·rename_i hi;rw [if_neg hi];unfold zcp at *;split at h
   ·simp at h
   ·rename_i hc;rw [if_neg hc];exact ⟨hc, rfl⟩
 | none =>
  simp only [hst] at h ⊢;refine .inr ⟨by trivial, ?_⟩;split at h
  ·simp at h
  ·rename_i hi;rw [if_neg hi];unfold freeS at *;split at h
   ·simp at h
   ·rename_i hw;rw [if_neg hw];refine ⟨by omega, ?_⟩;split
    ·exact .inl rfl
    ·exact .inr rfl
end Go.Proofs.YtolcabjkbefjgaaGreatDoor
end
end
namespace Go.Proofs.YtolcabjkbefjgaaGreatDoor
section
open Go.RowKit
structure RowV (x : RowS) : Prop where
 fr : zaa x.fr = true
 up : zaa x.up = true
 le : x.fr <= x.up
 cl : 0 <= x.cl /\ x.cl <= 254
 len : x.il.length <= 18
 il : ∀ z ∈ x.il, zaa z = true
 kd : zbt x.kd = true
 some : x.kd ≠ [] -> x.il ≠ []
 one : x.fr < x.up -> x.il = []
theorem zgt {l : List UInt8} (h : (hexS l).2 = 0) : zaa (hexS l).1 = true := by
 unfold hexS at *;split at h
 ·simp at h
 ·rename_i h1;rw [if_neg h1];split at h
  ·rename_i h2;rw [if_pos h2];exact h2
  ·simp at h
theorem zeo : ∀ (ws : List (List UInt8)) (out : List Int), (zbn out ws).2 = 0 -> (∀ z ∈ out, zaa z = true) -> (∀ z ∈ (zbn out ws).1, zaa z = true) /\ (zbn out ws).1.length = out.length + ws.length
 | [], out, h, ho => ⟨ho, by simp [zbn]⟩
 | w :: ws, out, h, ho => by
  by_cases he : (hexS w).2 = 0
  ·rw [zf9 he] at h ⊢
   obtain ⟨h1, h2⟩ := zeo ws _ h (fun z hz => by
    rcases List.mem_append.1 hz with hz | hz
    ·exact ho z hz
    ·rw [List.mem_singleton] at hz;subst hz
     exact zgt he)
   refine ⟨h1, ?_⟩;have e : (out ++ [(hexS w).1]).length = out.length + 1 := (by simp);rw [h2, e];simp only [List.length_cons];omega
  ·rw [zhc he] at h;exact absurd h he
theorem zhu : ∀ (l w : List UInt8), (w ≠ [] \/ ∃ b ∈ l, zao b = false) -> zq w l ≠ []
 | [], w, h => by
  rcases h with h | ⟨b, hb, _⟩
  ·simp [zq, h]
  ·simp at hb
 | b :: t, w, h => by
  cases hb : zao b
  ·rw [zdk _ _ hb];exact zhu t _ (.inl (by simp))
  ·rw [zd7 _ _ hb];split
   ·rename_i hw;refine zhu t _ (.inr ?_);rcases h with h | ⟨c, hc, hcb⟩
    ·exact absurd hw h
    ·rcases List.mem_cons.1 hc with rfl | hc
     ·rw [hb] at hcb; simp at hcb
     ·exact ⟨c, hc, hcb⟩
   ·simp
theorem lstrip_all {l : List UInt8} (h : ∀ b ∈ l, zao b = true) : lstrip l = [] := by
 induction l with
 | nil => rfl
 | cons b t ih =>
  rw [lstrip_yes (h b (by simp))];exact ih (fun c hc => h c (by simp [hc]))
theorem bare_ne {l : List UInt8} (h : bareL l ≠ []) : ∃ b ∈ l, zao b = false := by
 apply Classical.byContradiction;intro hn;apply h;unfold bareL
 rw [lstrip_all (fun b hb => by
  cases hbb : zao b
  ·exact absurd ⟨b, hb, hbb⟩ hn
  ·rfl)]
 rfl
theorem into_v {s : List UInt8} (h : (intoS s).2.2 = 0) : (intoS s).2.1.length <= 18 /\ (∀ z ∈ (intoS s).2.1, zaa z = true) /\ zbt (intoS s).1 = true /\ ((intoS s).1 ≠ [] -> (intoS s).2.1 ≠ []) := by
 have hr : ∀ k t, (intoR k t).2.2 = 0 -> (intoR k t).1 = k /\ (intoR k t).2.1.length <= 18 /\ (∀ z ∈ (intoR k t).2.1, zaa z = true) /\ (intoR k t).2.1.length = (zff t).length := by
  intro k t h;unfold intoR at *;split at h
  ·rename_i h1; exact absurd h h1
  ·rename_i h1;split at h
   ·simp at h
   ·rename_i h2;rw [if_neg h1, if_neg h2];obtain ⟨g1, g2⟩ := zeo (zff t) [] (by simpa [zc9] using h1) (by simp);refine ⟨rfl, by simp only []; omega, g1, ?_⟩;simpa [zc9] using g2
 unfold intoS at *;split at h
 ·rename_i hp;split at h
  ·simp at h
  ·rename_i hb;rw [if_pos hp, if_neg hb];obtain ⟨g1, g2, g3, g4⟩ := hr _ _ h;simp only [not_or] at hb;refine ⟨g2, g3, by rw [g1]; simpa using hb.2.2.1, fun _ => ?_⟩;intro he;rw [he] at g4;exact zhu _ _ (.inr (bare_ne hb.2.2.2)) (List.eq_nil_of_length_eq_zero g4.symm)
 ·rename_i hp;rw [if_neg hp];obtain ⟨g1, g2, g3, g4⟩ := hr _ _ h;refine ⟨g2, g3, by rw [g1]; rfl, fun hk => absurd g1 hk⟩
theorem parse_v {l : List UInt8} (h : (zaf l).2 = 0) : RowV (zaf l).1 := by
 unfold zaf zi1 at *;split at h
 ·simp at h
 ·rename_i h1;split at h
  ·rename_i h2; exact absurd h h2
  ·rename_i h2;split at h
   ·rename_i h3; exact absurd h h3
   ·rename_i h3;split at h
    ·simp at h
    ·rename_i h4;split at h
     ·rename_i h5; exact absurd h h5
     ·rename_i h5;rw [if_neg h1, if_neg h2, if_neg h3, if_neg h4, if_neg h5];obtain ⟨v1, v2, v3, v4⟩ := into_v (Classical.not_not.1 h5);have hx := zgt (Classical.not_not.1 h2);refine ⟨hx, hx, Int.le_refl _, ⟨?_, by simp only []; omega⟩, v1, v2, v3, v4, fun hlt => absurd hlt (Int.lt_irrefl _)⟩;show 0 <= (decS _).1;unfold decS at h3 ⊢;split
      ·simp
      ·simp only []; omega
theorem range_v {f x : RowS} (hf : RowV f) (hx : RowV x) (hc : ¬ zc6 f x) : RowV (zfi f x) := by
 unfold zc6 at hc;simp only [not_or] at hc;exact ⟨hf.fr, hx.fr, by show f.fr <= x.fr; omega, hx.cl, by simp [zfi], fun z hz => by simp [zfi] at hz, rfl, fun h => absurd rfl h, fun _ => rfl⟩
theorem rows_v (s : List UInt8) : ∀ x ∈ (rowsS s).1, RowV x := rowsS_all (fun l h => parse_v h) (fun f x hf hx hc => range_v hf hx hc) s
def Rise (l : List RowS) : Prop := ∀ i a b, l[i]? = some a -> l[i + 1]? = some b -> a.up < b.fr
theorem Rise.snoc {l : List RowS} {x : RowS} (h : Rise l) (hx : l ≠ [] -> zjb l < x.fr) : Rise (l ++ [x]) := by
 intro i a b ha hb
 by_cases hi : i + 1 < l.length
 ·rw [List.getElem?_append_left hi] at hb;rw [List.getElem?_append_left (by omega)] at ha;exact h i a b ha hb
 ·have hlt : i + 1 < (l ++ [x]).length := (List.getElem?_eq_some_iff.1 hb).1;rw [List.length_append, List.length_singleton] at hlt;have hil : i + 1 = l.length := (by omega);rw [hil, List.getElem?_append_right (Nat.le_refl _), Nat.sub_self] at hb;simp at hb;subst hb;rw [List.getElem?_append_left (by omega)] at ha;have hne : l ≠ [] := (by intro h; rw [h] at hil; simp at hil);have := hx hne;unfold zjb at this;rw [List.getLast?_eq_getElem?, show l.length - 1 = i by omega, ha] at this;exact this
theorem zdq : ∀ (L : List (Int × List UInt8)) (st : StU), Rise st.out -> st.was = zjb st.out -> (∀ f, st.op = some f -> st.was < f.fr) -> Rise (rowsW st L).1.out
 | [], st, h, _, _ => h
 | p :: L, st, h, hw, hf => by
  by_cases he : (takeS st p.2).2 = 0
  ·rw [zdr he];rcases take_cases he with ⟨f, hop, hc, hh⟩ | ⟨_, hlt, hh | hh⟩
   ·rw [hh];refine zdq L _ (h.snoc fun _ => ?_) (by rw [zgo]; rfl) (fun f h => by simp at h);have := hf f hop;rw [hw] at this;exact this
   ·rw [hh];exact zdq L _ h hw (fun f h => by injection h with h; subst h; exact hlt)
   ·rw [hh];refine zdq L _ (h.snoc fun _ => ?_) (by rw [zgo, parse_up]) (fun f h => by simp at h);rw [hw] at hlt;exact hlt
  ·rw [zep he];exact h
theorem rows_rise (s : List UInt8) : Rise (rowsS s).1 := by
 have hn : Rise [] := fun i a b ha => by simp at ha
 unfold rowsS endU;split
 ·exact hn
 ·split
  ·exact hn
  ·split
   ·exact hn
   ·exact zdq _ _ hn rfl (fun f h => by simp at h)
def SetV (l : List Int) : Prop := (∀ z ∈ l, zaa z = true) /\ l.Nodup
theorem znk : ∀ (n : Nat) (out : List Int) (r : Int), SetV out -> (∀ z ∈ out, z < r \/ r + n <= z) -> SetV (addW out r n).1
 | 0, out, r, h, _ => h
 | n + 1, out, r, h, hz => by
  have h2 : SetV (addO out r) /\ ∀ z ∈ addO out r, z < r + 1 \/ r + 1 + n <= z := by
   unfold addO;split
   ·rename_i hs;refine ⟨⟨fun z hz => ?_, ?_⟩, fun z hm => ?_⟩
    ·rcases List.mem_append.1 hz with hz | hz
     ·exact h.1 z hz
     ·rw [List.mem_singleton] at hz; subst hz; exact hs
    ·rw [List.nodup_append];refine ⟨h.2, by simp, fun a ha b hb => ?_⟩;rw [List.mem_singleton] at hb;subst hb;have := hz a ha;omega
    ·rcases List.mem_append.1 hm with hm | hm
     ·have := hz z hm; omega
     ·rw [List.mem_singleton] at hm; subst hm; left; omega
   ·exact ⟨h, fun z hm => by have := hz z hm; omega⟩
  by_cases hl : 4096 < (addO out r).length
  ·rw [zg3 hl];exact h2.1
  ·rw [zif hl];exact znk n _ _ h2.1 h2.2
theorem setStep_v {out : List Int} {l : List UInt8} (h : SetV out) : SetV (zav out l).1 := by
 unfold zav setR;split
 ·exact h
 ·rename_i h1;split
  ·exact h
  ·rename_i h2;split
   ·exact h
   ·unfold zhb;obtain ⟨k1, k2, k3⟩ := zix (l := fldS l) (by simpa using h1);refine znk _ _ _ h (fun z hz => ?_)
    have hb : betw (zbi (fldS l)).1 (zbi (fldS l)).2.1 z = false := by
     rw [Bool.not_eq_true, List.any_eq_false] at h2;simpa using h2 z hz
    unfold betw at hb;simp at hb;omega
theorem zl1 : ∀ (ls : List (Int × List UInt8)) (out : List Int), SetV out -> SetV (setsW out ls).1
 | [], out, h => h
 | p :: ls, out, h => by
  by_cases he : (zav out p.2).2 = 0
  ·rw [ze2 he];exact zl1 ls _ (setStep_v h)
  ·rw [zc8 he];exact ⟨fun z hz => by simp at hz, by simp⟩
theorem sets_v (s : List UInt8) : (∀ z ∈ (setsS s).1, zaa z = true) /\ (setsS s).1.Pairwise (· < ·) := by
 unfold setsS setsE;split
 ·simp
 ·obtain ⟨h1, h2⟩ := zl1 (zbo s).1 [] ⟨fun z hz => by simp at hz, by simp⟩;generalize (setsW [] (zbo s).1).1 = out at *;refine ⟨fun z hz => h1 z ((zdm out).mem_iff.1 hz), ?_⟩;have hs := srt_sorted out;have hn : (srt out).Nodup := (zdm out).nodup_iff.2 h2;show (srt out).Pairwise (· < ·);have := hs.and hn;exact this.imp (fun ⟨h, k⟩ => by omega)
end
section
open Go.RowKit
abbrev LA := List Int × Option Addr × Nat
section
variable {w w' : World} {B : Nat} {os : List LA} {A : Option Addr} {c : Nat}
end
section
variable {B : BaseF} {xs : List Int} {k fr : Nat} {out : List (List Int)}
end
end
end Go.Proofs.YtolcabjkbefjgaaGreatDoor
