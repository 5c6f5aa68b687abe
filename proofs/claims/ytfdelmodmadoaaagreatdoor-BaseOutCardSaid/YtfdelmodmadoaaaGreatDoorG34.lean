/- Rows of a file: plain laws. Rows of two texts, one behind the other: plain laws. Rows rise, and may be; what sets tell rises: plain laws. What New makes of rows and exclusions: when it answers, and which base. Plain. When New answers, and what a base parts, by reckoning: for the chapters' examples. Plain. New: what it answers, and the ways that end ahead of the loops. New: the base taken, both loops, and what is made: the code. -/
import Derived.Test.YtfdelmodmadoaaaGreatDoorG32
import Derived.Test.YtfdelmodmadoaaaGreatDoorG33
import Derived.RangeFuncNested
import Derived.Test.YtfdelmodmadoaaaGreatDoorG31
set_option linter.unusedSimpArgs false
set_option linter.unusedVariables false
set_option maxRecDepth 20000
set_option maxHeartbeats 4000000
section
section
namespace Go.Proofs.YtfdelmodmadoaaaGreatDoor
open Go.RowKit
theorem zgv {P : RowS -> Prop} (hp : ∀ l, (zx l).2 = 0 -> P (zx l).1) (hc : ∀ f x, P f -> P x -> ¬ zb6 f x -> P (zcw f x)) :
  ∀ (ls : List (Int × List UInt8)) (st : StU), (∀ x ∈ st.out, P x) -> (∀ f, st.op = some f -> P f) -> ∀ x ∈ (rowsW st ls).1.out, P x
 | [], st, ho, hf => ho
 | p :: ls, st, ho, hf => by
  have key : (∀ x ∈ (takeS st p.2).1.out, P x) /\ ∀ f, (takeS st p.2).1.op = some f -> P f := by
   unfold takeS;split
   ·exact ⟨ho, hf⟩
   ·have hx := hp p.2 (by simpa using ‹¬ (zx p.2).2 ≠ 0›);generalize (zx p.2).1 = x at *;unfold takeR zbj freeS;split
    ·rename_i f hst;split
     ·exact ⟨ho, hf⟩
     ·split
      ·exact ⟨ho, hf⟩
      ·refine ⟨fun y hy => ?_, fun f h => absurd h (by simp)⟩;rcases List.mem_append.1 hy with hy | hy
       ·exact ho y hy
       ·rw [List.mem_singleton] at hy;subst hy;exact hc f x (hf f hst) hx (by assumption)
    ·split
     ·exact ⟨ho, hf⟩
     ·split
      ·exact ⟨ho, hf⟩
      ·split
       ·exact ⟨ho, fun f h => by injection h with h; subst h; exact hx⟩
       ·refine ⟨fun y hy => ?_, fun f h => absurd h (by simp)⟩;rcases List.mem_append.1 hy with hy | hy
        ·exact ho y hy
        ·rw [List.mem_singleton] at hy;subst hy;exact hx
  by_cases he : (takeS st p.2).2 = 0
  ·rw [zcq he];exact zgv hp hc ls _ key.1 key.2
  ·rw [zdd he];exact ho
theorem rowsS_all {P : RowS -> Prop} (hp : ∀ l, (zx l).2 = 0 -> P (zx l).1) (hc : ∀ f x, P f -> P x -> ¬ zb6 f x -> P (zcw f x)) (s : List UInt8) : ∀ x ∈ (rowsS s).1, P x := by
 unfold rowsS endU;split
 ·intro x hx; simp at hx
 ·split
  ·intro x hx; simp at hx
  ·split
   ·intro x hx; simp at hx
   ·exact zgv hp hc _ _ (fun x hx => by simp at hx) (fun f h => by simp at h)
theorem takeS_len (st : StU) (l : List UInt8) : (takeS st l).1.out.length <= st.out.length + 1 := by
 unfold takeS;split
 ·exact Nat.le_succ _
 ·generalize (zx l).1 = x;unfold takeR zbj freeS;repeat' split
  all_goals simp
theorem zgu : ∀ (ls : List (Int × List UInt8)) (st : StU), (rowsW st ls).1.out.length <= st.out.length + ls.length
 | [], st => by simp [rowsW]
 | p :: ls, st => by
  have h1 := takeS_len st p.2
  by_cases he : (takeS st p.2).2 = 0
  ·rw [zcq he];have := zgu ls (takeS st p.2).1;simp only [List.length_cons];omega
  ·rw [zdd he];simp only [];omega
theorem zgw (s : List UInt8) : (rowsS s).1.length <= 4096 := by
 have hl := (zeu s).2;unfold rowsS endU;split
 ·simp
 ·split
  ·simp
  ·split
   ·simp
   ·have := zgu (zak s).1 ⟨[], none, -1⟩;simp only [List.length_nil] at this;show (rowsW ⟨[], none, -1⟩ (zak s).1).1.out.length <= 4096;omega
end Go.Proofs.YtfdelmodmadoaaaGreatDoor
end
section
namespace Go.Proofs.YtfdelmodmadoaaaGreatDoor
open Go.RowKit
def zhc (l : List RowS) : Int := match l.getLast? with | some x => x.up | none => -1
theorem zev (l : List RowS) (x : RowS) : zhc (l ++ [x]) = x.up := by simp [zhc]
theorem parse_up (l : List UInt8) : (zx l).1.up = (zx l).1.fr := by
 unfold zx zfo;repeat' split
 all_goals rfl
theorem take_cases {st : StU} {l : List UInt8} (h : (takeS st l).2 = 0) :
  (∃ f, st.op = some f /\ ¬ zb6 f (zx l).1 /\ (takeS st l).1 = ⟨st.out ++ [zcw f (zx l).1], none, (zx l).1.fr⟩) \/
  (st.op = none /\ st.was < (zx l).1.fr /\ ((takeS st l).1 = ⟨st.out, some (zx l).1, st.was⟩ \/ (takeS st l).1 = ⟨st.out ++ [(zx l).1], none, (zx l).1.fr⟩)) := by
 have hp : (zx l).2 = 0 := by
  by_cases hp : (zx l).2 = 0
  ·exact hp
  ·exfalso;unfold takeS at h;rw [if_pos hp] at h;exact hp h
 have ht : takeS st l = takeR st (zx l).1 := (by unfold takeS; rw [if_neg (by rw [hp]; simp)]);rw [ht] at h ⊢;generalize (zx l).1 = x at *;unfold takeR at *
 cases hst : st.op with
 | some f =>
  simp only [hst] at h ⊢;refine .inl ⟨f, rfl, ?_⟩;split at h
  ·simp at h
  ·rename_i hi;rw [if_neg hi];unfold zbj at *;split at h
   ·simp at h
   ·rename_i hc;rw [if_neg hc];exact ⟨hc, rfl⟩
 | none =>
  simp only [hst] at h ⊢;refine .inr ⟨by trivial, ?_⟩;split at h
  ·simp at h
  ·rename_i hi;rw [if_neg hi];unfold freeS at *;split at h
   ·simp at h
   ·rename_i hw;rw [if_neg hw];refine ⟨by omega, ?_⟩;split
    ·exact .inl rfl
    ·exact .inr rfl
end Go.Proofs.YtfdelmodmadoaaaGreatDoor
end
end
namespace Go.Proofs.YtfdelmodmadoaaaGreatDoor
section
open Go.RowKit
structure RowV (x : RowS) : Prop where
 fr : zy x.fr = true
 up : zy x.up = true
 le : x.fr <= x.up
 cl : 0 <= x.cl /\ x.cl <= 254
 len : x.il.length <= 18
 il : ∀ z ∈ x.il, zy z = true
 kd : za5 x.kd = true
 some : x.kd ≠ [] -> x.il ≠ []
 one : x.fr < x.up -> x.il = []
theorem ze1 {l : List UInt8} (h : (hexS l).2 = 0) : zy (hexS l).1 = true := by
 unfold hexS at *;split at h
 ·simp at h
 ·rename_i h1;rw [if_neg h1];split at h
  ·rename_i h2;rw [if_pos h2];exact h2
  ·simp at h
theorem zdc : ∀ (ws : List (List UInt8)) (out : List Int), (za1 out ws).2 = 0 -> (∀ z ∈ out, zy z = true) -> (∀ z ∈ (za1 out ws).1, zy z = true) /\ (za1 out ws).1.length = out.length + ws.length
 | [], out, h, ho => ⟨ho, by simp [za1]⟩
 | w :: ws, out, h, ho => by
  by_cases he : (hexS w).2 = 0
  ·rw [zep he] at h ⊢
   obtain ⟨h1, h2⟩ := zdc ws _ h (fun z hz => by
    rcases List.mem_append.1 hz with hz | hz
    ·exact ho z hz
    ·rw [List.mem_singleton] at hz;subst hz
     exact ze1 he)
   refine ⟨h1, ?_⟩;have e : (out ++ [(hexS w).1]).length = out.length + 1 := (by simp);rw [h2, e];simp only [List.length_cons];omega
  ·rw [zfk he] at h;exact absurd h he
theorem zf2 : ∀ (l w : List UInt8), (w ≠ [] \/ ∃ b ∈ l, zac b = false) -> zm w l ≠ []
 | [], w, h => by
  rcases h with h | ⟨b, hb, _⟩
  ·simp [zm, h]
  ·simp at hb
 | b :: t, w, h => by
  cases hb : zac b
  ·rw [zcm _ _ hb];exact zf2 t _ (.inl (by simp))
  ·rw [zc1 _ _ hb];split
   ·rename_i hw;refine zf2 t _ (.inr ?_);rcases h with h | ⟨c, hc, hcb⟩
    ·exact absurd hw h
    ·rcases List.mem_cons.1 hc with rfl | hc
     ·rw [hb] at hcb; simp at hcb
     ·exact ⟨c, hc, hcb⟩
   ·simp
theorem lstrip_all {l : List UInt8} (h : ∀ b ∈ l, zac b = true) : lstrip l = [] := by
 induction l with
 | nil => rfl
 | cons b t ih =>
  rw [lstrip_yes (h b (by simp))];exact ih (fun c hc => h c (by simp [hc]))
theorem bare_ne {l : List UInt8} (h : bareL l ≠ []) : ∃ b ∈ l, zac b = false := by
 apply Classical.byContradiction;intro hn;apply h;unfold bareL
 rw [lstrip_all (fun b hb => by
  cases hbb : zac b
  ·exact absurd ⟨b, hb, hbb⟩ hn
  ·rfl)]
 rfl
theorem into_v {s : List UInt8} (h : (intoS s).2.2 = 0) : (intoS s).2.1.length <= 18 /\ (∀ z ∈ (intoS s).2.1, zy z = true) /\ za5 (intoS s).1 = true /\ ((intoS s).1 ≠ [] -> (intoS s).2.1 ≠ []) := by
 have hr : ∀ k t, (intoR k t).2.2 = 0 -> (intoR k t).1 = k /\ (intoR k t).2.1.length <= 18 /\ (∀ z ∈ (intoR k t).2.1, zy z = true) /\ (intoR k t).2.1.length = (zd4 t).length := by
  intro k t h;unfold intoR at *;split at h
  ·rename_i h1; exact absurd h h1
  ·rename_i h1;split at h
   ·simp at h
   ·rename_i h2;rw [if_neg h1, if_neg h2];obtain ⟨g1, g2⟩ := zdc (zd4 t) [] (by simpa [zca] using h1) (by simp);refine ⟨rfl, by simp only []; omega, g1, ?_⟩;simpa [zca] using g2
 unfold intoS at *;split at h
 ·rename_i hp;split at h
  ·simp at h
  ·rename_i hb;rw [if_pos hp, if_neg hb];obtain ⟨g1, g2, g3, g4⟩ := hr _ _ h;simp only [not_or] at hb;refine ⟨g2, g3, by rw [g1]; simpa using hb.2.2.1, fun _ => ?_⟩;intro he;rw [he] at g4;exact zf2 _ _ (.inr (bare_ne hb.2.2.2)) (List.eq_nil_of_length_eq_zero g4.symm)
 ·rename_i hp;rw [if_neg hp];obtain ⟨g1, g2, g3, g4⟩ := hr _ _ h;refine ⟨g2, g3, by rw [g1]; rfl, fun hk => absurd g1 hk⟩
theorem parse_v {l : List UInt8} (h : (zx l).2 = 0) : RowV (zx l).1 := by
 unfold zx zfo at *;split at h
 ·simp at h
 ·rename_i h1;split at h
  ·rename_i h2; exact absurd h h2
  ·rename_i h2;split at h
   ·rename_i h3; exact absurd h h3
   ·rename_i h3;split at h
    ·simp at h
    ·rename_i h4;split at h
     ·rename_i h5; exact absurd h h5
     ·rename_i h5;rw [if_neg h1, if_neg h2, if_neg h3, if_neg h4, if_neg h5];obtain ⟨v1, v2, v3, v4⟩ := into_v (Classical.not_not.1 h5);have hx := ze1 (Classical.not_not.1 h2);refine ⟨hx, hx, Int.le_refl _, ⟨?_, by simp only []; omega⟩, v1, v2, v3, v4, fun hlt => absurd hlt (Int.lt_irrefl _)⟩;show 0 <= (decS _).1;unfold decS at h3 ⊢;split
      ·simp
      ·simp only []; omega
theorem range_v {f x : RowS} (hf : RowV f) (hx : RowV x) (hc : ¬ zb6 f x) : RowV (zcw f x) := by
 unfold zb6 at hc;simp only [not_or] at hc;exact ⟨hf.fr, hx.fr, by show f.fr <= x.fr; omega, hx.cl, by simp [zcw], fun z hz => by simp [zcw] at hz, rfl, fun h => absurd rfl h, fun _ => rfl⟩
theorem rows_v (s : List UInt8) : ∀ x ∈ (rowsS s).1, RowV x := rowsS_all (fun l h => parse_v h) (fun f x hf hx hc => range_v hf hx hc) s
def Rise (l : List RowS) : Prop := ∀ i a b, l[i]? = some a -> l[i + 1]? = some b -> a.up < b.fr
theorem Rise.snoc {l : List RowS} {x : RowS} (h : Rise l) (hx : l ≠ [] -> zhc l < x.fr) : Rise (l ++ [x]) := by
 intro i a b ha hb
 by_cases hi : i + 1 < l.length
 ·rw [List.getElem?_append_left hi] at hb;rw [List.getElem?_append_left (by omega)] at ha;exact h i a b ha hb
 ·have hlt : i + 1 < (l ++ [x]).length := (List.getElem?_eq_some_iff.1 hb).1;rw [List.length_append, List.length_singleton] at hlt;have hil : i + 1 = l.length := (by omega);rw [hil, List.getElem?_append_right (Nat.le_refl _), Nat.sub_self] at hb;simp at hb;subst hb;rw [List.getElem?_append_left (by omega)] at ha;have hne : l ≠ [] := (by intro h; rw [h] at hil; simp at hil);have := hx hne;unfold zhc at this;rw [List.getLast?_eq_getElem?, show l.length - 1 = i by omega, ha] at this;exact this
theorem zcp : ∀ (L : List (Int × List UInt8)) (st : StU), Rise st.out -> st.was = zhc st.out -> (∀ f, st.op = some f -> st.was < f.fr) -> Rise (rowsW st L).1.out
 | [], st, h, _, _ => h
 | p :: L, st, h, hw, hf => by
  by_cases he : (takeS st p.2).2 = 0
  ·rw [zcq he];rcases take_cases he with ⟨f, hop, hc, hh⟩ | ⟨_, hlt, hh | hh⟩
   ·rw [hh];refine zcp L _ (h.snoc fun _ => ?_) (by rw [zev]; rfl) (fun f h => by simp at h);have := hf f hop;rw [hw] at this;exact this
   ·rw [hh];exact zcp L _ h hw (fun f h => by injection h with h; subst h; exact hlt)
   ·rw [hh];refine zcp L _ (h.snoc fun _ => ?_) (by rw [zev, parse_up]) (fun f h => by simp at h);rw [hw] at hlt;exact hlt
  ·rw [zdd he];exact h
theorem rows_rise (s : List UInt8) : Rise (rowsS s).1 := by
 have hn : Rise [] := fun i a b ha => by simp at ha
 unfold rowsS endU;split
 ·exact hn
 ·split
  ·exact hn
  ·split
   ·exact hn
   ·exact zcp _ _ hn rfl (fun f h => by simp at h)
def SetV (l : List Int) : Prop := (∀ z ∈ l, zy z = true) /\ l.Nodup
theorem zj8 : ∀ (n : Nat) (out : List Int) (r : Int), SetV out -> (∀ z ∈ out, z < r \/ r + n <= z) -> SetV (addW out r n).1
 | 0, out, r, h, _ => h
 | n + 1, out, r, h, hz => by
  have h2 : SetV (addO out r) /\ ∀ z ∈ addO out r, z < r + 1 \/ r + 1 + n <= z := by
   unfold addO;split
   ·rename_i hs;refine ⟨⟨fun z hz => ?_, ?_⟩, fun z hm => ?_⟩
    ·rcases List.mem_append.1 hz with hz | hz
     ·exact h.1 z hz
     ·rw [List.mem_singleton] at hz; subst hz; exact hs
    ·rw [List.nodup_append];refine ⟨h.2, by simp, fun a ha b hb => ?_⟩;rw [List.mem_singleton] at hb;subst hb;have := hz a ha;omega
    ·rcases List.mem_append.1 hm with hm | hm
     ·have := hz z hm; omega
     ·rw [List.mem_singleton] at hm; subst hm; left; omega
   ·exact ⟨h, fun z hm => by have := hz z hm; omega⟩
  by_cases hl : 4096 < (addO out r).length
  ·rw [zfb hl];exact h2.1
  ·rw [zfa hl];exact zj8 n _ _ h2.1 h2.2
theorem setStep_v {out : List Int} {l : List UInt8} (h : SetV out) : SetV (zaf out l).1 := by
 unfold zaf setR;split
 ·exact h
 ·rename_i h1;split
  ·exact h
  ·rename_i h2;split
   ·exact h
   ·unfold zd6;obtain ⟨k1, k2, k3⟩ := zg0 (l := fldS l) (by simpa using h1);refine zj8 _ _ _ h (fun z hz => ?_)
    have hb : betw (zas (fldS l)).1 (zas (fldS l)).2.1 z = false := by
     rw [Bool.not_eq_true, List.any_eq_false] at h2;simpa using h2 z hz
    unfold betw at hb;simp at hb;omega
theorem zi5 : ∀ (ls : List (Int × List UInt8)) (out : List Int), SetV out -> SetV (setsW out ls).1
 | [], out, h => h
 | p :: ls, out, h => by
  by_cases he : (zaf out p.2).2 = 0
  ·rw [zcn he];exact zi5 ls _ (setStep_v h)
  ·rw [zb9 he];exact ⟨fun z hz => by simp at hz, by simp⟩
theorem sets_v (s : List UInt8) : (∀ z ∈ (setsS s).1, zy z = true) /\ (setsS s).1.Pairwise (· < ·) := by
 unfold setsS setsE;split
 ·simp
 ·obtain ⟨h1, h2⟩ := zi5 (zak s).1 [] ⟨fun z hz => by simp at hz, by simp⟩;generalize (setsW [] (zak s).1).1 = out at *;refine ⟨fun z hz => h1 z ((zat out).mem_iff.1 hz), ?_⟩;have hs := zfg out;have hn : (srt out).Nodup := (zat out).nodup_iff.2 h2;show (srt out).Pairwise (· < ·);have := hs.and hn;exact this.imp (fun ⟨h, k⟩ => by omega)
end
section
open Go.RowKit
structure RowsG (rows : List RowS) : Prop where
 v : ∀ x ∈ rows, RowV x
 rise : Rise rows
theorem zfm (s : List UInt8) : RowsG (rowsS s).1 := ⟨rows_v s, rows_rise s⟩
theorem zbc {z : Int} (h : zy z = true) : z ∈ allR := by
 rw [zcr];unfold zy at h;simp at h;omega
theorem scalar_R {z : Int} (h : zy z = true) : R32 z := zb7 (zbc h)
section
variable {rows : List RowS} {out : List Int}
theorem RowsG.rowT (h : RowsG rows) : ∀ x ∈ rows, RowT x := fun x hx => by
 have v := h.v x hx;have h1 := zcr.1 (zbc v.fr);have h2 := zcr.1 (zbc v.up);exact ⟨h1.1, v.le, by omega, v.len⟩
theorem RowsG.into (h : RowsG rows) : ∀ r q, prtL rows r = some q -> r ∈ allR /\ (∀ y ∈ q.2, y ∈ allR) /\ q.2.length <= 18 /\ q.2 ≠ [] := fun r q hq => by
 obtain ⟨x, hx, e, hne, rfl⟩ := zf6 hq;have v := h.v x hx;exact ⟨by rw [<- e]; exact zbc v.fr, fun y hy => zbc (v.il y hy), v.len, hne⟩
structure NewOk (rows : List RowS) (out : List Int) : Prop where
 there : rows.any za6 = false
 form : rows.any formB = false
 ends : ∀ r, (prtL rows r).isSome = true -> Ends (fun x => (decH (prtL rows) x).2) r
 few : ∀ wf : WellFounded fun y x => y ∈ (decH (prtL rows) x).2, ∀ r, (prtL rows r).isSome = true -> lenD (fun x => (decH (prtL rows) x).2) wf r <= 18
 join : ∀ x, madeQ (clsL rows) (prtL rows) out x = true -> zce (zaj (prtL rows) x) = false
 one : ∀ x y, madeQ (clsL rows) (prtL rows) out x = true -> madeQ (clsL rows) (prtL rows) out y = true -> zaj (prtL rows) x = zaj (prtL rows) y -> x = y
def prL (rows : List RowS) (out : List Int) (p : Int × Int) : Option Int := (rows.find? fun x => madeQ (clsL rows) (prtL rows) out x.fr && decide (zaj (prtL rows) x.fr = p)).map (·.fr)
def scL (rows : List RowS) (out : List Int) (y : Int) : Option Int := if (rows.any fun x => madeQ (clsL rows) (prtL rows) out x.fr && decide ((zaj (prtL rows) x.fr).2 = y)) = true then some 1 else none
theorem zgc {x : Int} (h : madeQ (clsL rows) (prtL rows) out x = true) : ∃ r ∈ rows, r.fr = x := by
 obtain ⟨h1, _⟩ := zbb h;obtain ⟨r, hr, e, _⟩ := zf6 h1;exact ⟨r, hr, e⟩
theorem zeb (h : NewOk rows out) {p : Int × Int} {x : Int} : prL rows out p = some x ↔ madeQ (clsL rows) (prtL rows) out x = true /\ zaj (prtL rows) x = p := by
 unfold prL;constructor
 ·intro e;obtain ⟨r, hr, rfl⟩ := Option.map_eq_some_iff.1 e;have := List.find?_some hr;simp only [Bool.and_eq_true, decide_eq_true_eq] at this;exact this
 ·rintro ⟨h1, h2⟩;obtain ⟨r, hr, rfl⟩ := zgc h1
  cases hf : rows.find? fun x => madeQ (clsL rows) (prtL rows) out x.fr && decide (zaj (prtL rows) x.fr = p) with
  | none =>
   have := List.find?_eq_none.1 hf r hr;simp [h1, h2] at this
  | some q =>
   have := List.find?_some hf;simp only [Bool.and_eq_true, decide_eq_true_eq] at this;rw [Option.map_some, h.one q.fr r.fr this.1 h1 (this.2.trans h2.symm)]
theorem zi6 {y : Int} : 0 < gd (scL rows out) y ↔ ∃ x, madeQ (clsL rows) (prtL rows) out x = true /\ (zaj (prtL rows) x).2 = y := by
 unfold gd scL;split
 ·rename_i h;obtain ⟨r, hr, h1⟩ := List.any_eq_true.1 h;simp only [Bool.and_eq_true, decide_eq_true_eq] at h1;exact ⟨fun _ => ⟨r.fr, h1⟩, fun _ => by simp⟩
 ·rename_i h;constructor
  ·intro h; simp at h
  ·rintro ⟨x, h1, h2⟩;obtain ⟨r, hr, rfl⟩ := zgc h1;exact absurd (List.any_eq_true.2 ⟨r, hr, by simp [h1, h2]⟩) h
theorem zif (h : NewOk rows out) (r : Int) : Ends (fun x => (decH (prtL rows) x).2) r := zec h.ends r
theorem zhs {α : Type} {l : List α} {p : α -> Bool} (h : l.any p = false) : ∀ x ∈ l, p x = false := by
 intro x hx;rw [List.any_eq_false] at h;simpa using h x hx
theorem new_ok (g : RowsG rows) (h : NewOk rows out) : ziz (clsL rows) (prtL rows) (prL rows out) (scL rows out) where
 cls0 := zfx fun x hx => (g.v x hx).cl.1
 ch := fun r hr => cls_hang (fun x hx => (g.v x hx).cl.1) (zhs h.there) hr
 ph := fun r hr => prt_hang (zhs h.there) (fun x hx => (g.v x hx).le) hr
 ends := zif h
 made := fun x y r hp => by
  obtain ⟨a2, a3⟩ := (zeb h).1 hp;obtain ⟨b1, _, b3, _⟩ := zbb a2;rw [a3] at b1;refine ⟨b1, ?_, zi6.2 ⟨r, a2, by rw [a3]⟩⟩;have := zfx (l := rows) (fun x hx => (g.v x hx).cl.1) r;omega
def baseF (g : RowsG rows) (h : NewOk rows out) : BaseF := (new_ok g h).toF
theorem mk_pair (h : NewOk rows out) {ss : List Int} {pr : Int × Int -> Option Int} {md : Int -> Option (Int × Int)} {sc : Int -> Option Int}
  (hM : MkI (madeQ (clsL rows) (prtL rows) out) (zaj (prtL rows)) zce ss false pr md sc) (hall : ∀ x, madeQ (clsL rows) (prtL rows) out x = true -> x ∈ ss) : (∀ p, pr p = prL rows out p) /\ ∀ y, secH sc y = secH (scL rows out) y := by
 refine ⟨fun p => ?_, fun y => ?_⟩
 ·cases hp : pr p with
  | some x =>
   obtain ⟨_, a2, a3⟩ := hM.pr1 p x hp;exact ((zeb h).2 ⟨a2, a3⟩).symm
  | none =>
   cases hq : prL rows out p with
   | none => rfl
   | some x =>
    obtain ⟨a2, a3⟩ := (zeb h).1 hq;have := hM.pr2 x (hall x a2) a2;rw [a3, hp] at this
    cases this
 ·unfold secH;congr 1;apply decide_eq_decide.2;have h1 := hM.sc2 y;have h2 := zi6 (rows := rows) (out := out) (y := y);unfold gd at h1 h2;rw [h1, h2];constructor
  ·rintro ⟨x, _, h3⟩; exact ⟨x, h3⟩
  ·rintro ⟨x, h3, h4⟩; exact ⟨x, hall x h3, h3, h4⟩
end
theorem nil_ok : ziz (fun _ => 0) (fun _ => none) (fun _ => none) (fun _ => none) where
 cls0 := fun _ => Int.le_refl _
 ch := fun _ _ => rfl
 ph := fun _ _ => rfl
 ends := zec fun r h => by cases h
 made := fun x y r h => by cases h
def nilB : BaseF := nil_ok.toF
structure zhv (B : BaseF) : Prop where
 dec : ∀ r, ∀ y ∈ (B.dec r).2, R32 y
 declen : ∀ r, (B.dec r).2.length <= 18
 pair : ∀ x y c, R32 x -> R32 y -> B.pair x y = some c -> R32 c
 len : ∀ c r, (B.one c r).length <= 54
theorem one_le (B : BaseF) (c : Bool) (r : Int) : (B.one c r).length <= (B.one true r).length := by
 have key : ∀ r, (B.one false r).length <= (B.one true r).length := fun r => by
  induction r using B.wf.induction with
  | _ r ih =>
   by_cases hp : B.parts false r = []
   ·rw [B.one_none hp];have := B.one_ne true r;have : 0 < (B.one true r).length := List.length_pos_iff.2 this;simp only [List.length_singleton];omega
   ·have e : B.parts true r = B.parts false r := by
     unfold BaseF.parts at hp ⊢
     by_cases h1 : (B.dec r).1 ≠ []
     ·rw [if_pos ⟨h1, rfl⟩] at hp; exact absurd rfl hp
     ·rw [if_neg (by simp at h1 ⊢), if_neg (by simp at h1 ⊢; exact h1)]
    rw [B.one_some hp, B.one_some (by rw [e]; exact hp), e]
    have : ∀ l : List Int, (∀ y ∈ l, y ∈ (B.dec r).2) -> (l.flatMap (B.one false)).length <= (l.flatMap (B.one true)).length := fun l => by
     induction l with
     | nil => intro _; simp
     | cons x t ih2 =>
      intro h;have h1 := ih x (h x (by simp));have h2 := ih2 fun y hy => h y (by simp [hy]);simp only [List.flatMap_cons, List.length_append];omega
    exact this _ fun y hy => zer hy
 cases c with
 | true => exact Nat.le_refl _
 | false => exact key r
theorem join_R {x y : Int} (h : R32 x) : R32 (joinH x y).1 := by
 have := joinH_i32 x y (by obtain ⟨h1, h2⟩ := h; omega);unfold R32;omega
theorem splitH_R {r : Int} (h : 44032 <= r /\ r < 55204) : R32 (zq r).1 /\ R32 (zq r).2.1 := by
 unfold zq R32;rw [if_pos h];split <;> simp only [] <;> omega
theorem len_plain (B : BaseF) (h18 : ∀ r, ¬ (44032 <= r /\ r < 55204) -> (B.one true r).length <= 18) (hs : ∀ r, 44032 <= r /\ r < 55204 -> B.dec r = ([], [(zq r).1, (zq r).2.1])) (r : Int) : (B.one true r).length <= 54 := by
 have two : ∀ r, 44032 <= r /\ r < 55204 -> B.one true r = B.one true (zq r).1 ++ B.one true (zq r).2.1 := fun r hr => by
  have hp : B.parts true r = [(zq r).1, (zq r).2.1] := (by unfold BaseF.parts; rw [hs r hr]; simp);rw [B.one_some (by rw [hp]; simp), hp];simp
 have lv : ∀ r, 44032 <= r /\ r < 55204 -> (r - 44032) % 28 = 0 -> (B.one true r).length <= 36 := fun r hr h0 => by
  obtain ⟨e1, e2⟩ := zek hr h0;rw [two r hr, List.length_append, e1, e2];have a1 := h18 (4352 + (r - 44032) / 588) (by omega);have a2 := h18 (4449 + (r - 44032) / 28 % 21) (by omega);omega
 by_cases hr : 44032 <= r /\ r < 55204
 ·by_cases h0 : (r - 44032) % 28 = 0
  ·have := lv r hr h0; omega
  ·obtain ⟨e1, e2⟩ := zc3 hr h0;rw [two r hr, List.length_append, e1, e2];have a1 := lv (r - (r - 44032) % 28) (by omega) (by omega);have a2 := h18 (4519 + (r - 44032) % 28) (by omega);omega
 ·have := h18 r hr; omega
theorem zj3 {prt : Int -> Option (List UInt8 × List Int)} (h : ∀ r q, prt r = some q -> (∀ y ∈ q.2, R32 y) /\ q.2.length <= 18) (r : Int) : (∀ y ∈ (decH prt r).2, R32 y) /\ (decH prt r).2.length <= 18 := by
 unfold decH;split
 ·rename_i hr;obtain ⟨h1, h2⟩ := splitH_R hr;refine ⟨fun y hy => ?_, by simp⟩;simp at hy;rcases hy with rfl | rfl <;> assumption
 ·cases hp : prt r with
  | none => simp
  | some q => exact h r q hp
theorem pair_bd {pr : Int × Int -> Option Int} (h : ∀ p c, pr p = some c -> R32 c) {x y c : Int} (hx : R32 x) (hc : pairH pr x y = some c) : R32 c := by
 unfold pairH at hc
 cases hp : pr (x, y) with
 | some q => rw [hp] at hc; injection hc with hc; subst hc; exact h _ _ hp
 | none =>
  rw [hp] at hc;simp only [] at hc;split at hc
  ·injection hc with hc; subst hc; exact join_R hx
  ·cases hc
theorem zjl {rows : List RowS} {out : List Int} (g : RowsG rows) (h : NewOk rows out) : zhv (baseF g h) where
 dec := fun r => (zj3 (prt := prtL rows) (fun r q hq => by obtain ⟨_, h1, h2, _⟩ := g.into r q hq; exact ⟨fun y hy => zb7 (h1 y hy), h2⟩) r).1
 declen := fun r => (zj3 (prt := prtL rows) (fun r q hq => by obtain ⟨_, h1, h2, _⟩ := g.into r q hq; exact ⟨fun y hy => zb7 (h1 y hy), h2⟩) r).2
 pair := fun x y c hx _ hc => pair_bd (pr := prL rows out) (fun p c hp => by
  obtain ⟨r, hr, e⟩ := zgc ((zeb h).1 hp).1;rw [<- e]
  exact scalar_R (g.v r hr).fr) hx hc
 len := fun c r => by
  refine Nat.le_trans (one_le _ c r) (len_plain _ (fun r hr => ?_) (fun r hr => ?_) r)
  ·rw [<- zig]
   by_cases hk : (prtL rows r).isSome = true
   ·exact h.few (baseF g h).wf r hk
   ·have hd : (decH (prtL rows) r).2 = [] := by
     rw [zdn hr]
     cases hq : prtL rows r with
     | none => rfl
     | some q => rw [hq] at hk; exact absurd rfl hk
    have e : ((baseF g h).dec r).2 = [] := hd;rw [zdx, if_pos e];omega
  ·show decH (prtL rows) r = _;unfold decH;rw [if_pos hr]
def zck (w : World) (v : Value) (B : BaseF) : Prop :=
 (v = .pointer none /\ B = nilB) \/ ∃ bp a n cls prt pr md sc, v = .pointer (some ⟨bp, 0, none⟩) /\ BaseM w bp a n cls prt pr md sc /\ (∀ r, B.cls r = cls r) /\ (∀ r, B.dec r = decH prt r) /\ (∀ x y, B.pair x y = pairH pr x y) /\ ∀ r, B.sec r = secH sc r
section
variable {w w' : World} {v : Value} {B : BaseF}
theorem zck.nil (w : World) : zck w (.pointer none) nilB := .inl ⟨rfl, rfl⟩
theorem zck.below (h : zck w v B) (hb : Below w.heap.size w w') : zck w' v B := by
 rcases h with h | ⟨bp, a, n, cls, prt, pr, md, sc, h1, h2, h3⟩
 ·exact .inl h
 ·exact .inr ⟨bp, a, n, cls, prt, pr, md, sc, h1, h2.below hb, h3⟩
theorem zgf (h : zck w v B) (r : Int) (hr : R32 r) : Calls Tryz.prog 16 #[v, .int .i32 r] w fun e w' => e = .returned (.int .i64 (B.cls r)) /\ Below w.heap.size w w' := by
 rcases h with ⟨rfl, rfl⟩ | ⟨bp, a, n, cls, prt, pr, md, sc, rfl, h2, h3, _⟩
 ·exact class_nil r w
 ·rw [h3]; exact ze7 h2 r hr
theorem zdm (h : zck w v B) (r : Int) (hr : R32 r) (hk : Kinds w) : Calls Tryz.prog 11 #[v, .int .i32 r] w (DecP (B.dec r).1 (B.dec r).2 w) := by
 rcases h with ⟨rfl, rfl⟩ | ⟨bp, a, n, cls, prt, pr, md, sc, rfl, h2, _, h3, _⟩
 ·exact decomp_none r w hk
 ·rw [h3]; exact zdy h2 r hr hk
theorem zjb (h : zck w v B) (x y : Int) (hx : R32 x) (hy : R32 y) (hk : Kinds w) : Calls Tryz.prog 28 #[v, .int .i32 x, .int .i32 y] w fun e w' => e = .returned (zd9 (B.pair x y)) /\ Below w.heap.size w w' := by
 rcases h with ⟨rfl, rfl⟩ | ⟨bp, a, n, cls, prt, pr, md, sc, rfl, h2, _, _, h3, _⟩
 ·exact pair_none x y w hx hy hk
 ·rw [h3]; exact zic h2 x y hx hy hk
end
end
section
open Go.RowKit
def endsN (D : Int -> List Int) : Nat -> Int -> Bool
 | 0, r => (D r).isEmpty
 | n + 1, r => (D r).all (endsN D n)
theorem zfv {D : Int -> List Int} : ∀ {n : Nat} {r : Int}, endsN D n r = true -> Ends D r
 | 0, r, h => by
  have : D r = [] := (by simpa [endsN] using h);exact Ends.of fun y hy => by rw [this] at hy; cases hy
 | n + 1, r, h => by
  unfold endsN at h;rw [List.all_eq_true] at h;exact Ends.of fun y hy => zfv (h y hy)
def lenN (D : Int -> List Int) : Nat -> Int -> Nat
 | 0, _ => 1
 | n + 1, r => if (D r).isEmpty = true then 1 else ((D r).map (lenN D n)).sum
theorem zjf {D : Int -> List Int} (wf : WellFounded fun y x => y ∈ D x) : ∀ {n : Nat} {r : Int}, endsN D n r = true -> lenD D wf r = lenN D n r
 | 0, r, h => by
  have : D r = [] := (by simpa [endsN] using h);rw [zdx, if_pos this];rfl
 | n + 1, r, h => by
  unfold endsN at h;rw [List.all_eq_true] at h;rw [zdx];unfold lenN
  by_cases hd : D r = []
  ·rw [if_pos hd, if_pos (by rw [hd]; rfl)]
  ·rw [if_neg hd, if_neg (by simpa using hd), List.map_congr_left fun y hy => zjf wf (h y hy)]
def keysL (rows : List RowS) : List Int := (rows.filter fun x => !x.il.isEmpty).map (·.fr)
theorem zdi {rows : List RowS} {r : Int} (h : (prtL rows r).isSome = true) : r ∈ keysL rows := by
 obtain ⟨q, hq⟩ := Option.isSome_iff_exists.1 h;obtain ⟨x, hx, e, hne, _⟩ := zf6 hq;exact List.mem_map.2 ⟨x, List.mem_filter.2 ⟨hx, by simpa using hne⟩, e⟩
def newB (rows : List RowS) (out : List Int) (n : Nat) : Bool :=
 !rows.any za6 && !rows.any formB && (keysL rows).all (fun r => endsN (fun x => (decH (prtL rows) x).2) n r && decide (lenN (fun x => (decH (prtL rows) x).2) n r <= 18)) &&
  (keysL rows).all fun x => !madeQ (clsL rows) (prtL rows) out x || (!zce (zaj (prtL rows) x) && (keysL rows).all fun y => !madeQ (clsL rows) (prtL rows) out y || !decide (zaj (prtL rows) x = zaj (prtL rows) y) || decide (x = y))
theorem zdw {rows : List RowS} {out : List Int} {n : Nat} (h : newB rows out n = true) : NewOk rows out := by
 unfold newB at h;simp only [Bool.and_eq_true, Bool.not_eq_true', List.all_eq_true, decide_eq_true_eq, Bool.or_eq_true, decide_eq_false_iff_not] at h;obtain ⟨⟨⟨h1, h2⟩, h3⟩, h4⟩ := h;have hq : ∀ x, madeQ (clsL rows) (prtL rows) out x = true -> x ∈ keysL rows := fun x hx => zdi (by rw [(zbb hx).1]; rfl);refine ⟨h1, h2, fun r hr => zfv (h3 r (zdi hr)).1, fun wf r hr => ?_, fun x hx => ?_, fun x y hx hy e => ?_⟩
 ·rw [zjf wf (h3 r (zdi hr)).1];exact (h3 r (zdi hr)).2
 ·rcases h4 x (hq x hx) with h | h
  ·rw [hx] at h; cases h
  ·exact h.1
 ·rcases h4 x (hq x hx) with h | h
  ·rw [hx] at h; cases h
  ·rcases h.2 y (hq y hy) with (h | h) | h
   ·rw [hy] at h; cases h
   ·exact absurd e h
   ·exact h
def aw8S : ByteArray := ⟨#[48, 48, 67, 57, 59, 69, 59, 76, 117, 59, 48, 59, 59, 48, 48, 52, 53, 32, 48, 51, 48, 49, 10, 48, 51, 48, 49, 59, 88, 59, 77, 110, 59, 50, 51, 48, 59, 59]⟩
def aw8R : List RowS := [⟨201, 201, [69], [76, 117], 0, [], [69, 769]⟩, ⟨769, 769, [88], [77, 110], 230, [], []⟩]
theorem zgh : rowsS (bs aw8S) = (aw8R, 0, 0) := by kernel_rfl
theorem aw8_none : setsS (bs ByteArray.empty) = ([], 0, 0) := by kernel_rfl
theorem aw8_out : setsS (bs ⟨#[48, 48, 67, 57]⟩) = ([201], 0, 0) := by kernel_rfl
theorem zit : newB aw8R [] 2 = true := by kernel_rfl
theorem zjm : newB aw8R [201] 2 = true := by kernel_rfl
end
section
open Go.RowKit Go.Lib Go.Maps Go.Sort Go.Shelf
attribute [local go_sem] Oper.semAt_some
def NewC (s o : List UInt8) : Prop := (rowsS s).2.2 = 0 /\ (setsS o).2.2 = 0 /\ NewOk (rowsS s).1 (setsS o).1
theorem ze {W W' : World} {b : Nat} {t : TypeId} {v : Value} (h : Boxed W b t v) (hb : Below W.heap.size W W') : Boxed W' b t v := (hb.block b h.lt).trans h
theorem zn {W : World} {b c : Nat} {t : TypeId} {v : Value} (h : Boxed W b t v) (u : Value) (hne : b ≠ c) : Boxed (W.setCell ⟨c, 0, none⟩ u) b t v := h.kept (grownBy_setCell' W c u) (by simpa using hne)
def zht (w : World) (e : Ending) (w' : World) : Prop := (∃ er : Int, er ≠ 0 /\ e = .returned (.tuple #[.pointer none, .int .i64 er])) /\ Below w.heap.size w w'
def zfc (rows : List RowS) (out : List Int) (w : World) (e : Ending) (w' : World) : Prop :=
 ∃ bp a n ss pr md sc, e = .returned (.tuple #[.pointer (some ⟨bp, 0, none⟩), .int .i64 0]) /\ BaseM w' bp a n (clsL rows) (prtL rows) pr md sc /\ n <= 100000 /\ zar R32 (prtL rows) ss /\ MkI (madeQ (clsL rows) (prtL rows) out) (zaj (prtL rows)) zce ss false pr md sc /\ w.heap.size <= bp /\ Below w.heap.size w w'
def NewP (s o : List UInt8) (w : World) (e : Ending) (w' : World) : Prop := (¬ NewC s o /\ zht w e w') \/ (NewC s o /\ zfc (rowsS s).1 (setsS o).1 w e w')
theorem setsS_len (s : List UInt8) : (setsS s).1.length <= 4096 := by
 have key : ∀ (ls : List (Int × List UInt8)) (out : List Int), out.length <= 4096 -> (setsW out ls).1.length <= 4096 := by
  intro ls;induction ls with
  | nil => intro out h; exact h
  | cons p ls ih =>
   intro out h
   by_cases he : (zaf out p.2).2 = 0
   ·rw [zcn he]; exact ih _ (setStep_len h)
   ·rw [zb9 he]; simp
 unfold setsS setsE;split
 ·simp
 ·simp only [];rw [(zat _).length_eq];exact key _ [] (by simp)
section
variable {w : World}
theorem new_rows (s o : ByteArray) (hE : Env w) (hs : s.size <= 1073741824) (hbad : (rowsS (bs s)).2.2 ≠ 0) : Calls Tryz.prog 9 #[.string s, .string o] w (zht w) := by
 refine (callsIn_wide (n := 5)).1 ?_;have hro : Fence.wide.round = none := rfl;have h1 : 1 <= 5 := (by omega);refine callsIn_of_wp_marks Tryz.func9 rfl trivial ?_ hro;simp only [Tryz.ntmps9, List.size_toArray, List.length_cons, List.length_nil, Nat.reduceAdd, Nat.reduceSub, Array.replicate_succ, Array.replicate_zero, List.push_toArray, List.append_toArray, List.nil_append, List.cons_append];have RW := fun W (hb : Below w.heap.size w W) => zea s W (hE.below hb) hs;obtain ⟨⟨rows, ln, er⟩, hR⟩ : ∃ R, R = rowsS (bs s) := ⟨_, rfl⟩;rw [<- hR] at RW hbad;simp only [] at hbad;have hne : ((er : Int) != 0) = true := (by simpa using hbad);have HNE := hz0q hbad;clear hR hbad;obtain ⟨W0, hW0⟩ : ∃ W0, (w.alloc (.cells #[.pointer none] 26)).alloc (.cells #[.int .i64 0] 27) = W0 := ⟨_, rfl⟩;have hB0 : Below w.heap.size w W0 := (by rw [<- hW0]; exact ((Below.refl _ w).alloc (Nat.le_refl _) _).alloc (by simp) _);have bx1 : Boxed W0 w.heap.size 26 (.pointer none) := by rw [<- hW0]; exact (Boxed.new w _ _).alloc _
 have bx2 : Boxed W0 (w.heap.size + 1) 27 (.int .i64 0) := by
  rw [<- hW0];have := Boxed.new (w.alloc (.cells #[.pointer none] 26)) 27 (.int .i64 0);rwa [World.size_alloc] at this
 have RW0 := RW _ hB0;clear RW
 gi_wp2
 refine ⟨trivial, (callsIn_wide.2 RW0).mono ?_⟩;rintro e w1 ⟨os, A, c, ho, rfl, hat, hb1⟩;have b1 := ze bx1 hb1;have b2 := ze bx2 hb1;have c1 := (b1).cell;have f1 := (b1).frozen;have d1 := (zn (b2) (.pointer none) (show w.heap.size + 1 ≠ w.heap.size by omega)).cell;have f2 := (zn (b2) (.pointer none) (show w.heap.size + 1 ≠ w.heap.size by omega)).frozen;have hb := zb hB0 hb1;clear bx1 bx2 hb1 hat ho hB0 hW0 RW0
 gi_wp2
 have k1 := (zn ((b1).set (.pointer none)) (.int .i64 (er)) (show w.heap.size ≠ w.heap.size + 1 by omega)).cell;have k2 := ((zn (b2) (.pointer none) (show w.heap.size + 1 ≠ w.heap.size by omega)).set (.int .i64 (er))).cell;refine ⟨.tuple #[.pointer none, .int .i64 (er)], ?_, ⟨er, HNE.out, rfl⟩, ((hb).setCell (p := ⟨w.heap.size, 0, none⟩) (Nat.le_refl _) _).setCell (p := ⟨w.heap.size + 1, 0, none⟩) (by simp) _⟩;simp [results, Tryz.f9, go_sem, k1, k2]
theorem new_sets (s o : ByteArray) (hE : Env w) (hs : s.size <= 1073741824) (ho1 : o.size <= 1073741824) (h0 : (rowsS (bs s)).2.2 = 0) (hbad : (setsS (bs o)).2.2 ≠ 0) : Calls Tryz.prog 9 #[.string s, .string o] w (zht w) := by
 refine (callsIn_wide (n := 5)).1 ?_;have hro : Fence.wide.round = none := rfl;have h1 : 1 <= 5 := (by omega);refine callsIn_of_wp_marks Tryz.func9 rfl trivial ?_ hro;simp only [Tryz.ntmps9, List.size_toArray, List.length_cons, List.length_nil, Nat.reduceAdd, Nat.reduceSub, Array.replicate_succ, Array.replicate_zero, List.push_toArray, List.append_toArray, List.nil_append, List.cons_append];have RW := fun W (hb : Below w.heap.size w W) => zea s W (hE.below hb) hs;have ST := fun W (hb : Below w.heap.size w W) => zf4 o W (hE.below hb) ho1;obtain ⟨⟨rows, ln, e0⟩, hR⟩ : ∃ R, R = rowsS (bs s) := ⟨_, rfl⟩;rw [<- hR] at RW h0;simp only [] at h0;subst h0;obtain ⟨⟨out, ln2, er⟩, hS⟩ : ∃ R, R = setsS (bs o) := ⟨_, rfl⟩;rw [<- hS] at ST hbad;simp only [] at hbad;have hne : ((er : Int) != 0) = true := (by simpa using hbad);have HNE := hz0q hbad;clear hR hS hbad;obtain ⟨W0, hW0⟩ : ∃ W0, (w.alloc (.cells #[.pointer none] 26)).alloc (.cells #[.int .i64 0] 27) = W0 := ⟨_, rfl⟩;have hB0 : Below w.heap.size w W0 := (by rw [<- hW0]; exact ((Below.refl _ w).alloc (Nat.le_refl _) _).alloc (by simp) _);have bx1 : Boxed W0 w.heap.size 26 (.pointer none) := by rw [<- hW0]; exact (Boxed.new w _ _).alloc _
 have bx2 : Boxed W0 (w.heap.size + 1) 27 (.int .i64 0) := by
  rw [<- hW0];have := Boxed.new (w.alloc (.cells #[.pointer none] 26)) 27 (.int .i64 0);rwa [World.size_alloc] at this
 have RW0 := RW _ hB0;clear RW
 gi_wp2
 refine ⟨trivial, (callsIn_wide.2 RW0).mono ?_⟩;rintro e w1 ⟨os, A, c, ho, rfl, hat, hb1⟩;have hb := zb hB0 hb1;have ST1 := ST _ hb;have by1 := ze bx1 hb1;have by2 := ze bx2 hb1;clear ST bx1 bx2 hat ho hb1 hB0 hW0 RW0
 gi_wp2
 refine ⟨trivial, (callsIn_wide.2 ST1).mono ?_⟩;rintro e w2 ⟨A2, c2, rfl, hown2, hb2⟩;have b1 := ze by1 hb2;have b2 := ze by2 hb2;have hbb := zb hb hb2;have c1 := (b1).cell;have f1 := (b1).frozen;have d1 := (zn (b2) (.pointer none) (show w.heap.size + 1 ≠ w.heap.size by omega)).cell;have f2 := (zn (b2) (.pointer none) (show w.heap.size + 1 ≠ w.heap.size by omega)).frozen;clear by1 by2 hb hb2 hown2 ST1
 gi_wp2
 have k1 := (zn ((b1).set (.pointer none)) (.int .i64 (er)) (show w.heap.size ≠ w.heap.size + 1 by omega)).cell;have k2 := ((zn (b2) (.pointer none) (show w.heap.size + 1 ≠ w.heap.size by omega)).set (.int .i64 (er))).cell;refine ⟨.tuple #[.pointer none, .int .i64 (er)], ?_, ⟨er, HNE.out, rfl⟩, ((hbb).setCell (p := ⟨w.heap.size, 0, none⟩) (Nat.le_refl _) _).setCell (p := ⟨w.heap.size + 1, 0, none⟩) (by simp) _⟩;simp [results, Tryz.f9, go_sem, k1, k2]
theorem zft {w2 w3 : World} {q : Nat} (tn : Nat) (hq : q = w2.heap.size) (hT : TabAt w3 (q + 1) q 0 (fun _ => 0)) (hb : Below w2.heap.size w2 w3) (hz : w3.heap.size = q + 2) :
  ∃ W, (((((w3.alloc (.map #[] 0)).alloc (.map #[] 0)).alloc (.map #[] 0)).alloc (.map #[] 0)).alloc (.cells #[.pointer (some ⟨q + 1, 0, none⟩), .map (some (q + 2)), .map (some (q + 3)), .map (some (q + 4)), .map (some (q + 5))] 77)).alloc (.cells #[.pointer (some ⟨q + 6, 0, none⟩)] 26) = W /\
   TInv w2 W (q + 6) ⟨q + 1, q, q + 2, q + 3, q + 4, q + 5, tn⟩ 0 [] W /\ MkV W ⟨q + 1, q, q + 2, q + 3, q + 4, q + 5, tn⟩ 0 (fun _ => none) (fun _ => none) (fun _ => none) /\ Boxed W (q + 7) 26 (.pointer (some ⟨q + 6, 0, none⟩)) /\ Below w2.heap.size w2 W /\ W.heap.size = q + 8 := by
 refine ⟨_, rfl, ?_⟩;have s1 : (w3.alloc (.map #[] 0)).heap.size = q + 3 := (by rw [World.size_alloc, hz]);have s2 : ((w3.alloc (.map #[] 0)).alloc (.map #[] 0)).heap.size = q + 4 := (by rw [World.size_alloc, s1]);have s3 : (((w3.alloc (.map #[] 0)).alloc (.map #[] 0)).alloc (.map #[] 0)).heap.size = q + 5 := (by rw [World.size_alloc, s2]);have s4 : ((((w3.alloc (.map #[] 0)).alloc (.map #[] 0)).alloc (.map #[] 0)).alloc (.map #[] 0)).heap.size = q + 6 := (by rw [World.size_alloc, s3]);have m1 := MapF.made w3 Tryz.prog 21 zj R32 partV;have m2 := MapF.made (w3.alloc (.map #[] 0)) Tryz.prog 92 zcb R32P runeV;have m3 := MapF.made ((w3.alloc (.map #[] 0)).alloc (.map #[] 0)) Tryz.prog 21 zj R32 pairV;have m4 := MapF.made (((w3.alloc (.map #[] 0)).alloc (.map #[] 0)).alloc (.map #[] 0)) Tryz.prog 21 zj R32 intV;rw [hz] at m1;rw [s1] at m2;rw [s2] at m3;rw [s3] at m4;have a3 := hb.size;have t4 := ((((hT.below ((Below.refl _ _).alloc (Nat.le_refl _) (.map #[] 0))).below ((Below.refl _ _).alloc (Nat.le_refl _) (.map #[] 0))).below ((Below.refl _ _).alloc (Nat.le_refl _) (.map #[] 0))).below ((Below.refl _ _).alloc (Nat.le_refl _) (.map #[] 0)));have hb4 : Below w2.heap.size w2 ((((w3.alloc (.map #[] 0)).alloc (.map #[] 0)).alloc (.map #[] 0)).alloc (.map #[] 0)) := (((hb.alloc (by omega) _).alloc (by rw [s1]; omega) _).alloc (by rw [s2]; omega) _).alloc (by rw [s3]; omega) _;have n1 := ((m1.alloc (.map #[] 0)).alloc (.map #[] 0)).alloc (.map #[] 0);have n2 := (m2.alloc (.map #[] 0)).alloc (.map #[] 0)
 have n3 := m3.alloc (.map #[] 0);clear m1 m2 m3 hT hb;generalize ((((w3.alloc (.map #[] 0)).alloc (.map #[] 0)).alloc (.map #[] 0)).alloc (.map #[] 0)) = W4 at *;have bx := zp W4 #[.pointer (some ⟨q + 1, 0, none⟩), .map (some (q + 2)), .map (some (q + 3)), .map (some (q + 4)), .map (some (q + 5))] 77;rw [s4] at bx;have s5 : (W4.alloc (.cells #[.pointer (some ⟨q + 1, 0, none⟩), .map (some (q + 2)), .map (some (q + 3)), .map (some (q + 4)), .map (some (q + 5))] 77)).heap.size = q + 7 := (by rw [World.size_alloc, s4]);have by1 := Boxed.new (W4.alloc (.cells #[.pointer (some ⟨q + 1, 0, none⟩), .map (some (q + 2)), .map (some (q + 3)), .map (some (q + 4)), .map (some (q + 5))] 77)) 26 (.pointer (some ⟨q + 6, 0, none⟩));rw [s5] at by1;have hb6 := (hb4.alloc (by omega) (.cells #[.pointer (some ⟨q + 1, 0, none⟩), .map (some (q + 2)), .map (some (q + 3)), .map (some (q + 4)), .map (some (q + 5))] 77)).alloc (by rw [s5]; omega) (.cells #[.pointer (some ⟨q + 6, 0, none⟩)] 26);refine ⟨⟨za0 _ bx, ?_, ⟨fun _ => none, (n1.alloc _).alloc _, fun r _ => trivial⟩, Wrote.refl _ _⟩, ⟨(n2.alloc _).alloc _, (n3.alloc _).alloc _, (m4.alloc _).alloc _⟩, by1, hb6, by rw [World.size_alloc, s5]⟩;exact (t4.below ((Below.refl _ _).alloc (Nat.le_refl _) _)).below ((Below.refl _ _).alloc (Nat.le_refl _) _)
end
end
section
open Go.RowKit Go.Lib Go.Maps Go.Sort Go.Shelf
attribute [local go_sem] Oper.semAt_some
theorem TInv.toM {W0 w w' : World} {bp n : Nat} {a : BAddr} {rows : List RowS} (h : TInv W0 w bp a n rows w') (hV : MkV w a 0 (fun _ => none) (fun _ => none) (fun _ => none)) (ap : a.Apart) (ht : a.tn = 4353 * n) (hb : Below W0.heap.size W0 w') : BaseM w' bp a n (clsL rows) (prtL rows) (fun _ => none) (fun _ => none) (fun _ => none) := by
 obtain ⟨h1, h2, ⟨f, h3, h4⟩, h5⟩ := h;refine ⟨h1, by rw [ht]; exact h2, ⟨f, h3, fun r hr => (h4 r hr).below hb⟩, ?_, ?_, ?_⟩
 ·exact (hV.pr.at (h5.block _ hV.pr.lt (by rintro (e | e); exact ap.b2 e.symm; exact ap.p2 e.symm))).mono (Nat.zero_le _)
 ·exact (hV.md.at (h5.block _ hV.md.lt (by rintro (e | e); exact ap.b3 e.symm; exact ap.p3 e.symm))).mono (Nat.zero_le _)
 ·exact (hV.sc.at (h5.block _ hV.sc.lt (by rintro (e | e); exact ap.b4 e.symm; exact ap.p4 e.symm))).mono (Nat.zero_le _)
theorem ze3 (q tn : Nat) : BAddr.Apart ⟨q + 1, q, q + 2, q + 3, q + 4, q + 5, tn⟩ := ⟨by simp, by simp, by simp, by simp, by simp, by simp, by simp, by simp, by simp, by simp⟩
theorem BaseM.wrote {w w' : World} {bp n : Nat} {a : BAddr} {cls : Int -> Int} {prt : Int -> Option (List UInt8 × List Int)} {pr : Int × Int -> Option Int} {md : Int -> Option (Int × Int)} {sc : Int -> Option Int} {S : Nat -> Prop} (h : BaseM w bp a n cls prt pr md sc) (hW : Wrote S w w')
  (hS : ∀ k, S k -> k ≠ bp /\ k ≠ a.tb /\ k ≠ a.mb /\ k ≠ a.m1 /\ k ≠ a.m2 /\ k ≠ a.m3 /\ k ≠ a.m4 /\ ∀ off z, w.cell? ⟨k, off, none⟩ ≠ some (.int .i32 z)) : BaseM w' bp a n cls prt pr md sc := by
 obtain ⟨h1, ⟨i1, g, i2, i3⟩, ⟨f, h3, h4⟩, h5, h6, h7⟩ := h;have ne : ∀ b, (∀ k, S k -> k ≠ b) -> ¬ S b := fun b hb hs => hb b hs rfl;refine ⟨hW.blk h1 (ne _ fun k hk => (hS k hk).1), ⟨hW.blk i1 (ne _ fun k hk => (hS k hk).2.1), g, i2.at (hW.block _ i2.lt (ne _ fun k hk => (hS k hk).2.2.1)), i3⟩, ⟨f, h3.at (hW.block _ h3.lt (ne _ fun k hk => (hS k hk).2.2.2.1)), fun r hr => ?_⟩, h5.at (hW.block _ h5.lt (ne _ fun k hk => (hS k hk).2.2.2.2.1)), h6.at (hW.block _ h6.lt (ne _ fun k hk => (hS k hk).2.2.2.2.2.1)), h7.at (hW.block _ h7.lt (ne _ fun k hk => (hS k hk).2.2.2.2.2.2.1))⟩;have hp := h4 r hr;generalize f r = p at hp;generalize prt r = q at hp
 cases p <;> cases q <;> first | exact hp | (refine ⟨hp.1, hp.2.1, hp.2.2.1, hp.2.2.2.1.wrote hW fun h0 ad had hSk => ?_, hp.2.2.2.2⟩)
 obtain ⟨b, off, e, _, hc⟩ := hp.2.2.2.1.at_ h0;rw [had] at e;injection e with e;subst e;have hl := hp.2.2.2.1.1;obtain ⟨u, hu⟩ : ∃ u, (Rs _)[0]? = some u := ⟨_, List.getElem?_eq_getElem (by rw [hl]; exact h0)⟩;have hc0 := hc 0 u hu;unfold Rs at hu;rw [List.getElem?_map] at hu;obtain ⟨z, _, rfl⟩ := Option.map_eq_some_iff.1 hu;exact (hS _ hSk).2.2.2.2.2.2.2 _ z hc0
theorem zho {w : World} {b : Nat} {t : TypeId} {v : Value} (h : Boxed w b t v) (hv : ∀ z, v ≠ .int .i32 z) : ∀ off z, w.cell? ⟨b, off, none⟩ ≠ some (.int .i32 z) := fun off z e => by
 unfold World.cell? at e;rw [show w.heap[b]? = _ from h] at e;simp only [] at e;match off with
 | 0 => simp at e; exact hv z e
 | off + 1 => simp at e
theorem zjj {w : World} {b : Nat} {d : Option (List Deferred)} (h : w.heap[b]? = some (.deferred d)) : ∀ off z, w.cell? ⟨b, off, none⟩ ≠ some (.int .i32 z) := fun off z e => by
 unfold World.cell? at e;rw [h] at e;simp at e
section
variable {w : World}
theorem zg8 (s o : ByteArray) (hE : Env w) (hs : s.size <= 1073741824) (ho1 : o.size <= 1073741824) (h0 : (rowsS (bs s)).2.2 = 0) (h01 : (setsS (bs o)).2.2 = 0) (hbad : (rowsS (bs s)).1.any za6 = true \/ ((rowsS (bs s)).1.any za6 = false /\ (rowsS (bs s)).1.any formB = true)) : Calls Tryz.prog 9 #[.string s, .string o] w (zht w) := by
 refine (callsIn_wide (n := 5)).1 ?_;have hro : Fence.wide.round = none := rfl;have h1 : 1 <= 5 := (by omega);refine callsIn_of_wp_marks Tryz.func9 rfl trivial ?_ hro;simp only [Tryz.ntmps9, List.size_toArray, List.length_cons, List.length_nil, Nat.reduceAdd, Nat.reduceSub, Array.replicate_succ, Array.replicate_zero, List.push_toArray, List.append_toArray, List.nil_append, List.cons_append];have RW := fun W (hb : Below w.heap.size w W) => zea s W (hE.below hb) hs;have ST := fun W (hb : Below w.heap.size w W) => zf4 o W (hE.below hb) ho1;have hrl := zgw (bs s);obtain ⟨⟨rows, ln, e0⟩, hR⟩ : ∃ R, R = rowsS (bs s) := ⟨_, rfl⟩;rw [<- hR] at RW h0 hrl hbad;simp only [] at h0 hrl hbad;subst h0;obtain ⟨⟨out, ln2, er⟩, hS⟩ : ∃ R, R = setsS (bs o) := ⟨_, rfl⟩;rw [<- hS] at ST h01;simp only [] at h01;subst h01;clear hR hS;obtain ⟨W0, hW0⟩ : ∃ W0, (w.alloc (.cells #[.pointer none] 26)).alloc (.cells #[.int .i64 0] 27) = W0 := ⟨_, rfl⟩;have hB0 : Below w.heap.size w W0 := (by rw [<- hW0]; exact ((Below.refl _ w).alloc (Nat.le_refl _) _).alloc (by simp) _);have bx1 : Boxed W0 w.heap.size 26 (.pointer none) := by rw [<- hW0]; exact (Boxed.new w _ _).alloc _
 have bx2 : Boxed W0 (w.heap.size + 1) 27 (.int .i64 0) := by
  rw [<- hW0];have := Boxed.new (w.alloc (.cells #[.pointer none] 26)) 27 (.int .i64 0);rwa [World.size_alloc] at this
 have RW0 := RW _ hB0;clear RW
 gi_wp2
 refine ⟨trivial, (callsIn_wide.2 RW0).mono ?_⟩;rintro e w1 ⟨os, A, c, ho, rfl, hat, hb1⟩;have hb := zb hB0 hb1;have ST1 := ST _ hb;have by1 := ze bx1 hb1;have by2 := ze bx2 hb1;simp only [] at ho;clear ST bx1 bx2 hb1 hB0 hW0 RW0
 gi_wp2
 refine ⟨trivial, (callsIn_wide.2 ST1).mono ?_⟩;rintro e w2 ⟨A2, c2, rfl, hown2, hb2⟩;have b1 := ze by1 hb2;have b2 := ze by2 hb2;have hbb := zb hb hb2;have hatR := hat.rd.below hb2
 have hnil : ∀ x ∈ os, x.2.1 = none -> x.1.il.length = 0 /\ x.2.2 = 0 := fun x hx hx0 => by
  have := hat.into x hx;unfold zfz at this;rcases this.2 with ⟨hv, hz⟩ | ⟨g, cap, cur, hv, _⟩
  ·injection hv with e1 e2 e3;exact ⟨hz, e3⟩
  ·injection hv with e1 e2 e3;rw [hx0] at e1
   cases e1
 have TN := zeg w2;clear by1 by2 hb hb2 ST1 hat
 gi_wp2
 refine ⟨trivial, (callsIn_wide.2 TN).mono ?_⟩;rintro e w3 ⟨rfl, hT3, hb3, hz3⟩;have HOL : Hid (os.length = rows.length) := (by show _ = _; rw [<- ho, List.length_map]);have hoo : os.length <= 4096 := (by rw [HOL.out]; exact hrl);have HO := hz0q ho;obtain ⟨q, hq⟩ : ∃ q, q = w2.heap.size := ⟨_, rfl⟩;rw [<- hq] at hT3 hz3;obtain ⟨W, hWd, hTI, hV, hbx11, hbW, hzW⟩ := zft (4353 * rows.length) hq hT3 hb3 hz3;have b3 := ze b1 hbW;have b4 := ze b2 hbW;have hbbW := zb hbb hbW;have hcW := hbx11.cell;have HS3 := hz0q (And.intro hq hz3);have HZW := hz0q hzW;have HQW := hz0q hWd;simp only [<- hq];have hmm := @run_makeMap Tryz.prog;have BT := btakes_bad (bp := q + 6) hbW A os.length c os hatR rfl (by omega) (by rw [HO.out]; exact hbad);clear ho hbad hE hatR hown2 hnil hTI hV hT3 hb3 hq hzW TN hWd
 gi_wp2
 simp only [show q + 2 + 1 = q + 3 from rfl, show q + 3 + 1 = q + 4 from rfl, show q + 4 + 1 = q + 5 from rfl, show q + 5 + 1 = q + 6 from rfl, show q + 6 + 1 = q + 7 from rfl];rw [HQW.out];refine ⟨trivial, (callsIn_wide.2 BT).mono ?_⟩;rintro e w4 ⟨he, hb4⟩;have b5 := ze b3 hb4;have b6 := ze b4 hb4;have hbF := zb hbbW hb4;have c1 := (b5).cell;have f1 := (b5).frozen;have d1 := (zn (b6) (.pointer none) (show w.heap.size + 1 ≠ w.heap.size by omega)).cell;have f2 := (zn (b6) (.pointer none) (show w.heap.size + 1 ≠ w.heap.size by omega)).frozen;clear b1 b2 b3 b4 BT hb4 hbW hbbW hbx11 hcW;rcases he with rfl | rfl
 ·clear hmm
  gi_wp2
  have k1 := (zn ((b5).set (.pointer none)) (.int .i64 (12)) (show w.heap.size ≠ w.heap.size + 1 by omega)).cell;have k2 := ((zn (b6) (.pointer none) (show w.heap.size + 1 ≠ w.heap.size by omega)).set (.int .i64 (12))).cell;refine ⟨.tuple #[.pointer none, .int .i64 (12)], ?_, ⟨12, by decide, rfl⟩, ((hbF).setCell (p := ⟨w.heap.size, 0, none⟩) (Nat.le_refl _) _).setCell (p := ⟨w.heap.size + 1, 0, none⟩) (by simp) _⟩;simp [results, Tryz.f9, go_sem, k1, k2]
 ·clear hmm
  gi_wp2
  have k1 := (zn ((b5).set (.pointer none)) (.int .i64 (10)) (show w.heap.size ≠ w.heap.size + 1 by omega)).cell;have k2 := ((zn (b6) (.pointer none) (show w.heap.size + 1 ≠ w.heap.size by omega)).set (.int .i64 (10))).cell;refine ⟨.tuple #[.pointer none, .int .i64 (10)], ?_, ⟨10, by decide, rfl⟩, ((hbF).setCell (p := ⟨w.heap.size, 0, none⟩) (Nat.le_refl _) _).setCell (p := ⟨w.heap.size + 1, 0, none⟩) (by simp) _⟩;simp [results, Tryz.f9, go_sem, k1, k2]
end
end
end Go.Proofs.YtfdelmodmadoaaaGreatDoor
