/- Rows of a file: plain laws. Rows of two texts, one behind the other: plain laws. Rows rise, and may be; what sets tell rises: plain laws. What New makes of rows and exclusions: when it answers, and which base. Plain. Which row a character has, and what that says: plain. The document's base in memory, and what is asked of it: the code. New: what it answers, and the ways that end ahead of the loops. -/
import Derived.Test.YtfdelmodmadoaaaGreatDoorY26
import Derived.RangeFuncNested
set_option linter.unusedSimpArgs false
set_option linter.unusedVariables false
set_option maxRecDepth 20000
set_option maxHeartbeats 4000000
section
section
namespace Go.Proofs.YtfdelmodmadoaaaGreatDoor
open Go.RowKit
theorem zjy {P : RowS -> Prop} (hp : ∀ l, (zae l).2 = 0 -> P (zae l).1) (hc : ∀ f x, P f -> P x -> ¬ zb1 f x -> P (zex f x)) :
  ∀ (ls : List (Int × List UInt8)) (st : StU), (∀ x ∈ st.out, P x) -> (∀ f, st.op = some f -> P f) -> ∀ x ∈ (rowsW st ls).1.out, P x
 | [], st, ho, hf => ho
 | p :: ls, st, ho, hf => by
  have key : (∀ x ∈ (takeS st p.2).1.out, P x) /\ ∀ f, (takeS st p.2).1.op = some f -> P f := by
   unfold takeS;split
   ·exact ⟨ho, hf⟩
   ·have hx := hp p.2 (by simpa using ‹¬ (zae p.2).2 ≠ 0›);generalize (zae p.2).1 = x at *;unfold takeR zb7 freeS;split
    ·rename_i f hst;split
     ·exact ⟨ho, hf⟩
     ·split
      ·exact ⟨ho, hf⟩
      ·refine ⟨fun y hy => ?_, fun f h => absurd h (by simp)⟩;rcases List.mem_append.1 hy with hy | hy
       ·exact ho y hy
       ·rw [List.mem_singleton] at hy;subst hy;exact hc f x (hf f hst) hx (by assumption)
    ·split
     ·exact ⟨ho, hf⟩
     ·split
      ·exact ⟨ho, hf⟩
      ·split
       ·exact ⟨ho, fun f h => by injection h with h; subst h; exact hx⟩
       ·refine ⟨fun y hy => ?_, fun f h => absurd h (by simp)⟩;rcases List.mem_append.1 hy with hy | hy
        ·exact ho y hy
        ·rw [List.mem_singleton] at hy;subst hy;exact hx
  by_cases he : (takeS st p.2).2 = 0
  ·rw [zco he];exact zjy hp hc ls _ key.1 key.2
  ·rw [zdk he];exact ho
theorem rowsS_all {P : RowS -> Prop} (hp : ∀ l, (zae l).2 = 0 -> P (zae l).1) (hc : ∀ f x, P f -> P x -> ¬ zb1 f x -> P (zex f x)) (s : List UInt8) : ∀ x ∈ (rowsS s).1, P x := by
 unfold rowsS endU;split
 ·intro x hx; simp at hx
 ·split
  ·intro x hx; simp at hx
  ·split
   ·intro x hx; simp at hx
   ·exact zjy hp hc _ _ (fun x hx => by simp at hx) (fun f h => by simp at h)
theorem takeS_len (st : StU) (l : List UInt8) : (takeS st l).1.out.length <= st.out.length + 1 := by
 unfold takeS;split
 ·exact Nat.le_succ _
 ·generalize (zae l).1 = x;unfold takeR zb7 freeS;repeat' split
  all_goals simp
theorem zjx : ∀ (ls : List (Int × List UInt8)) (st : StU), (rowsW st ls).1.out.length <= st.out.length + ls.length
 | [], st => by simp [rowsW]
 | p :: ls, st => by
  have h1 := takeS_len st p.2
  by_cases he : (takeS st p.2).2 = 0
  ·rw [zco he];have := zjx ls (takeS st p.2).1;simp only [List.length_cons];omega
  ·rw [zdk he];simp only [];omega
theorem zg7 (s : List UInt8) : (rowsS s).1.length <= 4096 := by
 have hl := (zdp s).2;unfold rowsS endU;split
 ·simp
 ·split
  ·simp
  ·split
   ·simp
   ·have := zjx (zbi s).1 ⟨[], none, -1⟩;simp only [List.length_nil] at this;show (rowsW ⟨[], none, -1⟩ (zbi s).1).1.out.length <= 4096;omega
end Go.Proofs.YtfdelmodmadoaaaGreatDoor
end
section
namespace Go.Proofs.YtfdelmodmadoaaaGreatDoor
open Go.RowKit
def zke (l : List RowS) : Int := match l.getLast? with | some x => x.up | none => -1
theorem zhf (l : List RowS) (x : RowS) : zke (l ++ [x]) = x.up := by simp [zke]
theorem parse_up (l : List UInt8) : (zae l).1.up = (zae l).1.fr := by
 unfold zae zik;repeat' split
 all_goals rfl
theorem take_cases {st : StU} {l : List UInt8} (h : (takeS st l).2 = 0) :
  (∃ f, st.op = some f /\ ¬ zb1 f (zae l).1 /\ (takeS st l).1 = ⟨st.out ++ [zex f (zae l).1], none, (zae l).1.fr⟩) \/
  (st.op = none /\ st.was < (zae l).1.fr /\ ((takeS st l).1 = ⟨st.out, some (zae l).1, st.was⟩ \/ (takeS st l).1 = ⟨st.out ++ [(zae l).1], none, (zae l).1.fr⟩)) := by
 have hp : (zae l).2 = 0 := by
  by_cases hp : (zae l).2 = 0
  ·exact hp
  ·exfalso;unfold takeS at h;rw [if_pos hp] at h;exact hp h
 have ht : takeS st l = takeR st (zae l).1 := (by unfold takeS; rw [if_neg (by rw [hp]; simp)]);rw [ht] at h ⊢;generalize (zae l).1 = x at *;unfold takeR at *
 cases hst : st.op with
 | some f =>
  simp only [hst] at h ⊢;refine .inl ⟨f, rfl, ?_⟩;split at h
  ·simp at h
  ·rename_i hi;rw [if_neg hi];unfold zb7 at *;split at h
   ·simp at h
   ·rename_i hc;rw [if_neg hc];exact ⟨hc, rfl⟩
 | none =>
  simp only [hst] at h ⊢;refine .inr ⟨by trivial, ?_⟩;split at h
  ·simp at h
  ·rename_i hi;rw [if_neg hi];unfold freeS at *;split at h
   ·simp at h
   ·rename_i hw;rw [if_neg hw];refine ⟨by omega, ?_⟩;split
    ·exact .inl rfl
    ·exact .inr rfl
end Go.Proofs.YtfdelmodmadoaaaGreatDoor
end
end
namespace Go.Proofs.YtfdelmodmadoaaaGreatDoor
section
open Go.RowKit
structure RowV (x : RowS) : Prop where
 fr : zaq x.fr = true
 up : zaq x.up = true
 le : x.fr <= x.up
 cl : 0 <= x.cl /\ x.cl <= 254
 len : x.il.length <= 18
 il : ∀ z ∈ x.il, zaq z = true
 kd : zah x.kd = true
 some : x.kd ≠ [] -> x.il ≠ []
 one : x.fr < x.up -> x.il = []
theorem zhk {l : List UInt8} (h : (hexS l).2 = 0) : zaq (hexS l).1 = true := by
 unfold hexS at *;split at h
 ·simp at h
 ·rename_i h1;rw [if_neg h1];split at h
  ·rename_i h2;rw [if_pos h2];exact h2
  ·simp at h
theorem zev : ∀ (ws : List (List UInt8)) (out : List Int), (zaz out ws).2 = 0 -> (∀ z ∈ out, zaq z = true) -> (∀ z ∈ (zaz out ws).1, zaq z = true) /\ (zaz out ws).1.length = out.length + ws.length
 | [], out, h, ho => ⟨ho, by simp [zaz]⟩
 | w :: ws, out, h, ho => by
  by_cases he : (hexS w).2 = 0
  ·rw [zeh he] at h ⊢
   obtain ⟨h1, h2⟩ := zev ws _ h (fun z hz => by
    rcases List.mem_append.1 hz with hz | hz
    ·exact ho z hz
    ·rw [List.mem_singleton] at hz;subst hz
     exact zhk he)
   refine ⟨h1, ?_⟩;have e : (out ++ [(hexS w).1]).length = out.length + 1 := (by simp);rw [h2, e];simp only [List.length_cons];omega
  ·rw [zfi he] at h;exact absurd h he
theorem zi0 : ∀ (l w : List UInt8), (w ≠ [] \/ ∃ b ∈ l, zai b = false) -> zk w l ≠ []
 | [], w, h => by
  rcases h with h | ⟨b, hb, _⟩
  ·simp [zk, h]
  ·simp at hb
 | b :: t, w, h => by
  cases hb : zai b
  ·rw [zck _ _ hb];exact zi0 t _ (.inl (by simp))
  ·rw [zc2 _ _ hb];split
   ·rename_i hw;refine zi0 t _ (.inr ?_);rcases h with h | ⟨c, hc, hcb⟩
    ·exact absurd hw h
    ·rcases List.mem_cons.1 hc with rfl | hc
     ·rw [hb] at hcb; simp at hcb
     ·exact ⟨c, hc, hcb⟩
   ·simp
theorem lstrip_all {l : List UInt8} (h : ∀ b ∈ l, zai b = true) : lstrip l = [] := by
 induction l with
 | nil => rfl
 | cons b t ih =>
  rw [lstrip_yes (h b (by simp))];exact ih (fun c hc => h c (by simp [hc]))
theorem bare_ne {l : List UInt8} (h : bareL l ≠ []) : ∃ b ∈ l, zai b = false := by
 apply Classical.byContradiction;intro hn;apply h;unfold bareL
 rw [lstrip_all (fun b hb => by
  cases hbb : zai b
  ·exact absurd ⟨b, hb, hbb⟩ hn
  ·rfl)]
 rfl
theorem into_v {s : List UInt8} (h : (intoS s).2.2 = 0) : (intoS s).2.1.length <= 18 /\ (∀ z ∈ (intoS s).2.1, zaq z = true) /\ zah (intoS s).1 = true /\ ((intoS s).1 ≠ [] -> (intoS s).2.1 ≠ []) := by
 have hr : ∀ k t, (intoR k t).2.2 = 0 -> (intoR k t).1 = k /\ (intoR k t).2.1.length <= 18 /\ (∀ z ∈ (intoR k t).2.1, zaq z = true) /\ (intoR k t).2.1.length = (zdi t).length := by
  intro k t h;unfold intoR at *;split at h
  ·rename_i h1; exact absurd h h1
  ·rename_i h1;split at h
   ·simp at h
   ·rename_i h2;rw [if_neg h1, if_neg h2];obtain ⟨g1, g2⟩ := zev (zdi t) [] (by simpa [zbl] using h1) (by simp);refine ⟨rfl, by simp only []; omega, g1, ?_⟩;simpa [zbl] using g2
 unfold intoS at *;split at h
 ·rename_i hp;split at h
  ·simp at h
  ·rename_i hb;rw [if_pos hp, if_neg hb];obtain ⟨g1, g2, g3, g4⟩ := hr _ _ h;simp only [not_or] at hb;refine ⟨g2, g3, by rw [g1]; simpa using hb.2.2.1, fun _ => ?_⟩;intro he;rw [he] at g4;exact zi0 _ _ (.inr (bare_ne hb.2.2.2)) (List.eq_nil_of_length_eq_zero g4.symm)
 ·rename_i hp;rw [if_neg hp];obtain ⟨g1, g2, g3, g4⟩ := hr _ _ h;refine ⟨g2, g3, by rw [g1]; rfl, fun hk => absurd g1 hk⟩
theorem parse_v {l : List UInt8} (h : (zae l).2 = 0) : RowV (zae l).1 := by
 unfold zae zik at *;split at h
 ·simp at h
 ·rename_i h1;split at h
  ·rename_i h2; exact absurd h h2
  ·rename_i h2;split at h
   ·rename_i h3; exact absurd h h3
   ·rename_i h3;split at h
    ·simp at h
    ·rename_i h4;split at h
     ·rename_i h5; exact absurd h h5
     ·rename_i h5;rw [if_neg h1, if_neg h2, if_neg h3, if_neg h4, if_neg h5];obtain ⟨v1, v2, v3, v4⟩ := into_v (Classical.not_not.1 h5);have hx := zhk (Classical.not_not.1 h2);refine ⟨hx, hx, Int.le_refl _, ⟨?_, by simp only []; omega⟩, v1, v2, v3, v4, fun hlt => absurd hlt (Int.lt_irrefl _)⟩;show 0 <= (decS _).1;unfold decS at h3 ⊢;split
      ·simp
      ·simp only []; omega
theorem range_v {f x : RowS} (hf : RowV f) (hx : RowV x) (hc : ¬ zb1 f x) : RowV (zex f x) := by
 unfold zb1 at hc;simp only [not_or] at hc;exact ⟨hf.fr, hx.fr, by show f.fr <= x.fr; omega, hx.cl, by simp [zex], fun z hz => by simp [zex] at hz, rfl, fun h => absurd rfl h, fun _ => rfl⟩
theorem rows_v (s : List UInt8) : ∀ x ∈ (rowsS s).1, RowV x := rowsS_all (fun l h => parse_v h) (fun f x hf hx hc => range_v hf hx hc) s
def Rise (l : List RowS) : Prop := ∀ i a b, l[i]? = some a -> l[i + 1]? = some b -> a.up < b.fr
theorem Rise.snoc {l : List RowS} {x : RowS} (h : Rise l) (hx : l ≠ [] -> zke l < x.fr) : Rise (l ++ [x]) := by
 intro i a b ha hb
 by_cases hi : i + 1 < l.length
 ·rw [List.getElem?_append_left hi] at hb;rw [List.getElem?_append_left (by omega)] at ha;exact h i a b ha hb
 ·have hlt : i + 1 < (l ++ [x]).length := (List.getElem?_eq_some_iff.1 hb).1;rw [List.length_append, List.length_singleton] at hlt;have hil : i + 1 = l.length := (by omega);rw [hil, List.getElem?_append_right (Nat.le_refl _), Nat.sub_self] at hb;simp at hb;subst hb;rw [List.getElem?_append_left (by omega)] at ha;have hne : l ≠ [] := (by intro h; rw [h] at hil; simp at hil);have := hx hne;unfold zke at this;rw [List.getLast?_eq_getElem?, show l.length - 1 = i by omega, ha] at this;exact this
theorem zdy : ∀ (L : List (Int × List UInt8)) (st : StU), Rise st.out -> st.was = zke st.out -> (∀ f, st.op = some f -> st.was < f.fr) -> Rise (rowsW st L).1.out
 | [], st, h, _, _ => h
 | p :: L, st, h, hw, hf => by
  by_cases he : (takeS st p.2).2 = 0
  ·rw [zco he];rcases take_cases he with ⟨f, hop, hc, hh⟩ | ⟨_, hlt, hh | hh⟩
   ·rw [hh];refine zdy L _ (h.snoc fun _ => ?_) (by rw [zhf]; rfl) (fun f h => by simp at h);have := hf f hop;rw [hw] at this;exact this
   ·rw [hh];exact zdy L _ h hw (fun f h => by injection h with h; subst h; exact hlt)
   ·rw [hh];refine zdy L _ (h.snoc fun _ => ?_) (by rw [zhf, parse_up]) (fun f h => by simp at h);rw [hw] at hlt;exact hlt
  ·rw [zdk he];exact h
theorem rows_rise (s : List UInt8) : Rise (rowsS s).1 := by
 have hn : Rise [] := fun i a b ha => by simp at ha
 unfold rowsS endU;split
 ·exact hn
 ·split
  ·exact hn
  ·split
   ·exact hn
   ·exact zdy _ _ hn rfl (fun f h => by simp at h)
def SetV (l : List Int) : Prop := (∀ z ∈ l, zaq z = true) /\ l.Nodup
theorem zog : ∀ (n : Nat) (out : List Int) (r : Int), SetV out -> (∀ z ∈ out, z < r \/ r + n <= z) -> SetV (addW out r n).1
 | 0, out, r, h, _ => h
 | n + 1, out, r, h, hz => by
  have h2 : SetV (addO out r) /\ ∀ z ∈ addO out r, z < r + 1 \/ r + 1 + n <= z := by
   unfold addO;split
   ·rename_i hs;refine ⟨⟨fun z hz => ?_, ?_⟩, fun z hm => ?_⟩
    ·rcases List.mem_append.1 hz with hz | hz
     ·exact h.1 z hz
     ·rw [List.mem_singleton] at hz; subst hz; exact hs
    ·rw [List.nodup_append];refine ⟨h.2, by simp, fun a ha b hb => ?_⟩;rw [List.mem_singleton] at hb;subst hb;have := hz a ha;omega
    ·rcases List.mem_append.1 hm with hm | hm
     ·have := hz z hm; omega
     ·rw [List.mem_singleton] at hm; subst hm; left; omega
   ·exact ⟨h, fun z hm => by have := hz z hm; omega⟩
  by_cases hl : 4096 < (addO out r).length
  ·rw [zfd hl];exact h2.1
  ·rw [zf2 hl];exact zog n _ _ h2.1 h2.2
theorem setStep_v {out : List Int} {l : List UInt8} (h : SetV out) : SetV (zau out l).1 := by
 unfold zau setR;split
 ·exact h
 ·rename_i h1;split
  ·exact h
  ·rename_i h2;split
   ·exact h
   ·unfold zf5;obtain ⟨k1, k2, k3⟩ := zg9 (l := fldS l) (by simpa using h1);refine zog _ _ _ h (fun z hz => ?_)
    have hb : betw (zal (fldS l)).1 (zal (fldS l)).2.1 z = false := by
     rw [Bool.not_eq_true, List.any_eq_false] at h2;simpa using h2 z hz
    unfold betw at hb;simp at hb;omega
theorem zm3 : ∀ (ls : List (Int × List UInt8)) (out : List Int), SetV out -> SetV (setsW out ls).1
 | [], out, h => h
 | p :: ls, out, h => by
  by_cases he : (zau out p.2).2 = 0
  ·rw [zdx he];exact zm3 ls _ (setStep_v h)
  ·rw [zby he];exact ⟨fun z hz => by simp at hz, by simp⟩
theorem sets_v (s : List UInt8) : (∀ z ∈ (setsS s).1, zaq z = true) /\ (setsS s).1.Pairwise (· < ·) := by
 unfold setsS setsE;split
 ·simp
 ·obtain ⟨h1, h2⟩ := zm3 (zbi s).1 [] ⟨fun z hz => by simp at hz, by simp⟩;generalize (setsW [] (zbi s).1).1 = out at *;refine ⟨fun z hz => h1 z ((zc4 out).mem_iff.1 hz), ?_⟩;have hs := zh5 out;have hn : (srt out).Nodup := (zc4 out).nodup_iff.2 h2;show (srt out).Pairwise (· < ·);have := hs.and hn;exact this.imp (fun ⟨h, k⟩ => by omega)
end
section
open Go.RowKit
structure RowsG (rows : List RowS) : Prop where
 v : ∀ x ∈ rows, RowV x
 rise : Rise rows
theorem zlr (s : List UInt8) : RowsG (rowsS s).1 := ⟨rows_v s, rows_rise s⟩
theorem zbw {z : Int} (h : zaq z = true) : z ∈ allR := by
 rw [zd1];unfold zaq at h;simp at h;omega
theorem zeu {z : Int} (h : zaq z = true) : R32 z := zb9 (zbw h)
section
variable {rows : List RowS} {out : List Int}
theorem RowsG.rowT (h : RowsG rows) : ∀ x ∈ rows, RowT x := fun x hx => by
 have v := h.v x hx;have h1 := zd1.1 (zbw v.fr);have h2 := zd1.1 (zbw v.up);exact ⟨h1.1, v.le, by omega, v.len⟩
theorem RowsG.into (h : RowsG rows) : ∀ r q, prtL rows r = some q -> r ∈ allR /\ (∀ y ∈ q.2, y ∈ allR) /\ q.2.length <= 18 /\ q.2 ≠ [] := fun r q hq => by
 obtain ⟨x, hx, e, hne, rfl⟩ := zfm hq;have v := h.v x hx;exact ⟨by rw [<- e]; exact zbw v.fr, fun y hy => zbw (v.il y hy), v.len, hne⟩
structure NewOk (rows : List RowS) (out : List Int) : Prop where
 there : rows.any zao = false
 form : rows.any formB = false
 ends : ∀ r, (prtL rows r).isSome = true -> Ends (fun x => (decH (prtL rows) x).2) r
 few : ∀ wf : WellFounded fun y x => y ∈ (decH (prtL rows) x).2, ∀ r, (prtL rows r).isSome = true -> lenD (fun x => (decH (prtL rows) x).2) wf r <= 18
 join : ∀ x, madeQ (clsL rows) (prtL rows) out x = true -> zdr (zap (prtL rows) x) = false
 one : ∀ x y, madeQ (clsL rows) (prtL rows) out x = true -> madeQ (clsL rows) (prtL rows) out y = true -> zap (prtL rows) x = zap (prtL rows) y -> x = y
def prL (rows : List RowS) (out : List Int) (p : Int × Int) : Option Int := (rows.find? fun x => madeQ (clsL rows) (prtL rows) out x.fr && decide (zap (prtL rows) x.fr = p)).map (·.fr)
def scL (rows : List RowS) (out : List Int) (y : Int) : Option Int := if (rows.any fun x => madeQ (clsL rows) (prtL rows) out x.fr && decide ((zap (prtL rows) x.fr).2 = y)) = true then some 1 else none
theorem zjd {x : Int} (h : madeQ (clsL rows) (prtL rows) out x = true) : ∃ r ∈ rows, r.fr = x := by
 obtain ⟨h1, _⟩ := zcv h;obtain ⟨r, hr, e, _⟩ := zfm h1;exact ⟨r, hr, e⟩
theorem zgd (h : NewOk rows out) {p : Int × Int} {x : Int} : prL rows out p = some x ↔ madeQ (clsL rows) (prtL rows) out x = true /\ zap (prtL rows) x = p := by
 unfold prL;constructor
 ·intro e;obtain ⟨r, hr, rfl⟩ := Option.map_eq_some_iff.1 e;have := List.find?_some hr;simp only [Bool.and_eq_true, decide_eq_true_eq] at this;exact this
 ·rintro ⟨h1, h2⟩;obtain ⟨r, hr, rfl⟩ := zjd h1
  cases hf : rows.find? fun x => madeQ (clsL rows) (prtL rows) out x.fr && decide (zap (prtL rows) x.fr = p) with
  | none =>
   have := List.find?_eq_none.1 hf r hr;simp [h1, h2] at this
  | some q =>
   have := List.find?_some hf;simp only [Bool.and_eq_true, decide_eq_true_eq] at this;rw [Option.map_some, h.one q.fr r.fr this.1 h1 (this.2.trans h2.symm)]
theorem zm4 {y : Int} : 0 < gd (scL rows out) y ↔ ∃ x, madeQ (clsL rows) (prtL rows) out x = true /\ (zap (prtL rows) x).2 = y := by
 unfold gd scL;split
 ·rename_i h;obtain ⟨r, hr, h1⟩ := List.any_eq_true.1 h;simp only [Bool.and_eq_true, decide_eq_true_eq] at h1;exact ⟨fun _ => ⟨r.fr, h1⟩, fun _ => by simp⟩
 ·rename_i h;constructor
  ·intro h; simp at h
  ·rintro ⟨x, h1, h2⟩;obtain ⟨r, hr, rfl⟩ := zjd h1;exact absurd (List.any_eq_true.2 ⟨r, hr, by simp [h1, h2]⟩) h
theorem zl9 (h : NewOk rows out) (r : Int) : Ends (fun x => (decH (prtL rows) x).2) r := zgk h.ends r
theorem zkx {α : Type} {l : List α} {p : α -> Bool} (h : l.any p = false) : ∀ x ∈ l, p x = false := by
 intro x hx;rw [List.any_eq_false] at h;simpa using h x hx
theorem new_ok (g : RowsG rows) (h : NewOk rows out) : zmx (clsL rows) (prtL rows) (prL rows out) (scL rows out) where
 cls0 := zfw fun x hx => (g.v x hx).cl.1
 ch := fun r hr => cls_hang (fun x hx => (g.v x hx).cl.1) (zkx h.there) hr
 ph := fun r hr => zlx (zkx h.there) (fun x hx => (g.v x hx).le) hr
 ends := zl9 h
 made := fun x y r hp => by
  obtain ⟨a2, a3⟩ := (zgd h).1 hp;obtain ⟨b1, _, b3, _⟩ := zcv a2;rw [a3] at b1;refine ⟨b1, ?_, zm4.2 ⟨r, a2, by rw [a3]⟩⟩;have := zfw (l := rows) (fun x hx => (g.v x hx).cl.1) r;omega
def baseF (g : RowsG rows) (h : NewOk rows out) : BaseF := (new_ok g h).toF
theorem mk_pair (h : NewOk rows out) {ss : List Int} {pr : Int × Int -> Option Int} {md : Int -> Option (Int × Int)} {sc : Int -> Option Int}
  (hM : MkI (madeQ (clsL rows) (prtL rows) out) (zap (prtL rows)) zdr ss false pr md sc) (hall : ∀ x, madeQ (clsL rows) (prtL rows) out x = true -> x ∈ ss) : (∀ p, pr p = prL rows out p) /\ ∀ y, secH sc y = secH (scL rows out) y := by
 refine ⟨fun p => ?_, fun y => ?_⟩
 ·cases hp : pr p with
  | some x =>
   obtain ⟨_, a2, a3⟩ := hM.pr1 p x hp;exact ((zgd h).2 ⟨a2, a3⟩).symm
  | none =>
   cases hq : prL rows out p with
   | none => rfl
   | some x =>
    obtain ⟨a2, a3⟩ := (zgd h).1 hq;have := hM.pr2 x (hall x a2) a2;rw [a3, hp] at this
    cases this
 ·unfold secH;congr 1;apply decide_eq_decide.2;have h1 := hM.sc2 y;have h2 := zm4 (rows := rows) (out := out) (y := y);unfold gd at h1 h2;rw [h1, h2];constructor
  ·rintro ⟨x, _, h3⟩; exact ⟨x, h3⟩
  ·rintro ⟨x, h3, h4⟩; exact ⟨x, hall x h3, h3, h4⟩
end
theorem nil_ok : zmx (fun _ => 0) (fun _ => none) (fun _ => none) (fun _ => none) where
 cls0 := fun _ => Int.le_refl _
 ch := fun _ _ => rfl
 ph := fun _ _ => rfl
 ends := zgk fun r h => by cases h
 made := fun x y r h => by cases h
def nilB : BaseF := nil_ok.toF
structure zan (B : BaseF) : Prop where
 dec : ∀ r, ∀ y ∈ (B.dec r).2, R32 y
 declen : ∀ r, (B.dec r).2.length <= 18
 pair : ∀ x y c, R32 x -> R32 y -> B.pair x y = some c -> R32 c
 len : ∀ c r, (B.one c r).length <= 54
theorem one_le (B : BaseF) (c : Bool) (r : Int) : (B.one c r).length <= (B.one true r).length := by
 have key : ∀ r, (B.one false r).length <= (B.one true r).length := fun r => by
  induction r using B.wf.induction with
  | _ r ih =>
   by_cases hp : B.parts false r = []
   ·rw [B.one_none hp];have := B.one_ne true r;have : 0 < (B.one true r).length := List.length_pos_iff.2 this;simp only [List.length_singleton];omega
   ·have e : B.parts true r = B.parts false r := by
     unfold BaseF.parts at hp ⊢
     by_cases h1 : (B.dec r).1 ≠ []
     ·rw [if_pos ⟨h1, rfl⟩] at hp; exact absurd rfl hp
     ·rw [if_neg (by simp at h1 ⊢), if_neg (by simp at h1 ⊢; exact h1)]
    rw [B.one_some hp, B.one_some (by rw [e]; exact hp), e]
    have : ∀ l : List Int, (∀ y ∈ l, y ∈ (B.dec r).2) -> (l.flatMap (B.one false)).length <= (l.flatMap (B.one true)).length := fun l => by
     induction l with
     | nil => intro _; simp
     | cons x t ih2 =>
      intro h;have h1 := ih x (h x (by simp));have h2 := ih2 fun y hy => h y (by simp [hy]);simp only [List.flatMap_cons, List.length_append];omega
    exact this _ fun y hy => zez hy
 cases c with
 | true => exact Nat.le_refl _
 | false => exact key r
theorem join_R {x y : Int} (h : R32 x) : R32 (joinH x y).1 := by
 have := joinH_i32 x y (by obtain ⟨h1, h2⟩ := h; omega);unfold R32;omega
theorem splitH_R {r : Int} (h : 44032 <= r /\ r < 55204) : R32 (zw r).1 /\ R32 (zw r).2.1 := by
 unfold zw R32;rw [if_pos h];split <;> simp only [] <;> omega
theorem len_plain (B : BaseF) (h18 : ∀ r, ¬ (44032 <= r /\ r < 55204) -> (B.one true r).length <= 18) (hs : ∀ r, 44032 <= r /\ r < 55204 -> B.dec r = ([], [(zw r).1, (zw r).2.1])) (r : Int) : (B.one true r).length <= 54 := by
 have two : ∀ r, 44032 <= r /\ r < 55204 -> B.one true r = B.one true (zw r).1 ++ B.one true (zw r).2.1 := fun r hr => by
  have hp : B.parts true r = [(zw r).1, (zw r).2.1] := (by unfold BaseF.parts; rw [hs r hr]; simp);rw [B.one_some (by rw [hp]; simp), hp];simp
 have lv : ∀ r, 44032 <= r /\ r < 55204 -> (r - 44032) % 28 = 0 -> (B.one true r).length <= 36 := fun r hr h0 => by
  obtain ⟨e1, e2⟩ := zet hr h0;rw [two r hr, List.length_append, e1, e2];have a1 := h18 (4352 + (r - 44032) / 588) (by omega);have a2 := h18 (4449 + (r - 44032) / 28 % 21) (by omega);omega
 by_cases hr : 44032 <= r /\ r < 55204
 ·by_cases h0 : (r - 44032) % 28 = 0
  ·have := lv r hr h0; omega
  ·obtain ⟨e1, e2⟩ := zc5 hr h0;rw [two r hr, List.length_append, e1, e2];have a1 := lv (r - (r - 44032) % 28) (by omega) (by omega);have a2 := h18 (4519 + (r - 44032) % 28) (by omega);omega
 ·have := h18 r hr; omega
theorem zmo {prt : Int -> Option (List UInt8 × List Int)} (h : ∀ r q, prt r = some q -> (∀ y ∈ q.2, R32 y) /\ q.2.length <= 18) (r : Int) : (∀ y ∈ (decH prt r).2, R32 y) /\ (decH prt r).2.length <= 18 := by
 unfold decH;split
 ·rename_i hr;obtain ⟨h1, h2⟩ := splitH_R hr;refine ⟨fun y hy => ?_, by simp⟩;simp at hy;rcases hy with rfl | rfl <;> assumption
 ·cases hp : prt r with
  | none => simp
  | some q => exact h r q hp
theorem pair_bd {pr : Int × Int -> Option Int} (h : ∀ p c, pr p = some c -> R32 c) {x y c : Int} (hx : R32 x) (hc : pairH pr x y = some c) : R32 c := by
 unfold pairH at hc
 cases hp : pr (x, y) with
 | some q => rw [hp] at hc; injection hc with hc; subst hc; exact h _ _ hp
 | none =>
  rw [hp] at hc;simp only [] at hc;split at hc
  ·injection hc with hc; subst hc; exact join_R hx
  ·cases hc
theorem znv {rows : List RowS} {out : List Int} (g : RowsG rows) (h : NewOk rows out) : zan (baseF g h) where
 dec := fun r => (zmo (prt := prtL rows) (fun r q hq => by obtain ⟨_, h1, h2, _⟩ := g.into r q hq; exact ⟨fun y hy => zb9 (h1 y hy), h2⟩) r).1
 declen := fun r => (zmo (prt := prtL rows) (fun r q hq => by obtain ⟨_, h1, h2, _⟩ := g.into r q hq; exact ⟨fun y hy => zb9 (h1 y hy), h2⟩) r).2
 pair := fun x y c hx _ hc => pair_bd (pr := prL rows out) (fun p c hp => by
  obtain ⟨r, hr, e⟩ := zjd ((zgd h).1 hp).1;rw [<- e]
  exact zeu (g.v r hr).fr) hx hc
 len := fun c r => by
  refine Nat.le_trans (one_le _ c r) (len_plain _ (fun r hr => ?_) (fun r hr => ?_) r)
  ·rw [<- lenD_one]
   by_cases hk : (prtL rows r).isSome = true
   ·exact h.few (baseF g h).wf r hk
   ·have hd : (decH (prtL rows) r).2 = [] := by
     rw [zfa hr]
     cases hq : prtL rows r with
     | none => rfl
     | some q => rw [hq] at hk; exact absurd rfl hk
    have e : ((baseF g h).dec r).2 = [] := hd;rw [zfp, if_pos e];omega
  ·show decH (prtL rows) r = _;unfold decH;rw [if_pos hr]
def zax (w : World) (v : Value) (B : BaseF) : Prop :=
 (v = .pointer none /\ B = nilB) \/ ∃ bp a n cls prt pr md sc, v = .pointer (some ⟨bp, 0, none⟩) /\ BaseM w bp a n cls prt pr md sc /\ (∀ r, B.cls r = cls r) /\ (∀ r, B.dec r = decH prt r) /\ (∀ x y, B.pair x y = pairH pr x y) /\ ∀ r, B.sec r = secH sc r
section
variable {w w' : World} {v : Value} {B : BaseF}
theorem zax.nil (w : World) : zax w (.pointer none) nilB := .inl ⟨rfl, rfl⟩
theorem zax.below (h : zax w v B) (hb : Below w.heap.size w w') : zax w' v B := by
 rcases h with h | ⟨bp, a, n, cls, prt, pr, md, sc, h1, h2, h3⟩
 ·exact .inl h
 ·exact .inr ⟨bp, a, n, cls, prt, pr, md, sc, h1, h2.below hb, h3⟩
theorem zd6 (h : zax w v B) (r : Int) (hr : R32 r) : Calls Tryz.prog 16 #[v, .int .i32 r] w fun e w' => e = .returned (.int .i64 (B.cls r)) /\ Below w.heap.size w w' := by
 rcases h with ⟨rfl, rfl⟩ | ⟨bp, a, n, cls, prt, pr, md, sc, rfl, h2, h3, _⟩
 ·exact class_nil r w
 ·rw [h3]; exact zhu h2 r hr
theorem decomp_is (h : zax w v B) (r : Int) (hr : R32 r) (hk : Kinds w) : Calls Tryz.prog 11 #[v, .int .i32 r] w (DecP (B.dec r).1 (B.dec r).2 w) := by
 rcases h with ⟨rfl, rfl⟩ | ⟨bp, a, n, cls, prt, pr, md, sc, rfl, h2, _, h3, _⟩
 ·exact decomp_none r w hk
 ·rw [h3]; exact zfu h2 r hr hk
theorem zm8 (h : zax w v B) (x y : Int) (hx : R32 x) (hy : R32 y) (hk : Kinds w) : Calls Tryz.prog 28 #[v, .int .i32 x, .int .i32 y] w fun e w' => e = .returned (zbm (B.pair x y)) /\ Below w.heap.size w w' := by
 rcases h with ⟨rfl, rfl⟩ | ⟨bp, a, n, cls, prt, pr, md, sc, rfl, h2, _, _, h3, _⟩
 ·exact pair_none x y w hx hy hk
 ·rw [h3]; exact zl0 h2 x y hx hy hk
theorem sec_is (h : zax w v B) (r : Int) (hr : R32 r) (hk : Kinds w) : Calls Tryz.prog 123 #[v, .int .i32 r] w fun e w' => e = .returned (.bool (B.sec r)) /\ Below w.heap.size w w' := by
 rcases h with ⟨rfl, rfl⟩ | ⟨bp, a, n, cls, prt, pr, md, sc, rfl, h2, _, _, _, h3⟩
 ·exact sec_none r w hr hk
 ·rw [h3]; exact sec_any h2 r hr hk
end
end
section
open Go.RowKit
def za6 (x : RowS) (r : Int) : Prop := x.fr <= r /\ r <= x.up
instance (x : RowS) (r : Int) : Decidable (za6 x r) := by unfold za6; exact inferInstance
def Disj (rows : List RowS) : Prop := rows.Pairwise fun x y => x.up < y.fr
theorem zft {rows : List RowS} (g : RowsG rows) : Disj rows := by
 have hr := g.rise;have hv := g.v;clear g;induction rows with
 | nil => exact List.Pairwise.nil
 | cons a t ih =>
  have h1 : Rise t := fun i x y hx hy => hr (i + 1) x y (by simpa using hx) (by simpa using hy);have h2 := ih h1 fun x hx => hv x (by simp [hx]);refine List.Pairwise.cons (fun y hy => ?_) h2
  cases t with
  | nil => cases hy
  | cons b t' =>
   have hab := hr 0 a b rfl rfl;rcases List.mem_cons.1 hy with rfl | hy
   ·exact hab
   ·have hb := (hv b (by simp)).le;have := List.rel_of_pairwise_cons h2 hy;omega
theorem zg0 {α : Type} {p : List α -> Prop} (h0 : p []) (h1 : ∀ l x, p l -> p (l ++ [x])) (l : List α) : p l := by
 have h2 : ∀ (s : List α) (q : List α), p q -> p (q ++ s) := by
  intro s;induction s with
  | nil => intro q hq; simpa using hq
  | cons a t ih => intro q hq; have := ih (q ++ [a]) (h1 q a hq); simpa using this
 exact h2 l [] h0
section
variable {rows : List RowS}
theorem Disj.one (d : Disj rows) (hle : ∀ x ∈ rows, x.fr <= x.up) {i j : Nat} {x y : RowS} {r : Int} (hx : rows[i]? = some x) (hy : rows[j]? = some y) (h1 : za6 x r) (h2 : za6 y r) : i = j := by
 have key : ∀ {i j : Nat} {x y : RowS}, rows[i]? = some x -> rows[j]? = some y -> za6 x r -> za6 y r -> ¬ i < j := fun {i j x y} hx hy h1 h2 hij => by
  obtain ⟨a1, rfl⟩ := List.getElem?_eq_some_iff.1 hx;obtain ⟨a2, rfl⟩ := List.getElem?_eq_some_iff.1 hy;have := List.pairwise_iff_getElem.1 d i j a1 a2 hij;unfold za6 at h1 h2;omega
 have k1 := key hx hy h1 h2;have k2 := key hy hx h2 h1;omega
theorem zly (hle : ∀ x ∈ rows, x.fr <= x.up) {r : Int} (h : ∀ x ∈ rows, ¬ za6 x r) : prtL rows r = none := by
 cases hp : prtL rows r with
 | none => rfl
 | some q =>
  obtain ⟨x, hx, e, _⟩ := zfm hp;have := hle x hx;exact absurd ⟨by omega, by omega⟩ (h x hx)
theorem clsL_out {r : Int} : ∀ {rows : List RowS}, (∀ x ∈ rows, ¬ za6 x r) -> clsL rows r = 0 := by
 intro rows';induction rows' using zg0 with
 | h0 => intro _; rfl
 | h1 l x ih =>
  intro h;rw [zht];unfold clsN;rw [show (if x.fr <= r /\ r <= x.up then x.cl else clsL l r) = clsL l r from if_neg (h x (by simp))];exact ih fun y hy => h y (by simp [hy])
theorem znr {r : Int} {x : RowS} : ∀ {rows : List RowS}, Disj rows -> x ∈ rows -> za6 x r -> clsL rows r = x.cl := by
 intro rows';induction rows' using zg0 with
 | h0 => intro _ h; cases h
 | h1 l z ih =>
  intro d hx h;rw [zht];unfold clsN;have d2 := List.pairwise_append.1 d;rcases List.mem_append.1 hx with hx | hx
  ·have := d2.2.2 x hx z (by simp);rw [if_neg (by unfold za6 at h; omega)];exact ih d2.1 hx h
  ·rw [List.mem_singleton] at hx;subst hx;exact if_pos h
theorem zla {r : Int} {x : RowS} : ∀ {rows : List RowS}, Disj rows -> (∀ x ∈ rows, x.fr <= x.up) -> x ∈ rows -> za6 x r -> (x.fr < x.up -> x.il = []) -> prtL rows r = if x.il = [] then none else some (x.kd, x.il) := by
 intro rows';induction rows' using zg0 with
 | h0 => intro _ _ h; cases h
 | h1 l z ih =>
  intro d hle hx h ho;rw [zha];have d2 := List.pairwise_append.1 d;have hlz := hle z (by simp);rcases List.mem_append.1 hx with hx | hx
  ·have h3 := d2.2.2 x hx z (by simp);have h4 := ih d2.1 (fun y hy => hle y (by simp [hy])) hx h ho;unfold prtN;split
   ·exact h4
   ·unfold upd;rw [if_neg (by unfold za6 at h; omega)];exact h4
  ·rw [List.mem_singleton] at hx;subst hx;unfold prtN;split
   ·refine zly (fun y hy => hle y (by simp [hy])) fun y hy hh => ?_;have := d2.2.2 y hy x (by simp);unfold za6 at h hh;omega
   ·rename_i hne;unfold upd;have hfu : ¬ x.fr < x.up := fun e => hne (ho e);rw [if_pos (by unfold za6 at h; omega)]
theorem dec_at (g : RowsG rows) {x : RowS} (hx : x ∈ rows) {r : Int} (h : za6 x r) : (prtL rows r).getD ([], []) = (x.kd, x.il) := by
 have v := g.v x hx;rw [zla (zft g) (fun x hx => (g.v x hx).le) hx h v.one];split
 ·rename_i he
  have hk : x.kd = [] := by
   apply Classical.byContradiction;intro hne;exact v.some hne he
  rw [he, hk];rfl
 ·rfl
theorem ziq (g : RowsG rows) {x : RowS} (hx : x ∈ rows) : za6 x x.fr := ⟨Int.le_refl _, (g.v x hx).le⟩
def madeR (cls : Int -> Int) (out : List Int) (x : RowS) : Bool := decide (x.kd = []) && (decide (x.il.length = 2) && (!decide (x.fr ∈ out) && (decide (x.cl = 0) && decide (cls (x.il.headD 0) = 0))))
theorem ze3 (g : RowsG rows) (out : List Int) {x : RowS} (hx : x ∈ rows) : madeR (clsL rows) out x = madeQ (clsL rows) (prtL rows) out x.fr := by
 have hh := ziq g hx;have v := g.v x hx;have hp := zla (zft g) (fun x hx => (g.v x hx).le) hx hh v.one;have hc := znr (zft g) hx hh;have hn : ∀ z, 0 <= clsL rows z := zfw fun x hx => (g.v x hx).cl.1;unfold madeR madeQ;rw [hp];obtain ⟨fr, up, nm, ct, cl, kd, il⟩ := x;simp only [] at hc hp v ⊢;match kd, il with
 | [], [] => simp
 | [], [_] => simp
 | [], [u, w] =>
  have h2 := hn u
  have e1 : (decide (cl = 0)) = !decide (0 < cl) := by
   have := v.cl.1;simp only [] at this
   by_cases h : cl = 0
   ·subst h; rfl
   ·rw [decide_eq_false h, decide_eq_true (show 0 < cl by omega)]; rfl
  have e2 : (decide (clsL rows u = 0)) = !decide (0 < clsL rows u) := by
   by_cases h : clsL rows u = 0
   ·rw [h]; rfl
   ·rw [decide_eq_false h, decide_eq_true (show 0 < clsL rows u by omega)]; rfl
  show (true && (true && (!decide (fr ∈ out) && (decide (cl = 0) && decide (clsL rows u = 0))))) = (!decide (fr ∈ out) && !decide (0 < clsL rows fr) && !decide (0 < clsL rows u));rw [hc, e1, e2, Bool.true_and, Bool.true_and, Bool.and_assoc]
 | [], _ :: _ :: _ :: _ => simp
 | _ :: _, [] => simp
 | _ :: _, _ :: _ => simp
theorem zma (g : RowsG rows) {x : RowS} (hx : x ∈ rows) {u v : Int} (h : x.il = [u, v]) : zap (prtL rows) x.fr = (u, v) := by
 have hh := ziq g hx;have hv := g.v x hx;have hp := zla (zft g) (fun x hx => (g.v x hx).le) hx hh hv.one;rw [if_neg (by rw [h]; simp)] at hp;unfold zap;rw [hp, h]
theorem ziu {α : Type} {p : α -> Bool} : ∀ {l : List α} {k : Nat} {z : α}, l[k]? = some z -> p z = true -> (∀ j t, j < k -> l[j]? = some t -> p t = false) -> l.find? p = some z
 | [], k, z, h, _, _ => by simp at h
 | a :: l, 0, z, h, hp, _ => by
  simp at h;subst h;rw [List.find?_cons_of_pos hp]
 | a :: l, k + 1, z, h, hp, hf => by
  have h0 := hf 0 a (by omega) (by simp);rw [List.find?_cons_of_neg (by simp [h0])];exact ziu (by simpa using h) hp fun j t hj ht => hf (j + 1) t (by omega) (by simpa using ht)
end
end
section
open Go.RowKit
structure RefM (w : World) (rp : Nat) (os : List RA) (out : List Int) (A A2 : Option Addr) (c c2 : Nat) : Prop where
 box : w.heap[rp]? = some (.cells #[.slice A os.length c, .slice A2 out.length c2] 148 (0, 0))
 rows : zdw w A os
 outs : Rd w A2 out.length (Rs out)
 len : os.length <= 100000
 olen : out.length <= 100000
section
variable {w w' : World} {rp : Nat} {os : List RA} {out : List Int} {A A2 : Option Addr} {c c2 : Nat}
theorem RefM.below (h : RefM w rp os out A A2 c c2) (hb : Below w.heap.size w w') : RefM w' rp os out A A2 c c2 := ⟨zd h.box hb, h.rows.below hb, h.outs.below hb, h.len, h.olen⟩
theorem zjw (h : RefM w rp os out A A2 c c2) (r : Int) (hno : ∀ x ∈ os, ¬ za6 x.1 r) : Calls Tryz.prog 126 #[.pointer (some ⟨rp, 0, none⟩), .int .i32 r] w fun e w' => e = .returned (.pointer none) /\ w = w' := by
 have c0 := za h.box 0 rfl;have hl := h.len;have HH := hz0q h;have HNO := hz0q hno;clear h hno;go_enter Tryz.func126, Tryz.ntmps126;go_wp2;go_loop [5] (fun i => ∃ k : Nat, k <= os.length /\ i = .int .i64 k) (fun i => os.length - (intOf i).toNat)
 case atStart => exact ⟨0, Nat.zero_le _, rfl⟩
 case round =>
  obtain ⟨k, hk, rfl⟩ := hrel
  by_cases hlt : k < os.length
  ·obtain ⟨⟨x, Ax, cx⟩, hx⟩ : ∃ x, os[k]? = some x := ⟨_, List.getElem?_eq_getElem hlt⟩;obtain ⟨b, off, rfl, hbl, hc⟩ := HH.out.rows.at_ (by omega);obtain ⟨d0, d1, _⟩ := za9 hx hc;have hn := HNO.out _ (List.mem_of_getElem? hx);simp only [za6] at hn;have hi : (k : Int) < (os.length : Int) := (by omega);clear hx hc
   by_cases h1 : x.fr <= r
   ·have h2 : ¬ r <= x.up := fun e => hn ⟨h1, e⟩;clear hn;go_wp2;go_round
    case rel => exact ⟨k + 1, by omega, by go_num⟩
    case measure => simp [intOf]; omega
   ·clear hn;go_wp2;go_round
    case rel => exact ⟨k + 1, by omega, by go_num⟩
    case measure => simp [intOf]; omega
  ·obtain rfl : k = os.length := (by omega);have hi : (os.length : Int) <= (os.length : Int) := Int.le_refl _;go_wp2;go_returns;exact ⟨rfl, rfl⟩
theorem zjv {b off : Nat} (h : RefM w rp os out (some ⟨b, off, none⟩) A2 c c2) (r : Int) {i0 : Nat} {x0 : RA} (hx0 : os[i0]? = some x0) (hin : za6 x0.1 r) (hone : ∀ (j : Nat) (y : RA), os[j]? = some y -> za6 y.1 r -> j = i0) :
  Calls Tryz.prog 126 #[.pointer (some ⟨rp, 0, none⟩), .int .i32 r] w fun e w' => e = .returned (.pointer (some ⟨b, off + i0 * 7, none⟩)) /\ w = w' := by
 have c0 := za h.box 0 rfl;have hl := h.len;have hi0 : i0 < os.length := (List.getElem?_eq_some_iff.1 hx0).1;have HH := hz0q h;have HX := hz0q hx0;have HIN := hz0q hin;have HONE := hz0q hone;clear h hx0 hin hone;go_enter Tryz.func126, Tryz.ntmps126;go_wp2;go_loop [5] (fun i => ∃ k : Nat, k <= i0 /\ i = .int .i64 k) (fun i => os.length - (intOf i).toNat)
 case atStart => exact ⟨0, Nat.zero_le _, rfl⟩
 case round =>
  obtain ⟨k, hk, rfl⟩ := hrel;obtain ⟨⟨x, Ax, cx⟩, hx⟩ : ∃ x, os[k]? = some x := ⟨_, List.getElem?_eq_getElem (by omega)⟩;obtain ⟨b', off', he, hbl, hc⟩ := HH.out.rows.at_ (by omega);injection he with he;injection he with e1 e2;subst e1 e2;obtain ⟨d0, d1, _⟩ := za9 hx hc;have hi : (k : Int) < (os.length : Int) := by omega
  by_cases hlt : k < i0
  ·have hn : ¬ za6 x r := fun e => by have := HONE.out k _ hx e; omega
   simp only [za6] at hn;clear hx hc
   by_cases h1 : x.fr <= r
   ·have h2 : ¬ r <= x.up := fun e => hn ⟨h1, e⟩;clear hn;go_wp2;go_round
    case rel => exact ⟨k + 1, by omega, by go_num⟩
    case measure => simp [intOf]; omega
   ·clear hn;go_wp2;go_round
    case rel => exact ⟨k + 1, by omega, by go_num⟩
    case measure => simp [intOf]; omega
  ·obtain rfl : k = i0 := (by omega);have hxx := HX.out;rw [hx] at hxx;injection hxx with hxx;subst hxx;obtain ⟨h1, h2⟩ := HIN.out;simp only [] at h1 h2;clear hx hc;go_wp2;go_returns;exact ⟨rfl, rfl⟩
theorem zn3 {os : List RA} (g : RowsG (os.map (·.1))) (r : Int) : (∀ x ∈ os, ¬ za6 x.1 r) \/ ∃ (i : Nat) (x : RA), os[i]? = some x /\ za6 x.1 r /\ ∀ (j : Nat) (y : RA), os[j]? = some y -> za6 y.1 r -> j = i := by
 by_cases h : ∃ x ∈ os, za6 x.1 r
 ·obtain ⟨x, hx, hh⟩ := h;obtain ⟨i, hi⟩ := List.getElem?_of_mem hx;refine .inr ⟨i, x, hi, hh, fun j y hy hh2 => ?_⟩;exact (zft g).one (fun x hx => (g.v x hx).le) (i := j) (j := i) (x := y.1) (y := x.1) (by rw [List.getElem?_map, hy]; rfl) (by rw [List.getElem?_map, hi]; rfl) hh2 hh
 ·exact .inl fun x hx hh => h ⟨x, hx, hh⟩
theorem zih (h : RefM w rp os out A A2 c c2) (g : RowsG (os.map (·.1))) (r : Int) : Calls Tryz.prog 89 #[.pointer (some ⟨rp, 0, none⟩), .int .i32 r] w fun e w' => e = .returned (.int .i64 (clsL (os.map (·.1)) r)) /\ w = w' := by
 rcases zn3 g r with hno | ⟨i, x, hx, hin, hone⟩
 ·have R := zjw h r hno
  rw [clsL_out (rows := os.map (·.1)) fun x hx => by
   obtain ⟨y, hy, rfl⟩ := List.mem_map.1 hx
   exact hno y hy]
  clear hno h g;go_enter Tryz.func89, Tryz.ntmps89;go_wp2_with fail;refine R.mono ?_;rintro e w1 ⟨rfl, rfl⟩;clear R;go_wp2;go_returns;exact ⟨rfl, rfl⟩
 ·have hil := (List.getElem?_eq_some_iff.1 hx).1;obtain ⟨b, off, rfl, hbl, hc⟩ := h.rows.at_ (by omega);obtain ⟨_, _, _, _, d4, _⟩ := za9 (x := x.1) (Ax := x.2.1) (cx := x.2.2) hx hc;have R := zjv h r hx hin hone;rw [znr (rows := os.map (·.1)) (zft g) (List.mem_map_of_mem (List.mem_of_getElem? hx)) hin];clear hx hin hone hc h g;go_enter Tryz.func89, Tryz.ntmps89;go_wp2_with fail;refine R.mono ?_;rintro e w1 ⟨rfl, rfl⟩;clear R;go_wp2;go_returns;exact ⟨rfl, rfl⟩
def RDecP (w0 : World) (kd : List UInt8) (il : List Int) (w : World) (e : Ending) (w' : World) : Prop := ∃ A c, e = .returned (.tuple #[.string (mk8 kd), .slice A il.length c]) /\ Rd w' A il.length (Rs il) /\ Below w.heap.size w w' /\ ∀ a, A = some a -> 0 < il.length -> a.block < w0.heap.size \/ w.heap.size <= a.block
theorem zej {w0 : World} (h0 : RefM w0 rp os out A A2 c c2) (hb0 : Below w0.heap.size w0 w) (g : RowsG (os.map (·.1))) (r : Int) (hr : R32 r) : Calls Tryz.prog 118 #[.pointer (some ⟨rp, 0, none⟩), .int .i32 r] w (RDecP w0 (decH (prtL (os.map (·.1))) r).1 (decH (prtL (os.map (·.1))) r).2 w) := by
 have h := h0.below hb0;have SP := rsplit_any r w hr.1 (by have := hr.2; omega);unfold decH
 by_cases hh : 44032 <= r /\ r < 55204
 ·rw [if_pos hh];have h3 : (zw r).2.2 = true := (by unfold zw; rw [if_pos hh]; split <;> rfl);rw [h3] at SP;obtain ⟨x, hx⟩ : ∃ x, x = (zw r).1 := ⟨_, rfl⟩;obtain ⟨y, hy⟩ : ∃ y, y = (zw r).2.1 := ⟨_, rfl⟩;rw [<- hx, <- hy] at SP;rw [<- hx, <- hy];clear h3 hx hy h g h0 hb0;go_enter Tryz.func118, Tryz.ntmps118;go_wp2_with fail;refine SP.mono ?_;rintro e w1 ⟨rfl, rfl⟩;have hrd : Rd (w.alloc (.cells #[.int .i32 x, .int .i32 y] 21)) (some ⟨w.heap.size, 0, none⟩) 2 (Rs [x, y]) := Rd.new _ _ [.int .i32 x, .int .i32 y];have hb2 : Below w.heap.size w (w.alloc (.cells #[.int .i32 x, .int .i32 y] 21)) := (Below.refl _ _).alloc (Nat.le_refl _) _;clear SP;go_wp2;go_returns;exact ⟨_, _, rfl, hrd, hb2, fun a ha _ => .inr (by injection ha with ha; subst ha; exact Nat.le_refl _)⟩
 ·rw [if_neg hh];rw [zfh hh] at SP;rcases zn3 g r with hno | ⟨i, x, hx, hin, hone⟩
  ·have R := zjw h r hno
   rw [zly (rows := os.map (·.1)) (fun x hx => (g.v x hx).le) fun x hx => by
    obtain ⟨y, hy, rfl⟩ := List.mem_map.1 hx
    exact hno y hy]
   clear hno h g h0 hb0;go_enter Tryz.func118, Tryz.ntmps118;go_wp2_with fail;refine SP.mono ?_;rintro e w1 ⟨rfl, rfl⟩;go_wp2_with fail;refine R.mono ?_;rintro e w1 ⟨rfl, rfl⟩;clear R SP;go_wp2;go_returns;exact ⟨none, 0, rfl, Rd.nil _ _, Below.refl _ _, fun a ha _ => by cases ha⟩
  ·have hil := (List.getElem?_eq_some_iff.1 hx).1;obtain ⟨b, off, rfl, hbl, hc⟩ := h.rows.at_ (by omega);obtain ⟨_, _, _, _, _, d5, d6⟩ := za9 (x := x.1) (Ax := x.2.1) (cx := x.2.2) hx hc;have R := zjv h r hx hin hone;have hrd := h.rows.into x (List.mem_of_getElem? hx)
   have HLOC : Hid (∀ a, x.2.1 = some a -> 0 < x.1.il.length -> a.block < w0.heap.size) := fun a ha h0l => by
    obtain ⟨b', off', e, hlt, _⟩ := (h0.rows.into x (List.mem_of_getElem? hx)).at_ h0l;rw [ha] at e; injection e with e; rw [e]; exact hlt
   have hd := dec_at g (List.mem_map_of_mem (List.mem_of_getElem? hx)) hin;obtain ⟨q, hq⟩ : ∃ q, q = (prtL (os.map (·.1)) r).getD ([], []) := ⟨_, rfl⟩;rw [<- hq];rw [<- hq] at hd;subst hd;obtain ⟨⟨fr, up, nm, ct, cl, kd, il⟩, Ax, cx⟩ := x;simp only [] at d5 d6 hrd HLOC ⊢;clear hx hin hone hc h g hq h0 hb0;go_enter Tryz.func118, Tryz.ntmps118;go_wp2_with fail;refine SP.mono ?_;rintro e w1 ⟨rfl, rfl⟩;go_wp2_with fail;refine R.mono ?_;rintro e w1 ⟨rfl, rfl⟩;clear R SP;go_wp2;go_quiet (fail)
   go_wp2;go_returns;exact ⟨_, _, rfl, hrd.drewN _, (zab _ _ _), fun a ha h0l => .inl (HLOC.out a ha h0l)⟩
theorem rout_any (h : RefM w rp os out A A2 c c2) (r : Int) : Calls Tryz.prog 119 #[.pointer (some ⟨rp, 0, none⟩), .int .i32 r] w fun e w' => e = .returned (.bool (decide (r ∈ out))) /\ w = w' := by
 have c1 := za h.box 1 rfl;have hl := h.olen;have HH := hz0q h;clear h;go_enter Tryz.func119, Tryz.ntmps119;go_wp2;go_loop [5] (fun i => ∃ k : Nat, k <= out.length /\ i = .int .i64 k /\ Hid (r ∉ out.take k)) (fun i => out.length - (intOf i).toNat)
 case atStart => exact ⟨0, Nat.zero_le _, rfl, by show _ ∉ _; simp⟩
 case round =>
  obtain ⟨k, hk, rfl, HN⟩ := hrel
  by_cases hlt : k < out.length
  ·obtain ⟨z, hz⟩ : ∃ z, out[k]? = some z := ⟨_, List.getElem?_eq_getElem hlt⟩;obtain ⟨b, off, rfl, hbl, hc⟩ := HH.out.outs.at_ (by omega);have d0 : w.cell? ⟨b, off + k, none⟩ = some (.int .i32 z) := hc k _ (by simp [Rs, hz]);have hi : (k : Int) < (out.length : Int) := (by omega);have HZ := hz0q hz;clear hz hc
   by_cases he : z = r
   ·subst he;have HT : Hid (decide (z ∈ out) = true) := decide_eq_true (List.mem_of_getElem? HZ.out);have hzz : (z == z) = true := (by simp);go_wp2;go_returns;exact ⟨zo HT.out.symm, rfl⟩
   ·have hzz : (z == r) = false := (by simpa using he);have HE := hz0q he;clear he;go_wp2;go_round
    case rel => exact ⟨k + 1, by omega, by go_num, by
     show _ ∉ _;rw [List.take_add_one, HZ.out];intro hm;rcases List.mem_append.1 hm with hm | hm
     ·exact HN.out hm
     ·simp at hm; exact HE.out hm.symm⟩
    case measure => simp [intOf]; omega
  ·obtain rfl : k = out.length := (by omega);have hi : (out.length : Int) <= (out.length : Int) := Int.le_refl _;have HT : Hid (decide (r ∈ out) = false) := decide_eq_false (by have := HN.out; rwa [List.take_length] at this);go_wp2;go_returns;exact ⟨zo HT.out.symm, rfl⟩
end
end
section
open Go.RowKit Go.Lib Go.Maps Go.Sort Go.Shelf
attribute [local go_sem] Oper.semAt_some
def NewC (s o : List UInt8) : Prop := (rowsS s).2.2 = 0 /\ (setsS o).2.2 = 0 /\ NewOk (rowsS s).1 (setsS o).1
theorem zg {W W' : World} {b : Nat} {t : TypeId} {v : Value} (h : Boxed W b t v) (hb : Below W.heap.size W W') : Boxed W' b t v := (hb.block b h.lt).trans h
theorem zt {W : World} {b c : Nat} {t : TypeId} {v : Value} (h : Boxed W b t v) (u : Value) (hne : b ≠ c) : Boxed (W.setCell ⟨c, 0, none⟩ u) b t v := h.kept (grownBy_setCell' W c u) (by simpa using hne)
def zkz (w : World) (e : Ending) (w' : World) : Prop := (∃ er : Int, er ≠ 0 /\ e = .returned (.tuple #[.pointer none, .int .i64 er])) /\ Below w.heap.size w w'
def zlk (rows : List RowS) (out : List Int) (w : World) (e : Ending) (w' : World) : Prop :=
 ∃ bp a n ss pr md sc, e = .returned (.tuple #[.pointer (some ⟨bp, 0, none⟩), .int .i64 0]) /\ BaseM w' bp a n (clsL rows) (prtL rows) pr md sc /\ n <= 100000 /\ zep R32 (prtL rows) ss /\ MkI (madeQ (clsL rows) (prtL rows) out) (zap (prtL rows)) zdr ss false pr md sc /\ w.heap.size <= bp /\ Below w.heap.size w w'
def NewP (s o : List UInt8) (w : World) (e : Ending) (w' : World) : Prop := (¬ NewC s o /\ zkz w e w') \/ (NewC s o /\ zlk (rowsS s).1 (setsS o).1 w e w')
theorem zjs (s : List UInt8) : (setsS s).1.length <= 4096 := by
 have key : ∀ (ls : List (Int × List UInt8)) (out : List Int), out.length <= 4096 -> (setsW out ls).1.length <= 4096 := by
  intro ls;induction ls with
  | nil => intro out h; exact h
  | cons p ls ih =>
   intro out h
   by_cases he : (zau out p.2).2 = 0
   ·rw [zdx he]; exact ih _ (setStep_len h)
   ·rw [zby he]; simp
 unfold setsS setsE;split
 ·simp
 ·simp only [];rw [(zc4 _).length_eq];exact key _ [] (by simp)
section
variable {w : World}
theorem new_rows (s o : ByteArray) (hE : Env w) (hs : s.size <= 1073741824) (hbad : (rowsS (bs s)).2.2 ≠ 0) : Calls Tryz.prog 9 #[.string s, .string o] w (zkz w) := by
 refine (callsIn_wide (n := 5)).1 ?_;have hro : Fence.wide.round = none := rfl;have h1 : 1 <= 5 := (by omega);refine callsIn_of_wp_marks Tryz.func9 rfl trivial ?_ hro;simp only [Tryz.ntmps9, List.size_toArray, List.length_cons, List.length_nil, Nat.reduceAdd, Nat.reduceSub, Array.replicate_succ, Array.replicate_zero, List.push_toArray, List.append_toArray, List.nil_append, List.cons_append];have RW := fun W (hb : Below w.heap.size w W) => zgb s W (hE.below hb) hs;obtain ⟨⟨rows, ln, er⟩, hR⟩ : ∃ R, R = rowsS (bs s) := ⟨_, rfl⟩;rw [<- hR] at RW hbad;simp only [] at hbad;have hne : ((er : Int) != 0) = true := (by simpa using hbad);have HNE := hz0q hbad;clear hR hbad;obtain ⟨W0, hW0⟩ : ∃ W0, (w.alloc (.cells #[.pointer none] 26)).alloc (.cells #[.int .i64 0] 27) = W0 := ⟨_, rfl⟩;have hB0 : Below w.heap.size w W0 := (by rw [<- hW0]; exact ((Below.refl _ w).alloc (Nat.le_refl _) _).alloc (by simp) _);have bx1 : Boxed W0 w.heap.size 26 (.pointer none) := by rw [<- hW0]; exact (Boxed.new w _ _).alloc _
 have bx2 : Boxed W0 (w.heap.size + 1) 27 (.int .i64 0) := by
  rw [<- hW0];have := Boxed.new (w.alloc (.cells #[.pointer none] 26)) 27 (.int .i64 0);rwa [World.size_alloc] at this
 have RW0 := RW _ hB0;clear RW
 gi_wp2
 refine ⟨trivial, (callsIn_wide.2 RW0).mono ?_⟩;rintro e w1 ⟨os, A, c, ho, rfl, hat, hb1⟩;have b1 := zg bx1 hb1;have b2 := zg bx2 hb1;have c1 := (b1).cell;have f1 := (b1).frozen;have d1 := (zt (b2) (.pointer none) (show w.heap.size + 1 ≠ w.heap.size by omega)).cell;have f2 := (zt (b2) (.pointer none) (show w.heap.size + 1 ≠ w.heap.size by omega)).frozen;have hb := zb hB0 hb1;clear bx1 bx2 hb1 hat ho hB0 hW0 RW0
 gi_wp2
 have k1 := (zt ((b1).set (.pointer none)) (.int .i64 (er)) (show w.heap.size ≠ w.heap.size + 1 by omega)).cell;have k2 := ((zt (b2) (.pointer none) (show w.heap.size + 1 ≠ w.heap.size by omega)).set (.int .i64 (er))).cell;refine ⟨.tuple #[.pointer none, .int .i64 (er)], ?_, ⟨er, HNE.out, rfl⟩, ((hb).setCell (p := ⟨w.heap.size, 0, none⟩) (Nat.le_refl _) _).setCell (p := ⟨w.heap.size + 1, 0, none⟩) (by simp) _⟩;simp [results, Tryz.f9, go_sem, k1, k2]
theorem new_sets (s o : ByteArray) (hE : Env w) (hs : s.size <= 1073741824) (ho1 : o.size <= 1073741824) (h0 : (rowsS (bs s)).2.2 = 0) (hbad : (setsS (bs o)).2.2 ≠ 0) : Calls Tryz.prog 9 #[.string s, .string o] w (zkz w) := by
 refine (callsIn_wide (n := 5)).1 ?_;have hro : Fence.wide.round = none := rfl;have h1 : 1 <= 5 := (by omega);refine callsIn_of_wp_marks Tryz.func9 rfl trivial ?_ hro;simp only [Tryz.ntmps9, List.size_toArray, List.length_cons, List.length_nil, Nat.reduceAdd, Nat.reduceSub, Array.replicate_succ, Array.replicate_zero, List.push_toArray, List.append_toArray, List.nil_append, List.cons_append];have RW := fun W (hb : Below w.heap.size w W) => zgb s W (hE.below hb) hs;have ST := fun W (hb : Below w.heap.size w W) => zi1 o W (hE.below hb) ho1;obtain ⟨⟨rows, ln, e0⟩, hR⟩ : ∃ R, R = rowsS (bs s) := ⟨_, rfl⟩;rw [<- hR] at RW h0;simp only [] at h0;subst h0;obtain ⟨⟨out, ln2, er⟩, hS⟩ : ∃ R, R = setsS (bs o) := ⟨_, rfl⟩;rw [<- hS] at ST hbad;simp only [] at hbad;have hne : ((er : Int) != 0) = true := (by simpa using hbad);have HNE := hz0q hbad;clear hR hS hbad;obtain ⟨W0, hW0⟩ : ∃ W0, (w.alloc (.cells #[.pointer none] 26)).alloc (.cells #[.int .i64 0] 27) = W0 := ⟨_, rfl⟩;have hB0 : Below w.heap.size w W0 := (by rw [<- hW0]; exact ((Below.refl _ w).alloc (Nat.le_refl _) _).alloc (by simp) _);have bx1 : Boxed W0 w.heap.size 26 (.pointer none) := by rw [<- hW0]; exact (Boxed.new w _ _).alloc _
 have bx2 : Boxed W0 (w.heap.size + 1) 27 (.int .i64 0) := by
  rw [<- hW0];have := Boxed.new (w.alloc (.cells #[.pointer none] 26)) 27 (.int .i64 0);rwa [World.size_alloc] at this
 have RW0 := RW _ hB0;clear RW
 gi_wp2
 refine ⟨trivial, (callsIn_wide.2 RW0).mono ?_⟩;rintro e w1 ⟨os, A, c, ho, rfl, hat, hb1⟩;have hb := zb hB0 hb1;have ST1 := ST _ hb;have by1 := zg bx1 hb1;have by2 := zg bx2 hb1;clear ST bx1 bx2 hat ho hb1 hB0 hW0 RW0
 gi_wp2
 refine ⟨trivial, (callsIn_wide.2 ST1).mono ?_⟩;rintro e w2 ⟨A2, c2, rfl, hown2, hb2⟩;have b1 := zg by1 hb2;have b2 := zg by2 hb2;have hbb := zb hb hb2;have c1 := (b1).cell;have f1 := (b1).frozen;have d1 := (zt (b2) (.pointer none) (show w.heap.size + 1 ≠ w.heap.size by omega)).cell;have f2 := (zt (b2) (.pointer none) (show w.heap.size + 1 ≠ w.heap.size by omega)).frozen;clear by1 by2 hb hb2 hown2 ST1
 gi_wp2
 have k1 := (zt ((b1).set (.pointer none)) (.int .i64 (er)) (show w.heap.size ≠ w.heap.size + 1 by omega)).cell;have k2 := ((zt (b2) (.pointer none) (show w.heap.size + 1 ≠ w.heap.size by omega)).set (.int .i64 (er))).cell;refine ⟨.tuple #[.pointer none, .int .i64 (er)], ?_, ⟨er, HNE.out, rfl⟩, ((hbb).setCell (p := ⟨w.heap.size, 0, none⟩) (Nat.le_refl _) _).setCell (p := ⟨w.heap.size + 1, 0, none⟩) (by simp) _⟩;simp [results, Tryz.f9, go_sem, k1, k2]
theorem zit {w2 w3 : World} {q : Nat} (tn : Nat) (hq : q = w2.heap.size) (hT : TabAt w3 (q + 1) q 0 (fun _ => 0)) (hb : Below w2.heap.size w2 w3) (hz : w3.heap.size = q + 2) :
  ∃ W, (((((w3.alloc (.map #[] 0)).alloc (.map #[] 0)).alloc (.map #[] 0)).alloc (.map #[] 0)).alloc (.cells #[.pointer (some ⟨q + 1, 0, none⟩), .map (some (q + 2)), .map (some (q + 3)), .map (some (q + 4)), .map (some (q + 5))] 77)).alloc (.cells #[.pointer (some ⟨q + 6, 0, none⟩)] 26) = W /\
   TInv w2 W (q + 6) ⟨q + 1, q, q + 2, q + 3, q + 4, q + 5, tn⟩ 0 [] W /\ MkV W ⟨q + 1, q, q + 2, q + 3, q + 4, q + 5, tn⟩ 0 (fun _ => none) (fun _ => none) (fun _ => none) /\ Boxed W (q + 7) 26 (.pointer (some ⟨q + 6, 0, none⟩)) /\ Below w2.heap.size w2 W /\ W.heap.size = q + 8 := by
 refine ⟨_, rfl, ?_⟩;have s1 : (w3.alloc (.map #[] 0)).heap.size = q + 3 := (by rw [World.size_alloc, hz]);have s2 : ((w3.alloc (.map #[] 0)).alloc (.map #[] 0)).heap.size = q + 4 := (by rw [World.size_alloc, s1]);have s3 : (((w3.alloc (.map #[] 0)).alloc (.map #[] 0)).alloc (.map #[] 0)).heap.size = q + 5 := (by rw [World.size_alloc, s2]);have s4 : ((((w3.alloc (.map #[] 0)).alloc (.map #[] 0)).alloc (.map #[] 0)).alloc (.map #[] 0)).heap.size = q + 6 := (by rw [World.size_alloc, s3]);have m1 := MapF.made w3 Tryz.prog 21 z7 R32 partV;have m2 := MapF.made (w3.alloc (.map #[] 0)) Tryz.prog 92 zdm R32P runeV;have m3 := MapF.made ((w3.alloc (.map #[] 0)).alloc (.map #[] 0)) Tryz.prog 21 z7 R32 pairV;have m4 := MapF.made (((w3.alloc (.map #[] 0)).alloc (.map #[] 0)).alloc (.map #[] 0)) Tryz.prog 21 z7 R32 intV;rw [hz] at m1;rw [s1] at m2;rw [s2] at m3;rw [s3] at m4;have a3 := hb.size;have t4 := ((((hT.below ((Below.refl _ _).alloc (Nat.le_refl _) (.map #[] 0))).below ((Below.refl _ _).alloc (Nat.le_refl _) (.map #[] 0))).below ((Below.refl _ _).alloc (Nat.le_refl _) (.map #[] 0))).below ((Below.refl _ _).alloc (Nat.le_refl _) (.map #[] 0)));have hb4 : Below w2.heap.size w2 ((((w3.alloc (.map #[] 0)).alloc (.map #[] 0)).alloc (.map #[] 0)).alloc (.map #[] 0)) := (((hb.alloc (by omega) _).alloc (by rw [s1]; omega) _).alloc (by rw [s2]; omega) _).alloc (by rw [s3]; omega) _;have n1 := ((m1.alloc (.map #[] 0)).alloc (.map #[] 0)).alloc (.map #[] 0);have n2 := (m2.alloc (.map #[] 0)).alloc (.map #[] 0)
 have n3 := m3.alloc (.map #[] 0);clear m1 m2 m3 hT hb;generalize ((((w3.alloc (.map #[] 0)).alloc (.map #[] 0)).alloc (.map #[] 0)).alloc (.map #[] 0)) = W4 at *;have bx := zr W4 #[.pointer (some ⟨q + 1, 0, none⟩), .map (some (q + 2)), .map (some (q + 3)), .map (some (q + 4)), .map (some (q + 5))] 77;rw [s4] at bx;have s5 : (W4.alloc (.cells #[.pointer (some ⟨q + 1, 0, none⟩), .map (some (q + 2)), .map (some (q + 3)), .map (some (q + 4)), .map (some (q + 5))] 77)).heap.size = q + 7 := (by rw [World.size_alloc, s4]);have by1 := Boxed.new (W4.alloc (.cells #[.pointer (some ⟨q + 1, 0, none⟩), .map (some (q + 2)), .map (some (q + 3)), .map (some (q + 4)), .map (some (q + 5))] 77)) 26 (.pointer (some ⟨q + 6, 0, none⟩));rw [s5] at by1;have hb6 := (hb4.alloc (by omega) (.cells #[.pointer (some ⟨q + 1, 0, none⟩), .map (some (q + 2)), .map (some (q + 3)), .map (some (q + 4)), .map (some (q + 5))] 77)).alloc (by rw [s5]; omega) (.cells #[.pointer (some ⟨q + 6, 0, none⟩)] 26);refine ⟨⟨zba _ bx, ?_, ⟨fun _ => none, (n1.alloc _).alloc _, fun r _ => trivial⟩, Wrote.refl _ _⟩, ⟨(n2.alloc _).alloc _, (n3.alloc _).alloc _, (m4.alloc _).alloc _⟩, by1, hb6, by rw [World.size_alloc, s5]⟩;exact (t4.below ((Below.refl _ _).alloc (Nat.le_refl _) _)).below ((Below.refl _ _).alloc (Nat.le_refl _) _)
end
end
end Go.Proofs.YtfdelmodmadoaaaGreatDoor
