/- Rows rise, and may be, but for their names; what sets tell rises: plain laws. The law on how rows, and characters that lines of ranges tell, rise: true. -/
import Derived.Test.YtagncjnbabdbmaaDoorUcdPJ
import Derived.Test.YtagncjnbabdbmaaDoorUcdKK
import Derived.Test.YtagncjnbabdbmaaDoorUcdL3
import Derived.Test.YtagncjnbabdbmaaDoorUcdL2
section
set_option linter.unusedSimpArgs false
set_option linter.unusedVariables false
namespace Go.Proofs.YtagncjnbabdbmaaDoor
open Go.RowKit

/-- What holds of each row. -/
structure RowV (x : RowS) : Prop where
  fr : scalarB x.fr = true
  up : scalarB x.up = true
  le : x.fr ≤ x.up
  cl : 0 ≤ x.cl ∧ x.cl ≤ 254
  len : x.il.length ≤ 18
  il : ∀ z ∈ x.il, scalarB z = true
  kd : lettersL x.kd = true
  some : x.kd ≠ [] → x.il ≠ []
  one : x.fr < x.up → x.il = []
theorem RowV.check {x : RowS} (h : RowV x) : checkS { x with nm := [], ct := [] } = 0 := by
  have hb : badI x.il = false := by
    unfold badI
    rw [List.any_eq_false]
    intro z hz
    simp [h.il z hz]
  have h1 : rangeBad { x with nm := [], ct := [] } = false := by
    have hle := h.le
    have h1 := h.cl.1
    have h2 := h.cl.2
    have h3 := h.len
    simp [rangeBad, h.fr, h.up, hb]
    omega
  have h2 : kindBad { x with nm := [], ct := [] } = false := by
    simp only [kindBad, h.kd]
    simp
    exact h.some
  have h3 : oneBad { x with nm := [], ct := [] } = false := by
    have hi : ∀ en, innerS [] en = ([], false) := fun en => by simp [innerS, Lib.hasPrefix]
    simp only [oneBad, hi]
    simp
    intro hne
    refine h.one ?_
    have := h.le
    omega
  have h4 : nameBad { x with nm := [], ct := [] } = false := by
    have : plainL [] = true := by decide
    simp [nameBad, this]
  unfold checkS
  rw [if_neg (by rw [h1]; simp), if_neg (by rw [h2, h3, h4]; simp)]
theorem hexS_scalar {l : List UInt8} (h : (hexS l).2 = 0) : scalarB (hexS l).1 = true := by
  unfold hexS at *
  split at h
  · simp at h
  · rename_i h1
    rw [if_neg h1]
    split at h
    · rename_i h2
      rw [if_pos h2]
      exact h2
    · simp at h
theorem runesW_scalar : ∀ (ws : List (List UInt8)) (out : List Int), (runesW out ws).2 = 0 → (∀ z ∈ out, scalarB z = true) → (∀ z ∈ (runesW out ws).1, scalarB z = true) ∧ (runesW out ws).1.length = out.length + ws.length
  | [], out, h, ho => ⟨ho, by simp [runesW]⟩
  | w :: ws, out, h, ho => by
    by_cases he : (hexS w).2 = 0
    · rw [runesW_good he] at h ⊢
      obtain ⟨h1, h2⟩ := runesW_scalar ws _ h (fun z hz => by
        rcases List.mem_append.1 hz with hz | hz
        · exact ho z hz
        · rw [List.mem_singleton] at hz
          subst hz
          exact hexS_scalar he)
      refine ⟨h1, ?_⟩
      have e : (out ++ [(hexS w).1]).length = out.length + 1 := by simp
      rw [h2, e]
      simp only [List.length_cons]
      omega
    · rw [runesW_bad he] at h
      exact absurd h he
theorem words_ne : ∀ (l w : List UInt8), (w ≠ [] ∨ ∃ b ∈ l, blankB b = false) → wordsFrom w l ≠ []
  | [], w, h => by
    rcases h with h | ⟨b, hb, _⟩
    · simp [wordsFrom, h]
    · simp at hb
  | b :: t, w, h => by
    cases hb : blankB b
    · rw [words_more _ _ hb]
      exact words_ne t _ (.inl (by simp))
    · rw [words_blank _ _ hb]
      split
      · rename_i hw
        refine words_ne t _ (.inr ?_)
        rcases h with h | ⟨c, hc, hcb⟩
        · exact absurd hw h
        · rcases List.mem_cons.1 hc with rfl | hc
          · rw [hb] at hcb; simp at hcb
          · exact ⟨c, hc, hcb⟩
      · simp
theorem lstrip_all {l : List UInt8} (h : ∀ b ∈ l, blankB b = true) : lstrip l = [] := by
  induction l with
  | nil => rfl
  | cons b t ih =>
    rw [lstrip_yes (h b (by simp))]
    exact ih (fun c hc => h c (by simp [hc]))
theorem bare_ne {l : List UInt8} (h : bareL l ≠ []) : ∃ b ∈ l, blankB b = false := by
  apply Classical.byContradiction
  intro hn
  apply h
  unfold bareL
  rw [lstrip_all (fun b hb => by
    cases hbb : blankB b
    · exact absurd ⟨b, hb, hbb⟩ hn
    · rfl)]
  rfl
theorem into_v {s : List UInt8} (h : (intoS s).2.2 = 0) : (intoS s).2.1.length ≤ 18 ∧ (∀ z ∈ (intoS s).2.1, scalarB z = true) ∧ lettersL (intoS s).1 = true ∧ ((intoS s).1 ≠ [] → (intoS s).2.1 ≠ []) := by
  have hr : ∀ k t, (intoR k t).2.2 = 0 → (intoR k t).1 = k ∧ (intoR k t).2.1.length ≤ 18 ∧ (∀ z ∈ (intoR k t).2.1, scalarB z = true) ∧ (intoR k t).2.1.length = (wordsL t).length := by
    intro k t h
    unfold intoR at *
    split at h
    · rename_i h1; exact absurd h h1
    · rename_i h1
      split at h
      · simp at h
      · rename_i h2
        rw [if_neg h1, if_neg h2]
        obtain ⟨g1, g2⟩ := runesW_scalar (wordsL t) [] (by simpa [runesS] using h1) (by simp)
        refine ⟨rfl, by simp only []; omega, g1, ?_⟩
        simpa [runesS] using g2
  unfold intoS at *
  split at h
  · rename_i hp
    split at h
    · simp at h
    · rename_i hb
      rw [if_pos hp, if_neg hb]
      obtain ⟨g1, g2, g3, g4⟩ := hr _ _ h
      simp only [not_or] at hb
      refine ⟨g2, g3, by rw [g1]; simpa using hb.2.2.1, fun _ => ?_⟩
      intro he
      rw [he] at g4
      exact words_ne _ _ (.inr (bare_ne hb.2.2.2)) (List.eq_nil_of_length_eq_zero g4.symm)
  · rename_i hp
    rw [if_neg hp]
    obtain ⟨g1, g2, g3, g4⟩ := hr _ _ h
    refine ⟨g2, g3, by rw [g1]; rfl, fun hk => absurd g1 hk⟩
theorem parse_v {l : List UInt8} (h : (parseS l).2 = 0) : RowV (parseS l).1 := by
  unfold parseS parseF at *
  split at h
  · simp at h
  · rename_i h1
    split at h
    · rename_i h2; exact absurd h h2
    · rename_i h2
      split at h
      · rename_i h3; exact absurd h h3
      · rename_i h3
        split at h
        · simp at h
        · rename_i h4
          split at h
          · rename_i h5; exact absurd h h5
          · rename_i h5
            rw [if_neg h1, if_neg h2, if_neg h3, if_neg h4, if_neg h5]
            obtain ⟨v1, v2, v3, v4⟩ := into_v (Classical.not_not.1 h5)
            have hx := hexS_scalar (Classical.not_not.1 h2)
            refine ⟨hx, hx, Int.le_refl _, ⟨?_, by simp only []; omega⟩, v1, v2, v3, v4, fun hlt => absurd hlt (Int.lt_irrefl _)⟩
            show 0 ≤ (decS _).1
            unfold decS at h3 ⊢
            split
            · simp
            · simp only []; omega
theorem range_v {f x : RowS} (hf : RowV f) (hx : RowV x) (hc : ¬ closeB f x) : RowV (rangeR f x) := by
  unfold closeB at hc
  simp only [not_or] at hc
  exact ⟨hf.fr, hx.fr, by show f.fr ≤ x.fr; omega, hx.cl, by simp [rangeR], fun z hz => by simp [rangeR] at hz, rfl, fun h => absurd rfl h, fun _ => rfl⟩
theorem rows_v (s : List UInt8) : ∀ x ∈ (rowsS s).1, RowV x := rowsS_all (fun l h => parse_v h) (fun f x hf hx hc => range_v hf hx hc) s
/-- They rise. -/
def Rise (l : List RowS) : Prop := ∀ i a b, l[i]? = some a → l[i + 1]? = some b → a.up < b.fr
theorem Rise.snoc {l : List RowS} {x : RowS} (h : Rise l) (hx : l ≠ [] → lastUp l < x.fr) : Rise (l ++ [x]) := by
  intro i a b ha hb
  by_cases hi : i + 1 < l.length
  · rw [List.getElem?_append_left hi] at hb
    rw [List.getElem?_append_left (by omega)] at ha
    exact h i a b ha hb
  · have hlt : i + 1 < (l ++ [x]).length := (List.getElem?_eq_some_iff.1 hb).1
    rw [List.length_append, List.length_singleton] at hlt
    have hil : i + 1 = l.length := by omega
    rw [hil, List.getElem?_append_right (Nat.le_refl _), Nat.sub_self] at hb
    simp at hb
    subst hb
    rw [List.getElem?_append_left (by omega)] at ha
    have hne : l ≠ [] := by intro h; rw [h] at hil; simp at hil
    have := hx hne
    unfold lastUp at this
    rw [List.getLast?_eq_getElem?, show l.length - 1 = i by omega, ha] at this
    exact this
theorem rowsW_rise : ∀ (L : List (Int × List UInt8)) (st : StU), Rise st.out → st.was = lastUp st.out → (∀ f, st.op = some f → st.was < f.fr) → Rise (rowsW st L).1.out
  | [], st, h, _, _ => h
  | p :: L, st, h, hw, hf => by
    by_cases he : (takeS st p.2).2 = 0
    · rw [rowsW_good he]
      rcases take_cases he with ⟨f, hop, hc, hh⟩ | ⟨_, hlt, hh | hh⟩
      · rw [hh]
        refine rowsW_rise L _ (h.snoc fun _ => ?_) (by rw [lastUp_snoc]; rfl) (fun f h => by simp at h)
        have := hf f hop
        rw [hw] at this
        exact this
      · rw [hh]
        exact rowsW_rise L _ h hw (fun f h => by injection h with h; subst h; exact hlt)
      · rw [hh]
        refine rowsW_rise L _ (h.snoc fun _ => ?_) (by rw [lastUp_snoc, parse_up]) (fun f h => by simp at h)
        rw [hw] at hlt
        exact hlt
    · rw [rowsW_bad he]
      exact h
theorem rows_rise (s : List UInt8) : Rise (rowsS s).1 := by
  have hn : Rise [] := fun i a b ha => by simp at ha
  unfold rowsS endU
  split
  · exact hn
  · split
    · exact hn
    · split
      · exact hn
      · exact rowsW_rise _ _ hn rfl (fun f h => by simp at h)
theorem rowsW_no : ∀ (L : List (Int × List UInt8)) (st : StU), (∀ p ∈ L, 0 < p.1) → (rowsW st L).2.2 ≠ 0 → 0 < (rowsW st L).2.1
  | [], st, h, he => absurd rfl he
  | p :: L, st, h, he => by
    by_cases hp : (takeS st p.2).2 = 0
    · rw [rowsW_good hp] at he ⊢
      exact rowsW_no L _ (fun q hq => h q (by simp [hq])) he
    · rw [rowsW_bad hp]
      exact h p (by simp)
theorem lines_err (s : List UInt8) : (linesS s).2 = 0 ∨ (linesS s).2 = 10 ∨ (linesS s).2 = 14 := by
  unfold linesS
  split
  · right; right; rfl
  · rw [linesW_tells]
    split
    · left; rfl
    · right; left; rfl
/-- What is wrong with rows, and where. -/
theorem rows_err (s : List UInt8) : ((rowsS s).2.2 = 0 ∧ (rowsS s).2.1 = 0) ∨ ((rowsS s).2.2 ≠ 0 ∧ (rowsS s).1 = [] ∧ ((rowsS s).2.1 ≠ 0 ∨ (rowsS s).2.2 = 10 ∨ (rowsS s).2.2 = 14)) := by
  unfold rowsS
  split
  · rename_i h
    right
    refine ⟨h, rfl, .inr ?_⟩
    rcases lines_err s with h2 | h2 | h2
    · exact absurd h2 h
    · exact .inl h2
    · exact .inr h2
  · rename_i h
    have h0 : (linesS s).2 = 0 := by simpa using h
    unfold endU
    split
    · rename_i h2
      right
      refine ⟨h2, rfl, .inl ?_⟩
      have := rowsW_no (linesS s).1 ⟨[], none, -1⟩ (by rw [(linesS_good h0).2.2]; exact tellsK_pos _ _) h2
      simp only []
      omega
    · split
      · right
        exact ⟨by simp, rfl, .inr (.inl rfl)⟩
      · left
        exact ⟨rfl, rfl⟩
/-- Sets: all may be, and none is there twice. -/
def SetV (l : List Int) : Prop := (∀ z ∈ l, scalarB z = true) ∧ l.Nodup
theorem addW_v : ∀ (n : Nat) (out : List Int) (r : Int), SetV out → (∀ z ∈ out, z < r ∨ r + n ≤ z) → SetV (addW out r n).1
  | 0, out, r, h, _ => h
  | n + 1, out, r, h, hz => by
    have h2 : SetV (addO out r) ∧ ∀ z ∈ addO out r, z < r + 1 ∨ r + 1 + n ≤ z := by
      unfold addO
      split
      · rename_i hs
        refine ⟨⟨fun z hz => ?_, ?_⟩, fun z hm => ?_⟩
        · rcases List.mem_append.1 hz with hz | hz
          · exact h.1 z hz
          · rw [List.mem_singleton] at hz; subst hz; exact hs
        · rw [List.nodup_append]
          refine ⟨h.2, by simp, fun a ha b hb => ?_⟩
          rw [List.mem_singleton] at hb
          subst hb
          have := hz a ha
          omega
        · rcases List.mem_append.1 hm with hm | hm
          · have := hz z hm; omega
          · rw [List.mem_singleton] at hm; subst hm; left; omega
      · exact ⟨h, fun z hm => by have := hz z hm; omega⟩
    by_cases hl : 4096 < (addO out r).length
    · rw [addW_full hl]
      exact h2.1
    · rw [addW_go hl]
      exact addW_v n _ _ h2.1 h2.2
theorem setStep_v {out : List Int} {l : List UInt8} (h : SetV out) : SetV (setStep out l).1 := by
  unfold setStep setR
  split
  · exact h
  · rename_i h1
    split
    · exact h
    · rename_i h2
      split
      · exact h
      · unfold setAdd
        obtain ⟨k1, k2, k3⟩ := rangeS_ok (l := fldS l) (by simpa using h1)
        refine addW_v _ _ _ h (fun z hz => ?_)
        have hb : betw (rangeS (fldS l)).1 (rangeS (fldS l)).2.1 z = false := by
          rw [Bool.not_eq_true, List.any_eq_false] at h2
          simpa using h2 z hz
        unfold betw at hb
        simp at hb
        omega
theorem setsW_v : ∀ (ls : List (Int × List UInt8)) (out : List Int), SetV out → SetV (setsW out ls).1
  | [], out, h => h
  | p :: ls, out, h => by
    by_cases he : (setStep out p.2).2 = 0
    · rw [setsW_good he]
      exact setsW_v ls _ (setStep_v h)
    · rw [setsW_bad he]
      exact ⟨fun z hz => by simp at hz, by simp⟩
theorem sets_v (s : List UInt8) : (∀ z ∈ (setsS s).1, scalarB z = true) ∧ (setsS s).1.Pairwise (· < ·) := by
  unfold setsS setsE
  split
  · simp
  · obtain ⟨h1, h2⟩ := setsW_v (linesS s).1 [] ⟨fun z hz => by simp at hz, by simp⟩
    generalize (setsW [] (linesS s).1).1 = out at *
    refine ⟨fun z hz => h1 z ((srt_perm out).mem_iff.1 hz), ?_⟩
    have hs := srt_sorted out
    have hn : (srt out).Nodup := (srt_perm out).nodup_iff.2 h2
    show (srt out).Pairwise (· < ·)
    have := hs.and hn
    exact this.imp (fun ⟨h, k⟩ => by omega)
theorem sets_err (s : List UInt8) : (setsS s).2.2 = 0 ∨ (setsS s).1 = [] := by
  unfold setsS setsE
  split
  · right; rfl
  · have : ∀ (ls : List (Int × List UInt8)) (out : List Int), (setsW out ls).2.2 = 0 ∨ (setsW out ls).1 = [] := by
      intro ls
      induction ls with
      | nil => intro out; left; rfl
      | cons p ls ih =>
        intro out
        by_cases he : (setStep out p.2).2 = 0
        · rw [setsW_good he]; exact ih _
        · rw [setsW_bad he]; right; rfl
    rcases this (linesS s).1 [] with h | h
    · left; exact h
    · right
      show srt _ = _
      rw [h]
      simp [srt]
end Go.Proofs.YtagncjnbabdbmaaDoor
end

section
set_option linter.unusedSimpArgs false
set_option linter.unusedVariables false
namespace Go.Proofs.YtagncjnbabdbmaaDoor
open Go.RowKit

theorem cellB {w w' : World} {p : Addr} {u : Value} (h : w.cell? p = some u) (hb : Below w.heap.size w w') : w'.cell? p = some u := (hb.cell (World.block_lt_of_cell? w _ h)).trans h
theorem pair_get {l : List Int} (h : l.Pairwise (· < ·)) {i j : Nat} {a b : Int} (ha : l[i]? = some a) (hb : l[j]? = some b) (hij : i < j) : a < b := by
  obtain ⟨hi, rfl⟩ := List.getElem?_eq_some_iff.1 ha
  obtain ⟨hj, rfl⟩ := List.getElem?_eq_some_iff.1 hb
  exact List.pairwise_iff_getElem.1 h i j hi hj hij
set_option maxRecDepth 20000 in
set_option maxHeartbeats 16000000 in
theorem ucdorder_yes (s : ByteArray) (w : World) (hE : Env w) :
    Calls Tryd.prog 13 #[.string s] w fun e w' => e = .returned (.bool true) ∧ Below w.heap.size w w' := by
  by_cases hbig : 4000 < s.size
  · have hb : (4000 : Int) < (s.size : Int) := by omega
    go_enter Tryd.func13, Tryd.ntmps13
    go_wp2_with fail
    refine (awake5_any _ hE).mono ?_
    rintro e w1 ⟨rfl, hb1⟩
    go_wp2
    go_returns
    exact ⟨rfl, hb1⟩
  · have hsi : (s.size : Int) ≤ 4000 := by omega
    have C1 := rows_any s w hE (by omega)
    have C2 := fun w h => sets_any s w h (by omega)
    have hlen := rowsS_len (bs s)
    have hv := rows_v (bs s)
    have hri := rows_rise (bs s)
    have herr := rows_err (bs s)
    have HSV := Lib.hid (sets_v (bs s))
    have HSE := Lib.hid (sets_err (bs s))
    have HS4 := Lib.hid (setsS_len (bs s))
    obtain ⟨⟨r, no, er⟩, hr⟩ : ∃ z, z = rowsS (bs s) := ⟨_, rfl⟩
    rw [← hr] at C1 hlen hv hri herr
    simp only [] at hlen hv hri herr
    have HV := Lib.hid hv
    have HRI := Lib.hid hri
    clear hr hbig hv hri
    go_enter Tryd.func13, Tryd.ntmps13
    go_wp2_with fail
    refine C1.mono ?_
    rintro e w1 ⟨os, A, c, hos, rfl, hra, hb1⟩
    have HR1 := Lib.hid hra.rd
    have HB1 := Lib.hid hb1
    have HOS : Hid (os.map (·.1) = r) := hos
    generalize hgm : os.length = m at *
    have HM : Hid (os.length = m) := hgm
    have hm4 : m ≤ 4096 := by rw [← HM.out]; have := congrArg List.length HOS.out; rw [List.length_map] at this; omega
    have HMR : Hid (m = r.length) := by show _ = _; rw [← HM.out, ← HOS.out, List.length_map]
    clear C1 hra hos hb1 hgm hlen
    rcases herr with ⟨h1, h2⟩ | ⟨h1, h2, h3⟩
    · subst h1
      subst h2
      go_wp2
      go_loopw [6] (fun i wr => ∃ k : Nat, k ≤ m ∧ i = .int .i64 k ∧ Below w1.heap.size w1 wr) (fun i _ => m - (intOf i).toNat)
      case atStart => exact ⟨0, Nat.zero_le _, rfl, Below.refl _ _⟩
      case round =>
        obtain ⟨k, hk, rfl, hb⟩ := hrel
        by_cases hlt : k < m
        · have hi : (k : Int) < (m : Int) := by omega
          obtain ⟨⟨x, Ax, cx⟩, hx⟩ : ∃ z, os[k]? = some z := ⟨_, List.getElem?_eq_getElem (by rw [HM.out]; exact hlt)⟩
          have hxr : r[k]? = some x := by rw [← HOS.out, List.getElem?_map, hx]; rfl
          have hxv := HV.out x (List.mem_of_getElem? hxr)
          have hck := hxv.check
          have hxl := hxv.len
          have hA := (HR1.out.below hb).into _ (List.mem_of_getElem? hx)
          have hAt := (HR1.out.below hb).at_ (by rw [HM.out]; omega)
          obtain ⟨b, off, hAe, hbl, hcx⟩ := hAt
          subst hAe
          obtain ⟨x0, x1, x2, x3, x4, x5, x6⟩ := row_cells hx hcx
          have HC : ∀ W', Below wr.heap.size wr W' → Calls Tryd.prog 42 #[.agg #[.int .i32 x.fr, .int .i32 x.up, .string ⟨#[]⟩, .string ⟨#[]⟩, .int .i64 x.cl, .string (mk8 x.kd), .slice Ax x.il.length cx]] W' fun e w' => e = .returned (.int .i64 0) ∧ Below W'.heap.size W' w' := fun W' hb' => by
            have := check_any { x with nm := [], ct := [] } Ax cx W' (hA.below hb') (by show x.il.length ≤ _; omega) (by simp) (by simp)
            rw [hck] at this
            exact this
          have HBB := Lib.hid hb
          clear hck hxv hA
          rcases Nat.eq_zero_or_pos k with hk0 | hk0
          · subst hk0
            simp only [Nat.zero_mul, Nat.add_zero] at x0 x1 x2 x3 x4 x5 x6
            clear hcx hxr hx
            go_wp2
            generalize hWW : World.alloc wr _ = W at *
            have hbox : W.heap[wr.heap.size]? = some (.cells #[.int .i32 x.fr, .int .i32 x.up, .string ⟨#[]⟩, .string ⟨#[]⟩, .int .i64 x.cl, .string (mk8 x.kd), .slice Ax x.il.length cx] 65 (0, 0)) := by
              rw [← hWW]
              exact box_new wr _ _
            have hbW : Below wr.heap.size wr W := by
              rw [← hWW]
              exact (Below.refl _ _).alloc (Nat.le_refl _) _
            have cW0 := cellB x0 hbW
            have HCW : ∀ W', Below W.heap.size W W' → Below wr.heap.size wr W' := fun W' h => below_then hbW h
            replace HC := fun W' h => HC W' (HCW W' h)
            clear hWW x0 x1 x2 x3 x4 x5 x6 HCW
            have HBW := Lib.hid (HBB.out.trans (hbW.mono HBB.out.size))
            generalize wr.heap.size = p at *
            have MK : ∀ w', Below W.heap.size W w' → (w'.cell? ⟨p, 0, none⟩ = some (.int .i32 x.fr) ∧ w'.cell? ⟨p, 1, none⟩ = some (.int .i32 x.up) ∧ w'.cell? ⟨p, 2, none⟩ = some (.string ⟨#[]⟩) ∧ w'.cell? ⟨p, 3, none⟩ = some (.string ⟨#[]⟩) ∧ w'.cell? ⟨p, 4, none⟩ = some (.int .i64 x.cl) ∧ w'.cell? ⟨p, 5, none⟩ = some (.string (mk8 x.kd)) ∧ w'.cell? ⟨p, 6, none⟩ = some (.slice Ax x.il.length cx)) ∧ (w'.cell? ⟨b, off, none⟩ = some (.int .i32 x.fr)) ∧ Below W.heap.size W w' := by
              intro w' hb'
              have hx' := box_below hbox hb'
              exact ⟨⟨box_cell hx' 0 rfl, box_cell hx' 1 rfl, box_cell hx' 2 rfl, box_cell hx' 3 rfl, box_cell hx' 4 rfl, box_cell hx' 5 rfl, box_cell hx' 6 rfl⟩, cellB cW0 hb', hb'⟩
            clear hbox cW0 hbW
            refine wp_region_held_drew (S := fun w' => (w'.cell? ⟨p, 0, none⟩ = some (.int .i32 x.fr) ∧ w'.cell? ⟨p, 1, none⟩ = some (.int .i32 x.up) ∧ w'.cell? ⟨p, 2, none⟩ = some (.string ⟨#[]⟩) ∧ w'.cell? ⟨p, 3, none⟩ = some (.string ⟨#[]⟩) ∧ w'.cell? ⟨p, 4, none⟩ = some (.int .i64 x.cl) ∧ w'.cell? ⟨p, 5, none⟩ = some (.string (mk8 x.kd)) ∧ w'.cell? ⟨p, 6, none⟩ = some (.slice Ax x.il.length cx)) ∧ (w'.cell? ⟨b, off, none⟩ = some (.int .i32 x.fr)) ∧ Below W.heap.size W w') (by kernel_rfl) (MK _ (Drew.to ⟨1, rfl⟩)) (fun hHeld => ?_)
            refine wpAnyH_take (i := 0) (v := .agg #[.int .i32 x.fr, .int .i32 x.up, .string ⟨#[]⟩, .string ⟨#[]⟩, .int .i64 x.cl, .string (mk8 x.kd), .slice Ax x.il.length cx]) rfl (by kernel_rfl) (by kernel_rfl) (by kernel_rfl) (fun _ _ _ h => h) (Or.inl ⟨by kernel_rfl, ?_⟩) hHeld ?_
            · intro w hSw
              (try dsimp only at hSw)
              go_simp
              try with_reducible rfl
            simp only [List.getElem_toArray, List.getElem_cons_succ, List.getElem_cons_zero, Act.put, List.setIfInBounds_toArray, List.set_cons_zero, List.set_cons_succ]
            refine wpAnyH_ready (rs := [1]) (by kernel_rfl) (by simp) ?_
            refine AllReadyH.cons rfl (fun K hK => ?_) AllReadyH.nil
            go_simp
            refine (HC _ hHeld.2.2).mono ?_
            rintro e w5 ⟨rfl, hb5⟩
            refine hK.out _ _ (keep14 MK hHeld hb5) (fun hHeld2 => ?_)
            clear hK K hHeld
            try simp only [List.getElem_toArray, List.getElem_cons_succ, List.getElem_cons_zero, Act.put, List.setIfInBounds_toArray, List.set_cons_zero, List.set_cons_succ]
            refine wpAnyH_take (i := 2) (v := .bool false) rfl (by kernel_rfl) (by kernel_rfl) (by kernel_rfl) (fun _ _ _ h => h) (Or.inl ⟨by kernel_rfl, ?_⟩) hHeld2 ?_
            · intro w hSw
              (try dsimp only at hSw)
              go_simp
              try with_reducible rfl
            simp only [List.getElem_toArray, List.getElem_cons_succ, List.getElem_cons_zero, Act.put, List.setIfInBounds_toArray, List.set_cons_zero, List.set_cons_succ]
            refine wpAnyH_take (i := 3) (v := .bool false) rfl (by kernel_rfl) (by kernel_rfl) (by kernel_rfl) (fun _ _ _ h => h) (Or.inl ⟨by kernel_rfl, ?_⟩) hHeld2 ?_
            · intro w hSw
              (try dsimp only at hSw)
              go_simp
              try with_reducible rfl
            simp only [List.getElem_toArray, List.getElem_cons_succ, List.getElem_cons_zero, Act.put, List.setIfInBounds_toArray, List.set_cons_zero, List.set_cons_succ]
            refine wpAnyH_take (i := 4) (v := .int .i64 0) rfl (by kernel_rfl) (by kernel_rfl) (by kernel_rfl) (fun _ _ _ h => h) (Or.inl ⟨by kernel_rfl, ?_⟩) hHeld2 ?_
            · intro w hSw
              (try dsimp only at hSw)
              go_simp
              try with_reducible rfl
            simp only [List.getElem_toArray, List.getElem_cons_succ, List.getElem_cons_zero, Act.put, List.setIfInBounds_toArray, List.set_cons_zero, List.set_cons_succ]
            refine wpAnyH_take (i := 5) (v := .bool false) rfl (by kernel_rfl) (by kernel_rfl) (by kernel_rfl) (fun _ _ _ h => h) (Or.inl ⟨by kernel_rfl, ?_⟩) hHeld2 ?_
            · intro w hSw
              (try dsimp only at hSw)
              go_simp
              try with_reducible rfl
            simp only [List.getElem_toArray, List.getElem_cons_succ, List.getElem_cons_zero, Act.put, List.setIfInBounds_toArray, List.set_cons_zero, List.set_cons_succ]
            refine wpAnyH_take (i := 6) (v := .bool false) rfl (by kernel_rfl) (by kernel_rfl) (by kernel_rfl) (fun _ _ _ h => h) (Or.inl ⟨by kernel_rfl, ?_⟩) hHeld2 ?_
            · intro w hSw
              (try dsimp only at hSw)
              go_simp
              try with_reducible rfl
            simp only [List.getElem_toArray, List.getElem_cons_succ, List.getElem_cons_zero, Act.put, List.setIfInBounds_toArray, List.set_cons_zero, List.set_cons_succ]
            refine wpAnyH_take (i := 7) (v := undef) rfl (by kernel_rfl) (by kernel_rfl) (by kernel_rfl) (fun _ _ _ h => h) (Or.inr ⟨by kernel_rfl, rfl⟩) hHeld2 ?_
            simp only [List.getElem_toArray, List.getElem_cons_succ, List.getElem_cons_zero, Act.put, List.setIfInBounds_toArray, List.set_cons_zero, List.set_cons_succ]
            refine wpAnyH_take (i := 8) (v := undef) rfl (by kernel_rfl) (by kernel_rfl) (by kernel_rfl) (fun _ _ _ h => h) (Or.inr ⟨by kernel_rfl, rfl⟩) hHeld2 ?_
            simp only [List.getElem_toArray, List.getElem_cons_succ, List.getElem_cons_zero, Act.put, List.setIfInBounds_toArray, List.set_cons_zero, List.set_cons_succ]
            refine wpAnyH_take (i := 9) (v := undef) rfl (by kernel_rfl) (by kernel_rfl) (by kernel_rfl) (fun _ _ _ h => h) (Or.inr ⟨by kernel_rfl, rfl⟩) hHeld2 ?_
            simp only [List.getElem_toArray, List.getElem_cons_succ, List.getElem_cons_zero, Act.put, List.setIfInBounds_toArray, List.set_cons_zero, List.set_cons_succ]
            refine wpAnyH_take (i := 10) (v := undef) rfl (by kernel_rfl) (by kernel_rfl) (by kernel_rfl) (fun _ _ _ h => h) (Or.inr ⟨by kernel_rfl, rfl⟩) hHeld2 ?_
            simp only [List.getElem_toArray, List.getElem_cons_succ, List.getElem_cons_zero, Act.put, List.setIfInBounds_toArray, List.set_cons_zero, List.set_cons_succ]
            refine wpAnyH_take (i := 11) (v := undef) rfl (by kernel_rfl) (by kernel_rfl) (by kernel_rfl) (fun _ _ _ h => h) (Or.inr ⟨by kernel_rfl, rfl⟩) hHeld2 ?_
            simp only [List.getElem_toArray, List.getElem_cons_succ, List.getElem_cons_zero, Act.put, List.setIfInBounds_toArray, List.set_cons_zero, List.set_cons_succ]
            refine wpAnyH_take (i := 12) (v := undef) rfl (by kernel_rfl) (by kernel_rfl) (by kernel_rfl) (fun _ _ _ h => h) (Or.inr ⟨by kernel_rfl, rfl⟩) hHeld2 ?_
            simp only [List.getElem_toArray, List.getElem_cons_succ, List.getElem_cons_zero, Act.put, List.setIfInBounds_toArray, List.set_cons_zero, List.set_cons_succ]
            refine wpAnyH_take (i := 13) (v := undef) rfl (by kernel_rfl) (by kernel_rfl) (by kernel_rfl) (fun _ _ _ h => h) (Or.inr ⟨by kernel_rfl, rfl⟩) hHeld2 ?_
            simp only [List.getElem_toArray, List.getElem_cons_succ, List.getElem_cons_zero, Act.put, List.setIfInBounds_toArray, List.set_cons_zero, List.set_cons_succ]
            refine wpAnyH_take (i := 14) (v := undef) rfl (by kernel_rfl) (by kernel_rfl) (by kernel_rfl) (fun _ _ _ h => h) (Or.inr ⟨by kernel_rfl, rfl⟩) hHeld2 ?_
            simp only [List.getElem_toArray, List.getElem_cons_succ, List.getElem_cons_zero, Act.put, List.setIfInBounds_toArray, List.set_cons_zero, List.set_cons_succ]
            refine wpAnyH_take (i := 15) (v := undef) rfl (by kernel_rfl) (by kernel_rfl) (by kernel_rfl) (fun _ _ _ h => h) (Or.inr ⟨by kernel_rfl, rfl⟩) hHeld2 ?_
            simp only [List.getElem_toArray, List.getElem_cons_succ, List.getElem_cons_zero, Act.put, List.setIfInBounds_toArray, List.set_cons_zero, List.set_cons_succ]
            refine wpAnyH_take (i := 16) (v := undef) rfl (by kernel_rfl) (by kernel_rfl) (by kernel_rfl) (fun _ _ _ h => h) (Or.inr ⟨by kernel_rfl, rfl⟩) hHeld2 ?_
            simp only [List.getElem_toArray, List.getElem_cons_succ, List.getElem_cons_zero, Act.put, List.setIfInBounds_toArray, List.set_cons_zero, List.set_cons_succ]
            refine wpAnyH_take (i := 17) (v := undef) rfl (by kernel_rfl) (by kernel_rfl) (by kernel_rfl) (fun _ _ _ h => h) (Or.inr ⟨by kernel_rfl, rfl⟩) hHeld2 ?_
            simp only [List.getElem_toArray, List.getElem_cons_succ, List.getElem_cons_zero, Act.put, List.setIfInBounds_toArray, List.set_cons_zero, List.set_cons_succ]
            refine wpAnyH_take (i := 18) (v := undef) rfl (by kernel_rfl) (by kernel_rfl) (by kernel_rfl) (fun _ _ _ h => h) (Or.inr ⟨by kernel_rfl, rfl⟩) hHeld2 ?_
            simp only [List.getElem_toArray, List.getElem_cons_succ, List.getElem_cons_zero, Act.put, List.setIfInBounds_toArray, List.set_cons_zero, List.set_cons_succ]
            refine wpAnyH_take (i := 19) (v := .bool false) rfl (by kernel_rfl) (by kernel_rfl) (by kernel_rfl) (fun _ _ _ h => h) (Or.inl ⟨by kernel_rfl, ?_⟩) hHeld2 ?_
            · intro w hSw
              (try dsimp only at hSw)
              go_simp
              try with_reducible rfl
            simp only [List.getElem_toArray, List.getElem_cons_succ, List.getElem_cons_zero, Act.put, List.setIfInBounds_toArray, List.set_cons_zero, List.set_cons_succ]
            refine wpAnyH_take (i := 20) (v := .bool false) rfl (by kernel_rfl) (by kernel_rfl) (by kernel_rfl) (fun _ _ _ h => h) (Or.inl ⟨by kernel_rfl, ?_⟩) hHeld2 ?_
            · intro w hSw
              (try dsimp only at hSw)
              go_simp
              try with_reducible rfl
            simp only [List.getElem_toArray, List.getElem_cons_succ, List.getElem_cons_zero, Act.put, List.setIfInBounds_toArray, List.set_cons_zero, List.set_cons_succ]
            refine wpAnyH_done (by kernel_rfl) ?_ _
            have hb8 := HBW.out.trans (hHeld2.2.2.mono HBW.out.size)
            clear HC hHeld2 MK
            go_wp2
            go_roundw
            case rel => exact ⟨0 + 1, by omega, by go_num, hb8⟩
            case measure => simp [intOf]; omega
          · have hki : (0 : Int) < (k : Int) := by omega
            obtain ⟨⟨y, Ay, cy⟩, hy⟩ : ∃ z, os[k - 1]? = some z := ⟨_, List.getElem?_eq_getElem (by rw [HM.out]; omega)⟩
            have hyr : r[k - 1]? = some y := by rw [← HOS.out, List.getElem?_map, hy]; rfl
            have hrise : y.up < x.fr := HRI.out (k - 1) y x hyr (by rw [show k - 1 + 1 = k by omega]; exact hxr)
            obtain ⟨y0, y1, y2, y3, y4, y5, y6⟩ := row_cells hy hcx
            have hw1 : IntKind.i64.wrap ((k : Int) - 1) = ((k - 1 : Nat) : Int) := by rw [IntWalk.i64_in _ (by omega)]; omega
            have hlt2 : ((k - 1 : Nat) : Int) < (m : Int) := by omega
            clear hcx hxr hx hyr hy y0 y2 y3 y4 y5 y6
            go_wp2
            generalize hWW : World.alloc wr _ = W at *
            have hbox : W.heap[wr.heap.size]? = some (.cells #[.int .i32 x.fr, .int .i32 x.up, .string ⟨#[]⟩, .string ⟨#[]⟩, .int .i64 x.cl, .string (mk8 x.kd), .slice Ax x.il.length cx] 65 (0, 0)) := by
              rw [← hWW]
              exact box_new wr _ _
            have hbW : Below wr.heap.size wr W := by
              rw [← hWW]
              exact (Below.refl _ _).alloc (Nat.le_refl _) _
            have cW0 := cellB x0 hbW
            have cW1 := cellB y1 hbW
            have HCW : ∀ W', Below W.heap.size W W' → Below wr.heap.size wr W' := fun W' h => below_then hbW h
            replace HC := fun W' h => HC W' (HCW W' h)
            clear hWW x0 x1 x2 x3 x4 x5 x6 HCW y1
            have HBW := Lib.hid (HBB.out.trans (hbW.mono HBB.out.size))
            generalize wr.heap.size = p at *
            have MK : ∀ w', Below W.heap.size W w' → (w'.cell? ⟨p, 0, none⟩ = some (.int .i32 x.fr) ∧ w'.cell? ⟨p, 1, none⟩ = some (.int .i32 x.up) ∧ w'.cell? ⟨p, 2, none⟩ = some (.string ⟨#[]⟩) ∧ w'.cell? ⟨p, 3, none⟩ = some (.string ⟨#[]⟩) ∧ w'.cell? ⟨p, 4, none⟩ = some (.int .i64 x.cl) ∧ w'.cell? ⟨p, 5, none⟩ = some (.string (mk8 x.kd)) ∧ w'.cell? ⟨p, 6, none⟩ = some (.slice Ax x.il.length cx)) ∧ (w'.cell? ⟨b, off + k * 7, none⟩ = some (.int .i32 x.fr) ∧ w'.cell? ⟨b, off + (k - 1) * 7 + 1, none⟩ = some (.int .i32 y.up)) ∧ Below W.heap.size W w' := by
              intro w' hb'
              have hx' := box_below hbox hb'
              exact ⟨⟨box_cell hx' 0 rfl, box_cell hx' 1 rfl, box_cell hx' 2 rfl, box_cell hx' 3 rfl, box_cell hx' 4 rfl, box_cell hx' 5 rfl, box_cell hx' 6 rfl⟩, ⟨cellB cW0 hb', cellB cW1 hb'⟩, hb'⟩
            clear hbox cW0 cW1 hbW
            go_region_held3 (fun w' => (w'.cell? ⟨p, 0, none⟩ = some (.int .i32 x.fr) ∧ w'.cell? ⟨p, 1, none⟩ = some (.int .i32 x.up) ∧ w'.cell? ⟨p, 2, none⟩ = some (.string ⟨#[]⟩) ∧ w'.cell? ⟨p, 3, none⟩ = some (.string ⟨#[]⟩) ∧ w'.cell? ⟨p, 4, none⟩ = some (.int .i64 x.cl) ∧ w'.cell? ⟨p, 5, none⟩ = some (.string (mk8 x.kd)) ∧ w'.cell? ⟨p, 6, none⟩ = some (.slice Ax x.il.length cx)) ∧ (w'.cell? ⟨b, off + k * 7, none⟩ = some (.int .i32 x.fr) ∧ w'.cell? ⟨b, off + (k - 1) * 7 + 1, none⟩ = some (.int .i32 y.up)) ∧ Below W.heap.size W w') (first | exact MK _ (Drew.to ⟨1, rfl⟩) | assumption | (refine keep14 MK ?_ hb5; assumption))
              (first
                | (go_at_call 42; refine (HC _ (keepB MK ?_)).mono ?_; assumption; rintro e w5 ⟨rfl, hb5⟩))
            all_goals
              have hb7 : (w5.cell? ⟨p, 0, none⟩ = some (.int .i32 x.fr) ∧ w5.cell? ⟨p, 1, none⟩ = some (.int .i32 x.up) ∧ w5.cell? ⟨p, 2, none⟩ = some (.string ⟨#[]⟩) ∧ w5.cell? ⟨p, 3, none⟩ = some (.string ⟨#[]⟩) ∧ w5.cell? ⟨p, 4, none⟩ = some (.int .i64 x.cl) ∧ w5.cell? ⟨p, 5, none⟩ = some (.string (mk8 x.kd)) ∧ w5.cell? ⟨p, 6, none⟩ = some (.slice Ax x.il.length cx)) ∧ (w5.cell? ⟨b, off + k * 7, none⟩ = some (.int .i32 x.fr) ∧ w5.cell? ⟨b, off + (k - 1) * 7 + 1, none⟩ = some (.int .i32 y.up)) ∧ Below W.heap.size W w5 := by assumption
              have hb8 := HBW.out.trans (hb7.2.2.mono HBW.out.size)
              clear HC hb7 MK
              go_wp2
              go_roundw
              case rel => exact ⟨k + 1, by omega, by go_num, hb8⟩
              case measure => simp [intOf]; omega
        · have hi : (m : Int) ≤ (k : Int) := by omega
          have hbx := below_then HB1.out hb
          go_wp2_with fail
          refine (C2 _ (hE.below hbx)).mono ?_
          rintro e w2 ⟨A2, c2, rfl, hown2, hb2⟩
          have hbw := below_then hbx hb2
          have hr2 := own_rd hown2
          have hE2 := hE.below hbw
          generalize hg2 : (setsS (bs s)).1.length = m2 at *
          have HM2 : Hid ((setsS (bs s)).1.length = m2) := hg2
          have hm2l : m2 ≤ 4096 := HS4.out
          have HW2 := Lib.hid hbw
          clear hown2 hb2 hbx C2 hg2 hb hbw hE
          go_wp2
          go_loopw [11] (fun i wr => ∃ k : Nat, k ≤ m2 ∧ i = .int .i64 k ∧ Below w2.heap.size w2 wr) (fun i _ => m2 - (intOf i).toNat)
          case atStart => exact ⟨0, Nat.zero_le _, rfl, Below.refl _ _⟩
          case round =>
            obtain ⟨k, hk, rfl, hb⟩ := hrel
            by_cases hlt : k < m2
            · have hi : (k : Int) < (m2 : Int) := by omega
              obtain ⟨z, hz⟩ : ∃ z, (setsS (bs s)).1[k]? = some z := ⟨_, List.getElem?_eq_getElem (by rw [HM2.out]; exact hlt)⟩
              obtain ⟨b, off, hAe, hbl, hcx⟩ := (hr2.below hb).at_ (by omega)
              subst hAe
              have cz : wr.cell? ⟨b, off + k, none⟩ = some (.int .i32 z) := hcx k _ (by rw [List.getElem?_map, hz]; rfl)
              have hsz := HSV.out.1 z (List.mem_of_getElem? hz)
              have SQ : ∀ n, Calls Tryd.prog 33 #[.int .i32 z] (wr.drewN n) fun e w'' => e = .returned (.bool true) ∧ ∃ m, w'' = wr.drewN m := fun n => by
                have := quiet_left (scalar_any z (wr.drewN n))
                rwa [hsz] at this
              clear hsz
              rcases Nat.eq_zero_or_pos k with hk0 | hk0
              · subst hk0
                rw [Nat.add_zero] at cz
                clear hcx hz
                go_wp2
                go_quiet (first | (go_at_call 33; exact SQ _))
                go_wp2
                go_roundw
                case rel => exact ⟨0 + 1, by omega, by go_num, below_drew' hb _⟩
                case measure => simp [intOf]; omega
              · have hki : (0 : Int) < (k : Int) := by omega
                obtain ⟨y, hy⟩ : ∃ z, (setsS (bs s)).1[k - 1]? = some z := ⟨_, List.getElem?_eq_getElem (by rw [HM2.out]; omega)⟩
                have cy : wr.cell? ⟨b, off + (k - 1), none⟩ = some (.int .i32 y) := hcx (k - 1) _ (by rw [List.getElem?_map, hy]; rfl)
                have hyz : y < z := pair_get HSV.out.2 hy hz (by omega)
                have hw1 : IntKind.i64.wrap ((k : Int) - 1) = ((k - 1 : Nat) : Int) := by rw [IntWalk.i64_in _ (by omega)]; omega
                have hlt2 : ((k - 1 : Nat) : Int) < (m2 : Int) := by omega
                clear hcx hz hy
                go_wp2
                go_quiet (first | (go_at_call 33; exact SQ _))
                go_wp2
                go_roundw
                case rel => exact ⟨k + 1, by omega, by go_num, below_drew' hb _⟩
                case measure => simp [intOf]; omega
            · have hi : (m2 : Int) ≤ (k : Int) := by omega
              have hbz := below_then HW2.out hb
              have hE3 := hE2.below hb
              clear hr2 hb
              rcases HSE.out with hse | hse
              · have h40 : (m2 : Int) ≤ 4096 := by omega
                rw [hse]
                go_wp2_with fail
                refine (awake5_any _ hE3).mono ?_
                rintro q w21 ⟨rfl, hbn⟩
                go_wp2
                go_returns
                exact ⟨rfl, below_then hbz hbn⟩
              · have hm0 : m2 = 0 := by rw [← HM2.out, hse]; rfl
                subst hm0
                clear hse
                generalize (setsS (bs s)).2.2 = ee
                by_cases hee : ee = 0
                · subst hee
                  go_wp2_with fail
                  refine (awake5_any _ hE3).mono ?_
                  rintro q w21 ⟨rfl, hbn⟩
                  go_wp2
                  go_returns
                  exact ⟨rfl, below_then hbz hbn⟩
                · have hef : (ee == 0) = false := by simpa using hee
                  go_wp2_with fail
                  refine (awake5_any _ hE3).mono ?_
                  rintro q w21 ⟨rfl, hbn⟩
                  go_wp2
                  go_returns
                  exact ⟨rfl, below_then hbz hbn⟩
    · obtain rfl : m = 0 := by rw [HMR.out, h2]; rfl
      have hne : (er != 0) = true := by simpa using h1
      have heq : (er == 0) = false := by simpa using h1
      clear h2 h1
      by_cases hn0 : no = 0
      · subst hn0
        have h4 : er = 10 ∨ er = 14 := by
          rcases h3 with h | h
          · exact absurd rfl h
          · exact h
        clear h3
        rcases h4 with h4 | h4
        · subst h4
          go_wp2
          go_loopw [6] (fun i wr => ∃ k : Nat, k ≤ 0 ∧ i = .int .i64 k ∧ Below w1.heap.size w1 wr) (fun i _ => 0 - (intOf i).toNat)
          case atStart => exact ⟨0, Nat.zero_le _, rfl, Below.refl _ _⟩
          case round =>
            obtain ⟨k, hk, rfl, hb⟩ := hrel
            by_cases hlt : k < 0
            · exact absurd hlt (Nat.not_lt_zero _)
            · have hi : (0 : Int) ≤ (k : Int) := by omega
              have hbx := below_then HB1.out hb
              go_wp2_with fail
              refine (C2 _ (hE.below hbx)).mono ?_
              rintro e w2 ⟨A2, c2, rfl, hown2, hb2⟩
              have hbw := below_then hbx hb2
              have hr2 := own_rd hown2
              have hE2 := hE.below hbw
              generalize hg2 : (setsS (bs s)).1.length = m2 at *
              have HM2 : Hid ((setsS (bs s)).1.length = m2) := hg2
              have hm2l : m2 ≤ 4096 := HS4.out
              have HW2 := Lib.hid hbw
              clear hown2 hb2 hbx C2 hg2 hb hbw hE
              go_wp2
              go_loopw [11] (fun i wr => ∃ k : Nat, k ≤ m2 ∧ i = .int .i64 k ∧ Below w2.heap.size w2 wr) (fun i _ => m2 - (intOf i).toNat)
              case atStart => exact ⟨0, Nat.zero_le _, rfl, Below.refl _ _⟩
              case round =>
                obtain ⟨k, hk, rfl, hb⟩ := hrel
                by_cases hlt : k < m2
                · have hi : (k : Int) < (m2 : Int) := by omega
                  obtain ⟨z, hz⟩ : ∃ z, (setsS (bs s)).1[k]? = some z := ⟨_, List.getElem?_eq_getElem (by rw [HM2.out]; exact hlt)⟩
                  obtain ⟨b, off, hAe, hbl, hcx⟩ := (hr2.below hb).at_ (by omega)
                  subst hAe
                  have cz : wr.cell? ⟨b, off + k, none⟩ = some (.int .i32 z) := hcx k _ (by rw [List.getElem?_map, hz]; rfl)
                  have hsz := HSV.out.1 z (List.mem_of_getElem? hz)
                  have SQ : ∀ n, Calls Tryd.prog 33 #[.int .i32 z] (wr.drewN n) fun e w'' => e = .returned (.bool true) ∧ ∃ m, w'' = wr.drewN m := fun n => by
                    have := quiet_left (scalar_any z (wr.drewN n))
                    rwa [hsz] at this
                  clear hsz
                  rcases Nat.eq_zero_or_pos k with hk0 | hk0
                  · subst hk0
                    rw [Nat.add_zero] at cz
                    clear hcx hz
                    go_wp2
                    go_quiet (first | (go_at_call 33; exact SQ _))
                    go_wp2
                    go_roundw
                    case rel => exact ⟨0 + 1, by omega, by go_num, below_drew' hb _⟩
                    case measure => simp [intOf]; omega
                  · have hki : (0 : Int) < (k : Int) := by omega
                    obtain ⟨y, hy⟩ : ∃ z, (setsS (bs s)).1[k - 1]? = some z := ⟨_, List.getElem?_eq_getElem (by rw [HM2.out]; omega)⟩
                    have cy : wr.cell? ⟨b, off + (k - 1), none⟩ = some (.int .i32 y) := hcx (k - 1) _ (by rw [List.getElem?_map, hy]; rfl)
                    have hyz : y < z := pair_get HSV.out.2 hy hz (by omega)
                    have hw1 : IntKind.i64.wrap ((k : Int) - 1) = ((k - 1 : Nat) : Int) := by rw [IntWalk.i64_in _ (by omega)]; omega
                    have hlt2 : ((k - 1 : Nat) : Int) < (m2 : Int) := by omega
                    clear hcx hz hy
                    go_wp2
                    go_quiet (first | (go_at_call 33; exact SQ _))
                    go_wp2
                    go_roundw
                    case rel => exact ⟨k + 1, by omega, by go_num, below_drew' hb _⟩
                    case measure => simp [intOf]; omega
                · have hi : (m2 : Int) ≤ (k : Int) := by omega
                  have hbz := below_then HW2.out hb
                  have hE3 := hE2.below hb
                  clear hr2 hb
                  rcases HSE.out with hse | hse
                  · have h40 : (m2 : Int) ≤ 4096 := by omega
                    rw [hse]
                    go_wp2_with fail
                    refine (awake5_any _ hE3).mono ?_
                    rintro q w21 ⟨rfl, hbn⟩
                    go_wp2
                    go_returns
                    exact ⟨rfl, below_then hbz hbn⟩
                  · have hm0 : m2 = 0 := by rw [← HM2.out, hse]; rfl
                    subst hm0
                    clear hse
                    generalize (setsS (bs s)).2.2 = ee
                    by_cases hee : ee = 0
                    · subst hee
                      go_wp2_with fail
                      refine (awake5_any _ hE3).mono ?_
                      rintro q w21 ⟨rfl, hbn⟩
                      go_wp2
                      go_returns
                      exact ⟨rfl, below_then hbz hbn⟩
                    · have hef : (ee == 0) = false := by simpa using hee
                      go_wp2_with fail
                      refine (awake5_any _ hE3).mono ?_
                      rintro q w21 ⟨rfl, hbn⟩
                      go_wp2
                      go_returns
                      exact ⟨rfl, below_then hbz hbn⟩
        · subst h4
          go_wp2
          go_loopw [6] (fun i wr => ∃ k : Nat, k ≤ 0 ∧ i = .int .i64 k ∧ Below w1.heap.size w1 wr) (fun i _ => 0 - (intOf i).toNat)
          case atStart => exact ⟨0, Nat.zero_le _, rfl, Below.refl _ _⟩
          case round =>
            obtain ⟨k, hk, rfl, hb⟩ := hrel
            by_cases hlt : k < 0
            · exact absurd hlt (Nat.not_lt_zero _)
            · have hi : (0 : Int) ≤ (k : Int) := by omega
              have hbx := below_then HB1.out hb
              go_wp2_with fail
              refine (C2 _ (hE.below hbx)).mono ?_
              rintro e w2 ⟨A2, c2, rfl, hown2, hb2⟩
              have hbw := below_then hbx hb2
              have hr2 := own_rd hown2
              have hE2 := hE.below hbw
              generalize hg2 : (setsS (bs s)).1.length = m2 at *
              have HM2 : Hid ((setsS (bs s)).1.length = m2) := hg2
              have hm2l : m2 ≤ 4096 := HS4.out
              have HW2 := Lib.hid hbw
              clear hown2 hb2 hbx C2 hg2 hb hbw hE
              go_wp2
              go_loopw [11] (fun i wr => ∃ k : Nat, k ≤ m2 ∧ i = .int .i64 k ∧ Below w2.heap.size w2 wr) (fun i _ => m2 - (intOf i).toNat)
              case atStart => exact ⟨0, Nat.zero_le _, rfl, Below.refl _ _⟩
              case round =>
                obtain ⟨k, hk, rfl, hb⟩ := hrel
                by_cases hlt : k < m2
                · have hi : (k : Int) < (m2 : Int) := by omega
                  obtain ⟨z, hz⟩ : ∃ z, (setsS (bs s)).1[k]? = some z := ⟨_, List.getElem?_eq_getElem (by rw [HM2.out]; exact hlt)⟩
                  obtain ⟨b, off, hAe, hbl, hcx⟩ := (hr2.below hb).at_ (by omega)
                  subst hAe
                  have cz : wr.cell? ⟨b, off + k, none⟩ = some (.int .i32 z) := hcx k _ (by rw [List.getElem?_map, hz]; rfl)
                  have hsz := HSV.out.1 z (List.mem_of_getElem? hz)
                  have SQ : ∀ n, Calls Tryd.prog 33 #[.int .i32 z] (wr.drewN n) fun e w'' => e = .returned (.bool true) ∧ ∃ m, w'' = wr.drewN m := fun n => by
                    have := quiet_left (scalar_any z (wr.drewN n))
                    rwa [hsz] at this
                  clear hsz
                  rcases Nat.eq_zero_or_pos k with hk0 | hk0
                  · subst hk0
                    rw [Nat.add_zero] at cz
                    clear hcx hz
                    go_wp2
                    go_quiet (first | (go_at_call 33; exact SQ _))
                    go_wp2
                    go_roundw
                    case rel => exact ⟨0 + 1, by omega, by go_num, below_drew' hb _⟩
                    case measure => simp [intOf]; omega
                  · have hki : (0 : Int) < (k : Int) := by omega
                    obtain ⟨y, hy⟩ : ∃ z, (setsS (bs s)).1[k - 1]? = some z := ⟨_, List.getElem?_eq_getElem (by rw [HM2.out]; omega)⟩
                    have cy : wr.cell? ⟨b, off + (k - 1), none⟩ = some (.int .i32 y) := hcx (k - 1) _ (by rw [List.getElem?_map, hy]; rfl)
                    have hyz : y < z := pair_get HSV.out.2 hy hz (by omega)
                    have hw1 : IntKind.i64.wrap ((k : Int) - 1) = ((k - 1 : Nat) : Int) := by rw [IntWalk.i64_in _ (by omega)]; omega
                    have hlt2 : ((k - 1 : Nat) : Int) < (m2 : Int) := by omega
                    clear hcx hz hy
                    go_wp2
                    go_quiet (first | (go_at_call 33; exact SQ _))
                    go_wp2
                    go_roundw
                    case rel => exact ⟨k + 1, by omega, by go_num, below_drew' hb _⟩
                    case measure => simp [intOf]; omega
                · have hi : (m2 : Int) ≤ (k : Int) := by omega
                  have hbz := below_then HW2.out hb
                  have hE3 := hE2.below hb
                  clear hr2 hb
                  rcases HSE.out with hse | hse
                  · have h40 : (m2 : Int) ≤ 4096 := by omega
                    rw [hse]
                    go_wp2_with fail
                    refine (awake5_any _ hE3).mono ?_
                    rintro q w21 ⟨rfl, hbn⟩
                    go_wp2
                    go_returns
                    exact ⟨rfl, below_then hbz hbn⟩
                  · have hm0 : m2 = 0 := by rw [← HM2.out, hse]; rfl
                    subst hm0
                    clear hse
                    generalize (setsS (bs s)).2.2 = ee
                    by_cases hee : ee = 0
                    · subst hee
                      go_wp2_with fail
                      refine (awake5_any _ hE3).mono ?_
                      rintro q w21 ⟨rfl, hbn⟩
                      go_wp2
                      go_returns
                      exact ⟨rfl, below_then hbz hbn⟩
                    · have hef : (ee == 0) = false := by simpa using hee
                      go_wp2_with fail
                      refine (awake5_any _ hE3).mono ?_
                      rintro q w21 ⟨rfl, hbn⟩
                      go_wp2
                      go_returns
                      exact ⟨rfl, below_then hbz hbn⟩
      · have hn1 : (no == 0) = false := by simpa using hn0
        clear h3 hn0
        go_wp2
        go_loopw [6] (fun i wr => ∃ k : Nat, k ≤ 0 ∧ i = .int .i64 k ∧ Below w1.heap.size w1 wr) (fun i _ => 0 - (intOf i).toNat)
        case atStart => exact ⟨0, Nat.zero_le _, rfl, Below.refl _ _⟩
        case round =>
          obtain ⟨k, hk, rfl, hb⟩ := hrel
          by_cases hlt : k < 0
          · exact absurd hlt (Nat.not_lt_zero _)
          · have hi : (0 : Int) ≤ (k : Int) := by omega
            have hbx := below_then HB1.out hb
            go_wp2_with fail
            refine (C2 _ (hE.below hbx)).mono ?_
            rintro e w2 ⟨A2, c2, rfl, hown2, hb2⟩
            have hbw := below_then hbx hb2
            have hr2 := own_rd hown2
            have hE2 := hE.below hbw
            generalize hg2 : (setsS (bs s)).1.length = m2 at *
            have HM2 : Hid ((setsS (bs s)).1.length = m2) := hg2
            have hm2l : m2 ≤ 4096 := HS4.out
            have HW2 := Lib.hid hbw
            clear hown2 hb2 hbx C2 hg2 hb hbw hE
            go_wp2
            go_loopw [11] (fun i wr => ∃ k : Nat, k ≤ m2 ∧ i = .int .i64 k ∧ Below w2.heap.size w2 wr) (fun i _ => m2 - (intOf i).toNat)
            case atStart => exact ⟨0, Nat.zero_le _, rfl, Below.refl _ _⟩
            case round =>
              obtain ⟨k, hk, rfl, hb⟩ := hrel
              by_cases hlt : k < m2
              · have hi : (k : Int) < (m2 : Int) := by omega
                obtain ⟨z, hz⟩ : ∃ z, (setsS (bs s)).1[k]? = some z := ⟨_, List.getElem?_eq_getElem (by rw [HM2.out]; exact hlt)⟩
                obtain ⟨b, off, hAe, hbl, hcx⟩ := (hr2.below hb).at_ (by omega)
                subst hAe
                have cz : wr.cell? ⟨b, off + k, none⟩ = some (.int .i32 z) := hcx k _ (by rw [List.getElem?_map, hz]; rfl)
                have hsz := HSV.out.1 z (List.mem_of_getElem? hz)
                have SQ : ∀ n, Calls Tryd.prog 33 #[.int .i32 z] (wr.drewN n) fun e w'' => e = .returned (.bool true) ∧ ∃ m, w'' = wr.drewN m := fun n => by
                  have := quiet_left (scalar_any z (wr.drewN n))
                  rwa [hsz] at this
                clear hsz
                rcases Nat.eq_zero_or_pos k with hk0 | hk0
                · subst hk0
                  rw [Nat.add_zero] at cz
                  clear hcx hz
                  go_wp2
                  go_quiet (first | (go_at_call 33; exact SQ _))
                  go_wp2
                  go_roundw
                  case rel => exact ⟨0 + 1, by omega, by go_num, below_drew' hb _⟩
                  case measure => simp [intOf]; omega
                · have hki : (0 : Int) < (k : Int) := by omega
                  obtain ⟨y, hy⟩ : ∃ z, (setsS (bs s)).1[k - 1]? = some z := ⟨_, List.getElem?_eq_getElem (by rw [HM2.out]; omega)⟩
                  have cy : wr.cell? ⟨b, off + (k - 1), none⟩ = some (.int .i32 y) := hcx (k - 1) _ (by rw [List.getElem?_map, hy]; rfl)
                  have hyz : y < z := pair_get HSV.out.2 hy hz (by omega)
                  have hw1 : IntKind.i64.wrap ((k : Int) - 1) = ((k - 1 : Nat) : Int) := by rw [IntWalk.i64_in _ (by omega)]; omega
                  have hlt2 : ((k - 1 : Nat) : Int) < (m2 : Int) := by omega
                  clear hcx hz hy
                  go_wp2
                  go_quiet (first | (go_at_call 33; exact SQ _))
                  go_wp2
                  go_roundw
                  case rel => exact ⟨k + 1, by omega, by go_num, below_drew' hb _⟩
                  case measure => simp [intOf]; omega
              · have hi : (m2 : Int) ≤ (k : Int) := by omega
                have hbz := below_then HW2.out hb
                have hE3 := hE2.below hb
                clear hr2 hb
                rcases HSE.out with hse | hse
                · have h40 : (m2 : Int) ≤ 4096 := by omega
                  rw [hse]
                  go_wp2_with fail
                  refine (awake5_any _ hE3).mono ?_
                  rintro q w21 ⟨rfl, hbn⟩
                  go_wp2
                  go_returns
                  exact ⟨rfl, below_then hbz hbn⟩
                · have hm0 : m2 = 0 := by rw [← HM2.out, hse]; rfl
                  subst hm0
                  clear hse
                  generalize (setsS (bs s)).2.2 = ee
                  by_cases hee : ee = 0
                  · subst hee
                    go_wp2_with fail
                    refine (awake5_any _ hE3).mono ?_
                    rintro q w21 ⟨rfl, hbn⟩
                    go_wp2
                    go_returns
                    exact ⟨rfl, below_then hbz hbn⟩
                  · have hef : (ee == 0) = false := by simpa using hee
                    go_wp2_with fail
                    refine (awake5_any _ hE3).mono ?_
                    rintro q w21 ⟨rfl, hbn⟩
                    go_wp2
                    go_returns
                    exact ⟨rfl, below_then hbz hbn⟩
end Go.Proofs.YtagncjnbabdbmaaDoor
end
