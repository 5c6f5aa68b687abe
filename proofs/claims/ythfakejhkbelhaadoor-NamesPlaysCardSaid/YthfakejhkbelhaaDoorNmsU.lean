/- Arguments that are calls, opened. -/
import Derived.Test.YthfakejhkbelhaaDoorNamOp
import Derived.Test.YthfakejhkbelhaaDoorNmsQ
set_option linter.unusedSimpArgs false
set_option linter.unusedVariables false
namespace Go.Proofs.YthfakejhkbelhaaDoor
open Go.ChangeShapes Go.WideShapes Go.ChangeAt Go.RowKit Go.Lib

theorem cells_getN {W : World} {base n : Nat} {a : Addr} {cs : List Value} (h : W.cells? base a n = some cs) : cs.length = n ∧ ∀ j, j < n → W.cell? (a.add j) = cs[j]? := by
  unfold World.cells? at h
  split at h
  · have hl := mapM_some_length h
    rw [List.length_range] at hl
    refine ⟨hl, fun j hj => ?_⟩
    exact mapM_some_get h j j (by rw [List.getElem?_range hj])
  · cases h
/-- A list of texts, opened. -/
theorem rd_texts {H : Type} {enc : TypeId × Value → H} {W : World} {base : Nat} {sp : Nat → Bool} {held : Bool} {fuel : Nat} {v : Value} {x : DataW H × List MemPlace}
    (h : DataW.trod enc Tryd.prog W base sp held fuel 28 [v] = some x) : ∃ (A : Option Addr) (c : Nat) (ls : List (List UInt8)), v = .slice A ls.length c ∧ Rd W A ls.length (Ss ls) ∧ (A = none → ls.length = 0 ∧ c = 0) ∧ ls.length ≤ c ∧ ls.length ≤ 9223372036854775807 := by
  rcases open_strings Tryd.underlying28 Tryd.underlying9 op_cs h with ⟨hcs, _⟩ | ⟨a, len, cap, ss, hcs, _, hl, hm, hz, _, hcell, _⟩
  · injection hcs with hcs _
    exact ⟨none, 0, [], hcs, Rd.nil _ _, fun _ => ⟨rfl, rfl⟩, Nat.le_refl _, by simp⟩
  · injection hcs with hcs _
    have hml : maxLen = 9223372036854775807 := rfl
    have hlz : len ≤ ss.length := by rw [hz]; split <;> omega
    have htl : ((ss.take len).map bs).length = len := by simp; omega
    refine ⟨some a, cap, (ss.take len).map bs, by rw [htl]; exact hcs, ⟨by simp [Ss], fun hn => ?_⟩, fun h => (by cases h), by rw [htl]; exact hl, by rw [htl]; omega⟩
    rw [htl] at hn
    obtain ⟨b, off, spot⟩ := a
    have hc := hcell 0 (by omega)
    have hspot : spot = none := by simpa [Addr.add] using World.cell?_spot hc
    subst hspot
    refine ⟨b, off, rfl, fun j u hu => ?_⟩
    unfold Ss at hu
    rw [List.getElem?_map, List.getElem?_map] at hu
    obtain ⟨y, hy, rfl⟩ := Option.map_eq_some_iff.1 hu
    obtain ⟨z, hz, rfl⟩ := Option.map_eq_some_iff.1 hy
    rw [List.getElem?_take] at hz
    split at hz
    · have hjl : j < ss.length := (List.getElem?_eq_some_iff.1 hz).1
      have := hcell j hjl
      rw [Addr.add_lit] at this
      rw [this, mk8_bs]
      simp [List.getD, hz]
    · cases hz
/-- What holds of a call that stood in an argument. -/
structure OpIn (W : World) (y : OA) : Prop where
  rd : OpRd W y
  len : y.1.ot.length ≤ 9223372036854775807
set_option maxRecDepth 100000 in
/-- A call among them, opened. -/
theorem open_opc {H : Type} {enc : TypeId × Value → H} {W : World} {base : Nat} {sp : Nat → Bool} {held : Bool} {fuel : Nat} {cs : List Value} {x : DataW H × List MemPlace}
    (h : DataW.trod enc Tryd.prog W base sp held fuel 30 cs = some x) : ∃ y : OA, cs = oC y ∧ OpIn W y := by
  obtain ⟨xs, n, _, _, hl, hlen, hf⟩ := DataW.trod_struct Tryd.underlying30 h
  rw [op_c] at hl
  match cs, hl with
  | [v0, v1, v2, v3], _ =>
    match xs, hlen with
    | [y0, y1, y2, y3], _ =>
      have g0 : DataW.trod enc Tryd.prog W base sp held n 3 (([v0, v1, v2, v3].drop 0).take (Tryd.prog.cellsOf 3)) = some y0 := hf 0 _ rfl
      have g1 : DataW.trod enc Tryd.prog W base sp held n 3 (([v0, v1, v2, v3].drop 1).take (Tryd.prog.cellsOf 3)) = some y1 := hf 1 _ rfl
      have g2 : DataW.trod enc Tryd.prog W base sp held n 9 (([v0, v1, v2, v3].drop 2).take (Tryd.prog.cellsOf 9)) = some y2 := hf 2 _ rfl
      have g3 : DataW.trod enc Tryd.prog W base sp held n 28 (([v0, v1, v2, v3].drop 3).take (Tryd.prog.cellsOf 28)) = some y3 := hf 3 _ rfl
      rw [op_ci] at g0 g1
      rw [op_cs] at g2
      rw [op_cl] at g3
      obtain ⟨a0, e0, _, b0⟩ := DataW.trod_int Tryd.underlying3 g0
      obtain ⟨a1, e1, _, b1⟩ := DataW.trod_int Tryd.underlying3 g1
      obtain ⟨a2, e2, _, b2⟩ := DataW.trod_string Tryd.underlying9 g2
      obtain ⟨A, c, ls, e3, hr, hn, hc, hm⟩ := rd_texts (show DataW.trod enc Tryd.prog W base sp held n 28 [v3] = some y3 from g3)
      simp at e0 e1 e2
      subst e0 e1 e2 e3
      refine ⟨(⟨a0, a1, bs a2, ls⟩, A, c), ?_, ⟨⟨hr, hn, hc⟩, hm⟩⟩
      simp only [oC, mk8_bs]
set_option maxRecDepth 100000 in
/-- An argument that is a call, opened. -/
theorem open_opv {H : Type} {enc : TypeId × Value → H} {W : World} {base base' : Nat} {sp : Nat → Bool} {held : Bool} {v : Value} {d : DataW H} {p : List MemPlace} (hv : Value.okWide Tryd.prog W .any base' 30 v)
    (h : DataW.Trod enc Tryd.prog W base sp held 30 v d p) : ∃ y : OA, v = oV y ∧ OpIn W y := by
  obtain ⟨cs, rfl, _⟩ := okWide_struct Tryd.underlying30 hv
  obtain ⟨fuel, hf⟩ := h
  obtain ⟨y, h1, h2⟩ := open_opc hf
  obtain ⟨l⟩ := cs
  have hcl : (Value.agg ⟨l⟩).cells.toList = l := by simp [Value.cells]
  rw [hcl] at h1
  subst h1
  exact ⟨y, rfl, h2⟩
theorem OpC_split : ∀ (os : List OA) (j : Nat) (u : Value), (OpC os)[j]? = some u → ∃ x, os[j / 4]? = some x ∧ (oC x)[j % 4]? = some u
  | [], j, u, h => by simp [OpC] at h
  | y :: t, j, u, h => by
    have e : OpC (y :: t) = oC y ++ OpC t := rfl
    have h7 : (oC y).length = 4 := rfl
    rw [e] at h
    by_cases hj : j < 4
    · rw [List.getElem?_append_left (by omega)] at h
      exact ⟨y, by rw [Nat.div_eq_of_lt hj]; rfl, by rw [Nat.mod_eq_of_lt hj]; exact h⟩
    · rw [List.getElem?_append_right (by omega), h7] at h
      obtain ⟨x, h1, h2⟩ := OpC_split t (j - 4) u h
      refine ⟨x, ?_, ?_⟩
      · rw [show j / 4 = (j - 4) / 4 + 1 by omega]; exact h1
      · rw [show j % 4 = (j - 4) % 4 by omega]; exact h2
theorem open_ops {H : Type} {enc : TypeId × Value → H} {W : World} {base : Nat} {sp : Nat → Bool} {held : Bool} {A : Option Addr} {n c : Nat} {d : DataW H} {p : List MemPlace}
    (h : DataW.Trod enc Tryd.prog W base sp held 27 (.slice A n c) d p) : ∃ ys : List OA, OpsRd W A ys ∧ ys.length = n ∧ n ≤ 9223372036854775807 ∧ ∀ y ∈ ys, y.1.ot.length ≤ 9223372036854775807 := by
  obtain ⟨fuel, hf⟩ := h
  rcases DataW.trod_slice Tryd.underlying27 hf with ⟨hcs, _⟩ | ⟨a, len, cap, elems, rest, m, _, hcs, _, hb, hl, hm, hlen, hel, _, _⟩
  · simp [Value.cells] at hcs
    obtain ⟨rfl, rfl, rfl⟩ := hcs
    exact ⟨[], ⟨RdK.nil _ _, fun x hx => by simp at hx⟩, rfl, by omega, fun x hx => by simp at hx⟩
  · simp [Value.cells] at hcs
    obtain ⟨rfl, rfl, rfl⟩ := hcs
    rw [op_c] at hel
    have hml : maxLen = 9223372036854775807 := rfl
    have each : ∀ i, i < n → ∃ r : OA, (∀ j, j < 4 → W.cell? ((a.add (i * 4)).add j) = (oC r)[j]?) ∧ OpIn W r := by
      intro i hi
      have h1 := hel i hi
      rw [List.getElem?_eq_getElem (by omega), Option.bind_eq_some_iff] at h1
      obtain ⟨cs, h2, h3⟩ := h1
      obtain ⟨r, rfl, h4⟩ := open_opc h3
      exact ⟨r, (cells_getN h2).2, h4⟩
    have hex : ∃ os : List OA, os.length = n ∧ ∀ i (hi : i < os.length), (∀ j, j < 4 → W.cell? ((a.add (i * 4)).add j) = (oC os[i])[j]?) ∧ OpIn W os[i] := by
      have hch : ∀ i : Fin n, ∃ r : OA, (∀ j, j < 4 → W.cell? ((a.add (i.1 * 4)).add j) = (oC r)[j]?) ∧ OpIn W r := fun i => each i.1 i.2
      refine ⟨List.ofFn fun i => Classical.choose (hch i), List.length_ofFn, fun i hi => ?_⟩
      rw [List.getElem_ofFn]
      exact Classical.choose_spec (hch ⟨i, by rw [List.length_ofFn] at hi; exact hi⟩)
    obtain ⟨os, hol, hos⟩ := hex
    refine ⟨os, ⟨⟨OpC_len os, fun hn => ?_⟩, fun x hx => ?_⟩, hol, by omega, fun x hx => ?_⟩
    · obtain ⟨b, off, spot⟩ := a
      have h0 := (hos 0 hn).1 0 (by omega)
      have hc : W.cell? ((Addr.add ⟨b, off, spot⟩ (0 * 4)).add 0) = some (.int .i64 os[0].1.k) := h0
      have hspot : spot = none := by simpa [Addr.add] using World.cell?_spot hc
      subst hspot
      refine ⟨b, off, rfl, fun j u hu => ?_⟩
      obtain ⟨x, h1, h2⟩ := OpC_split os j u hu
      obtain ⟨hk, he⟩ := List.getElem?_eq_some_iff.1 h1
      have h3 := (hos (j / 4) hk).1 (j % 4) (Nat.mod_lt _ (by omega))
      rw [he, h2, Addr.add_lit, Addr.add_lit] at h3
      rw [← h3]
      congr 2
      omega
    · obtain ⟨i, hi, rfl⟩ := List.getElem_of_mem hx
      exact (hos i hi).2.rd
    · obtain ⟨i, hi, rfl⟩ := List.getElem_of_mem hx
      exact (hos i hi).2.len
end Go.Proofs.YthfakejhkbelhaaDoor
