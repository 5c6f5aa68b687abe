/- An argument that is a list of rows, opened. -/
import Derived.Test.YtagncjnbabdbmaaGreatDoorFldLaid
import Derived.Test.YtagncjnbabdbmaaGreatDoorUcdL7
import Derived.SliceStrings
import Derived.Lib.SmallJoins
import Derived.Lib.LaidU8
import Derived.Lib.LaidTab
set_option linter.unusedSimpArgs false
set_option linter.unusedVariables false
namespace Go.Proofs.YtagncjnbabdbmaaGreatDoor
open Go.ChangeShapes Go.WideShapes Go.ChangeAt Go.RowKit Go.Lib

theorem row_c : Tryz.prog.cellsOf 27 = 7 := by kernel_rfl
theorem row_c32 : Tryz.prog.cellsOf 21 = 1 := by kernel_rfl
theorem row_ci : Tryz.prog.cellsOf 3 = 1 := by kernel_rfl
theorem row_cs : Tryz.prog.cellsOf 9 = 1 := by kernel_rfl
theorem row_cl : Tryz.prog.cellsOf 25 = 1 := by kernel_rfl
theorem cells_get {W : World} {base n : Nat} {a : Addr} {cs : List Value} (h : W.cells? base a n = some cs) : cs.length = n ∧ ∀ j, j < n → W.cell? (a.add j) = cs[j]? := by
  unfold World.cells? at h
  split at h
  · have hl := mapM_some_length h
    rw [List.length_range] at hl
    refine ⟨hl, fun j hj => ?_⟩
    exact mapM_some_get h j j (by rw [List.getElem?_range hj])
  · cases h
/-- A list of characters, opened. -/
theorem rd_ints {H : Type} {enc : TypeId × Value → H} {W : World} {base : Nat} {sp : Nat → Bool} {held : Bool} {fuel : Nat} {v : Value} {x : DataW H × List MemPlace}
    (h : DataW.trod enc Tryz.prog W base sp held fuel 25 [v] = some x) : ∃ (A : Option Addr) (c : Nat) (zs : List Int), v = .slice A zs.length c ∧ Rd W A zs.length (Rs zs) ∧ I32 zs ∧ zs.length ≤ maxLen := by
  rcases open_ints Tryz.underlying25 Tryz.underlying21 row_c32 h with ⟨hcs, _⟩ | ⟨a, len, cap, zs, hcs, _, hl, hm, hz, _, hcell, hwz⟩
  · injection hcs with hcs _
    exact ⟨none, 0, [], hcs, Rd.nil _ _, fun z hz => by simp at hz, Nat.zero_le _⟩
  · injection hcs with hcs _
    have hlz : len ≤ zs.length := by rw [hz]; split <;> omega
    have htl : (zs.take len).length = len := by simp; omega
    refine ⟨some a, cap, zs.take len, by rw [htl]; exact hcs, ⟨by simp, fun hn => ?_⟩, fun z hzm => bounds_i32 (hwz z (List.mem_of_mem_take hzm)), by rw [htl]; omega⟩
    rw [htl] at hn
    obtain ⟨b, off, spot⟩ := a
    have hc := hcell 0 (by omega)
    have hspot : spot = none := by simpa [Addr.add] using World.cell?_spot hc
    subst hspot
    refine ⟨b, off, rfl, fun j u hu => ?_⟩
    rw [List.getElem?_map] at hu
    obtain ⟨y, hy, rfl⟩ := Option.map_eq_some_iff.1 hu
    rw [List.getElem?_take] at hy
    split at hy
    · have hjl : j < zs.length := (List.getElem?_eq_some_iff.1 hy).1
      have := hcell j hjl
      rw [Addr.add_lit] at this
      rw [this]
      simp [List.getD, hy]
    · cases hy
set_option maxRecDepth 100000 in
/-- A row among them, opened. -/
theorem open_row {H : Type} {enc : TypeId × Value → H} {W : World} {base : Nat} {sp : Nat → Bool} {held : Bool} {fuel : Nat} {cs : List Value} {x : DataW H × List MemPlace}
    (h : DataW.trod enc Tryz.prog W base sp held fuel 27 cs = some x) : ∃ r : RA, cs = rowC r ∧ Rd W r.2.1 r.1.il.length (Rs r.1.il) ∧ RowJ r.1 := by
  obtain ⟨xs, n, _, _, hl, hlen, hf⟩ := DataW.trod_struct Tryz.underlying27 h
  rw [row_c] at hl
  match cs, hl with
  | [v0, v1, v2, v3, v4, v5, v6], _ =>
    match xs, hlen with
    | [y0, y1, y2, y3, y4, y5, y6], _ =>
      have g0 : DataW.trod enc Tryz.prog W base sp held n 21 (([v0, v1, v2, v3, v4, v5, v6].drop 0).take (Tryz.prog.cellsOf 21)) = some y0 := hf 0 _ rfl
      have g1 : DataW.trod enc Tryz.prog W base sp held n 21 (([v0, v1, v2, v3, v4, v5, v6].drop 1).take (Tryz.prog.cellsOf 21)) = some y1 := hf 1 _ rfl
      have g2 : DataW.trod enc Tryz.prog W base sp held n 9 (([v0, v1, v2, v3, v4, v5, v6].drop 2).take (Tryz.prog.cellsOf 9)) = some y2 := hf 2 _ rfl
      have g3 : DataW.trod enc Tryz.prog W base sp held n 9 (([v0, v1, v2, v3, v4, v5, v6].drop 3).take (Tryz.prog.cellsOf 9)) = some y3 := hf 3 _ rfl
      have g4 : DataW.trod enc Tryz.prog W base sp held n 3 (([v0, v1, v2, v3, v4, v5, v6].drop 4).take (Tryz.prog.cellsOf 3)) = some y4 := hf 4 _ rfl
      have g5 : DataW.trod enc Tryz.prog W base sp held n 9 (([v0, v1, v2, v3, v4, v5, v6].drop 5).take (Tryz.prog.cellsOf 9)) = some y5 := hf 5 _ rfl
      have g6 : DataW.trod enc Tryz.prog W base sp held n 25 (([v0, v1, v2, v3, v4, v5, v6].drop 6).take (Tryz.prog.cellsOf 25)) = some y6 := hf 6 _ rfl
      rw [row_c32] at g0 g1
      rw [row_cs] at g2 g3 g5
      rw [row_ci] at g4
      rw [row_cl] at g6
      obtain ⟨a0, e0, _, b0⟩ := DataW.trod_int Tryz.underlying21 g0
      obtain ⟨a1, e1, _, b1⟩ := DataW.trod_int Tryz.underlying21 g1
      obtain ⟨a2, e2, _, b2⟩ := DataW.trod_string Tryz.underlying9 g2
      obtain ⟨a3, e3, _, b3⟩ := DataW.trod_string Tryz.underlying9 g3
      obtain ⟨a4, e4, _, b4⟩ := DataW.trod_int Tryz.underlying3 g4
      obtain ⟨a5, e5, _, b5⟩ := DataW.trod_string Tryz.underlying9 g5
      obtain ⟨A, c, zs, e6, hr, hi, hm⟩ := rd_ints (show DataW.trod enc Tryz.prog W base sp held n 25 [v6] = some y6 from g6)
      simp at e0 e1 e2 e3 e4 e5
      subst e0 e1 e2 e3 e4 e5 e6
      have hml : maxLen = 9223372036854775807 := rfl
      refine ⟨(⟨a0, a1, bs a2, bs a3, a4, bs a5, zs⟩, A, c), ?_, hr, ⟨bounds_i32 b0, bounds_i32 b1, bounds_i64 b4, ?_, ?_, ?_, ?_, hi⟩⟩
      · simp only [rowC, mk8_bs]
      · show (bs a2).length ≤ _; rw [bs_length]; omega
      · show (bs a3).length ≤ _; rw [bs_length]; omega
      · show (bs a5).length ≤ _; rw [bs_length]; omega
      · show zs.length ≤ _; omega
theorem Vs_split : ∀ (os : List RA) (j : Nat) (u : Value), (Vs os)[j]? = some u → ∃ x, os[j / 7]? = some x ∧ (rowC x)[j % 7]? = some u
  | [], j, u, h => by simp [Vs] at h
  | y :: t, j, u, h => by
    have e : Vs (y :: t) = rowC y ++ Vs t := rfl
    have h7 : (rowC y).length = 7 := rfl
    rw [e] at h
    by_cases hj : j < 7
    · rw [List.getElem?_append_left (by omega)] at h
      exact ⟨y, by rw [Nat.div_eq_of_lt hj]; rfl, by rw [Nat.mod_eq_of_lt hj]; exact h⟩
    · rw [List.getElem?_append_right (by omega), h7] at h
      obtain ⟨x, h1, h2⟩ := Vs_split t (j - 7) u h
      refine ⟨x, ?_, ?_⟩
      · rw [show j / 7 = (j - 7) / 7 + 1 by omega]; exact h1
      · rw [show j % 7 = (j - 7) % 7 by omega]; exact h2
theorem open_rows {H : Type} {enc : TypeId × Value → H} {W : World} {base : Nat} {sp : Nat → Bool} {held : Bool} {A : Option Addr} {n c : Nat} {d : DataW H} {p : List MemPlace}
    (h : DataW.Trod enc Tryz.prog W base sp held 22 (.slice A n c) d p) : ∃ os : List RA, RowsRd W A os ∧ os.length = n ∧ ∀ x ∈ os, RowJ x.1 := by
  obtain ⟨fuel, hf⟩ := h
  rcases DataW.trod_slice Tryz.underlying22 hf with ⟨hcs, _⟩ | ⟨a, len, cap, elems, rest, m, _, hcs, _, hb, hl, hm, hlen, hel, _, _⟩
  · simp [Value.cells] at hcs
    obtain ⟨rfl, rfl, rfl⟩ := hcs
    exact ⟨[], ⟨RdK.nil _ _, fun x hx => by simp at hx⟩, rfl, fun x hx => by simp at hx⟩
  · simp [Value.cells] at hcs
    obtain ⟨rfl, rfl, rfl⟩ := hcs
    rw [row_c] at hel
    have each : ∀ i, i < n → ∃ r : RA, (∀ j, j < 7 → W.cell? ((a.add (i * 7)).add j) = (rowC r)[j]?) ∧ Rd W r.2.1 r.1.il.length (Rs r.1.il) ∧ RowJ r.1 := by
      intro i hi
      have h1 := hel i hi
      rw [List.getElem?_eq_getElem (by omega), Option.bind_eq_some_iff] at h1
      obtain ⟨cs, h2, h3⟩ := h1
      obtain ⟨r, rfl, h4, h5⟩ := open_row h3
      exact ⟨r, (cells_get h2).2, h4, h5⟩
    have hex : ∃ os : List RA, os.length = n ∧ ∀ i (hi : i < os.length), (∀ j, j < 7 → W.cell? ((a.add (i * 7)).add j) = (rowC os[i])[j]?) ∧ Rd W os[i].2.1 os[i].1.il.length (Rs os[i].1.il) ∧ RowJ os[i].1 := by
      have hch : ∀ i : Fin n, ∃ r : RA, (∀ j, j < 7 → W.cell? ((a.add (i.1 * 7)).add j) = (rowC r)[j]?) ∧ Rd W r.2.1 r.1.il.length (Rs r.1.il) ∧ RowJ r.1 := fun i => each i.1 i.2
      refine ⟨List.ofFn fun i => Classical.choose (hch i), List.length_ofFn, fun i hi => ?_⟩
      rw [List.getElem_ofFn]
      exact Classical.choose_spec (hch ⟨i, by rw [List.length_ofFn] at hi; exact hi⟩)
    obtain ⟨os, hol, hos⟩ := hex
    refine ⟨os, ⟨⟨?_, fun hn => ?_⟩, fun x hx => ?_⟩, hol, fun x hx => ?_⟩
    · have : ∀ l : List RA, (Vs l).length = l.length * 7 := by
        intro l
        induction l with
        | nil => rfl
        | cons y t ih =>
          show (rowC y ++ Vs t).length = _
          rw [List.length_append, ih, List.length_cons]
          show 7 + _ = _
          omega
      exact this os
    · obtain ⟨b, off, spot⟩ := a
      have h0 := (hos 0 hn).1 0 (by omega)
      have hc : W.cell? ((Addr.add ⟨b, off, spot⟩ (0 * 7)).add 0) = some (.int .i32 os[0].1.fr) := h0
      have hspot : spot = none := by simpa [Addr.add] using World.cell?_spot hc
      subst hspot
      refine ⟨b, off, rfl, fun j u hu => ?_⟩
      obtain ⟨x, h1, h2⟩ := Vs_split os j u hu
      obtain ⟨hk, he⟩ := List.getElem?_eq_some_iff.1 h1
      have h3 := (hos (j / 7) hk).1 (j % 7) (Nat.mod_lt _ (by omega))
      rw [he, h2, Addr.add_lit, Addr.add_lit] at h3
      rw [← h3]
      congr 2
      omega
    · obtain ⟨i, hi, rfl⟩ := List.getElem_of_mem hx
      exact (hos i hi).2.1
    · obtain ⟨i, hi, rfl⟩ := List.getElem_of_mem hx
      exact (hos i hi).2.2
theorem pow_eq : (Rows.laid_internal_strconv_uint64pow10 : DataW Unit) = Lib.tabData .u64 Lib.pow10Tab := by kernel_rfl
theorem tabP_of_laid {W : World} (h : laidMet Tryz.prog Rows.ucdPrintsRow.laid W) : TabP W := by
  obtain ⟨ps, hv, _⟩ := h
  have r := Lib.LaidVars_reads hv "internal/strconv.uint64pow10" Rows.laid_internal_strconv_uint64pow10 (by simp [Rows.ucdPrintsRow])
  rw [pow_eq] at r
  obtain ⟨g', t', cs, fuel, q, hg', ht', hvar, hd⟩ := r
  obtain rfl := Option.some.inj ((show Tryz.prog.globalNamed "internal/strconv.uint64pow10" = some 3 by kernel_rfl).symm.trans hg')
  obtain rfl := Option.some.inj ((show (Tryz.prog.globals[3]?).map (·.type) = some 133 by kernel_rfl).symm.trans ht')
  unfold TabP Lib.TabIs
  rw [hvar, ← Lib.cells_of_tab (show Tryz.prog.underlying 133 = some (.array 20 116) by kernel_rfl) (show Tryz.prog.underlying 116 = some (.int .u64) by kernel_rfl) (by kernel_rfl) (by kernel_rfl) hd]
end Go.Proofs.YtagncjnbabdbmaaGreatDoor
