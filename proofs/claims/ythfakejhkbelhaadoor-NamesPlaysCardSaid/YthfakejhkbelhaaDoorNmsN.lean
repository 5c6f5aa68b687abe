/- A list of calls: how it lies in memory, and whether they are few: the code. -/
import Derived.Test.YthfakejhkbelhaaDoorNmsM
set_option linter.unusedSimpArgs false
set_option linter.unusedVariables false
namespace Go.Proofs.YthfakejhkbelhaaDoor
open Go.RowKit

/-- A call. -/
structure OpT where
  k : Int
  x : Int
  nm : List UInt8
  ot : List (List UInt8)
abbrev OA := OpT × Option Addr × Nat
def oC (y : OA) : List Value := [.int .i64 y.1.k, .int .i64 y.1.x, .string (mk8 y.1.nm), .slice y.2.1 y.1.ot.length y.2.2]
def OpC (ys : List OA) : List Value := ys.flatMap oC
theorem OpC_len : ∀ ys : List OA, (OpC ys).length = ys.length * 4
  | [] => rfl
  | x :: t => by
    show (oC x ++ OpC t).length = _
    rw [List.length_append, OpC_len t, List.length_cons]
    show 4 + _ = _
    omega
theorem OpC_at : ∀ (ys : List OA) (i : Nat) (x : OA), ys[i]? = some x → ∀ j u, (oC x)[j]? = some u → (OpC ys)[i * 4 + j]? = some u
  | [], i, x, h => by simp at h
  | y :: t, 0, x, h => by
    intro j u hu
    simp at h
    subst h
    have hj : j < (oC y).length := (List.getElem?_eq_some_iff.1 hu).1
    show (oC y ++ OpC t)[0 * 4 + j]? = some u
    rw [Nat.zero_mul, Nat.zero_add, List.getElem?_append_left hj]
    exact hu
  | y :: t, i + 1, x, h => by
    intro j u hu
    have ih := OpC_at t i x (by simpa using h) j u hu
    show (oC y ++ OpC t)[(i + 1) * 4 + j]? = some u
    rw [List.getElem?_append_right (by show 4 ≤ (i + 1) * 4 + j; omega), show (i + 1) * 4 + j - (oC y).length = i * 4 + j by show (i + 1) * 4 + j - 4 = _; omega]
    exact ih
/-- What holds of a call that lies in memory. -/
structure OpRd (w : World) (y : OA) : Prop where
  ot : Rd w y.2.1 y.1.ot.length (Ss y.1.ot)
  nil : y.2.1 = none → y.1.ot.length = 0 ∧ y.2.2 = 0
  cap : y.1.ot.length ≤ y.2.2
/-- Calls that read so. -/
structure OpsRd (w : World) (A : Option Addr) (ys : List OA) : Prop where
  cells : RdK w A ys.length 4 (OpC ys)
  each : ∀ y ∈ ys, OpRd w y
theorem OpRd.below {w w' : World} {y : OA} (h : OpRd w y) (hb : Below w.heap.size w w') : OpRd w' y := ⟨h.ot.below hb, h.nil, h.cap⟩
theorem OpsRd.below {w w' : World} {A : Option Addr} {ys : List OA} (h : OpsRd w A ys) (hb : Below w.heap.size w w') : OpsRd w' A ys := ⟨h.cells.below (by omega) hb, fun x hx => (h.each x hx).below hb⟩
theorem OpsRd.at_ {w : World} {A : Option Addr} {ys : List OA} (h : OpsRd w A ys) (hn : 0 < ys.length) : ∃ b off, A = some ⟨b, off, none⟩ ∧ b < w.heap.size ∧ ∀ j u, (OpC ys)[j]? = some u → w.cell? ⟨b, off + j, none⟩ = some u := h.cells.at_ (by omega) hn
theorem op_cells {w : World} {ys : List OA} {k : Nat} {t : OpT} {At : Option Addr} {ct : Nat} (hx : ys[k]? = some (t, At, ct)) {b off : Nat} (hc : ∀ j u, (OpC ys)[j]? = some u → w.cell? ⟨b, off + j, none⟩ = some u) :
    w.cell? ⟨b, off + k * 4, none⟩ = some (.int .i64 t.k) ∧ w.cell? ⟨b, off + k * 4 + 1, none⟩ = some (.int .i64 t.x) ∧ w.cell? ⟨b, off + k * 4 + 2, none⟩ = some (.string (mk8 t.nm)) ∧ w.cell? ⟨b, off + k * 4 + 3, none⟩ = some (.slice At t.ot.length ct) := by
  have hv := OpC_at ys k _ hx
  have g : ∀ j u, (oC (t, At, ct))[j]? = some u → w.cell? ⟨b, off + k * 4 + j, none⟩ = some u := fun j u hu => by
    have := hc _ _ (hv j u hu)
    rwa [← Nat.add_assoc] at this
  exact ⟨g 0 _ rfl, g 1 _ rfl, g 2 _ rfl, g 3 _ rfl⟩
/-- Is a call none too great? -/
def fewO (y : OpT) : Bool := decide (y.nm.length ≤ 100 ∧ y.ot.length ≤ 10) && y.ot.all fun s => decide (s.length ≤ 100)
def fewB (l : List OpT) : Bool := (l.all fewO) && decide (l.length ≤ 60)
theorem fewB_no {l : List OpT} {k : Nat} {t : OpT} (h : l[k]? = some t) (ht : fewO t = false) : fewB l = false := by
  unfold fewB
  rw [Bool.and_eq_false_iff]
  left
  rw [List.all_eq_false]
  exact ⟨t, List.mem_of_getElem? h, by rw [ht]; simp⟩
theorem fewO_nm {t : OpT} (h : 100 < t.nm.length ∨ 10 < t.ot.length) : fewO t = false := by
  unfold fewO
  rw [decide_eq_false (by omega)]
  rfl
theorem fewO_ot {t : OpT} {m : Nat} {s : List UInt8} (h : t.ot[m]? = some s) (hs : 100 < s.length) : fewO t = false := by
  unfold fewO
  rw [Bool.and_eq_false_iff]
  right
  rw [List.all_eq_false]
  exact ⟨s, List.mem_of_getElem? h, by simp; omega⟩
theorem fewO_yes {t : OpT} (h1 : t.nm.length ≤ 100) (h2 : t.ot.length ≤ 10) (h : ∀ s ∈ t.ot, s.length ≤ 100) : fewO t = true := by
  unfold fewO
  rw [decide_eq_true ⟨h1, h2⟩, Bool.true_and, List.all_eq_true]
  exact fun s hs => decide_eq_true (h s hs)
theorem fewO_is {t : OpT} (h : fewO t = true) : t.nm.length ≤ 100 ∧ t.ot.length ≤ 10 ∧ ∀ s ∈ t.ot, s.length ≤ 100 := by
  unfold fewO at h
  rw [Bool.and_eq_true, decide_eq_true_eq, List.all_eq_true] at h
  exact ⟨h.1.1, h.1.2, fun s hs => of_decide_eq_true (h.2 s hs)⟩
theorem fewB_is {l : List OpT} (h : fewB l = true) : l.length ≤ 60 ∧ ∀ t ∈ l, fewO t = true := by
  unfold fewB at h
  rw [Bool.and_eq_true, decide_eq_true_eq, List.all_eq_true] at h
  exact ⟨h.2, h.1⟩
set_option maxRecDepth 20000 in
set_option maxHeartbeats 4000000 in
theorem few_any (A : Option Addr) (n c : Nat) (ys : List OA) (w : World) (hr : OpsRd w A ys) (hyl : ys.length = n) (hn : n ≤ 9223372036854775807) (hol : ∀ y ∈ ys, y.1.ot.length ≤ 9223372036854775807) :
    Calls Tryd.prog 15 #[.slice A n c] w fun e w' => e = .returned (.bool (fewB (ys.map (·.1)))) ∧ w = w' := by
  obtain ⟨res, hres⟩ : ∃ res, res = fewB (ys.map (·.1)) := ⟨_, rfl⟩
  rw [← hres]
  have HRES := Lib.hid hres
  have HYL := Lib.hid hyl
  have HOL := Lib.hid hol
  clear hres hyl hol
  go_enter Tryd.func15, Tryd.ntmps15
  go_wp2
  go_loop [3] (fun i => ∃ q : Nat, q ≤ n ∧ i = .int .i64 q ∧ Hid (∀ t ∈ (ys.map (·.1)).take q, fewO t = true)) (fun i => n - (intOf i).toNat)
  case atStart => exact ⟨0, Nat.zero_le _, rfl, by show ∀ t ∈ _, _; intro t ht; simp at ht⟩
  case round =>
    obtain ⟨q, hq, rfl, HA⟩ := hrel
    by_cases hlt : q < n
    · obtain ⟨⟨t, At, ct⟩, hx⟩ : ∃ x, ys[q]? = some x := ⟨_, List.getElem?_eq_getElem (by rw [HYL.out]; exact hlt)⟩
      obtain ⟨b, off, rfl, hbl, hc⟩ := hr.at_ (by rw [HYL.out]; omega)
      obtain ⟨c0, c1, c2, c3⟩ := op_cells hx hc
      have hxl : (ys.map (·.1))[q]? = some t := by rw [List.getElem?_map, hx]; rfl
      have HX := Lib.hid hxl
      have hrt := (hr.each _ (List.mem_of_getElem? hx)).ot
      have htl := HOL.out _ (List.mem_of_getElem? hx)
      simp only [] at hrt htl
      have hqi : (q : Int) < (n : Int) := by omega
      have hsz : (mk8 t.nm).size = t.nm.length := mk8_size _
      by_cases hs : 100 < t.nm.length
      · have HN : Hid (res = false) := HRES.out.trans (fewB_no hxl (fewO_nm (.inl hs)))
        have hsi : (100 : Int) < ((mk8 t.nm).size : Int) := by omega
        clear hr hs hx hxl hc hrt hsz HA
        go_wp2
        go_returns
        exact ⟨ret_bool HN.out.symm, rfl⟩
      · have hsi : ((mk8 t.nm).size : Int) ≤ 100 := by omega
        by_cases hn2 : 10 < t.ot.length
        · have HN : Hid (res = false) := HRES.out.trans (fewB_no hxl (fewO_nm (.inr hn2)))
          have hni : (10 : Int) < (t.ot.length : Int) := by omega
          clear hr hs hx hxl hc hrt hsz HA hn2
          go_wp2
          go_returns
          exact ⟨ret_bool HN.out.symm, rfl⟩
        · have hni : (t.ot.length : Int) ≤ 10 := by omega
          have HS := Lib.hid (And.intro (Nat.le_of_not_lt hs) (Nat.le_of_not_lt hn2))
          clear hx hxl hc hsz hs hn2 hr
          go_wp2
          go_loop [4] (fun j => ∃ m : Nat, m ≤ t.ot.length ∧ j = .int .i64 m ∧ Hid (∀ s ∈ t.ot.take m, s.length ≤ 100)) (fun j => t.ot.length - (intOf j).toNat)
          case atStart => exact ⟨0, Nat.zero_le _, rfl, by show ∀ s ∈ _, _; intro s hs; simp at hs⟩
          case round =>
            obtain ⟨m, hm, rfl, HM⟩ := hrel
            by_cases hmn : m < t.ot.length
            · have hmi : (m : Int) < (t.ot.length : Int) := by omega
              obtain ⟨g, goff, rfl, hg, hcx⟩ := hrt.at_ (by omega)
              obtain ⟨s, hst⟩ : ∃ s, t.ot[m]? = some s := ⟨_, List.getElem?_eq_getElem hmn⟩
              have hcs := hcx m (.string (mk8 s)) (by simp [Ss, hst])
              have hsz : (mk8 s).size = s.length := mk8_size _
              by_cases htz : 100 < s.length
              · have hti : (100 : Int) < ((mk8 s).size : Int) := by omega
                have HN : Hid (res = false) := HRES.out.trans (fewB_no HX.out (fewO_ot hst htz))
                clear hcx hst htz hsz HA HM hrt
                go_wp2
                go_returns
                exact ⟨ret_bool HN.out.symm, rfl⟩
              · have hti : ((mk8 s).size : Int) ≤ 100 := by omega
                have HM2 : Hid (∀ s ∈ t.ot.take (m + 1), s.length ≤ 100) := by
                  show ∀ s ∈ _, _
                  intro u hu
                  rw [List.take_add_one, hst, List.mem_append] at hu
                  rcases hu with hu | hu
                  · exact HM.out u hu
                  · simp at hu; subst hu; omega
                clear hcx hst htz hsz HM hrt
                go_wp2
                go_round
                case rel => exact ⟨m + 1, by omega, by go_num, HM2⟩
                case measure => simp [intOf]; omega
            · have hmi : (t.ot.length : Int) ≤ (m : Int) := by omega
              have HA2 : Hid (∀ u ∈ (ys.map (·.1)).take (q + 1), fewO u = true) := by
                show ∀ u ∈ _, _
                intro u hu
                rw [List.take_add_one, HX.out, List.mem_append] at hu
                rcases hu with hu | hu
                · exact HA.out u hu
                · simp at hu
                  subst hu
                  refine fewO_yes HS.out.1 HS.out.2 fun s hs => HM.out s ?_
                  rw [List.take_of_length_le (by omega)]
                  exact hs
              clear HM HA hrt
              go_wp2
              go_round
              case rel => exact ⟨q + 1, by omega, by go_num, HA2⟩
              case measure => simp [intOf]; omega
    · have hqi : (n : Int) ≤ (q : Int) := by omega
      have HZ : Hid (res = decide ((n : Int) ≤ 60)) := by
        show _ = _
        rw [HRES.out]
        unfold fewB
        rw [List.length_map, HYL.out]
        have : (ys.map (·.1)).all fewO = true := by
          rw [List.all_eq_true]
          intro u hu
          refine HA.out u ?_
          rw [List.take_of_length_le (by rw [List.length_map, HYL.out]; omega)]
          exact hu
        rw [this, Bool.true_and]
        exact decide_eq_decide.2 (by omega)
      clear HA
      go_wp2
      go_returns
      exact ⟨ret_bool HZ.out.symm, rfl⟩
end Go.Proofs.YthfakejhkbelhaaDoor
