/- Which row a character has, and what that says: plain. The document's base in memory, and what is asked of it: the code. -/
import Derived.Test.YtggichcfklbjiaaGreatDoorG37
import Derived.Test.YtggichcfklbjiaaGreatDoorG17
import Derived.Test.YtggichcfklbjiaaGreatDoorG22
import Derived.Test.YtggichcfklbjiaaGreatDoorG30
import Derived.BigQuiet
section
set_option linter.unusedSimpArgs false
set_option linter.unusedVariables false
namespace Go.Proofs.YtggichcfklbjiaaGreatDoor
open Go.RowKit

/-- Does a row hold a character? -/
def holdsR (x : RowS) (r : Int) : Prop := x.fr ≤ r ∧ r ≤ x.up
instance (x : RowS) (r : Int) : Decidable (holdsR x r) := by unfold holdsR; exact inferInstance
/-- Rows lie one behind the other. -/
def Disj (rows : List RowS) : Prop := rows.Pairwise fun x y => x.up < y.fr
theorem disj_of {rows : List RowS} (g : RowsG rows) : Disj rows := by
  have hr := g.rise
  have hv := g.v
  clear g
  induction rows with
  | nil => exact List.Pairwise.nil
  | cons a t ih =>
    have h1 : Rise t := fun i x y hx hy => hr (i + 1) x y (by simpa using hx) (by simpa using hy)
    have h2 := ih h1 fun x hx => hv x (by simp [hx])
    refine List.Pairwise.cons (fun y hy => ?_) h2
    cases t with
    | nil => cases hy
    | cons b t' =>
      have hab := hr 0 a b rfl rfl
      rcases List.mem_cons.1 hy with rfl | hy
      · exact hab
      · have hb := (hv b (by simp)).le
        have := List.rel_of_pairwise_cons h2 hy
        omega
theorem snoc_indR {α : Type} {p : List α → Prop} (h0 : p []) (h1 : ∀ l x, p l → p (l ++ [x])) (l : List α) : p l := by
  have h2 : ∀ (s : List α) (q : List α), p q → p (q ++ s) := by
    intro s
    induction s with
    | nil => intro q hq; simpa using hq
    | cons a t ih => intro q hq; have := ih (q ++ [a]) (h1 q a hq); simpa using this
  exact h2 l [] h0
section
variable {rows : List RowS}
theorem Disj.one (d : Disj rows) (hle : ∀ x ∈ rows, x.fr ≤ x.up) {i j : Nat} {x y : RowS} {r : Int} (hx : rows[i]? = some x) (hy : rows[j]? = some y) (h1 : holdsR x r) (h2 : holdsR y r) : i = j := by
  have key : ∀ {i j : Nat} {x y : RowS}, rows[i]? = some x → rows[j]? = some y → holdsR x r → holdsR y r → ¬ i < j := fun {i j x y} hx hy h1 h2 hij => by
    obtain ⟨a1, rfl⟩ := List.getElem?_eq_some_iff.1 hx
    obtain ⟨a2, rfl⟩ := List.getElem?_eq_some_iff.1 hy
    have := List.pairwise_iff_getElem.1 d i j a1 a2 hij
    unfold holdsR at h1 h2
    omega
  have k1 := key hx hy h1 h2
  have k2 := key hy hx h2 h1
  omega
theorem prtL_out (hle : ∀ x ∈ rows, x.fr ≤ x.up) {r : Int} (h : ∀ x ∈ rows, ¬ holdsR x r) : prtL rows r = none := by
  cases hp : prtL rows r with
  | none => rfl
  | some q =>
    obtain ⟨x, hx, e, _⟩ := prt_mem hp
    have := hle x hx
    exact absurd ⟨by omega, by omega⟩ (h x hx)
theorem clsL_out {r : Int} : ∀ {rows : List RowS}, (∀ x ∈ rows, ¬ holdsR x r) → clsL rows r = 0 := by
  intro rows'
  induction rows' using snoc_indR with
  | h0 => intro _; rfl
  | h1 l x ih =>
    intro h
    rw [clsL_snoc]
    unfold clsN
    rw [show (if x.fr ≤ r ∧ r ≤ x.up then x.cl else clsL l r) = clsL l r from if_neg (h x (by simp))]
    exact ih fun y hy => h y (by simp [hy])
theorem clsL_at {r : Int} {x : RowS} : ∀ {rows : List RowS}, Disj rows → x ∈ rows → holdsR x r → clsL rows r = x.cl := by
  intro rows'
  induction rows' using snoc_indR with
  | h0 => intro _ h; cases h
  | h1 l z ih =>
    intro d hx h
    rw [clsL_snoc]
    unfold clsN
    have d2 := List.pairwise_append.1 d
    rcases List.mem_append.1 hx with hx | hx
    · have := d2.2.2 x hx z (by simp)
      rw [if_neg (by unfold holdsR at h; omega)]
      exact ih d2.1 hx h
    · rw [List.mem_singleton] at hx
      subst hx
      exact if_pos h
theorem prtL_at {r : Int} {x : RowS} : ∀ {rows : List RowS}, Disj rows → (∀ x ∈ rows, x.fr ≤ x.up) → x ∈ rows → holdsR x r → (x.fr < x.up → x.il = []) → prtL rows r = if x.il = [] then none else some (x.kd, x.il) := by
  intro rows'
  induction rows' using snoc_indR with
  | h0 => intro _ _ h; cases h
  | h1 l z ih =>
    intro d hle hx h ho
    rw [prtL_snoc]
    have d2 := List.pairwise_append.1 d
    have hlz := hle z (by simp)
    rcases List.mem_append.1 hx with hx | hx
    · have h3 := d2.2.2 x hx z (by simp)
      have h4 := ih d2.1 (fun y hy => hle y (by simp [hy])) hx h ho
      unfold prtN
      split
      · exact h4
      · unfold upd
        rw [if_neg (by unfold holdsR at h; omega)]
        exact h4
    · rw [List.mem_singleton] at hx
      subst hx
      unfold prtN
      split
      · refine prtL_out (fun y hy => hle y (by simp [hy])) fun y hy hh => ?_
        have := d2.2.2 y hy x (by simp)
        unfold holdsR at h hh
        omega
      · rename_i hne
        unfold upd
        have hfu : ¬ x.fr < x.up := fun e => hne (ho e)
        rw [if_pos (by unfold holdsR at h; omega)]
/-- What the document's Decomp says is what the code's says. -/
theorem dec_at (g : RowsG rows) {x : RowS} (hx : x ∈ rows) {r : Int} (h : holdsR x r) : (prtL rows r).getD ([], []) = (x.kd, x.il) := by
  have v := g.v x hx
  rw [prtL_at (disj_of g) (fun x hx => (g.v x hx).le) hx h v.one]
  split
  · rename_i he
    have hk : x.kd = [] := by
      apply Classical.byContradiction
      intro hne
      exact v.some hne he
    rw [he, hk]
    rfl
  · rfl
theorem holds_self (g : RowsG rows) {x : RowS} (hx : x ∈ rows) : holdsR x x.fr := ⟨Int.le_refl _, (g.v x hx).le⟩
/-- Is a row's character made of two? -/
def madeR (cls : Int → Int) (out : List Int) (x : RowS) : Bool := decide (x.kd = []) && (decide (x.il.length = 2) && (!decide (x.fr ∈ out) && (decide (x.cl = 0) && decide (cls (x.il.headD 0) = 0))))
theorem madeR_eq (g : RowsG rows) (out : List Int) {x : RowS} (hx : x ∈ rows) : madeR (clsL rows) out x = madeQ (clsL rows) (prtL rows) out x.fr := by
  have hh := holds_self g hx
  have v := g.v x hx
  have hp := prtL_at (disj_of g) (fun x hx => (g.v x hx).le) hx hh v.one
  have hc := clsL_at (disj_of g) hx hh
  have hn : ∀ z, 0 ≤ clsL rows z := cls_nonneg fun x hx => (g.v x hx).cl.1
  unfold madeR madeQ
  rw [hp]
  obtain ⟨fr, up, nm, ct, cl, kd, il⟩ := x
  simp only [] at hc hp v ⊢
  match kd, il with
  | [], [] => simp
  | [], [_] => simp
  | [], [u, w] =>
    have h2 := hn u
    have e1 : (decide (cl = 0)) = !decide (0 < cl) := by
      have := v.cl.1
      simp only [] at this
      by_cases h : cl = 0
      · subst h; rfl
      · rw [decide_eq_false h, decide_eq_true (show 0 < cl by omega)]; rfl
    have e2 : (decide (clsL rows u = 0)) = !decide (0 < clsL rows u) := by
      by_cases h : clsL rows u = 0
      · rw [h]; rfl
      · rw [decide_eq_false h, decide_eq_true (show 0 < clsL rows u by omega)]; rfl
    show (true && (true && (!decide (fr ∈ out) && (decide (cl = 0) && decide (clsL rows u = 0))))) = (!decide (fr ∈ out) && !decide (0 < clsL rows fr) && !decide (0 < clsL rows u))
    rw [hc, e1, e2, Bool.true_and, Bool.true_and, Bool.and_assoc]
  | [], _ :: _ :: _ :: _ => simp
  | _ :: _, [] => simp
  | _ :: _, _ :: _ => simp
theorem madeT_eq (g : RowsG rows) {x : RowS} (hx : x ∈ rows) {u v : Int} (h : x.il = [u, v]) : madeT2 (prtL rows) x.fr = (u, v) := by
  have hh := holds_self g hx
  have hv := g.v x hx
  have hp := prtL_at (disj_of g) (fun x hx => (g.v x hx).le) hx hh hv.one
  rw [if_neg (by rw [h]; simp)] at hp
  unfold madeT2
  rw [hp, h]
theorem find_first {α : Type} {p : α → Bool} : ∀ {l : List α} {k : Nat} {z : α}, l[k]? = some z → p z = true → (∀ j t, j < k → l[j]? = some t → p t = false) → l.find? p = some z
  | [], k, z, h, _, _ => by simp at h
  | a :: l, 0, z, h, hp, _ => by
    simp at h
    subst h
    rw [List.find?_cons_of_pos hp]
  | a :: l, k + 1, z, h, hp, hf => by
    have h0 := hf 0 a (by omega) (by simp)
    rw [List.find?_cons_of_neg (by simp [h0])]
    exact find_first (by simpa using h) hp fun j t hj ht => hf (j + 1) t (by omega) (by simpa using ht)
end
end Go.Proofs.YtggichcfklbjiaaGreatDoor
end

section
set_option linter.unusedSimpArgs false
set_option linter.unusedVariables false
namespace Go.Proofs.YtggichcfklbjiaaGreatDoor
open Go.RowKit

structure RefM (w : World) (rp : Nat) (os : List RA) (out : List Int) (A A2 : Option Addr) (c c2 : Nat) : Prop where
  box : w.heap[rp]? = some (.cells #[.slice A os.length c, .slice A2 out.length c2] 50 (0, 0))
  rows : RowsRd w A os
  outs : Rd w A2 out.length (Rs out)
  len : os.length ≤ 100000
  olen : out.length ≤ 100000
section
variable {w w' : World} {rp : Nat} {os : List RA} {out : List Int} {A A2 : Option Addr} {c c2 : Nat}
theorem RefM.below (h : RefM w rp os out A A2 c c2) (hb : Below w.heap.size w w') : RefM w' rp os out A A2 c c2 := ⟨box_below h.box hb, h.rows.below hb, h.outs.below hb, h.len, h.olen⟩
set_option maxRecDepth 20000 in
set_option maxHeartbeats 2000000 in
theorem rrow_none (h : RefM w rp os out A A2 c c2) (r : Int) (hno : ∀ x ∈ os, ¬ holdsR x.1 r) : Calls Tryz.prog 39 #[.pointer (some ⟨rp, 0, none⟩), .int .i32 r] w fun e w' => e = .returned (.pointer none) ∧ w = w' := by
  have c0 := box_cell h.box 0 rfl
  have hl := h.len
  have HH := Lib.hid h
  have HNO := Lib.hid hno
  clear h hno
  go_enter Tryz.func39, Tryz.ntmps39
  go_wp2
  go_loop [5] (fun i => ∃ k : Nat, k ≤ os.length ∧ i = .int .i64 k) (fun i => os.length - (intOf i).toNat)
  case atStart => exact ⟨0, Nat.zero_le _, rfl⟩
  case round =>
    obtain ⟨k, hk, rfl⟩ := hrel
    by_cases hlt : k < os.length
    · obtain ⟨⟨x, Ax, cx⟩, hx⟩ : ∃ x, os[k]? = some x := ⟨_, List.getElem?_eq_getElem hlt⟩
      obtain ⟨b, off, rfl, hbl, hc⟩ := HH.out.rows.at_ (by omega)
      obtain ⟨d0, d1, _⟩ := row_cells hx hc
      have hn := HNO.out _ (List.mem_of_getElem? hx)
      simp only [holdsR] at hn
      have hi : (k : Int) < (os.length : Int) := by omega
      clear hx hc
      by_cases h1 : x.fr ≤ r
      · have h2 : ¬ r ≤ x.up := fun e => hn ⟨h1, e⟩
        clear hn
        go_wp2
        go_round
        case rel => exact ⟨k + 1, by omega, by go_num⟩
        case measure => simp [intOf]; omega
      · clear hn
        go_wp2
        go_round
        case rel => exact ⟨k + 1, by omega, by go_num⟩
        case measure => simp [intOf]; omega
    · obtain rfl : k = os.length := by omega
      have hi : (os.length : Int) ≤ (os.length : Int) := Int.le_refl _
      go_wp2
      go_returns
      exact ⟨rfl, rfl⟩
set_option maxRecDepth 20000 in
set_option maxHeartbeats 2000000 in
theorem rrow_some {b off : Nat} (h : RefM w rp os out (some ⟨b, off, none⟩) A2 c c2) (r : Int) {i0 : Nat} {x0 : RA} (hx0 : os[i0]? = some x0) (hin : holdsR x0.1 r) (hone : ∀ (j : Nat) (y : RA), os[j]? = some y → holdsR y.1 r → j = i0) :
    Calls Tryz.prog 39 #[.pointer (some ⟨rp, 0, none⟩), .int .i32 r] w fun e w' => e = .returned (.pointer (some ⟨b, off + i0 * 7, none⟩)) ∧ w = w' := by
  have c0 := box_cell h.box 0 rfl
  have hl := h.len
  have hi0 : i0 < os.length := (List.getElem?_eq_some_iff.1 hx0).1
  have HH := Lib.hid h
  have HX := Lib.hid hx0
  have HIN := Lib.hid hin
  have HONE := Lib.hid hone
  clear h hx0 hin hone
  go_enter Tryz.func39, Tryz.ntmps39
  go_wp2
  go_loop [5] (fun i => ∃ k : Nat, k ≤ i0 ∧ i = .int .i64 k) (fun i => os.length - (intOf i).toNat)
  case atStart => exact ⟨0, Nat.zero_le _, rfl⟩
  case round =>
    obtain ⟨k, hk, rfl⟩ := hrel
    obtain ⟨⟨x, Ax, cx⟩, hx⟩ : ∃ x, os[k]? = some x := ⟨_, List.getElem?_eq_getElem (by omega)⟩
    obtain ⟨b', off', he, hbl, hc⟩ := HH.out.rows.at_ (by omega)
    injection he with he
    injection he with e1 e2
    subst e1 e2
    obtain ⟨d0, d1, _⟩ := row_cells hx hc
    have hi : (k : Int) < (os.length : Int) := by omega
    by_cases hlt : k < i0
    · have hn : ¬ holdsR x r := fun e => by have := HONE.out k _ hx e; omega
      simp only [holdsR] at hn
      clear hx hc
      by_cases h1 : x.fr ≤ r
      · have h2 : ¬ r ≤ x.up := fun e => hn ⟨h1, e⟩
        clear hn
        go_wp2
        go_round
        case rel => exact ⟨k + 1, by omega, by go_num⟩
        case measure => simp [intOf]; omega
      · clear hn
        go_wp2
        go_round
        case rel => exact ⟨k + 1, by omega, by go_num⟩
        case measure => simp [intOf]; omega
    · obtain rfl : k = i0 := by omega
      have hxx := HX.out
      rw [hx] at hxx
      injection hxx with hxx
      subst hxx
      obtain ⟨h1, h2⟩ := HIN.out
      simp only [] at h1 h2
      clear hx hc
      go_wp2
      go_returns
      exact ⟨rfl, rfl⟩
/-- A character has a row, or none. -/
theorem row_or {os : List RA} (g : RowsG (os.map (·.1))) (r : Int) : (∀ x ∈ os, ¬ holdsR x.1 r) ∨ ∃ (i : Nat) (x : RA), os[i]? = some x ∧ holdsR x.1 r ∧ ∀ (j : Nat) (y : RA), os[j]? = some y → holdsR y.1 r → j = i := by
  by_cases h : ∃ x ∈ os, holdsR x.1 r
  · obtain ⟨x, hx, hh⟩ := h
    obtain ⟨i, hi⟩ := List.getElem?_of_mem hx
    refine .inr ⟨i, x, hi, hh, fun j y hy hh2 => ?_⟩
    exact (disj_of g).one (fun x hx => (g.v x hx).le) (i := j) (j := i) (x := y.1) (y := x.1) (by rw [List.getElem?_map, hy]; rfl) (by rw [List.getElem?_map, hi]; rfl) hh2 hh
  · exact .inl fun x hx hh => h ⟨x, hx, hh⟩
theorem rclass_any (h : RefM w rp os out A A2 c c2) (g : RowsG (os.map (·.1))) (r : Int) : Calls Tryz.prog 68 #[.pointer (some ⟨rp, 0, none⟩), .int .i32 r] w fun e w' => e = .returned (.int .i64 (clsL (os.map (·.1)) r)) ∧ w = w' := by
  rcases row_or g r with hno | ⟨i, x, hx, hin, hone⟩
  · have R := rrow_none h r hno
    rw [clsL_out (rows := os.map (·.1)) fun x hx => by
      obtain ⟨y, hy, rfl⟩ := List.mem_map.1 hx
      exact hno y hy]
    clear hno h g
    go_enter Tryz.func68, Tryz.ntmps68
    go_wp2_with fail
    refine R.mono ?_
    rintro e w1 ⟨rfl, rfl⟩
    clear R
    go_wp2
    go_returns
    exact ⟨rfl, rfl⟩
  · have hil := (List.getElem?_eq_some_iff.1 hx).1
    obtain ⟨b, off, rfl, hbl, hc⟩ := h.rows.at_ (by omega)
    obtain ⟨_, _, _, _, d4, _⟩ := row_cells (x := x.1) (Ax := x.2.1) (cx := x.2.2) hx hc
    have R := rrow_some h r hx hin hone
    rw [clsL_at (rows := os.map (·.1)) (disj_of g) (List.mem_map_of_mem (List.mem_of_getElem? hx)) hin]
    clear hx hin hone hc h g
    go_enter Tryz.func68, Tryz.ntmps68
    go_wp2_with fail
    refine R.mono ?_
    rintro e w1 ⟨rfl, rfl⟩
    clear R
    go_wp2
    go_returns
    exact ⟨rfl, rfl⟩
/-- What the document's Decomp answers: the kind, and a list that reads so. -/
def RDecP (w0 : World) (kd : List UInt8) (il : List Int) (w : World) (e : Ending) (w' : World) : Prop := ∃ A c, e = .returned (.tuple #[.string (mk8 kd), .slice A il.length c]) ∧ Rd w' A il.length (Rs il) ∧ Below w.heap.size w w' ∧ ∀ a, A = some a → 0 < il.length → a.block < w0.heap.size ∨ w.heap.size ≤ a.block
set_option maxRecDepth 20000 in
set_option maxHeartbeats 2000000 in
theorem rdecomp_any {w0 : World} (h0 : RefM w0 rp os out A A2 c c2) (hb0 : Below w0.heap.size w0 w) (g : RowsG (os.map (·.1))) (r : Int) (hr : R32 r) : Calls Tryz.prog 19 #[.pointer (some ⟨rp, 0, none⟩), .int .i32 r] w (RDecP w0 (decH (prtL (os.map (·.1))) r).1 (decH (prtL (os.map (·.1))) r).2 w) := by
  have h := h0.below hb0
  have SP := rsplit_any r w hr.1 (by have := hr.2; omega)
  unfold decH
  by_cases hh : 44032 ≤ r ∧ r < 55204
  · rw [if_pos hh]
    have h3 : (splitH r).2.2 = true := by unfold splitH; rw [if_pos hh]; split <;> rfl
    rw [h3] at SP
    obtain ⟨x, hx⟩ : ∃ x, x = (splitH r).1 := ⟨_, rfl⟩
    obtain ⟨y, hy⟩ : ∃ y, y = (splitH r).2.1 := ⟨_, rfl⟩
    rw [← hx, ← hy] at SP
    rw [← hx, ← hy]
    clear h3 hx hy h g h0 hb0
    go_enter Tryz.func19, Tryz.ntmps19
    go_wp2_with fail
    refine SP.mono ?_
    rintro e w1 ⟨rfl, rfl⟩
    have hrd : Rd (w.alloc (.cells #[.int .i32 x, .int .i32 y] 21)) (some ⟨w.heap.size, 0, none⟩) 2 (Rs [x, y]) := Rd.new _ _ [.int .i32 x, .int .i32 y]
    have hb2 : Below w.heap.size w (w.alloc (.cells #[.int .i32 x, .int .i32 y] 21)) := (Below.refl _ _).alloc (Nat.le_refl _) _
    clear SP
    go_wp2
    go_returns
    exact ⟨_, _, rfl, hrd, hb2, fun a ha _ => .inr (by injection ha with ha; subst ha; exact Nat.le_refl _)⟩
  · rw [if_neg hh]
    rw [split_none hh] at SP
    rcases row_or g r with hno | ⟨i, x, hx, hin, hone⟩
    · have R := rrow_none h r hno
      rw [prtL_out (rows := os.map (·.1)) (fun x hx => (g.v x hx).le) fun x hx => by
        obtain ⟨y, hy, rfl⟩ := List.mem_map.1 hx
        exact hno y hy]
      clear hno h g h0 hb0
      go_enter Tryz.func19, Tryz.ntmps19
      go_wp2_with fail
      refine SP.mono ?_
      rintro e w1 ⟨rfl, rfl⟩
      go_wp2_with fail
      refine R.mono ?_
      rintro e w1 ⟨rfl, rfl⟩
      clear R SP
      go_wp2
      go_returns
      exact ⟨none, 0, rfl, Rd.nil _ _, Below.refl _ _, fun a ha _ => by cases ha⟩
    · have hil := (List.getElem?_eq_some_iff.1 hx).1
      obtain ⟨b, off, rfl, hbl, hc⟩ := h.rows.at_ (by omega)
      obtain ⟨_, _, _, _, _, d5, d6⟩ := row_cells (x := x.1) (Ax := x.2.1) (cx := x.2.2) hx hc
      have R := rrow_some h r hx hin hone
      have hrd := h.rows.into x (List.mem_of_getElem? hx)
      have HLOC : Hid (∀ a, x.2.1 = some a → 0 < x.1.il.length → a.block < w0.heap.size) := fun a ha h0l => by
        obtain ⟨b', off', e, hlt, _⟩ := (h0.rows.into x (List.mem_of_getElem? hx)).at_ h0l
        rw [ha] at e; injection e with e; rw [e]; exact hlt
      have hd := dec_at g (List.mem_map_of_mem (List.mem_of_getElem? hx)) hin
      obtain ⟨q, hq⟩ : ∃ q, q = (prtL (os.map (·.1)) r).getD ([], []) := ⟨_, rfl⟩
      rw [← hq]
      rw [← hq] at hd
      subst hd
      obtain ⟨⟨fr, up, nm, ct, cl, kd, il⟩, Ax, cx⟩ := x
      simp only [] at d5 d6 hrd HLOC ⊢
      clear hx hin hone hc h g hq h0 hb0
      go_enter Tryz.func19, Tryz.ntmps19
      go_wp2_with fail
      refine SP.mono ?_
      rintro e w1 ⟨rfl, rfl⟩
      go_wp2_with fail
      refine R.mono ?_
      rintro e w1 ⟨rfl, rfl⟩
      clear R SP
      go_wp2
      go_quiet (fail)
      go_wp2
      go_returns
      exact ⟨_, _, rfl, hrd.drewN _, (below_drewN _ _ _), fun a ha h0l => .inl (HLOC.out a ha h0l)⟩
set_option maxRecDepth 20000 in
set_option maxHeartbeats 2000000 in
theorem rout_any (h : RefM w rp os out A A2 c c2) (r : Int) : Calls Tryz.prog 67 #[.pointer (some ⟨rp, 0, none⟩), .int .i32 r] w fun e w' => e = .returned (.bool (decide (r ∈ out))) ∧ w = w' := by
  have c1 := box_cell h.box 1 rfl
  have hl := h.olen
  have HH := Lib.hid h
  clear h
  go_enter Tryz.func67, Tryz.ntmps67
  go_wp2
  go_loop [5] (fun i => ∃ k : Nat, k ≤ out.length ∧ i = .int .i64 k ∧ Hid (r ∉ out.take k)) (fun i => out.length - (intOf i).toNat)
  case atStart => exact ⟨0, Nat.zero_le _, rfl, by show _ ∉ _; simp⟩
  case round =>
    obtain ⟨k, hk, rfl, HN⟩ := hrel
    by_cases hlt : k < out.length
    · obtain ⟨z, hz⟩ : ∃ z, out[k]? = some z := ⟨_, List.getElem?_eq_getElem hlt⟩
      obtain ⟨b, off, rfl, hbl, hc⟩ := HH.out.outs.at_ (by omega)
      have d0 : w.cell? ⟨b, off + k, none⟩ = some (.int .i32 z) := hc k _ (by simp [Rs, hz])
      have hi : (k : Int) < (out.length : Int) := by omega
      have HZ := Lib.hid hz
      clear hz hc
      by_cases he : z = r
      · subst he
        have HT : Hid (decide (z ∈ out) = true) := decide_eq_true (List.mem_of_getElem? HZ.out)
        have hzz : (z == z) = true := by simp
        go_wp2
        go_returns
        exact ⟨ret_bool HT.out.symm, rfl⟩
      · have hzz : (z == r) = false := by simpa using he
        have HE := Lib.hid he
        clear he
        go_wp2
        go_round
        case rel => exact ⟨k + 1, by omega, by go_num, by
          show _ ∉ _
          rw [List.take_add_one, HZ.out]
          intro hm
          rcases List.mem_append.1 hm with hm | hm
          · exact HN.out hm
          · simp at hm; exact HE.out hm.symm⟩
        case measure => simp [intOf]; omega
    · obtain rfl : k = out.length := by omega
      have hi : (out.length : Int) ≤ (out.length : Int) := Int.le_refl _
      have HT : Hid (decide (r ∈ out) = false) := decide_eq_false (by have := HN.out; rwa [List.take_length] at this)
      go_wp2
      go_returns
      exact ⟨ret_bool HT.out.symm, rfl⟩
end
end Go.Proofs.YtggichcfklbjiaaGreatDoor
end
