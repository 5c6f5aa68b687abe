/- Append of many rows, and a row as the document's answer has it. The law on rows of two texts: true. -/
import Derived.Test.YtagncjnbabdbmaaDoorUcdL1
import Derived.Test.YtagncjnbabdbmaaDoorUcdPJ
section
set_option linter.unusedSimpArgs false
set_option linter.unusedVariables false
namespace Go.Proofs.YtagncjnbabdbmaaDoor
open Go.RowKit

section
variable {P : Program}
theorem run_appM {t e : TypeId} {z : Value} {k bytes : Nat} (E : ElemK P t e z k bytes) (w : World) (ty : TypeId) (base : Nat)
    {v : Value} {n : Nat} {xs : List Value} (hown : w.ownsRow base e k v n xs) {A : Option Addr} {m c : Nat} {news : List Value} (hr : RdK w A m k news) (h1 : ∀ u ∈ news, u.oneCell' = true)
    (h63 : n + m ≤ 1099511627776) (hby : bytes ≤ 128) (hbase : base ≤ w.heap.size) :
    ∃ A' c' w', (Builtin.append_ #[t, t] ty #[v, .slice A m c]).run P w = .ok (.slice A' (n + m) c') w' ∧ w'.ownsRow base e k (.slice A' (n + m) c') (n + m) (xs ++ news) ∧ w.grownBy w' v.ownBlock ∧
      ((Value.slice A' (n + m) c').ownBlock = v.ownBlock ∨ (Value.slice A' (n + m) c').ownBlock = some w.heap.size) := by
  obtain ⟨i, hi, hz0, hz1, hz2⟩ := info_parts E.hi
  have hb : (n + m) * bytes ≤ 140737488355328 := Nat.le_trans (Nat.mul_le_mul h63 hby) (by omega)
  have hml : n + m ≤ maxLen := by unfold maxLen; omega
  have fin : ∀ (ad : Addr), (∀ j u, news[j]? = some u → w.cell? (ad.add j) = some u) → ∃ A' c' w', (Builtin.append_ #[t, t] ty #[v, .slice (some ad) m c]).run P w = .ok (.slice A' (n + m) c') w' ∧ w'.ownsRow base e k (.slice A' (n + m) c') (n + m) (xs ++ news) ∧ w.grownBy w' v.ownBlock ∧
      ((Value.slice A' (n + m) c').ownBlock = v.ownBlock ∨ (Value.slice A' (n + m) c').ownBlock = some w.heap.size) := by
    intro ad had
    obtain ⟨v', w', hrun, h2, h3, _, h5⟩ := run_append_own_at (P := P) w base t ty e i z k bytes E.ht hi hz0 hz1 hz2 E.hz E.hk v n xs hown ad m c news hr.1 had h1 hml hb hbase
    obtain ⟨A', c', rfl⟩ := own_shapeK h2
    exact ⟨A', c', w', hrun, h2, h3, h5⟩
  rcases Nat.eq_zero_or_pos m with h0 | h0
  · subst h0
    have hn : news = [] := List.eq_nil_of_length_eq_zero (by rw [hr.1]; simp)
    subst hn
    cases A with
    | none =>
      obtain ⟨A', c', rfl⟩ := own_shapeK hown
      exact ⟨A', c', w, run_append_nil w base t ty e i k E.ht hi _ n xs hown c, by simpa using hown, World.grownBy.refl w _, .inl rfl⟩
    | some ad => exact fin ad (fun j u hu => by simp at hu)
  · obtain ⟨b, off, rfl, hcell⟩ := hr.2 h0
    exact fin ⟨b, off, none⟩ (fun j u hu => by rw [Addr.add_lit]; exact hcell j u hu)

/-- 'out = append(out, ..)': out nil or the call's own; what is appended nil, empty or not. -/
theorem wpList_appM {t e : TypeId} {z : Value} {k bytes : Nat} (E : ElemK P t e z k bytes) (w : World) {ops : Array Oper} {rest : List Oper} {o : Oper} {a : Act} {Q : Exit → Act → World → Prop} (hgd : o.guard = none) (s x : Operand)
    (ho : o.op = .call { callee := .builtin .append, args := #[s, x], argTypes := #[t, t] }) (base : Nat)
    {v : Value} {n : Nat} {xs : List Value} (hs : a.eval s = v) (hown : w.ownsRow base e k v n xs) {A : Option Addr} {m c : Nat} {news : List Value} (hx : a.eval x = .slice A m c) (hr : RdK w A m k news) (h1 : ∀ u ∈ news, u.oneCell' = true)
    (h63 : n + m ≤ 1099511627776) (hby : bytes ≤ 128) (hbase : base ≤ w.heap.size)
    (h : ∀ A' c' w', w'.ownsRow base e k (.slice A' (n + m) c') (n + m) (xs ++ news) → w.grownBy w' v.ownBlock →
      ((Value.slice A' (n + m) c').ownBlock = v.ownBlock ∨ (Value.slice A' (n + m) c').ownBlock = some w.heap.size) → wpList P ops Q rest (a.put o.dst (.slice A' (n + m) c')) w') : wpList P ops Q (o :: rest) a w := by
  refine wpList_plain hgd fun K hK => ?_
  obtain ⟨A', c', w', hrun, h2, h3, h4⟩ := run_appM E w o.type base hown (c := c) hr h1 h63 hby hbase
  unfold Oper.wp execOp
  simp only [ho, resolve, invoke, builtin, Sem.run_bind, Sem.run_pure, Result.andThen_ok, List.map_toArray, List.map_cons, List.map_nil, hs, hx, hrun]
  exact hK _ _ (h A' c' w' h2 h3 h4)
end
set_option maxRecDepth 20000 in
set_option maxHeartbeats 4000000 in
theorem plain5_any (x : RowS) (A : Option Addr) (c : Nat) (w : World) :
    Calls Tryd.prog 38 #[rowV x A c] w fun e w' => e = .returned (rowV x A c) ∧ Below w.heap.size w w' := by
  obtain ⟨xf, xu, xn, xct, xcl, xk, xil⟩ := x
  simp only [rowV]
  go_enter Tryd.func38, Tryd.ntmps38
  go_wp2
  go_returns
  refine ⟨rfl, ?_⟩
  exact ((Below.refl _ _).alloc (Nat.le_refl _) _).alloc (by simp) _
end Go.Proofs.YtagncjnbabdbmaaDoor
end

section
set_option linter.unusedSimpArgs false
set_option linter.unusedVariables false
namespace Go.Proofs.YtagncjnbabdbmaaDoor
open Go.RowKit

theorem rowsat_kept {w w' : World} {T : TypeId} {B : Nat} {os : List RA} {A : Option Addr} {c : Nat} {row : Option Nat} (h : RowsAt T B w os A c) (hg : w.grownBy w' row) (hne : ∀ b, row = some b → b < B) : RowsAt T B w' os A c :=
  h.same fun g hgB hgl => hg.block g hgl (fun e => by have := hne g e.symm; omega)
theorem Vs_app (a b : List RA) : Vs (a ++ b) = Vs a ++ Vs b := by simp [Vs]
theorem rows_appM {w w' : World} {B1 B2 : Nat} {os1 os2 : List RA} {A1 A2 A' : Option Addr} {c1 c2 c' : Nat} (h1 : RowsAt 65 B1 w os1 A1 c1) (h2 : RowsAt 65 B2 w os2 A2 c2)
    (hown : w'.ownsRow B1 65 7 (.slice A' (os1.length + os2.length) c') (os1.length + os2.length) (Vs os1 ++ Vs os2)) (hg : w.grownBy w' (Value.slice A1 os1.length c1).ownBlock) : RowsRd w' A' (os1 ++ os2) := by
  refine ⟨?_, fun x hx => ?_⟩
  · obtain ⟨A, c, hv, _, _, hr⟩ := RdK.of_own hown
    injection hv with h1 _ _
    subst h1
    rw [Vs_app, List.length_append]
    exact hr
  · have hi : w'.ownsRow (min B1 B2) 21 1 (.slice x.2.1 x.1.il.length x.2.2) x.1.il.length (Rs x.1.il) := by
      rcases List.mem_append.1 hx with hx | hx
      · exact own_baseK (into_kept (h1.into x hx) h1.own (by decide) hg) (Nat.min_le_left _ _)
      · exact own_baseK (into_kept (h2.into x hx) h1.own (by decide) hg) (Nat.min_le_right _ _)
    obtain ⟨A, c, hv, _, _, hr⟩ := Rd.of_own hi
    injection hv with h1 _ _
    subst h1
    exact hr
theorem bs_join (s t : ByteArray) : bs (s ++ ⟨#[10]⟩ ++ t) = bs s ++ 10 :: bs t := by
  rw [bs_append, bs_append]
  simp
  rfl
theorem keep14 {A B : World → Prop} {w0 w w' : World} (MK : ∀ w', Below w0.heap.size w0 w' → A w' ∧ B w' ∧ Below w0.heap.size w0 w') (h : A w ∧ B w ∧ Below w0.heap.size w0 w) (hb : Below w.heap.size w w') : A w' ∧ B w' ∧ Below w0.heap.size w0 w' := MK _ (below_then h.2.2 hb)
theorem keepB {A B : World → Prop} {w0 w : World} (MK : ∀ w', Below w0.heap.size w0 w' → A w' ∧ B w' ∧ Below w0.heap.size w0 w') (h : A w ∧ B w ∧ Below w0.heap.size w0 w) : Below w0.heap.size w0 w := h.2.2
theorem Vs_one (os : List RA) : ∀ u ∈ Vs os, u.oneCell' = true := by
  intro u hu
  obtain ⟨x, _, hx⟩ := List.mem_flatMap.1 hu
  exact rowC_one x u hx
theorem last_get {os : List RA} {a : List RowS} (h : os.map (·.1) = a) (hp : 0 < os.length) : ∃ z A c, os[os.length - 1]? = some (z, A, c) ∧ lastUp a = z.up := by
  obtain ⟨⟨z, A, c⟩, hz⟩ : ∃ z, os[os.length - 1]? = some z := ⟨_, List.getElem?_eq_getElem (by omega)⟩
  refine ⟨z, A, c, hz, ?_⟩
  unfold lastUp
  rw [List.getLast?_eq_getElem?, ← h, List.length_map, List.getElem?_map, hz]
  rfl
theorem head_get {os : List RA} {x : RowS} {m : List RowS} (h : os.map (·.1) = x :: m) : ∃ A c, os[0]? = some (x, A, c) := by
  cases os with
  | nil => simp at h
  | cons y t =>
    injection h with h1 _
    exact ⟨y.2.1, y.2.2, by rw [← h1]; rfl⟩
theorem one_cells {w w' : World} {os : List RA} {k : Nat} {x : RowS} {Ax : Option Addr} {cx : Nat} (hx : os[k]? = some (x, Ax, cx)) {b off : Nat} (hbl : b < w.heap.size) (hc : ∀ j u, (Vs os)[j]? = some u → w.cell? ⟨b, off + j, none⟩ = some u) (hb : Below w.heap.size w w') :
    w'.cell? ⟨b, off + k * 7, none⟩ = some (.int .i32 x.fr) ∧ w'.cell? ⟨b, off + k * 7 + 1, none⟩ = some (.int .i32 x.up) ∧ w'.cell? ⟨b, off + k * 7 + 2, none⟩ = some (.string (mk8 x.nm)) ∧ w'.cell? ⟨b, off + k * 7 + 3, none⟩ = some (.string (mk8 x.ct)) ∧ w'.cell? ⟨b, off + k * 7 + 4, none⟩ = some (.int .i64 x.cl) ∧ w'.cell? ⟨b, off + k * 7 + 5, none⟩ = some (.string (mk8 x.kd)) ∧ w'.cell? ⟨b, off + k * 7 + 6, none⟩ = some (.slice Ax x.il.length cx) :=
  row_cells hx fun j u hu => (hb.cell hbl).trans (hc j u hu)
set_option maxRecDepth 20000 in
set_option maxHeartbeats 8000000 in
theorem ucdjoins_yes (s t : ByteArray) (w : World) (hE : Env w) :
    Calls Tryd.prog 10 #[.string s, .string t] w fun e w' => e = .returned (.bool true) ∧ Below w.heap.size w w' := by
  by_cases hbig : 2000 < s.size
  · have hb : (2000 : Int) < (s.size : Int) := by omega
    go_enter Tryd.func10, Tryd.ntmps10
    go_wp2_with fail
    refine (awake5_any _ hE).mono ?_
    rintro e w1 ⟨rfl, hb1⟩
    go_wp2
    go_returns
    exact ⟨rfl, hb1⟩
  · have hsi : (s.size : Int) ≤ 2000 := by omega
    by_cases hbig2 : 2000 < t.size
    · have hb : (2000 : Int) < (t.size : Int) := by omega
      go_enter Tryd.func10, Tryd.ntmps10
      go_wp2_with fail
      refine (awake5_any _ hE).mono ?_
      rintro e w1 ⟨rfl, hb1⟩
      go_wp2
      go_returns
      exact ⟨rfl, hb1⟩
    · have hti : (t.size : Int) ≤ 2000 := by omega
      have C1 := rows_any s w hE (by omega)
      have C2 := fun w h => rows_any t w h (by omega)
      have C3 := fun w h => rows_any (s ++ ⟨#[10]⟩ ++ t) w h (by have : (⟨#[10]⟩ : ByteArray).size = 1 := rfl; rw [ByteArray.size_append, ByteArray.size_append]; omega)
      rw [bs_join] at C3
      have hlen1 := rowsS_len (bs s)
      have hlen2 := rowsS_len (bs t)
      have hlen3 := rowsS_len (bs s ++ 10 :: bs t)
      have hil := rows_il (bs s ++ 10 :: bs t)
      obtain ⟨⟨a, n1, e1⟩, h1⟩ : ∃ z, z = rowsS (bs s) := ⟨_, rfl⟩
      obtain ⟨⟨b, n2, e2⟩, h2⟩ : ∃ z, z = rowsS (bs t) := ⟨_, rfl⟩
      obtain ⟨⟨c, n3, e3⟩, h3⟩ : ∃ z, z = rowsS (bs s ++ 10 :: bs t) := ⟨_, rfl⟩
      have hJ : e1 = 0 → e2 = 0 → (∃ x m, a ≠ [] ∧ b = x :: m ∧ x.fr ≤ lastUp a ∧ 0 < n3 ∧ c = [] ∧ e3 = 12) ∨ ((a = [] ∨ b = [] ∨ ∃ x m, b = x :: m ∧ lastUp a < x.fr) ∧ c = a ++ b ∧ n3 = 0 ∧ e3 = 0) := by
        intro z1 z2
        subst z1
        subst z2
        rcases rows_join h1.symm h2.symm (by rw [bs_length, bs_length]; omega) with ⟨x, m, n, ha, hb, hx, hn, hr⟩ | ⟨ho, hr⟩
        · rw [← h3] at hr
          injection hr with r1 r2
          injection r2 with r2 r3
          exact .inl ⟨x, m, ha, hb, hx, by omega, r1, r3⟩
        · rw [← h3] at hr
          injection hr with r1 r2
          injection r2 with r2 r3
          exact .inr ⟨ho, r1, r2, r3⟩
      rw [← h1] at C1 hlen1
      rw [← h2] at C2 hlen2
      rw [← h3] at C3 hlen3 hil
      simp only [] at hlen1 hlen2 hlen3 hil
      have HJ := Lib.hid hJ
      have HIL := Lib.hid hil
      clear h1 h2 h3 hbig hbig2 hJ hil
      go_enter Tryd.func10, Tryd.ntmps10
      go_wp2_with fail
      refine C1.mono ?_
      rintro e w1 ⟨os1, A1, c1, hos1, rfl, hr1, hb1⟩
      clear C1
      generalize hg1 : os1.length = m1
      have HG1 : Hid (os1.length = m1) := hg1
      clear hg1
      go_wp2_with fail
      refine (C2 _ (hE.below hb1)).mono ?_
      rintro e w2 ⟨os2, A2, c2, hos2, rfl, hr2, hb2⟩
      generalize hg2 : os2.length = m2
      have HG2 : Hid (os2.length = m2) := hg2
      clear hg2
      have hbw := below_then hb1 hb2
      clear C2
      replace hr1 := hr1.below hb2
      have HM := Lib.hid (And.intro hr1 (And.intro hr2 hbw))
      have HO1 : Hid (os1.map (·.1) = a) := hos1
      have HO2 : Hid (os2.map (·.1) = b) := hos2
      clear hr1 hr2 hos1 hos2 hbw
      by_cases he1 : e1 = 0
      · subst he1
        by_cases he2 : e2 = 0
        · subst he2
          have hE2 := hE.below HM.out.2.2
          have hz1 : (9223372036854775807 : Nat) ≥ s.size + 1 + t.size := by omega
          have hz2 : ¬ (9223372036854775807 < s.size + (⟨#[10]⟩ : ByteArray).size) := by have : (⟨#[10]⟩ : ByteArray).size = 1 := rfl; omega
          have hz3 : ¬ (9223372036854775807 < s.size + 1) := by omega
          have hz4 : ¬ (9223372036854775807 < s.size + 1 + t.size) := by omega
          have hz5 : ¬ (9223372036854775807 < (s ++ (⟨#[10]⟩ : ByteArray)).size + t.size) := by have : (⟨#[10]⟩ : ByteArray).size = 1 := rfl; rw [ByteArray.size_append]; omega
          go_wp2_with fail
          refine (C3 _ hE2).mono ?_
          rintro e w3 ⟨os3, A3, c3, hos3, rfl, hr3, hb3⟩
          generalize hg3 : os3.length = m3
          have HG3 : Hid (os3.length = m3) := hg3
          clear hg3
          have HO3 : Hid (os3.map (·.1) = c) := hos3
          clear C3 hos3 hz1 hz2 hz3 hz4 hz5
          have HN := Lib.hid (And.intro (HM.out.1.below hb3) (And.intro (HM.out.2.1.below hb3) (And.intro hr3 (below_then HM.out.2.2 hb3))))
          have hE3 := hE2.below hb3
          have hq1 := HM.out.1.own.lt
          have HQ : Hid (∀ b, (Value.slice A1 os1.length c1).ownBlock = some b → b < w2.heap.size) := fun b hb => (hq1 b hb).2
          have hzz : w.heap.size ≤ w3.heap.size := HN.out.2.2.2.size
          clear hr3 hb3 hE2 HM hq1
          have HL1 : Hid (m1 = a.length) := by show _ = _; rw [← HG1.out, ← HO1.out, List.length_map]
          have HL2 : Hid (m2 = b.length) := by show _ = _; rw [← HG2.out, ← HO2.out, List.length_map]
          have HL3 : Hid (m3 = c.length) := by show _ = _; rw [← HG3.out, ← HO3.out, List.length_map]
          have hm1l : m1 ≤ 4096 := by rw [HL1.out]; exact hlen1
          have hm2l : m2 ≤ 4096 := by rw [HL2.out]; exact hlen2
          clear hlen1 hlen2 hlen3
          rcases HJ.out (by simp) (by simp) with ⟨x, m, ha, hb, hx, hn, hc, h12⟩ | ⟨ho, hc, hn, h0⟩
          · subst h12
            subst hc
            have h1p : 0 < m1 := by rw [HL1.out]; exact List.length_pos_iff.2 ha
            have h2p : 0 < m2 := by rw [HL2.out, hb]; simp
            have h3z : m3 = 0 := by rw [HL3.out]; rfl
            subst h3z
            have r1 := HN.out.1.rd
            have r2 := HN.out.2.1.rd
            obtain ⟨bb, ob, hbe, hbl, hcy⟩ := r2.at_ (by rw [HG2.out]; exact h2p)
            obtain ⟨ba, oa, hae, hal, hcx⟩ := r1.at_ (by rw [HG1.out]; exact h1p)
            obtain ⟨Bx, dx, hx0⟩ := head_get (HO2.out.trans hb)
            obtain ⟨z, Az, cz, hz0, hzu⟩ := last_get HO1.out (by rw [HG1.out]; exact h1p)
            rw [hzu] at hx
            obtain ⟨y0, _⟩ := row_cells hx0 hcy
            obtain ⟨_, x1, _⟩ := row_cells hz0 hcx
            rw [Nat.zero_mul, Nat.add_zero] at y0
            rw [HG1.out] at x1
            have hw1 : IntKind.i64.wrap ((m1 : Int) - 1) = ((m1 - 1 : Nat) : Int) := by rw [IntWalk.i64_in _ (by omega)]; omega
            have hlt : ((m1 - 1 : Nat) : Int) < (m1 : Int) := by omega
            have h1i : (0 : Int) < (m1 : Int) := by omega
            have h2i : (0 : Int) < (m2 : Int) := by omega
            clear hcx hcy hx0 hz0 r1 r2 hzu hbl hal ha hb HJ HIL HQ hzz hE
            subst hbe
            subst hae
            go_wp2
            go_quiet (fail)
            go_wp2_with fail
            refine (awake5_any _ (hE3.below (below_drewN _ _ _))).mono ?_
            rintro e w4 ⟨rfl, hb4⟩
            go_wp2
            go_returns
            exact ⟨rfl, below_then (below_drew' HN.out.2.2.2 _) hb4⟩
          · subst hn
            subst h0
            have hl : m3 = m1 + m2 := by rw [HL3.out, hc, List.length_append, HL1.out, HL2.out]
            have HC : Hid (c = a ++ b) := hc
            clear hc
            rcases Nat.eq_zero_or_pos m1 with hz | h1p
            · subst hz
              rw [Nat.zero_add] at hl
              subst hl
              go_wp2
              go_quiet (fail)
              generalize hWW : w3.drewN nq = W at *
              have hdW : Below w3.heap.size w3 W := by rw [← hWW]; exact below_drewN _ _ _
              have hown := (HN.out.1.below hdW).own
              rw [HG1.out] at hown
              have hrd2 := (HN.out.2.1.below hdW).rd.cells
              rw [HG2.out] at hrd2
              have hone := Vs_one os2
              have h63 : 0 + m3 ≤ 1099511627776 := by omega
              have hby : 88 ≤ 128 := by omega
              have hbase : w.heap.size ≤ W.heap.size := Nat.le_trans hzz hdW.size
              have HW := Lib.hid hdW
              clear hWW hdW
              go_wp2_with (at_builtin; refine wpList_appM rowElem _ rfl _ _ rfl w.heap.size rfl hown rfl hrd2 hone h63 hby hbase ?_)
              intro A4 c4 w4 hown4 hg4 _
              have hg4b : W.grownBy w4 (Value.slice A1 os1.length c1).ownBlock := by rw [HG1.out]; exact hg4
              have hown4b : w4.ownsRow w.heap.size 65 7 (.slice A4 (os1.length + os2.length) c4) (os1.length + os2.length) (Vs os1 ++ Vs os2) := by rw [HG1.out, HG2.out]; simpa using hown4
              have r4 := rows_appM (HN.out.1.below HW.out) (HN.out.2.1.below HW.out) hown4b hg4b
              have r3 := (rowsat_kept (HN.out.2.2.1.below HW.out) hg4b HQ.out).rd
              have hb4 : Below w.heap.size w w4 := (HN.out.2.2.2.trans (HW.out.mono hzz)).grown hg4 hbase (fun j hj => (hown.lt j hj).1)
              have hm4 : (os1 ++ os2).map (·.1) = c := by rw [List.map_append, HO1.out, HO2.out, HC.out]
              have hm3 : os3.map (·.1) = c := HO3.out
              have hE4 : Env w4 := hE.below hb4
              have hlA : (os1 ++ os2).length = m3 := by rw [List.length_append, HG1.out, HG2.out]; simp
              have hlB : os3.length = m3 := HG3.out
              clear hown hrd2 hone h63 hby hbase hown4 hg4 hown4b hg4b HN HQ HW HO1 HO2 HO3 HG1 HG2 HG3 HL1 HL2 HL3 hE hE3
              have hN1 : m3 ≤ 8192 := by omega
              generalize hNN : m3 = N at *
              have HK := Lib.hid (And.intro r4 (And.intro r3 (And.intro hb4 (And.intro hm4 (And.intro hm3 (And.intro hlA hlB))))))
              have hneN : ((N : Int) != (N : Int)) = false := by simp
              clear r4 r3 hb4 hm4 hm3 hlA hlB hNN
              go_wp2
              go_loopw [14] (fun i wr => ∃ k : Nat, k ≤ N ∧ i = .int .i64 k ∧ Below w4.heap.size w4 wr) (fun i _ => N - (intOf i).toNat)
              case atStart => exact ⟨0, Nat.zero_le _, rfl, Below.refl _ _⟩
              case round =>
                obtain ⟨k, hk, rfl, hb⟩ := hrel
                by_cases hlt : k < N
                · obtain ⟨x, Ax, cx, Bx, dx, hx1, hx2, hxr⟩ := get_same HK.out.2.2.2.1 HK.out.2.2.2.2.1 (k := k) (by rw [HK.out.2.2.2.2.2.1]; exact hlt)
                  have hi : (k : Int) < (N : Int) := by omega
                  have r4 := HK.out.1.below hb
                  have r3 := HK.out.2.1.below hb
                  have hA := r4.into _ (List.mem_of_getElem? hx1)
                  have hB := r3.into _ (List.mem_of_getElem? hx2)
                  obtain ⟨b1, o1, rfl, hbl, hcx⟩ := r4.at_ (by rw [HK.out.2.2.2.2.2.1]; omega)
                  obtain ⟨b2, o2, rfl, hbl2, hcy⟩ := r3.at_ (by rw [HK.out.2.2.2.2.2.2]; omega)
                  have MK : ∀ w', Below wr.heap.size wr w' → (w'.cell? ⟨b1, o1 + k * 7, none⟩ = some (.int .i32 x.fr) ∧ w'.cell? ⟨b1, o1 + k * 7 + 1, none⟩ = some (.int .i32 x.up) ∧ w'.cell? ⟨b1, o1 + k * 7 + 2, none⟩ = some (.string (mk8 x.nm)) ∧ w'.cell? ⟨b1, o1 + k * 7 + 3, none⟩ = some (.string (mk8 x.ct)) ∧ w'.cell? ⟨b1, o1 + k * 7 + 4, none⟩ = some (.int .i64 x.cl) ∧ w'.cell? ⟨b1, o1 + k * 7 + 5, none⟩ = some (.string (mk8 x.kd)) ∧ w'.cell? ⟨b1, o1 + k * 7 + 6, none⟩ = some (.slice Ax x.il.length cx)) ∧ (w'.cell? ⟨b2, o2 + k * 7, none⟩ = some (.int .i32 x.fr) ∧ w'.cell? ⟨b2, o2 + k * 7 + 1, none⟩ = some (.int .i32 x.up) ∧ w'.cell? ⟨b2, o2 + k * 7 + 2, none⟩ = some (.string (mk8 x.nm)) ∧ w'.cell? ⟨b2, o2 + k * 7 + 3, none⟩ = some (.string (mk8 x.ct)) ∧ w'.cell? ⟨b2, o2 + k * 7 + 4, none⟩ = some (.int .i64 x.cl) ∧ w'.cell? ⟨b2, o2 + k * 7 + 5, none⟩ = some (.string (mk8 x.kd)) ∧ w'.cell? ⟨b2, o2 + k * 7 + 6, none⟩ = some (.slice Bx x.il.length dx)) ∧ Below wr.heap.size wr w' := fun w' hb' => ⟨one_cells hx1 hbl hcx hb', one_cells hx2 hbl2 hcy hb', hb'⟩
                  have hxl := HIL.out x hxr
                  have HP := fun w' => plain5_any x Bx dx w'
                  have HS := fun w' (hb' : Below wr.heap.size wr w') => same_eq x Ax Bx cx dx w' (hA.below hb') (hB.below hb') (by omega)
                  simp only [rowV] at HS HP
                  have HBB := Lib.hid hb
                  clear hcx hcy hx1 hx2 hA hB r4 r3 hb
                  go_wp2
                  go_region_held3 (fun w' => (w'.cell? ⟨b1, o1 + k * 7, none⟩ = some (.int .i32 x.fr) ∧ w'.cell? ⟨b1, o1 + k * 7 + 1, none⟩ = some (.int .i32 x.up) ∧ w'.cell? ⟨b1, o1 + k * 7 + 2, none⟩ = some (.string (mk8 x.nm)) ∧ w'.cell? ⟨b1, o1 + k * 7 + 3, none⟩ = some (.string (mk8 x.ct)) ∧ w'.cell? ⟨b1, o1 + k * 7 + 4, none⟩ = some (.int .i64 x.cl) ∧ w'.cell? ⟨b1, o1 + k * 7 + 5, none⟩ = some (.string (mk8 x.kd)) ∧ w'.cell? ⟨b1, o1 + k * 7 + 6, none⟩ = some (.slice Ax x.il.length cx)) ∧ (w'.cell? ⟨b2, o2 + k * 7, none⟩ = some (.int .i32 x.fr) ∧ w'.cell? ⟨b2, o2 + k * 7 + 1, none⟩ = some (.int .i32 x.up) ∧ w'.cell? ⟨b2, o2 + k * 7 + 2, none⟩ = some (.string (mk8 x.nm)) ∧ w'.cell? ⟨b2, o2 + k * 7 + 3, none⟩ = some (.string (mk8 x.ct)) ∧ w'.cell? ⟨b2, o2 + k * 7 + 4, none⟩ = some (.int .i64 x.cl) ∧ w'.cell? ⟨b2, o2 + k * 7 + 5, none⟩ = some (.string (mk8 x.kd)) ∧ w'.cell? ⟨b2, o2 + k * 7 + 6, none⟩ = some (.slice Bx x.il.length dx)) ∧ Below wr.heap.size wr w') (first | exact MK _ (Drew.to ⟨1, rfl⟩) | assumption | (refine keep14 MK ?_ hb5; assumption) | (refine keep14 MK ?_ hb6; assumption))
                    (first
                      | (go_at_call 38; refine (HP _).mono ?_; rintro e w5 ⟨rfl, hb5⟩)
                      | (go_at_call 37; refine (HS _ (keepB MK ?_)).mono ?_; assumption; rintro e w6 ⟨rfl, hb6⟩))
                  all_goals
                    have hb7 : (w6.cell? ⟨b1, o1 + k * 7, none⟩ = some (.int .i32 x.fr) ∧ w6.cell? ⟨b1, o1 + k * 7 + 1, none⟩ = some (.int .i32 x.up) ∧ w6.cell? ⟨b1, o1 + k * 7 + 2, none⟩ = some (.string (mk8 x.nm)) ∧ w6.cell? ⟨b1, o1 + k * 7 + 3, none⟩ = some (.string (mk8 x.ct)) ∧ w6.cell? ⟨b1, o1 + k * 7 + 4, none⟩ = some (.int .i64 x.cl) ∧ w6.cell? ⟨b1, o1 + k * 7 + 5, none⟩ = some (.string (mk8 x.kd)) ∧ w6.cell? ⟨b1, o1 + k * 7 + 6, none⟩ = some (.slice Ax x.il.length cx)) ∧ (w6.cell? ⟨b2, o2 + k * 7, none⟩ = some (.int .i32 x.fr) ∧ w6.cell? ⟨b2, o2 + k * 7 + 1, none⟩ = some (.int .i32 x.up) ∧ w6.cell? ⟨b2, o2 + k * 7 + 2, none⟩ = some (.string (mk8 x.nm)) ∧ w6.cell? ⟨b2, o2 + k * 7 + 3, none⟩ = some (.string (mk8 x.ct)) ∧ w6.cell? ⟨b2, o2 + k * 7 + 4, none⟩ = some (.int .i64 x.cl) ∧ w6.cell? ⟨b2, o2 + k * 7 + 5, none⟩ = some (.string (mk8 x.kd)) ∧ w6.cell? ⟨b2, o2 + k * 7 + 6, none⟩ = some (.slice Bx x.il.length dx)) ∧ Below wr.heap.size wr w6 := by assumption
                    have hb8 := HBB.out.trans (hb7.2.2.mono HBB.out.size)
                    clear HS HP hb7 MK
                    go_wp2
                    go_roundw
                    case rel => exact ⟨k + 1, by omega, by go_num, hb8⟩
                    case measure => simp [intOf]; omega
                · have hi : (N : Int) ≤ (k : Int) := by omega
                  have hbx := below_then HK.out.2.2.1 hb
                  go_wp2_with fail
                  refine (awake5_any _ (hE4.below hb)).mono ?_
                  rintro e w21 ⟨rfl, hbn⟩
                  go_wp2
                  go_returns
                  exact ⟨rfl, below_then hbx hbn⟩
            · rcases Nat.eq_zero_or_pos m2 with hz | h2p
              · subst hz
                rw [Nat.add_zero] at hl
                subst hl
                have h1i : (0 : Int) < (m3 : Int) := by omega
                go_wp2
                go_quiet (fail)
                generalize hWW : w3.drewN nq = W at *
                have hdW : Below w3.heap.size w3 W := by rw [← hWW]; exact below_drewN _ _ _
                have hown := (HN.out.1.below hdW).own
                rw [HG1.out] at hown
                have hrd2 := (HN.out.2.1.below hdW).rd.cells
                rw [HG2.out] at hrd2
                have hone := Vs_one os2
                have h63 : m3 + 0 ≤ 1099511627776 := by omega
                have hby : 88 ≤ 128 := by omega
                have hbase : w.heap.size ≤ W.heap.size := Nat.le_trans hzz hdW.size
                have HW := Lib.hid hdW
                clear hWW hdW
                go_wp2_with (at_builtin; refine wpList_appM rowElem _ rfl _ _ rfl w.heap.size rfl hown rfl hrd2 hone h63 hby hbase ?_)
                intro A4 c4 w4 hown4 hg4 _
                have hg4b : W.grownBy w4 (Value.slice A1 os1.length c1).ownBlock := by rw [HG1.out]; exact hg4
                have hown4b : w4.ownsRow w.heap.size 65 7 (.slice A4 (os1.length + os2.length) c4) (os1.length + os2.length) (Vs os1 ++ Vs os2) := by rw [HG1.out, HG2.out]; simpa using hown4
                have r4 := rows_appM (HN.out.1.below HW.out) (HN.out.2.1.below HW.out) hown4b hg4b
                have r3 := (rowsat_kept (HN.out.2.2.1.below HW.out) hg4b HQ.out).rd
                have hb4 : Below w.heap.size w w4 := (HN.out.2.2.2.trans (HW.out.mono hzz)).grown hg4 hbase (fun j hj => (hown.lt j hj).1)
                have hm4 : (os1 ++ os2).map (·.1) = c := by rw [List.map_append, HO1.out, HO2.out, HC.out]
                have hm3 : os3.map (·.1) = c := HO3.out
                have hE4 : Env w4 := hE.below hb4
                have hlA : (os1 ++ os2).length = m3 := by rw [List.length_append, HG1.out, HG2.out]; simp
                have hlB : os3.length = m3 := HG3.out
                clear hown hrd2 hone h63 hby hbase hown4 hg4 hown4b hg4b HN HQ HW HO1 HO2 HO3 HG1 HG2 HG3 HL1 HL2 HL3 hE hE3
                have hN1 : m3 ≤ 8192 := by omega
                generalize hNN : m3 = N at *
                have HK := Lib.hid (And.intro r4 (And.intro r3 (And.intro hb4 (And.intro hm4 (And.intro hm3 (And.intro hlA hlB))))))
                have hneN : ((N : Int) != (N : Int)) = false := by simp
                clear r4 r3 hb4 hm4 hm3 hlA hlB hNN
                go_wp2
                go_loopw [14] (fun i wr => ∃ k : Nat, k ≤ N ∧ i = .int .i64 k ∧ Below w4.heap.size w4 wr) (fun i _ => N - (intOf i).toNat)
                case atStart => exact ⟨0, Nat.zero_le _, rfl, Below.refl _ _⟩
                case round =>
                  obtain ⟨k, hk, rfl, hb⟩ := hrel
                  by_cases hlt : k < N
                  · obtain ⟨x, Ax, cx, Bx, dx, hx1, hx2, hxr⟩ := get_same HK.out.2.2.2.1 HK.out.2.2.2.2.1 (k := k) (by rw [HK.out.2.2.2.2.2.1]; exact hlt)
                    have hi : (k : Int) < (N : Int) := by omega
                    have r4 := HK.out.1.below hb
                    have r3 := HK.out.2.1.below hb
                    have hA := r4.into _ (List.mem_of_getElem? hx1)
                    have hB := r3.into _ (List.mem_of_getElem? hx2)
                    obtain ⟨b1, o1, rfl, hbl, hcx⟩ := r4.at_ (by rw [HK.out.2.2.2.2.2.1]; omega)
                    obtain ⟨b2, o2, rfl, hbl2, hcy⟩ := r3.at_ (by rw [HK.out.2.2.2.2.2.2]; omega)
                    have MK : ∀ w', Below wr.heap.size wr w' → (w'.cell? ⟨b1, o1 + k * 7, none⟩ = some (.int .i32 x.fr) ∧ w'.cell? ⟨b1, o1 + k * 7 + 1, none⟩ = some (.int .i32 x.up) ∧ w'.cell? ⟨b1, o1 + k * 7 + 2, none⟩ = some (.string (mk8 x.nm)) ∧ w'.cell? ⟨b1, o1 + k * 7 + 3, none⟩ = some (.string (mk8 x.ct)) ∧ w'.cell? ⟨b1, o1 + k * 7 + 4, none⟩ = some (.int .i64 x.cl) ∧ w'.cell? ⟨b1, o1 + k * 7 + 5, none⟩ = some (.string (mk8 x.kd)) ∧ w'.cell? ⟨b1, o1 + k * 7 + 6, none⟩ = some (.slice Ax x.il.length cx)) ∧ (w'.cell? ⟨b2, o2 + k * 7, none⟩ = some (.int .i32 x.fr) ∧ w'.cell? ⟨b2, o2 + k * 7 + 1, none⟩ = some (.int .i32 x.up) ∧ w'.cell? ⟨b2, o2 + k * 7 + 2, none⟩ = some (.string (mk8 x.nm)) ∧ w'.cell? ⟨b2, o2 + k * 7 + 3, none⟩ = some (.string (mk8 x.ct)) ∧ w'.cell? ⟨b2, o2 + k * 7 + 4, none⟩ = some (.int .i64 x.cl) ∧ w'.cell? ⟨b2, o2 + k * 7 + 5, none⟩ = some (.string (mk8 x.kd)) ∧ w'.cell? ⟨b2, o2 + k * 7 + 6, none⟩ = some (.slice Bx x.il.length dx)) ∧ Below wr.heap.size wr w' := fun w' hb' => ⟨one_cells hx1 hbl hcx hb', one_cells hx2 hbl2 hcy hb', hb'⟩
                    have hxl := HIL.out x hxr
                    have HP := fun w' => plain5_any x Bx dx w'
                    have HS := fun w' (hb' : Below wr.heap.size wr w') => same_eq x Ax Bx cx dx w' (hA.below hb') (hB.below hb') (by omega)
                    simp only [rowV] at HS HP
                    have HBB := Lib.hid hb
                    clear hcx hcy hx1 hx2 hA hB r4 r3 hb
                    go_wp2
                    go_region_held3 (fun w' => (w'.cell? ⟨b1, o1 + k * 7, none⟩ = some (.int .i32 x.fr) ∧ w'.cell? ⟨b1, o1 + k * 7 + 1, none⟩ = some (.int .i32 x.up) ∧ w'.cell? ⟨b1, o1 + k * 7 + 2, none⟩ = some (.string (mk8 x.nm)) ∧ w'.cell? ⟨b1, o1 + k * 7 + 3, none⟩ = some (.string (mk8 x.ct)) ∧ w'.cell? ⟨b1, o1 + k * 7 + 4, none⟩ = some (.int .i64 x.cl) ∧ w'.cell? ⟨b1, o1 + k * 7 + 5, none⟩ = some (.string (mk8 x.kd)) ∧ w'.cell? ⟨b1, o1 + k * 7 + 6, none⟩ = some (.slice Ax x.il.length cx)) ∧ (w'.cell? ⟨b2, o2 + k * 7, none⟩ = some (.int .i32 x.fr) ∧ w'.cell? ⟨b2, o2 + k * 7 + 1, none⟩ = some (.int .i32 x.up) ∧ w'.cell? ⟨b2, o2 + k * 7 + 2, none⟩ = some (.string (mk8 x.nm)) ∧ w'.cell? ⟨b2, o2 + k * 7 + 3, none⟩ = some (.string (mk8 x.ct)) ∧ w'.cell? ⟨b2, o2 + k * 7 + 4, none⟩ = some (.int .i64 x.cl) ∧ w'.cell? ⟨b2, o2 + k * 7 + 5, none⟩ = some (.string (mk8 x.kd)) ∧ w'.cell? ⟨b2, o2 + k * 7 + 6, none⟩ = some (.slice Bx x.il.length dx)) ∧ Below wr.heap.size wr w') (first | exact MK _ (Drew.to ⟨1, rfl⟩) | assumption | (refine keep14 MK ?_ hb5; assumption) | (refine keep14 MK ?_ hb6; assumption))
                      (first
                        | (go_at_call 38; refine (HP _).mono ?_; rintro e w5 ⟨rfl, hb5⟩)
                        | (go_at_call 37; refine (HS _ (keepB MK ?_)).mono ?_; assumption; rintro e w6 ⟨rfl, hb6⟩))
                    all_goals
                      have hb7 : (w6.cell? ⟨b1, o1 + k * 7, none⟩ = some (.int .i32 x.fr) ∧ w6.cell? ⟨b1, o1 + k * 7 + 1, none⟩ = some (.int .i32 x.up) ∧ w6.cell? ⟨b1, o1 + k * 7 + 2, none⟩ = some (.string (mk8 x.nm)) ∧ w6.cell? ⟨b1, o1 + k * 7 + 3, none⟩ = some (.string (mk8 x.ct)) ∧ w6.cell? ⟨b1, o1 + k * 7 + 4, none⟩ = some (.int .i64 x.cl) ∧ w6.cell? ⟨b1, o1 + k * 7 + 5, none⟩ = some (.string (mk8 x.kd)) ∧ w6.cell? ⟨b1, o1 + k * 7 + 6, none⟩ = some (.slice Ax x.il.length cx)) ∧ (w6.cell? ⟨b2, o2 + k * 7, none⟩ = some (.int .i32 x.fr) ∧ w6.cell? ⟨b2, o2 + k * 7 + 1, none⟩ = some (.int .i32 x.up) ∧ w6.cell? ⟨b2, o2 + k * 7 + 2, none⟩ = some (.string (mk8 x.nm)) ∧ w6.cell? ⟨b2, o2 + k * 7 + 3, none⟩ = some (.string (mk8 x.ct)) ∧ w6.cell? ⟨b2, o2 + k * 7 + 4, none⟩ = some (.int .i64 x.cl) ∧ w6.cell? ⟨b2, o2 + k * 7 + 5, none⟩ = some (.string (mk8 x.kd)) ∧ w6.cell? ⟨b2, o2 + k * 7 + 6, none⟩ = some (.slice Bx x.il.length dx)) ∧ Below wr.heap.size wr w6 := by assumption
                      have hb8 := HBB.out.trans (hb7.2.2.mono HBB.out.size)
                      clear HS HP hb7 MK
                      go_wp2
                      go_roundw
                      case rel => exact ⟨k + 1, by omega, by go_num, hb8⟩
                      case measure => simp [intOf]; omega
                  · have hi : (N : Int) ≤ (k : Int) := by omega
                    have hbx := below_then HK.out.2.2.1 hb
                    go_wp2_with fail
                    refine (awake5_any _ (hE4.below hb)).mono ?_
                    rintro e w21 ⟨rfl, hbn⟩
                    go_wp2
                    go_returns
                    exact ⟨rfl, below_then hbx hbn⟩
              · subst hl
                obtain ⟨x, m, hb, hx⟩ : ∃ x m, b = x :: m ∧ lastUp a < x.fr := by
                  rcases ho with h | h | h
                  · rw [HL1.out, h] at h1p; simp at h1p
                  · rw [HL2.out, h] at h2p; simp at h2p
                  · exact h
                have r1 := HN.out.1.rd
                have r2 := HN.out.2.1.rd
                obtain ⟨bb, ob, hbe, hbl, hcy⟩ := r2.at_ (by rw [HG2.out]; exact h2p)
                obtain ⟨ba, oa, hae, hal, hcx⟩ := r1.at_ (by rw [HG1.out]; exact h1p)
                obtain ⟨Bx, dx, hx0⟩ := head_get (HO2.out.trans hb)
                obtain ⟨z, Az, cz, hz0, hzu⟩ := last_get HO1.out (by rw [HG1.out]; exact h1p)
                rw [hzu] at hx
                obtain ⟨y0, _⟩ := row_cells hx0 hcy
                obtain ⟨_, x1, _⟩ := row_cells hz0 hcx
                rw [Nat.zero_mul, Nat.add_zero] at y0
                rw [HG1.out] at x1
                have hw1 : IntKind.i64.wrap ((m1 : Int) - 1) = ((m1 - 1 : Nat) : Int) := by rw [IntWalk.i64_in _ (by omega)]; omega
                have hlt : ((m1 - 1 : Nat) : Int) < (m1 : Int) := by omega
                have h1i : (0 : Int) < (m1 : Int) := by omega
                have h2i : (0 : Int) < (m2 : Int) := by omega
                subst hbe
                subst hae
                clear hcx hcy hx0 hz0 r1 r2 hb hzu hbl hal ho
                go_wp2
                go_quiet (fail)
                clear y0 x1 hw1 hlt
                generalize hWW : w3.drewN nq = W at *
                have hdW : Below w3.heap.size w3 W := by rw [← hWW]; exact below_drewN _ _ _
                have hown := (HN.out.1.below hdW).own
                rw [HG1.out] at hown
                have hrd2 := (HN.out.2.1.below hdW).rd.cells
                rw [HG2.out] at hrd2
                have hone := Vs_one os2
                have h63 : m1 + m2 ≤ 1099511627776 := by omega
                have hby : 88 ≤ 128 := by omega
                have hbase : w.heap.size ≤ W.heap.size := Nat.le_trans hzz hdW.size
                have HW := Lib.hid hdW
                clear hWW hdW
                go_wp2_with (at_builtin; refine wpList_appM rowElem _ rfl _ _ rfl w.heap.size rfl hown rfl hrd2 hone h63 hby hbase ?_)
                intro A4 c4 w4 hown4 hg4 _
                have hg4b : W.grownBy w4 (Value.slice (some ⟨ba, oa, none⟩) os1.length c1).ownBlock := by rw [HG1.out]; exact hg4
                have hown4b : w4.ownsRow w.heap.size 65 7 (.slice A4 (os1.length + os2.length) c4) (os1.length + os2.length) (Vs os1 ++ Vs os2) := by rw [HG1.out, HG2.out]; simpa using hown4
                have r4 := rows_appM (HN.out.1.below HW.out) (HN.out.2.1.below HW.out) hown4b hg4b
                have r3 := (rowsat_kept (HN.out.2.2.1.below HW.out) hg4b HQ.out).rd
                have hb4 : Below w.heap.size w w4 := (HN.out.2.2.2.trans (HW.out.mono hzz)).grown hg4 hbase (fun j hj => (hown.lt j hj).1)
                have hm4 : (os1 ++ os2).map (·.1) = c := by rw [List.map_append, HO1.out, HO2.out, HC.out]
                have hm3 : os3.map (·.1) = c := HO3.out
                have hE4 : Env w4 := hE.below hb4
                have hlA : (os1 ++ os2).length = m1 + m2 := by rw [List.length_append, HG1.out, HG2.out]
                have hlB : os3.length = m1 + m2 := HG3.out
                clear hown hrd2 hone h63 hby hbase hown4 hg4 hown4b hg4b HN HQ HW HO1 HO2 HO3 HG1 HG2 HG3 HL1 HL2 HL3 hE hE3
                have hN1 : m1 + m2 ≤ 8192 := by omega
                generalize hNN : m1 + m2 = N at *
                have HK := Lib.hid (And.intro r4 (And.intro r3 (And.intro hb4 (And.intro hm4 (And.intro hm3 (And.intro hlA hlB))))))
                have hneN : ((N : Int) != (N : Int)) = false := by simp
                clear r4 r3 hb4 hm4 hm3 hlA hlB hNN
                go_wp2
                go_loopw [14] (fun i wr => ∃ k : Nat, k ≤ N ∧ i = .int .i64 k ∧ Below w4.heap.size w4 wr) (fun i _ => N - (intOf i).toNat)
                case atStart => exact ⟨0, Nat.zero_le _, rfl, Below.refl _ _⟩
                case round =>
                  obtain ⟨k, hk, rfl, hb⟩ := hrel
                  by_cases hlt : k < N
                  · obtain ⟨x, Ax, cx, Bx, dx, hx1, hx2, hxr⟩ := get_same HK.out.2.2.2.1 HK.out.2.2.2.2.1 (k := k) (by rw [HK.out.2.2.2.2.2.1]; exact hlt)
                    have hi : (k : Int) < (N : Int) := by omega
                    have r4 := HK.out.1.below hb
                    have r3 := HK.out.2.1.below hb
                    have hA := r4.into _ (List.mem_of_getElem? hx1)
                    have hB := r3.into _ (List.mem_of_getElem? hx2)
                    obtain ⟨b1, o1, rfl, hbl, hcx⟩ := r4.at_ (by rw [HK.out.2.2.2.2.2.1]; omega)
                    obtain ⟨b2, o2, rfl, hbl2, hcy⟩ := r3.at_ (by rw [HK.out.2.2.2.2.2.2]; omega)
                    have MK : ∀ w', Below wr.heap.size wr w' → (w'.cell? ⟨b1, o1 + k * 7, none⟩ = some (.int .i32 x.fr) ∧ w'.cell? ⟨b1, o1 + k * 7 + 1, none⟩ = some (.int .i32 x.up) ∧ w'.cell? ⟨b1, o1 + k * 7 + 2, none⟩ = some (.string (mk8 x.nm)) ∧ w'.cell? ⟨b1, o1 + k * 7 + 3, none⟩ = some (.string (mk8 x.ct)) ∧ w'.cell? ⟨b1, o1 + k * 7 + 4, none⟩ = some (.int .i64 x.cl) ∧ w'.cell? ⟨b1, o1 + k * 7 + 5, none⟩ = some (.string (mk8 x.kd)) ∧ w'.cell? ⟨b1, o1 + k * 7 + 6, none⟩ = some (.slice Ax x.il.length cx)) ∧ (w'.cell? ⟨b2, o2 + k * 7, none⟩ = some (.int .i32 x.fr) ∧ w'.cell? ⟨b2, o2 + k * 7 + 1, none⟩ = some (.int .i32 x.up) ∧ w'.cell? ⟨b2, o2 + k * 7 + 2, none⟩ = some (.string (mk8 x.nm)) ∧ w'.cell? ⟨b2, o2 + k * 7 + 3, none⟩ = some (.string (mk8 x.ct)) ∧ w'.cell? ⟨b2, o2 + k * 7 + 4, none⟩ = some (.int .i64 x.cl) ∧ w'.cell? ⟨b2, o2 + k * 7 + 5, none⟩ = some (.string (mk8 x.kd)) ∧ w'.cell? ⟨b2, o2 + k * 7 + 6, none⟩ = some (.slice Bx x.il.length dx)) ∧ Below wr.heap.size wr w' := fun w' hb' => ⟨one_cells hx1 hbl hcx hb', one_cells hx2 hbl2 hcy hb', hb'⟩
                    have hxl := HIL.out x hxr
                    have HP := fun w' => plain5_any x Bx dx w'
                    have HS := fun w' (hb' : Below wr.heap.size wr w') => same_eq x Ax Bx cx dx w' (hA.below hb') (hB.below hb') (by omega)
                    simp only [rowV] at HS HP
                    have HBB := Lib.hid hb
                    clear hcx hcy hx1 hx2 hA hB r4 r3 hb
                    go_wp2
                    go_region_held3 (fun w' => (w'.cell? ⟨b1, o1 + k * 7, none⟩ = some (.int .i32 x.fr) ∧ w'.cell? ⟨b1, o1 + k * 7 + 1, none⟩ = some (.int .i32 x.up) ∧ w'.cell? ⟨b1, o1 + k * 7 + 2, none⟩ = some (.string (mk8 x.nm)) ∧ w'.cell? ⟨b1, o1 + k * 7 + 3, none⟩ = some (.string (mk8 x.ct)) ∧ w'.cell? ⟨b1, o1 + k * 7 + 4, none⟩ = some (.int .i64 x.cl) ∧ w'.cell? ⟨b1, o1 + k * 7 + 5, none⟩ = some (.string (mk8 x.kd)) ∧ w'.cell? ⟨b1, o1 + k * 7 + 6, none⟩ = some (.slice Ax x.il.length cx)) ∧ (w'.cell? ⟨b2, o2 + k * 7, none⟩ = some (.int .i32 x.fr) ∧ w'.cell? ⟨b2, o2 + k * 7 + 1, none⟩ = some (.int .i32 x.up) ∧ w'.cell? ⟨b2, o2 + k * 7 + 2, none⟩ = some (.string (mk8 x.nm)) ∧ w'.cell? ⟨b2, o2 + k * 7 + 3, none⟩ = some (.string (mk8 x.ct)) ∧ w'.cell? ⟨b2, o2 + k * 7 + 4, none⟩ = some (.int .i64 x.cl) ∧ w'.cell? ⟨b2, o2 + k * 7 + 5, none⟩ = some (.string (mk8 x.kd)) ∧ w'.cell? ⟨b2, o2 + k * 7 + 6, none⟩ = some (.slice Bx x.il.length dx)) ∧ Below wr.heap.size wr w') (first | exact MK _ (Drew.to ⟨1, rfl⟩) | assumption | (refine keep14 MK ?_ hb5; assumption) | (refine keep14 MK ?_ hb6; assumption))
                      (first
                        | (go_at_call 38; refine (HP _).mono ?_; rintro e w5 ⟨rfl, hb5⟩)
                        | (go_at_call 37; refine (HS _ (keepB MK ?_)).mono ?_; assumption; rintro e w6 ⟨rfl, hb6⟩))
                    all_goals
                      have hb7 : (w6.cell? ⟨b1, o1 + k * 7, none⟩ = some (.int .i32 x.fr) ∧ w6.cell? ⟨b1, o1 + k * 7 + 1, none⟩ = some (.int .i32 x.up) ∧ w6.cell? ⟨b1, o1 + k * 7 + 2, none⟩ = some (.string (mk8 x.nm)) ∧ w6.cell? ⟨b1, o1 + k * 7 + 3, none⟩ = some (.string (mk8 x.ct)) ∧ w6.cell? ⟨b1, o1 + k * 7 + 4, none⟩ = some (.int .i64 x.cl) ∧ w6.cell? ⟨b1, o1 + k * 7 + 5, none⟩ = some (.string (mk8 x.kd)) ∧ w6.cell? ⟨b1, o1 + k * 7 + 6, none⟩ = some (.slice Ax x.il.length cx)) ∧ (w6.cell? ⟨b2, o2 + k * 7, none⟩ = some (.int .i32 x.fr) ∧ w6.cell? ⟨b2, o2 + k * 7 + 1, none⟩ = some (.int .i32 x.up) ∧ w6.cell? ⟨b2, o2 + k * 7 + 2, none⟩ = some (.string (mk8 x.nm)) ∧ w6.cell? ⟨b2, o2 + k * 7 + 3, none⟩ = some (.string (mk8 x.ct)) ∧ w6.cell? ⟨b2, o2 + k * 7 + 4, none⟩ = some (.int .i64 x.cl) ∧ w6.cell? ⟨b2, o2 + k * 7 + 5, none⟩ = some (.string (mk8 x.kd)) ∧ w6.cell? ⟨b2, o2 + k * 7 + 6, none⟩ = some (.slice Bx x.il.length dx)) ∧ Below wr.heap.size wr w6 := by assumption
                      have hb8 := HBB.out.trans (hb7.2.2.mono HBB.out.size)
                      clear HS HP hb7 MK
                      go_wp2
                      go_roundw
                      case rel => exact ⟨k + 1, by omega, by go_num, hb8⟩
                      case measure => simp [intOf]; omega
                  · have hi : (N : Int) ≤ (k : Int) := by omega
                    have hbx := below_then HK.out.2.2.1 hb
                    go_wp2_with fail
                    refine (awake5_any _ (hE4.below hb)).mono ?_
                    rintro e w21 ⟨rfl, hbn⟩
                    go_wp2
                    go_returns
                    exact ⟨rfl, below_then hbx hbn⟩
        · have hne : (e2 != 0) = true := by simpa using he2
          have hE2 := hE.below HM.out.2.2
          go_wp2_with fail
          refine (awake5_any _ hE2).mono ?_
          rintro e w3 ⟨rfl, hb3⟩
          go_wp2
          go_returns
          exact ⟨rfl, below_then HM.out.2.2 hb3⟩
      · have hne : (e1 != 0) = true := by simpa using he1
        have hE2 := hE.below HM.out.2.2
        go_wp2_with fail
        refine (awake5_any _ hE2).mono ?_
        rintro e w3 ⟨rfl, hb3⟩
        go_wp2
        go_returns
        exact ⟨rfl, below_then HM.out.2.2 hb3⟩
end Go.Proofs.YtagncjnbabdbmaaDoor
end
