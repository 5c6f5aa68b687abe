/- A thing is dropped: memory, and the code. -/
import Derived.Test.YthfakejhkbelhaaDoorNmsF
set_option linter.unusedSimpArgs false
set_option linter.unusedVariables false
namespace Go.Proofs.YthfakejhkbelhaaDoor
open Go.RowKit

theorem ent_zero : ∀ w, (zeroValue 71).run Tryd.prog w = .ok (.agg #[.int .i64 0, .string ByteArray.empty, .slice none 0 0]) w := fun w => by kernel_rfl
theorem run_clear1 {P : Program} (w : World) (t e ty : TypeId) (z : Value) (zs : List Value) (ht : P.underlying t = some (.slice e)) (hv : ∀ w, (zeroValue e).run P w = .ok z w) (hzc : (Builtin.zeroCells z.cells 1).toList = zs) (h1 : ∀ v ∈ zs, v.oneCell' = true) (b o c : Nat)
    (hc : ∀ j, j < zs.length → (w.cell? ⟨b, o + j, none⟩).isSome = true) (hf : ∀ j, j < zs.length → w.frozen? ⟨b, o + j, none⟩ = false) :
    (Builtin.clear_ #[t] ty #[.slice (some ⟨b, o, none⟩) 1 c]).run P w = .ok (.tuple #[]) (w.setCells b o zs) := by
  have hst := run_storeCells_cells (P := P) b o zs 0 w (by simpa using hc) (by simpa using hf) h1
  simp only [Nat.add_zero] at hst
  simp [Builtin.clear_, run_underlying ht, hv, hzc, hst]
theorem run_clear3 (w : World) (ty : TypeId) (b o c : Nat) (hc : ∀ j, j < 3 → (w.cell? ⟨b, o + j, none⟩).isSome = true) (hf : ∀ j, j < 3 → w.frozen? ⟨b, o + j, none⟩ = false) :
    (Builtin.clear_ #[58] ty #[.slice (some ⟨b, o, none⟩) 1 c]).run Tryd.prog w = .ok (.tuple #[]) (w.setCells b o [.int .i64 0, .string ByteArray.empty, .slice none 0 0]) :=
  run_clear1 w _ _ ty _ _ Tryd.underlying58 ent_zero (by kernel_rfl) (by intro v hv; simp at hv; rcases hv with rfl | rfl | rfl <;> rfl) b o c hc hf
/-- A row stands behind a store beyond it. -/
theorem own_beyond {w : World} {B k n c g j : Nat} {e : TypeId} {xs : List Value} (h : w.ownsRow B e k (.slice (some ⟨g, 0, none⟩) n c) n xs) (hj : n * k ≤ j) (v : Value) : (w.setCell ⟨g, j, none⟩ v).ownsRow B e k (.slice (some ⟨g, 0, none⟩) n c) n xs := by
  refine ⟨h.1, ?_⟩
  rcases h.2 with ⟨hh, _⟩ | ⟨g', cap, cur, hv, hB, hh, hn, hm, hs, ht⟩
  · simp at hh
  · simp only [Value.slice.injEq, Option.some.injEq, Addr.mk.injEq, and_true, true_and] at hv
    obtain ⟨rfl, rfl⟩ := hv
    refine .inr ⟨g, c, cur.setIfInBounds j v, rfl, hB, box_set hh j v, hn, hm, by rw [Array.size_setIfInBounds]; exact hs, ?_⟩
    rw [← ht, Array.toList_setIfInBounds]
    apply List.ext_getElem?
    intro i
    rw [List.getElem?_take, List.getElem?_take]
    split
    · rw [List.getElem?_set_ne (by omega)]
    · rfl
theorem own_beyonds {w : World} {B n c g o : Nat} {e : TypeId} {xs : List Value} (h : w.ownsRow B e 3 (.slice (some ⟨g, 0, none⟩) n c) n xs) (ho : n * 3 ≤ o) (a b d : Value) : (w.setCells g o [a, b, d]).ownsRow B e 3 (.slice (some ⟨g, 0, none⟩) n c) n xs := by
  have := own_beyond (own_beyond (own_beyond h ho a) (show n * 3 ≤ o + 1 by omega) b) (show n * 3 ≤ o + 2 by omega) d
  simpa [World.setCells] using this
/-- The first of a row. -/
theorem own_pre {w : World} {B k n c g i : Nat} {e : TypeId} {xs ys : List Value} (h : w.ownsRow B e k (.slice (some ⟨g, 0, none⟩) n c) n (xs ++ ys)) (hi : i ≤ n) (hx : xs.length = i * k) : w.ownsRow B e k (.slice (some ⟨g, 0, none⟩) i c) i xs := by
  refine ⟨hx, ?_⟩
  rcases h.2 with ⟨hh, _⟩ | ⟨g', cap, cur, hv, hB, hh, hn, hm, hs, ht⟩
  · simp at hh
  · simp only [Value.slice.injEq, Option.some.injEq, Addr.mk.injEq, and_true, true_and] at hv
    obtain ⟨rfl, rfl⟩ := hv
    refine .inr ⟨g, c, cur, rfl, hB, hh, by omega, hm, hs, ?_⟩
    have hle : i * k ≤ n * k := Nat.mul_le_mul_right _ hi
    have h2 := congrArg (List.take (i * k)) ht
    rw [List.take_take, Nat.min_eq_left hle] at h2
    rw [h2, List.take_append_of_le_length (by omega), List.take_of_length_le (by omega)]
/-- 'append' where there is room, at a step of a region that draws its order. -/
theorem step_fit {P : Program} {t e : TypeId} {z : Value} {k bytes : Nat} (E : ElemK P t e z k bytes) (w : World) {ops : Array Oper} {o : Oper} {a : Act} {K : Act → World → Prop} {Q : Exit → Act → World → Prop} {R : Prop} (hgd : o.guard = none) (s x : Operand)
    (ho : o.op = .call { callee := .builtin .append, args := #[s, x], argTypes := #[t, t] }) (base : Nat)
    {g n c m c2 : Nat} {ad : Addr} {xs news : List Value} (hs : a.eval s = .slice (some ⟨g, 0, none⟩) n c) (hown : w.ownsRow base e k (.slice (some ⟨g, 0, none⟩) n c) n xs) (hx : a.eval x = .slice (some ad) m c2) (hr : RdK w (some ad) m k news) (h1 : ∀ u ∈ news, u.oneCell' = true)
    (hroom : n + m ≤ c)
    (h : ∀ w', w'.ownsRow base e k (.slice (some ⟨g, 0, none⟩) (n + m) c) (n + m) (xs ++ news) → w.grownBy w' (some g) → K (a.put o.dst (.slice (some ⟨g, 0, none⟩) (n + m) c)) w') :
    if Region.wanted o (yielded ops a.tmps) = true then Oper.wp P o a w K Q else R := by
  rw [if_pos (by simp [Region.wanted, hgd])]
  obtain ⟨i, hi, hz0, hz1, hz2⟩ := info_parts E.hi
  have hnews : ∀ j u, news[j]? = some u → w.cell? (ad.add j) = some u := by
    intro j u hu
    have hm : 0 < m := by
      rcases Nat.eq_zero_or_pos m with h0 | h0
      · subst h0
        have := hr.1
        rw [Nat.zero_mul] at this
        rw [List.eq_nil_of_length_eq_zero this] at hu
        simp at hu
      · exact h0
    obtain ⟨b, off, hA, hc⟩ := hr.2 hm
    injection hA with hA
    subst hA
    rw [Addr.add_lit]
    exact hc j u hu
  obtain ⟨w', hrun, h2, h3⟩ := run_append_fits (P := P) w base t o.type e i k E.ht hi hz1 g n c xs hown ad m c2 news hr.1 hnews h1 hroom
  unfold Oper.wp execOp
  simp only [ho, resolve, invoke, builtin, Sem.run_bind, Sem.run_pure, Result.andThen_ok, List.map_toArray, List.map_cons, List.map_nil, hs, hx, hrun]
  exact h w' h2 h3
theorem own_box {w : World} {B k n c g : Nat} {e : TypeId} {xs : List Value} (h : w.ownsRow B e k (.slice (some ⟨g, 0, none⟩) n c) n xs) : ∃ cur, w.heap[g]? = some (.cells cur e (0, 0)) ∧ cur.size = c * k := by
  rcases h.2 with ⟨hh, _⟩ | ⟨g', cap, cur, hv, hB, hh, hn, hm, hs, ht⟩
  · simp at hh
  · simp only [Value.slice.injEq, Option.some.injEq, Addr.mk.injEq, and_true, true_and] at hv
    obtain ⟨rfl, rfl⟩ := hv
    exact ⟨cur, hh, hs⟩
theorem grown_set {w w5 : World} {g j : Nat} (h : w.grownBy w5 (some g)) (v : Value) : w.grownBy (w5.setCell ⟨g, j, none⟩ v) (some g) :=
  ⟨h.os, h.tape, h.output, by have := h.size; simpa [World.setCell] using this, fun k hk hne => by rw [Below.heap_setCell w5 ⟨g, j, none⟩ v k (fun e => hne (by rw [e]))]; exact h.block k hk hne⟩
theorem grown_drew {w w5 : World} {row : Option Nat} (h : w.drew.grownBy w5 row) : w.grownBy w5 row := ⟨h.os, h.tape, h.output, h.size, h.block⟩
theorem grown_sets {w w5 : World} {g : Nat} (h : w.grownBy w5 (some g)) (o : Nat) (a b d : Value) : w.grownBy (w5.setCells g o [a, b, d]) (some g) := by
  have := grown_set (grown_set (grown_set h (j := o) a) (j := o + 1) b) (j := o + 2) d
  simpa [World.setCells] using this
theorem Ts_erase (os : List TA) (i : Nat) : Ts (os.eraseIdx i) = Ts (os.take i) ++ Ts (os.drop (i + 1)) := by
  rw [List.eraseIdx_eq_take_drop_succ, Ts_app]
set_option maxRecDepth 20000 in
set_option maxHeartbeats 4000000 in
theorem edel_any (B g n c i : Nat) (os : List TA) (w : World) (hown : w.ownsRow B 71 3 (.slice (some ⟨g, 0, none⟩) n c) n (Ts os)) (hol : os.length = n) (hi : i < n) (hn : n ≤ 1000000) :
    Calls Tryd.prog 44 #[.slice (some ⟨g, 0, none⟩) n c, .int .i64 i, .int .i64 ((i : Int) + 1)] w fun e w' => e = .returned (.slice (some ⟨g, 0, none⟩) (n - 1 : Nat) c) ∧ w'.ownsRow B 71 3 (.slice (some ⟨g, 0, none⟩) (n - 1) c) (n - 1) (Ts (os.eraseIdx i)) ∧ w.grownBy w' (some g) := by
  have hnc : n ≤ c ∧ c ≤ maxLen := by
    rcases hown.2 with ⟨hh, _⟩ | ⟨g', cap, cur, hv, hB, hh, h1, h2, _⟩
    · simp at hh
    · simp only [Value.slice.injEq, Option.some.injEq, Addr.mk.injEq, and_true, true_and] at hv
      obtain ⟨rfl, rfl⟩ := hv
      exact ⟨h1, h2⟩
  have hml : maxLen = 9223372036854775807 := rfl
  have i1 : (0 : Int) ≤ (i : Int) := by omega
  have i2 : (i : Int) + 1 ≤ (n : Int) := by omega
  have i3 : (n : Int) ≤ (c : Int) := by omega
  have i4 : (i : Int) ≤ (c : Int) := by omega
  have i5 : (i : Int) ≤ (i : Int) + 1 := by omega
  have i6 : (i : Int) + 1 ≤ (c : Int) := by omega
  have hne : ((i : Int) == (i : Int) + 1) = false := by simp; omega
  have hsp : Ts os = Ts (os.take i) ++ Ts (os.drop i) := by rw [← Ts_app, List.take_append_drop]
  have hpre : w.drew.ownsRow B 71 3 (.slice (some ⟨g, 0, none⟩) i c) i (Ts (os.take i)) := own_pre (hsp ▸ hown) (by omega) (by rw [Ts_len, List.length_take]; omega)
  have hrd : RdK w (some ⟨g, 0, none⟩) n 3 (Ts os) := by
    obtain ⟨A', c', hv, _, _, hr⟩ := RdK.of_own hown
    injection hv with h1 _ _
    rw [h1]
    exact hr
  have hsrc : RdK w.drew (some ⟨g, (i + 1) * 3, none⟩) (n - (i + 1)) 3 (Ts (os.drop (i + 1))) := by
    refine ⟨by rw [Ts_len, List.length_drop]; omega, fun _ => ⟨g, (i + 1) * 3, rfl, fun j u hu => ?_⟩⟩
    obtain ⟨b', o', hA, hcell⟩ := hrd.2 (by omega)
    injection hA with hA
    injection hA with hb ho _
    subst hb ho
    have hsp2 : Ts os = Ts (os.take (i + 1)) ++ Ts (os.drop (i + 1)) := by rw [← Ts_app, List.take_append_drop]
    have hl2 : (Ts (os.take (i + 1))).length = (i + 1) * 3 := by rw [Ts_len, List.length_take, Nat.min_eq_left (by omega)]
    have := hcell ((i + 1) * 3 + j) u (by rw [hsp2, List.getElem?_append_right (by omega), hl2, Nat.add_sub_cancel_left]; exact hu)
    rwa [Nat.zero_add] at this
  have hone : ∀ u ∈ Ts (os.drop (i + 1)), u.oneCell' = true := by
    intro u hu
    obtain ⟨y, _, hy⟩ := List.mem_flatMap.1 hu
    exact tC_one y u hy
  go_enter Tryd.func44, Tryd.ntmps44
  go_upto_region 5 with fail
  have i7 : (0 : Int) ≤ (i : Int) + 1 := by omega
  have hlen : i + (n - (i + 1)) = n - 1 := by omega
  by_cases hci : c = i + 1
  · replace hsrc : RdK w.drew (some ⟨g, 0, none⟩) (n - (i + 1)) 3 (Ts (os.drop (i + 1))) := ⟨hsrc.1, fun h => by omega⟩
    refine wp_region_held_drew (S := fun _ => True) (by kernel_rfl) trivial (fun _ => ?_)
    refine wpAnyH_take (i := 0) (v := .slice (some ⟨g, 0, none⟩) n c) rfl (by kernel_rfl) (by kernel_rfl) (by kernel_rfl) (fun _ _ _ h => h) (Or.inl ⟨by kernel_rfl, ?_⟩) trivial ?_
    · intro w hSw
      go_simp
      all_goals try with_reducible rfl
    try simp only [List.getElem_toArray, List.getElem_cons_succ, List.getElem_cons_zero, Act.put, List.setIfInBounds_toArray, List.set_cons_zero, List.set_cons_succ]
    refine wpAnyH_take (i := 1) (v := .int .i64 i) rfl (by kernel_rfl) (by kernel_rfl) (by kernel_rfl) (fun _ _ _ h => h) (Or.inl ⟨by kernel_rfl, ?_⟩) trivial ?_
    · intro w hSw
      go_simp
      all_goals try with_reducible rfl
    try simp only [List.getElem_toArray, List.getElem_cons_succ, List.getElem_cons_zero, Act.put, List.setIfInBounds_toArray, List.set_cons_zero, List.set_cons_succ]
    refine wpAnyH_take (i := 2) (v := .slice (some ⟨g, 0, none⟩) i c) rfl (by kernel_rfl) (by kernel_rfl) (by kernel_rfl) (fun _ _ _ h => h) (Or.inl ⟨by kernel_rfl, ?_⟩) trivial ?_
    · intro w hSw
      go_simp
      all_goals try with_reducible rfl
    try simp only [List.getElem_toArray, List.getElem_cons_succ, List.getElem_cons_zero, Act.put, List.setIfInBounds_toArray, List.set_cons_zero, List.set_cons_succ]
    refine wpAnyH_take (i := 3) (v := .slice (some ⟨g, 0, none⟩) n c) rfl (by kernel_rfl) (by kernel_rfl) (by kernel_rfl) (fun _ _ _ h => h) (Or.inl ⟨by kernel_rfl, ?_⟩) trivial ?_
    · intro w hSw
      go_simp
      all_goals try with_reducible rfl
    try simp only [List.getElem_toArray, List.getElem_cons_succ, List.getElem_cons_zero, Act.put, List.setIfInBounds_toArray, List.set_cons_zero, List.set_cons_succ]
    refine wpAnyH_take (i := 4) (v := .int .i64 ((i : Int) + 1)) rfl (by kernel_rfl) (by kernel_rfl) (by kernel_rfl) (fun _ _ _ h => h) (Or.inl ⟨by kernel_rfl, ?_⟩) trivial ?_
    · intro w hSw
      go_simp
      all_goals try with_reducible rfl
    try simp only [List.getElem_toArray, List.getElem_cons_succ, List.getElem_cons_zero, Act.put, List.setIfInBounds_toArray, List.set_cons_zero, List.set_cons_succ]
    refine wpAnyH_take (i := 5) (v := .slice (some ⟨g, 0, none⟩) (n - (i + 1)) (c - (i + 1))) rfl (by kernel_rfl) (by kernel_rfl) (by kernel_rfl) (fun _ _ _ h => h) (Or.inl ⟨by kernel_rfl, ?_⟩) trivial ?_
    · intro w hSw
      go_simp
      all_goals try with_reducible rfl
    try simp only [List.getElem_toArray, List.getElem_cons_succ, List.getElem_cons_zero, Act.put, List.setIfInBounds_toArray, List.set_cons_zero, List.set_cons_succ]
    refine wpAnyH_ready (rs := [6]) (by kernel_rfl) (by simp) ?_
    refine AllReadyH.cons rfl (fun K hK => ?_) AllReadyH.nil
    refine step_fit (P := Tryd.prog) entElem _ rfl (.tmp 22) (.tmp 25) rfl B rfl hpre rfl hsrc hone (by omega) ?_
    intro w5 hown5 hg5
    refine hK.out _ _ trivial (fun _ => ?_)
    clear hK K
    try simp only [List.getElem_toArray, List.getElem_cons_succ, List.getElem_cons_zero, Act.put, List.setIfInBounds_toArray, List.set_cons_zero, List.set_cons_succ]
    refine wpAnyH_take (i := 7) (v := .slice (some ⟨g, 0, none⟩) (i + (n - (i + 1))) c) rfl (by kernel_rfl) (by kernel_rfl) (by kernel_rfl) (fun _ _ _ h => h) (Or.inl ⟨by kernel_rfl, ?_⟩) trivial ?_
    · intro w hSw
      go_simp
      all_goals try with_reducible rfl
    try simp only [List.getElem_toArray, List.getElem_cons_succ, List.getElem_cons_zero, Act.put, List.setIfInBounds_toArray, List.set_cons_zero, List.set_cons_succ]
    refine wpAnyH_done (by kernel_rfl) ?_ _
    rw [hlen] at hown5 ⊢
    have hTE : Ts (os.take i) ++ Ts (os.drop (i + 1)) = Ts (os.eraseIdx i) := (Ts_erase os i).symm
    rw [hTE] at hown5
    obtain ⟨cur5, hb5, hs5⟩ := own_box hown5
    have hcl : ∀ ty, (Builtin.clear_ #[58] ty #[.slice (some ⟨g, (n - 1) * 3, none⟩) 1 (c - (n - 1))]).run Tryd.prog w5 = .ok (.tuple #[]) (w5.setCells g ((n - 1) * 3) [.int .i64 0, .string ByteArray.empty, .slice none 0 0]) :=
      fun ty => run_clear3 w5 ty g _ _ (fun j hj => by rw [cell_of_row w5 g _ cur5 _ (0, 0) hb5]; simp; omega) (fun j hj => box_frozen hb5 _)
    have hown6 := Lib.hid (own_beyonds hown5 (Nat.le_refl ((n - 1) * 3)) (.int .i64 0) (.string ByteArray.empty) (.slice none 0 0))
    have hg6 := Lib.hid (grown_sets hg5 ((n - 1) * 3) (.int .i64 0) (.string ByteArray.empty) (.slice none 0 0))
    have j1 : (0 : Int) ≤ ((n - 1 : Nat) : Int) := by omega
    have j2 : ((n - 1 : Nat) : Int) ≤ (n : Int) := by omega
    have j3 : ¬ (c = n - 1) := by omega
    have j4 : n - (n - 1) = 1 := by omega
    clear hown5 hg5 hb5 hs5 hTE hci
    go_wp2
    go_returns
    exact ⟨rfl, hown6.out, grown_drew hg6.out⟩
  · refine wp_region_held_drew (S := fun _ => True) (by kernel_rfl) trivial (fun _ => ?_)
    refine wpAnyH_take (i := 0) (v := .slice (some ⟨g, 0, none⟩) n c) rfl (by kernel_rfl) (by kernel_rfl) (by kernel_rfl) (fun _ _ _ h => h) (Or.inl ⟨by kernel_rfl, ?_⟩) trivial ?_
    · intro w hSw
      go_simp
      all_goals try with_reducible rfl
    try simp only [List.getElem_toArray, List.getElem_cons_succ, List.getElem_cons_zero, Act.put, List.setIfInBounds_toArray, List.set_cons_zero, List.set_cons_succ]
    refine wpAnyH_take (i := 1) (v := .int .i64 i) rfl (by kernel_rfl) (by kernel_rfl) (by kernel_rfl) (fun _ _ _ h => h) (Or.inl ⟨by kernel_rfl, ?_⟩) trivial ?_
    · intro w hSw
      go_simp
      all_goals try with_reducible rfl
    try simp only [List.getElem_toArray, List.getElem_cons_succ, List.getElem_cons_zero, Act.put, List.setIfInBounds_toArray, List.set_cons_zero, List.set_cons_succ]
    refine wpAnyH_take (i := 2) (v := .slice (some ⟨g, 0, none⟩) i c) rfl (by kernel_rfl) (by kernel_rfl) (by kernel_rfl) (fun _ _ _ h => h) (Or.inl ⟨by kernel_rfl, ?_⟩) trivial ?_
    · intro w hSw
      go_simp
      all_goals try with_reducible rfl
    try simp only [List.getElem_toArray, List.getElem_cons_succ, List.getElem_cons_zero, Act.put, List.setIfInBounds_toArray, List.set_cons_zero, List.set_cons_succ]
    refine wpAnyH_take (i := 3) (v := .slice (some ⟨g, 0, none⟩) n c) rfl (by kernel_rfl) (by kernel_rfl) (by kernel_rfl) (fun _ _ _ h => h) (Or.inl ⟨by kernel_rfl, ?_⟩) trivial ?_
    · intro w hSw
      go_simp
      all_goals try with_reducible rfl
    try simp only [List.getElem_toArray, List.getElem_cons_succ, List.getElem_cons_zero, Act.put, List.setIfInBounds_toArray, List.set_cons_zero, List.set_cons_succ]
    refine wpAnyH_take (i := 4) (v := .int .i64 ((i : Int) + 1)) rfl (by kernel_rfl) (by kernel_rfl) (by kernel_rfl) (fun _ _ _ h => h) (Or.inl ⟨by kernel_rfl, ?_⟩) trivial ?_
    · intro w hSw
      go_simp
      all_goals try with_reducible rfl
    try simp only [List.getElem_toArray, List.getElem_cons_succ, List.getElem_cons_zero, Act.put, List.setIfInBounds_toArray, List.set_cons_zero, List.set_cons_succ]
    refine wpAnyH_take (i := 5) (v := .slice (some ⟨g, (i + 1) * 3, none⟩) (n - (i + 1)) (c - (i + 1))) rfl (by kernel_rfl) (by kernel_rfl) (by kernel_rfl) (fun _ _ _ h => h) (Or.inl ⟨by kernel_rfl, ?_⟩) trivial ?_
    · intro w hSw
      go_simp
      all_goals try with_reducible rfl
    try simp only [List.getElem_toArray, List.getElem_cons_succ, List.getElem_cons_zero, Act.put, List.setIfInBounds_toArray, List.set_cons_zero, List.set_cons_succ]
    refine wpAnyH_ready (rs := [6]) (by kernel_rfl) (by simp) ?_
    refine AllReadyH.cons rfl (fun K hK => ?_) AllReadyH.nil
    refine step_fit (P := Tryd.prog) entElem _ rfl (.tmp 22) (.tmp 25) rfl B rfl hpre rfl hsrc hone (by omega) ?_
    intro w5 hown5 hg5
    refine hK.out _ _ trivial (fun _ => ?_)
    clear hK K
    try simp only [List.getElem_toArray, List.getElem_cons_succ, List.getElem_cons_zero, Act.put, List.setIfInBounds_toArray, List.set_cons_zero, List.set_cons_succ]
    refine wpAnyH_take (i := 7) (v := .slice (some ⟨g, 0, none⟩) (i + (n - (i + 1))) c) rfl (by kernel_rfl) (by kernel_rfl) (by kernel_rfl) (fun _ _ _ h => h) (Or.inl ⟨by kernel_rfl, ?_⟩) trivial ?_
    · intro w hSw
      go_simp
      all_goals try with_reducible rfl
    try simp only [List.getElem_toArray, List.getElem_cons_succ, List.getElem_cons_zero, Act.put, List.setIfInBounds_toArray, List.set_cons_zero, List.set_cons_succ]
    refine wpAnyH_done (by kernel_rfl) ?_ _
    rw [hlen] at hown5 ⊢
    have hTE : Ts (os.take i) ++ Ts (os.drop (i + 1)) = Ts (os.eraseIdx i) := (Ts_erase os i).symm
    rw [hTE] at hown5
    obtain ⟨cur5, hb5, hs5⟩ := own_box hown5
    have hcl : ∀ ty, (Builtin.clear_ #[58] ty #[.slice (some ⟨g, (n - 1) * 3, none⟩) 1 (c - (n - 1))]).run Tryd.prog w5 = .ok (.tuple #[]) (w5.setCells g ((n - 1) * 3) [.int .i64 0, .string ByteArray.empty, .slice none 0 0]) :=
      fun ty => run_clear3 w5 ty g _ _ (fun j hj => by rw [cell_of_row w5 g _ cur5 _ (0, 0) hb5]; simp; omega) (fun j hj => box_frozen hb5 _)
    have hown6 := Lib.hid (own_beyonds hown5 (Nat.le_refl ((n - 1) * 3)) (.int .i64 0) (.string ByteArray.empty) (.slice none 0 0))
    have hg6 := Lib.hid (grown_sets hg5 ((n - 1) * 3) (.int .i64 0) (.string ByteArray.empty) (.slice none 0 0))
    have j1 : (0 : Int) ≤ ((n - 1 : Nat) : Int) := by omega
    have j2 : ((n - 1 : Nat) : Int) ≤ (n : Int) := by omega
    have j3 : ¬ (c = n - 1) := by omega
    have j4 : n - (n - 1) = 1 := by omega
    clear hown5 hg5 hb5 hs5 hTE hci
    go_wp2
    go_returns
    exact ⟨rfl, hown6.out, grown_drew hg6.out⟩
/-- Behind the store of what is left: a registry without one of its things. -/
theorem reg_drop {B r : Nat} {W w5 : World} {os : List TA} {A : Option Addr} {c i g : Nat} (h : RegAt B r W os A c) (hA : A = some ⟨g, 0, none⟩) (hown : w5.ownsRow B 71 3 (.slice (some ⟨g, 0, none⟩) (os.length - 1) c) (os.length - 1) (Ts (os.eraseIdx i))) (hi : i < os.length) (hg : W.grownBy w5 (some g)) :
    RegAt B r (w5.setCell ⟨r, 0, none⟩ (.slice (some ⟨g, 0, none⟩) (os.length - 1 : Nat) c)) (os.eraseIdx i) (some ⟨g, 0, none⟩) c := by
  subst hA
  have hob : (Value.slice (some ⟨g, 0, none⟩) os.length c).ownBlock = some g := rfl
  have hgr : g ≠ r := fun e => own_ne h.own h.cell er_ne (by rw [hob, e])
  have hr5 : w5.heap[r]? = some (.cells #[.slice (some ⟨g, 0, none⟩) os.length c] 62 (0, 0)) := (hg.block r (box_lt h.cell) (fun e => by injection e with e; exact hgr e.symm)).trans h.cell
  have hlen : (os.eraseIdx i).length = os.length - 1 := List.length_eraseIdx_of_lt hi
  have hmem : ∀ x ∈ os.eraseIdx i, x ∈ os := fun x hx => List.mem_of_mem_eraseIdx hx
  refine ⟨h.rb, ?_, ?_, ?_, ?_, by rw [hlen]; have := h.len; omega, fun x hx => h.few x (hmem x hx)⟩
  · have := box_set hr5 0 (.slice (some ⟨g, 0, none⟩) (os.length - 1 : Nat) c)
    rw [this, hlen]
    rfl
  · rw [hlen]
    refine own_sameN hown (fun g' hgv => ?_)
    have h1 : g' = g := by
      have : (Value.slice (some ⟨g, 0, none⟩) (os.length - 1) c).ownBlock = some g := rfl
      rw [this] at hgv
      injection hgv with hgv
      exact hgv.symm
    subst h1
    exact Below.heap_setCell w5 ⟨r, 0, none⟩ _ g' hgr
  · intro y hy
    have hoy := h.ot y (hmem y hy)
    refine own_sameN hoy (fun g' hgy => ?_)
    obtain ⟨_, cur, hcur⟩ := own_blk hoy hgy
    have h1 : g' ≠ r := fun e => own_ne hoy h.cell sr_ne (by rw [hgy, e])
    rw [Below.heap_setCell w5 ⟨r, 0, none⟩ _ g' h1]
    exact hg.block g' (box_lt hcur) (fun e => own_ne h.own hcur st_ne (by rw [hob, e]))
  · intro a b x y ha hb hab
    have key : ∀ (a : Nat) (x : TA), (os.eraseIdx i)[a]? = some x → os[if a < i then a else a + 1]? = some x := by
      intro a x ha
      rw [List.getElem?_eraseIdx] at ha
      split at ha
      · rename_i h1; rw [if_pos h1]; exact ha
      · rename_i h1; rw [if_neg h1]; exact ha
    refine h.apart _ _ x y (key a x ha) (key b y hb) ?_
    split <;> split <;> omega
set_option maxRecDepth 20000 in
set_option maxHeartbeats 4000000 in
theorem Drop_any {B r : Nat} {w : World} {os : List TA} {A : Option Addr} {c : Nat} (h : RegAt B r w os A c) (s : List UInt8) (hE : EnvN w) : Calls Tryd.prog 26 #[.pointer (some ⟨r, 0, none⟩), .string (mk8 s)] w fun e w' => e = .returned (.int .i64 (dropN (os.map (·.1)) s).2) ∧ RegPost B r w os A c (dropN (os.map (·.1)) s).1 w' := by
  have FD := find_any h s hE
  have hlt := fun i h => atF_lt (s := s) (l := os.map (·.1)) (i := i) h
  unfold dropN
  obtain ⟨o, ho⟩ : ∃ o, o = atF s (os.map (·.1)) := ⟨_, rfl⟩
  rw [← ho] at FD hlt
  rw [← ho]
  clear ho
  cases o with
  | none =>
    simp only [findP] at FD
    simp only []
    go_enter Tryd.func26, Tryd.ntmps26
    go_wp2_with fail
    refine FD.mono ?_
    rintro e w1 ⟨rfl, hb⟩
    have HP := Lib.hid (RegPost.same h hb)
    clear hb
    go_wp2
    go_returns
    exact ⟨rfl, HP.out⟩
  | some i =>
    simp only [findP] at FD
    simp only []
    have hil := hlt i rfl
    rw [List.length_map] at hil
    have hne : (Value.slice A os.length c) ≠ .slice none 0 0 := fun e => by injection e with _ e2 _; omega
    obtain ⟨g, hA⟩ : ∃ g, A = some ⟨g, 0, none⟩ := by
      rcases h.own.2 with ⟨hv, _⟩ | ⟨g, cap, cur, hv, _⟩
      · exact absurd hv hne
      · injection hv with hv _ _
        exact ⟨g, hv⟩
    have hi : (0 : Int) ≤ (i : Int) := by omega
    have hmap : (os.eraseIdx i).map (·.1) = (os.map (·.1)).eraseIdx i := by rw [List.eraseIdx_eq_take_drop_succ, List.eraseIdx_eq_take_drop_succ, List.map_append, List.map_take, List.map_drop]
    have HM := Lib.hid hmap
    have hlen := h.len
    have hi9 : (i : Int) < 9223372036854775807 := by omega
    clear hlt hmap hne
    go_enter Tryd.func26, Tryd.ntmps26
    go_wp2_with fail
    refine FD.mono ?_
    rintro e w1 ⟨rfl, hb⟩
    have h1 := h.below hb
    have hc := box_cell h1.cell 0 rfl
    subst hA
    have ED := edel_any B g os.length c i os w1 h1.own rfl hil (by omega)
    clear FD
    go_wp2_with fail
    refine ED.mono ?_
    rintro e w5 ⟨rfl, hown, hg⟩
    have HR := Lib.hid (reg_drop h1 rfl hown hil hg)
    have HFIN : Hid (RegPost B r w os (some ⟨g, 0, none⟩) c ((os.map (·.1)).eraseIdx i) (w5.setCell ⟨r, 0, none⟩ (.slice (some ⟨g, 0, none⟩) (os.length - 1 : Nat) c))) := by
      have hB := h.base
      have hsz := hb.size
      refine ⟨os.eraseIdx i, some ⟨g, 0, none⟩, c, HM.out, HR.out, ?_, ?_, ?_⟩
      · have h2 : Below B w1 w5 := (Below.refl B w1).grown hg h1.base (fun g' hg' => by injection hg' with hg'; subst hg'; exact (own_blk h1.own rfl).1)
        exact ((hb.mono hB).trans h2).setCell (p := ⟨r, 0, none⟩) h.rb _
      · intro g' hg' hn
        have hr : g' ≠ r := fun e => hn (.inl e)
        rw [Below.heap_setCell w5 ⟨r, 0, none⟩ _ g' hr, hg.block g' (by omega) (fun e => hn (.inr (.inl e.symm)))]
        exact hb.block g' hg'
      · intro g' hg'
        rcases hg' with hg' | hg' | ⟨y, hy, hg'⟩
        · exact .inl (.inl hg')
        · exact .inl (.inr (.inl hg'))
        · exact .inl (.inr (.inr ⟨y, List.mem_of_mem_eraseIdx hy, hg'⟩))
    have q7 : w5.heap[r]? = some (.cells #[.slice (some ⟨g, 0, none⟩) os.length c] 62 (0, 0)) := (hg.block r (box_lt h1.cell) (fun e => own_ne h1.own h1.cell er_ne (by rw [e]; rfl))).trans h1.cell
    have q8 := box_cell q7 0 rfl
    have q9 := box_frozen q7 0
    clear ED hown hg q7 hb h1 hc HR
    go_wp2
    go_returns
    exact ⟨rfl, HFIN.out⟩
end Go.Proofs.YthfakejhkbelhaaDoor
