/- A thing is called otherwise, too: memory, and the code. -/
import Derived.Test.YthfakejhkbelhaaDoorNmsG
set_option linter.unusedSimpArgs false
set_option linter.unusedVariables false
namespace Go.Proofs.YthfakejhkbelhaaDoor
open Go.RowKit

/-- 'append' at a step of a region that draws its order. -/
theorem step_appN {P : Program} {t e : TypeId} {z : Value} {bytes : Nat} (E : Elem P t e z bytes) (w : World) {ops : Array Oper} {o : Oper} {a : Act} {K : Act → World → Prop} {Q : Exit → Act → World → Prop} {R : Prop} (hgd : o.guard = none) (s x : Operand)
    (ho : o.op = .call { callee := .builtin .append, args := #[s, x], argTypes := #[t, t] }) (base : Nat)
    {v : Value} {n : Nat} {xs : List Value} (hs : a.eval s = v) (hown : w.ownsRow base e 1 v n xs) {A : Option Addr} {m c : Nat} {news : List Value} (hx : a.eval x = .slice A m c) (hr : Rd w A m news) (h1 : ∀ u ∈ news, u.oneCell' = true)
    (h63 : n + m ≤ 1099511627776) (hby : bytes ≤ 64) (hbase : base ≤ w.heap.size)
    (h : ∀ A' c' w', w'.ownsRow base e 1 (.slice A' (n + m) c') (n + m) (xs ++ news) → w.grownBy w' v.ownBlock →
      ((Value.slice A' (n + m) c').ownBlock = v.ownBlock ∨ (Value.slice A' (n + m) c').ownBlock = some w.heap.size) → K (a.put o.dst (.slice A' (n + m) c')) w') :
    if Region.wanted o (yielded ops a.tmps) = true then Oper.wp P o a w K Q else R := by
  rw [if_pos (by simp [Region.wanted, hgd])]
  obtain ⟨A', c', w', hrun, h2, h3, h4⟩ := run_app E w o.type base hown (c := c) hr h1 h63 hby hbase
  unfold Oper.wp execOp
  simp only [ho, resolve, invoke, builtin, Sem.run_bind, Sem.run_pure, Result.andThen_ok, List.map_toArray, List.map_cons, List.map_nil, hs, hx, hrun]
  exact h A' c' w' h2 h3 h4
/-- A row behind a store into it. -/
theorem own_setN {w : World} {B k n c g j : Nat} {e : TypeId} {xs : List Value} (h : w.ownsRow B e k (.slice (some ⟨g, 0, none⟩) n c) n xs) (hj : j < n * k) (v : Value) : (w.setCell ⟨g, j, none⟩ v).ownsRow B e k (.slice (some ⟨g, 0, none⟩) n c) n (xs.set j v) := by
  refine ⟨by rw [List.length_set]; exact h.1, ?_⟩
  rcases h.2 with ⟨hh, _⟩ | ⟨g', cap, cur, hv, hB, hh, hn, hm, hs, ht⟩
  · simp at hh
  · simp only [Value.slice.injEq, Option.some.injEq, Addr.mk.injEq, and_true, true_and] at hv
    obtain ⟨rfl, rfl⟩ := hv
    refine .inr ⟨g, c, cur.setIfInBounds j v, rfl, hB, box_set hh j v, hn, hm, by rw [Array.size_setIfInBounds]; exact hs, ?_⟩
    rw [← ht, Array.toList_setIfInBounds, List.take_set]
theorem Ts_set : ∀ (os : List TA) (i : Nat) (x y : TA), os[i]? = some x → y.1.x = x.1.x → y.1.nm = x.1.nm → Ts (os.set i y) = (Ts os).set (i * 3 + 2) (otV y)
  | [], i, x, y, h, _, _ => by simp at h
  | z :: t, 0, x, y, h, h1, h2 => by
    simp at h
    subst h
    show tC y ++ Ts t = (tC z ++ Ts t).set 2 (otV y)
    simp only [tC, h1, h2]
    rfl
  | z :: t, i + 1, x, y, h, h1, h2 => by
    have ih := Ts_set t i x y (by simpa using h) h1 h2
    show tC z ++ Ts (t.set i y) = (tC z ++ Ts t).set ((i + 1) * 3 + 2) (otV y)
    rw [ih, List.set_append_right _ _ (by show 3 ≤ _; omega)]
    congr 2
    show _ = (i + 1) * 3 + 2 - 3
    omega
/-- Behind the store: a registry one of whose things is called by more names. -/
theorem reg_call {B r i g : Nat} {W w5 : World} {os : List TA} {A' : Option Addr} {c c' : Nat} {x : TA} {ls : List (List UInt8)} (h : RegAt B r W os (some ⟨g, 0, none⟩) c) (hx : os[i]? = some x)
    (hown : w5.ownsRow B 9 1 (.slice A' (x.1.ot.length + ls.length) c') (x.1.ot.length + ls.length) (Ss x.1.ot ++ Ss ls)) (hg : W.grownBy w5 (otV x).ownBlock)
    (hat : (Value.slice A' (x.1.ot.length + ls.length) c').ownBlock = (otV x).ownBlock ∨ (Value.slice A' (x.1.ot.length + ls.length) c').ownBlock = some W.heap.size) (hfew : x.1.ot.length + ls.length ≤ 1000000) :
    RegAt B r (w5.setCell ⟨g, i * 3 + 2, none⟩ (.slice A' (x.1.ot.length + ls.length : Nat) c')) (os.set i ((⟨x.1.x, x.1.nm, x.1.ot ++ ls⟩ : Thg), A', c')) (some ⟨g, 0, none⟩) c := by
  obtain ⟨hi, he⟩ := List.getElem?_eq_some_iff.1 hx
  have hxm : x ∈ os := List.mem_of_getElem? hx
  have hob : (Value.slice (some ⟨g, 0, none⟩) os.length c).ownBlock = some g := rfl
  obtain ⟨curg, hbg, _⟩ := own_box h.own
  have hox := h.ot x hxm
  have hne : ∀ gx, (otV x).ownBlock = some gx → gx ≠ g ∧ gx ≠ r := fun gx hgx => ⟨fun e => own_ne hox hbg (fun e => st_ne e.symm) (by rw [hgx, e]), fun e => own_ne hox h.cell sr_ne (by rw [hgx, e])⟩
  have hgr : g ≠ r := fun e => own_ne h.own h.cell er_ne (by rw [hob, e])
  have hg5 : w5.heap[g]? = W.heap[g]? := hg.block g (box_lt hbg) (fun e => (hne g e.symm).1 rfl)
  have hr5 : w5.heap[r]? = some (.cells #[.slice (some ⟨g, 0, none⟩) os.length c] 62 (0, 0)) := (hg.block r (box_lt h.cell) (fun e => (hne r e.symm).2 rfl)).trans h.cell
  have hoe : w5.ownsRow B 71 3 (.slice (some ⟨g, 0, none⟩) os.length c) os.length (Ts os) := own_sameN h.own (fun g' hg' => by rw [hob] at hg'; injection hg' with hg'; subst hg'; exact hg5)
  have hll : (os.set i ((⟨x.1.x, x.1.nm, x.1.ot ++ ls⟩ : Thg), A', c')).length = os.length := List.length_set
  have hvl : (x.1.ot ++ ls).length = x.1.ot.length + ls.length := List.length_append
  have hov : otV ((⟨x.1.x, x.1.nm, x.1.ot ++ ls⟩ : Thg), A', c') = .slice A' (x.1.ot.length + ls.length : Nat) c' := by unfold otV; rw [hvl]
  have hgt : ∀ (j : Nat) (y : TA), (os.set i ((⟨x.1.x, x.1.nm, x.1.ot ++ ls⟩ : Thg), A', c'))[j]? = some y → (j = i ∧ y = ((⟨x.1.x, x.1.nm, x.1.ot ++ ls⟩ : Thg), A', c')) ∨ (j ≠ i ∧ os[j]? = some y) := by
    intro j y hj
    by_cases hji : j = i
    · subst hji
      rw [List.getElem?_set_self hi] at hj
      injection hj with hj
      exact .inl ⟨rfl, hj.symm⟩
    · rw [List.getElem?_set_ne (fun e => hji e.symm)] at hj
      exact .inr ⟨hji, hj⟩
  have hkeep : ∀ gy : Nat, (∃ cur, w5.heap[gy]? = some (Obj.cells cur 9 (0, 0))) → (w5.setCell ⟨g, i * 3 + 2, none⟩ (.slice A' (x.1.ot.length + ls.length : Nat) c')).heap[gy]? = w5.heap[gy]? := fun gy ⟨cur, hc⟩ => Below.heap_setCell w5 ⟨g, i * 3 + 2, none⟩ _ gy (fun e => by
    have e2 : gy = g := e
    rw [e2, hg5, hbg] at hc
    injection hc with hc
    injection hc with _ hc _
    exact st_ne hc)
  refine ⟨h.rb, ?_, ?_, ?_, ?_, by rw [hll]; exact h.len, ?_⟩
  · rw [hll, Below.heap_setCell w5 ⟨g, i * 3 + 2, none⟩ _ r (fun e => hgr e.symm)]
    exact hr5
  · rw [hll, Ts_set os i x ((⟨x.1.x, x.1.nm, x.1.ot ++ ls⟩ : Thg), A', c') hx rfl rfl, hov]
    exact own_setN hoe (by omega) _
  · intro y hy
    obtain ⟨j, hj, rfl⟩ := List.getElem_of_mem hy
    rcases hgt j _ (List.getElem?_eq_getElem hj) with ⟨hji, hye⟩ | ⟨hji, hyj⟩
    · rw [hye, hov]
      show World.ownsRow _ _ _ _ _ (x.1.ot ++ ls).length (Ss (x.1.ot ++ ls))
      rw [hvl, show Ss (x.1.ot ++ ls) = Ss x.1.ot ++ Ss ls from List.map_append]
      refine own_sameN hown (fun gy hgy => hkeep gy ?_)
      obtain ⟨_, cur, hc⟩ := own_blk hown hgy
      exact ⟨cur, hc⟩
    · have hoy := h.ot _ (List.mem_of_getElem? hyj)
      refine own_sameN hoy (fun gy hgy => ?_)
      obtain ⟨_, cur, hc⟩ := own_blk hoy hgy
      have h5 : w5.heap[gy]? = W.heap[gy]? := hg.block gy (box_lt hc) (fun e => h.apart i j x _ hx hyj (fun e => hji e.symm) gy hgy e.symm)
      rw [hkeep gy ⟨cur, h5.trans hc⟩, h5]
  · intro a b y z ha hb hab gq hgz hgy
    have fresh : ∀ (j : Nat) (u : TA), j ≠ i → os[j]? = some u → (otV u).ownBlock = some gq → (otV ((⟨x.1.x, x.1.nm, x.1.ot ++ ls⟩ : Thg), A', c')).ownBlock = some gq → False := by
      intro j u hji hu hq hq2
      rw [hov] at hq2
      rcases hat with h1 | h1
      · rw [h1] at hq2
        exact h.apart j i u x hu hx hji gq hq2 hq
      · rw [h1] at hq2
        injection hq2 with hq2
        have := own_ltN (h.ot u (List.mem_of_getElem? hu)) gq hq
        omega
    rcases hgt a y ha with ⟨ha1, rfl⟩ | ⟨ha1, ha2⟩ <;> rcases hgt b z hb with ⟨hb1, rfl⟩ | ⟨hb1, hb2⟩
    · omega
    · exact fresh b z hb1 hb2 hgz hgy
    · exact fresh a y ha1 ha2 hgy hgz
    · exact h.apart a b y z ha2 hb2 hab gq hgz hgy
  · intro y hy
    obtain ⟨j, hj, rfl⟩ := List.getElem_of_mem hy
    rcases hgt j _ (List.getElem?_eq_getElem hj) with ⟨hji, hye⟩ | ⟨hji, hyj⟩
    · rw [hye]
      show (x.1.ot ++ ls).length ≤ _
      rw [hvl]
      exact hfew
    · exact h.few _ (List.mem_of_getElem? hyj)
theorem call_fin {B r i g : Nat} {w W w5 : World} {os : List TA} {A' : Option Addr} {c c' : Nat} {x : TA} {ls : List (List UInt8)} {L : List Thg} (h0 : RegAt B r w os (some ⟨g, 0, none⟩) c) (hbD : Below w.heap.size w W) (h : RegAt B r W os (some ⟨g, 0, none⟩) c) (hx : os[i]? = some x)
    (hown : w5.ownsRow B 9 1 (.slice A' (x.1.ot.length + ls.length) c') (x.1.ot.length + ls.length) (Ss x.1.ot ++ Ss ls)) (hg : W.grownBy w5 (otV x).ownBlock)
    (hat : (Value.slice A' (x.1.ot.length + ls.length) c').ownBlock = (otV x).ownBlock ∨ (Value.slice A' (x.1.ot.length + ls.length) c').ownBlock = some W.heap.size) (hfew : x.1.ot.length + ls.length ≤ 1000000)
    (hL : (os.set i ((⟨x.1.x, x.1.nm, x.1.ot ++ ls⟩ : Thg), A', c')).map (·.1) = L) :
    RegPost B r w os (some ⟨g, 0, none⟩) c L (w5.setCell ⟨g, i * 3 + 2, none⟩ (.slice A' (x.1.ot.length + ls.length : Nat) c')) := by
  have hB := h0.base
  have hzD := hbD.size
  have hxm : x ∈ os := List.mem_of_getElem? hx
  have hi := (List.getElem?_eq_some_iff.1 hx).1
  have hob : (Value.slice (some ⟨g, 0, none⟩) os.length c).ownBlock = some g := rfl
  have hgB := (own_blk h.own hob).1
  have hvl : (x.1.ot ++ ls).length = x.1.ot.length + ls.length := List.length_append
  refine ⟨_, some ⟨g, 0, none⟩, c, hL, reg_call h hx hown hg hat hfew, ?_, ?_, ?_⟩
  · have h2 : Below B W w5 := (Below.refl B W).grown hg h.base (fun g' hg' => (own_blk (h.ot x hxm) hg').1)
    exact ((hbD.mono hB).trans h2).setCell (p := ⟨g, i * 3 + 2, none⟩) hgB _
  · intro g' hg' hn
    have hgg : g' ≠ g := fun e => hn (.inr (.inl (by rw [hob, e])))
    rw [Below.heap_setCell w5 ⟨g, i * 3 + 2, none⟩ _ g' hgg, hg.block g' (by omega) (fun e => hn (.inr (.inr ⟨x, hxm, e.symm⟩)))]
    exact hbD.block g' hg'
  · intro g' hg'
    rcases hg' with hg' | hg' | ⟨y, hy, hg'⟩
    · exact .inl (.inl hg')
    · exact .inl (.inr (.inl hg'))
    · obtain ⟨j, hj, rfl⟩ := List.getElem_of_mem hy
      by_cases hji : j = i
      · subst hji
        rw [List.getElem_set_self] at hg'
        unfold otV at hg'
        simp only [hvl] at hg'
        rcases hat with h1 | h1
        · rw [h1] at hg'
          exact .inl (.inr (.inr ⟨x, hxm, hg'⟩))
        · rw [h1] at hg'
          injection hg' with hg'
          exact .inr (by omega)
      · rw [List.getElem_set_ne (fun e => hji e.symm)] at hg'
        exact .inl (.inr (.inr ⟨_, List.getElem_mem _, hg'⟩))
set_option maxRecDepth 20000 in
set_option maxHeartbeats 4000000 in
theorem Call_any {B r : Nat} {w : World} {os : List TA} {A : Option Addr} {c : Nat} (h : RegAt B r w os A c) (s : List UInt8) (hE : EnvN w) (A2 : Option Addr) (n2 c2 : Nat) (ls : List (List UInt8)) (hr2 : Rd w A2 n2 (Ss ls)) (hn2 : n2 ≤ 1000) (hnc2 : n2 ≤ c2) (hfew : ∀ x ∈ os, x.1.ot.length + n2 ≤ 1000000) :
    Calls Tryd.prog 36 #[.pointer (some ⟨r, 0, none⟩), .string (mk8 s), .slice A2 n2 c2] w fun e w' => e = .returned (.int .i64 (callN (os.map (·.1)) s ls).2) ∧ RegPost B r w os A c (callN (os.map (·.1)) s ls).1 w' := by
  have hll : ls.length = n2 := by have := hr2.1; simpa [Ss] using this
  subst hll
  have FD := find_any h s hE
  have hlt := fun i h => atF_lt (s := s) (l := os.map (·.1)) (i := i) h
  unfold callN
  obtain ⟨o, ho⟩ : ∃ o, o = atF s (os.map (·.1)) := ⟨_, rfl⟩
  rw [← ho] at FD hlt
  rw [← ho]
  clear ho
  cases o with
  | none =>
    simp only [findP] at FD
    simp only []
    go_enter Tryd.func36, Tryd.ntmps36
    go_wp2_with fail
    refine FD.mono ?_
    rintro e w1 ⟨rfl, hb⟩
    have HP := Lib.hid (RegPost.same h hb)
    clear hb
    go_wp2
    go_returns
    exact ⟨rfl, HP.out⟩
  | some i =>
    simp only [findP] at FD
    simp only []
    have hil := hlt i rfl
    rw [List.length_map] at hil
    have hne : (Value.slice A os.length c) ≠ .slice none 0 0 := fun e => by injection e with _ e2 _; omega
    obtain ⟨g, hA⟩ : ∃ g, A = some ⟨g, 0, none⟩ := by
      rcases h.own.2 with ⟨hv, _⟩ | ⟨g, cap, cur, hv, _⟩
      · exact absurd hv hne
      · injection hv with hv _ _
        exact ⟨g, hv⟩
    subst hA
    have FR := fun w' (hb' : Below w.heap.size w w') => freshN_any (h.below hb') (hE.below hb') A2 ls.length c2 ls (hr2.below hb') (by omega) hnc2
    obtain ⟨fe, hfe⟩ : ∃ fe, fe = freshN (os.map (·.1)) ls := ⟨_, rfl⟩
    simp only [← hfe] at FR
    rw [← hfe]
    have hi : (0 : Int) ≤ (i : Int) := by omega
    clear hlt hne hfe
    by_cases hf0 : fe = 0
    · rw [if_neg (by simp [hf0])]
      subst hf0
      obtain ⟨⟨t, At, ct⟩, hx⟩ : ∃ x, os[i]? = some x := ⟨_, List.getElem?_eq_getElem hil⟩
      have hx2 : t.ot.length + ls.length ≤ 1000000 := hfew _ (List.mem_of_getElem? hx)
      have hmod : ∀ (A5 : Option Addr) (c5 : Nat), (os.set i ((⟨t.x, t.nm, t.ot ++ ls⟩ : Thg), A5, c5)).map (·.1) = (os.map (·.1)).modify i (fun t => { t with ot := t.ot ++ ls }) := by
        intro A5 c5
        apply List.ext_getElem?
        intro j
        rw [List.getElem?_map, List.getElem?_set, List.getElem?_modify, List.getElem?_map]
        by_cases hji : i = j
        · subst hji
          rw [if_pos rfl, if_pos hil, hx]
          simp
        · rw [if_neg hji]
          simp [hji]
      have HMOD := Lib.hid hmod
      have HX := Lib.hid hx
      have HX2 := Lib.hid hx2
      have hi2 : (i : Int) < (os.length : Int) := by omega
      have hone := Ss_one ls
      clear hmod hx2 hfew
      go_enter Tryd.func36, Tryd.ntmps36
      go_wp2_with fail
      refine FD.mono ?_
      rintro e w1 ⟨rfl, hb⟩
      clear FD
      go_wp2_with fail
      refine (FR _ hb).mono ?_
      rintro e w2 ⟨rfl, hb2⟩
      clear FR
      have hbw := below_then hb hb2
      go_upto_region 7 with fail
      have hd : Below w2.heap.size w2 w2.drew := Drew.to ⟨1, rfl⟩
      have hbD := below_then hbw hd
      have hD := h.below hbD
      have hr2D := hr2.below hbD
      obtain ⟨W, hW⟩ : ∃ W, W = w2.drew := ⟨_, rfl⟩
      rw [← hW] at hd hbD hD hr2D
      have hcr : W.cell? ⟨r, 0, none⟩ = some (.slice (some ⟨g, 0, none⟩) os.length c) := box_cell hD.cell 0 rfl
      obtain ⟨b, off, hAe, hbl, hcx⟩ := hD.rd.at_ (by omega)
      injection hAe with hAe
      injection hAe with he1 he2 _
      subst he1 he2
      obtain ⟨_, _, q14⟩ := th_cells HX.out hcx
      rw [Nat.zero_add] at q14
      have hot : W.ownsRow B 9 1 (.slice At t.ot.length ct) t.ot.length (Ss t.ot) := hD.ot _ (List.mem_of_getElem? HX.out)
      have HOT := Lib.hid hot
      have HD := Lib.hid hD
      clear hcx hb hb2 hd hot hx
      refine wp_region_held_drew (S := fun w' => w'.cell? ⟨r, 0, none⟩ = some (.slice (some ⟨g, 0, none⟩) os.length c)) (by kernel_rfl) (by rw [← hW]; exact hcr) (fun hH => ?_)
      revert hH
      rw [← hW]
      intro hH
      clear hW
      refine wpAnyH_take (i := 0) (v := .pointer (some ⟨r, 0, none⟩)) rfl (by kernel_rfl) (by kernel_rfl) (by kernel_rfl) (fun _ _ _ h => h) (Or.inl ⟨by kernel_rfl, ?_⟩) hH ?_
      · intro w hSw
        (try dsimp only at hSw)
        go_simp
        all_goals try with_reducible rfl
      try simp only [List.getElem_toArray, List.getElem_cons_succ, List.getElem_cons_zero, Act.put, List.setIfInBounds_toArray, List.set_cons_zero, List.set_cons_succ]
      refine wpAnyH_take (i := 1) (v := .pointer (some ⟨r, 0, none⟩)) rfl (by kernel_rfl) (by kernel_rfl) (by kernel_rfl) (fun _ _ _ h => h) (Or.inl ⟨by kernel_rfl, ?_⟩) hH ?_
      · intro w hSw
        (try dsimp only at hSw)
        go_simp
        all_goals try with_reducible rfl
      try simp only [List.getElem_toArray, List.getElem_cons_succ, List.getElem_cons_zero, Act.put, List.setIfInBounds_toArray, List.set_cons_zero, List.set_cons_succ]
      refine wpAnyH_take (i := 2) (v := .pointer (some ⟨r, 0, none⟩)) rfl (by kernel_rfl) (by kernel_rfl) (by kernel_rfl) (fun _ _ _ h => h) (Or.inl ⟨by kernel_rfl, ?_⟩) hH ?_
      · intro w hSw
        (try dsimp only at hSw)
        go_simp
        all_goals try with_reducible rfl
      try simp only [List.getElem_toArray, List.getElem_cons_succ, List.getElem_cons_zero, Act.put, List.setIfInBounds_toArray, List.set_cons_zero, List.set_cons_succ]
      refine wpAnyH_take (i := 3) (v := .pointer (some ⟨r, 0, none⟩)) rfl (by kernel_rfl) (by kernel_rfl) (by kernel_rfl) (fun _ _ _ h => h) (Or.inl ⟨by kernel_rfl, ?_⟩) hH ?_
      · intro w hSw
        (try dsimp only at hSw)
        go_simp
        all_goals try with_reducible rfl
      try simp only [List.getElem_toArray, List.getElem_cons_succ, List.getElem_cons_zero, Act.put, List.setIfInBounds_toArray, List.set_cons_zero, List.set_cons_succ]
      refine wpAnyH_take (i := 4) (v := .slice (some ⟨g, 0, none⟩) os.length c) rfl (by kernel_rfl) (by kernel_rfl) (by kernel_rfl) (fun _ _ _ h => h) (Or.inl ⟨by kernel_rfl, ?_⟩) hH ?_
      · intro w hSw
        (try dsimp only at hSw)
        go_simp
        all_goals try with_reducible rfl
      try simp only [List.getElem_toArray, List.getElem_cons_succ, List.getElem_cons_zero, Act.put, List.setIfInBounds_toArray, List.set_cons_zero, List.set_cons_succ]
      refine wpAnyH_take (i := 5) (v := .int .i64 i) rfl (by kernel_rfl) (by kernel_rfl) (by kernel_rfl) (fun _ _ _ h => h) (Or.inl ⟨by kernel_rfl, ?_⟩) hH ?_
      · intro w hSw
        (try dsimp only at hSw)
        go_simp
        all_goals try with_reducible rfl
      try simp only [List.getElem_toArray, List.getElem_cons_succ, List.getElem_cons_zero, Act.put, List.setIfInBounds_toArray, List.set_cons_zero, List.set_cons_succ]
      refine wpAnyH_take (i := 6) (v := .pointer (some ⟨r, 0, none⟩)) rfl (by kernel_rfl) (by kernel_rfl) (by kernel_rfl) (fun _ _ _ h => h) (Or.inl ⟨by kernel_rfl, ?_⟩) hH ?_
      · intro w hSw
        (try dsimp only at hSw)
        go_simp
        all_goals try with_reducible rfl
      try simp only [List.getElem_toArray, List.getElem_cons_succ, List.getElem_cons_zero, Act.put, List.setIfInBounds_toArray, List.set_cons_zero, List.set_cons_succ]
      refine wpAnyH_take (i := 7) (v := .pointer (some ⟨r, 0, none⟩)) rfl (by kernel_rfl) (by kernel_rfl) (by kernel_rfl) (fun _ _ _ h => h) (Or.inl ⟨by kernel_rfl, ?_⟩) hH ?_
      · intro w hSw
        (try dsimp only at hSw)
        go_simp
        all_goals try with_reducible rfl
      try simp only [List.getElem_toArray, List.getElem_cons_succ, List.getElem_cons_zero, Act.put, List.setIfInBounds_toArray, List.set_cons_zero, List.set_cons_succ]
      refine wpAnyH_take (i := 8) (v := .pointer (some ⟨r, 0, none⟩)) rfl (by kernel_rfl) (by kernel_rfl) (by kernel_rfl) (fun _ _ _ h => h) (Or.inl ⟨by kernel_rfl, ?_⟩) hH ?_
      · intro w hSw
        (try dsimp only at hSw)
        go_simp
        all_goals try with_reducible rfl
      try simp only [List.getElem_toArray, List.getElem_cons_succ, List.getElem_cons_zero, Act.put, List.setIfInBounds_toArray, List.set_cons_zero, List.set_cons_succ]
      refine wpAnyH_take (i := 9) (v := .pointer (some ⟨r, 0, none⟩)) rfl (by kernel_rfl) (by kernel_rfl) (by kernel_rfl) (fun _ _ _ h => h) (Or.inl ⟨by kernel_rfl, ?_⟩) hH ?_
      · intro w hSw
        (try dsimp only at hSw)
        go_simp
        all_goals try with_reducible rfl
      try simp only [List.getElem_toArray, List.getElem_cons_succ, List.getElem_cons_zero, Act.put, List.setIfInBounds_toArray, List.set_cons_zero, List.set_cons_succ]
      refine wpAnyH_take (i := 10) (v := .slice (some ⟨g, 0, none⟩) os.length c) rfl (by kernel_rfl) (by kernel_rfl) (by kernel_rfl) (fun _ _ _ h => h) (Or.inl ⟨by kernel_rfl, ?_⟩) hH ?_
      · intro w hSw
        (try dsimp only at hSw)
        go_simp
        all_goals try with_reducible rfl
      try simp only [List.getElem_toArray, List.getElem_cons_succ, List.getElem_cons_zero, Act.put, List.setIfInBounds_toArray, List.set_cons_zero, List.set_cons_succ]
      refine wpAnyH_take (i := 11) (v := .int .i64 i) rfl (by kernel_rfl) (by kernel_rfl) (by kernel_rfl) (fun _ _ _ h => h) (Or.inl ⟨by kernel_rfl, ?_⟩) hH ?_
      · intro w hSw
        (try dsimp only at hSw)
        go_simp
        all_goals try with_reducible rfl
      try simp only [List.getElem_toArray, List.getElem_cons_succ, List.getElem_cons_zero, Act.put, List.setIfInBounds_toArray, List.set_cons_zero, List.set_cons_succ]
      refine wpAnyH_take (i := 12) (v := .pointer (some ⟨g, i * 3, none⟩)) rfl (by kernel_rfl) (by kernel_rfl) (by kernel_rfl) (fun _ _ _ h => h) (Or.inl ⟨by kernel_rfl, ?_⟩) hH ?_
      · intro w hSw
        (try dsimp only at hSw)
        go_simp
        all_goals try with_reducible rfl
      try simp only [List.getElem_toArray, List.getElem_cons_succ, List.getElem_cons_zero, Act.put, List.setIfInBounds_toArray, List.set_cons_zero, List.set_cons_succ]
      refine wpAnyH_take (i := 13) (v := .pointer (some ⟨g, i * 3 + 2, none⟩)) rfl (by kernel_rfl) (by kernel_rfl) (by kernel_rfl) (fun _ _ _ h => h) (Or.inl ⟨by kernel_rfl, ?_⟩) hH ?_
      · intro w hSw
        (try dsimp only at hSw)
        go_simp
        all_goals try with_reducible rfl
      try simp only [List.getElem_toArray, List.getElem_cons_succ, List.getElem_cons_zero, Act.put, List.setIfInBounds_toArray, List.set_cons_zero, List.set_cons_succ]
      refine wpAnyH_take (i := 15) (v := .slice A2 ls.length c2) rfl (by kernel_rfl) (by kernel_rfl) (by kernel_rfl) (fun _ _ _ h => h) (Or.inl ⟨by kernel_rfl, ?_⟩) hH ?_
      · intro w hSw
        (try dsimp only at hSw)
        go_simp
        all_goals try with_reducible rfl
      try simp only [List.getElem_toArray, List.getElem_cons_succ, List.getElem_cons_zero, Act.put, List.setIfInBounds_toArray, List.set_cons_zero, List.set_cons_succ]
      refine wpAnyH_ready (rs := [14]) (by kernel_rfl) (by simp) ?_
      refine AllReadyH.cons rfl (fun K hK => ?_) AllReadyH.nil
      go_simp
      refine hK.out _ _ (hH) (fun hH2 => ?_)
      clear hK K hH
      try simp only [List.getElem_toArray, List.getElem_cons_succ, List.getElem_cons_zero, Act.put, List.setIfInBounds_toArray, List.set_cons_zero, List.set_cons_succ]
      refine wpAnyH_ready (rs := [16]) (by kernel_rfl) (by simp) ?_
      refine AllReadyH.cons rfl (fun K hK => ?_) AllReadyH.nil
      refine step_appN strElem _ rfl (.tmp 39) (.tmp 40) rfl B rfl HOT.out rfl hr2D hone (by have := HX2.out; omega) (by omega) HD.out.base ?_
      intro A5 c5 w5 hown5 hg5 hat5
      have hcr5 : w5.cell? ⟨r, 0, none⟩ = some (.slice (some ⟨g, 0, none⟩) os.length c) := (hg5.cell hH2 (fun e => own_ne HOT.out HD.out.cell sr_ne e.symm))
      refine hK.out _ _ (hcr5) (fun hH => ?_)
      clear hK K hH2
      try simp only [List.getElem_toArray, List.getElem_cons_succ, List.getElem_cons_zero, Act.put, List.setIfInBounds_toArray, List.set_cons_zero, List.set_cons_succ]
      refine wpAnyH_take (i := 17) (v := .pointer (some ⟨g, i * 3, none⟩)) rfl (by kernel_rfl) (by kernel_rfl) (by kernel_rfl) (fun _ _ _ h => h) (Or.inl ⟨by kernel_rfl, ?_⟩) hH ?_
      · intro w hSw
        (try dsimp only at hSw)
        go_simp
        all_goals try with_reducible rfl
      try simp only [List.getElem_toArray, List.getElem_cons_succ, List.getElem_cons_zero, Act.put, List.setIfInBounds_toArray, List.set_cons_zero, List.set_cons_succ]
      refine wpAnyH_take (i := 18) (v := .pointer (some ⟨g, i * 3 + 2, none⟩)) rfl (by kernel_rfl) (by kernel_rfl) (by kernel_rfl) (fun _ _ _ h => h) (Or.inl ⟨by kernel_rfl, ?_⟩) hH ?_
      · intro w hSw
        (try dsimp only at hSw)
        go_simp
        all_goals try with_reducible rfl
      try simp only [List.getElem_toArray, List.getElem_cons_succ, List.getElem_cons_zero, Act.put, List.setIfInBounds_toArray, List.set_cons_zero, List.set_cons_succ]
      refine wpAnyH_ready (rs := [19]) (by kernel_rfl) (by simp) ?_
      refine AllReadyH.cons rfl (fun K hK => ?_) AllReadyH.nil
      obtain ⟨curg, hbg, _⟩ := own_box HD.out.own
      have hb5 : w5.heap[g]? = some (.cells curg 71 (0, 0)) := (hg5.block g (box_lt hbg) (fun e => own_ne HOT.out hbg (fun e => st_ne e.symm) e.symm)).trans hbg
      have q15 : w5.cell? ⟨g, i * 3 + 2, none⟩ = some (.slice At t.ot.length ct) := (World.cell?_of_block (a := ⟨g, i * 3 + 2, none⟩) (hb5.trans hbg.symm)).trans q14
      have q16 := box_frozen hb5 (i * 3 + 2)
      go_simp
      refine hK.out _ _ (cell_setU hH (fun e => own_ne HD.out.own HD.out.cell er_ne (by rw [e]; rfl))) (fun hH3 => ?_)
      clear hK K hH
      try simp only [List.getElem_toArray, List.getElem_cons_succ, List.getElem_cons_zero, Act.put, List.setIfInBounds_toArray, List.set_cons_zero, List.set_cons_succ]
      refine wpAnyH_done (by kernel_rfl) ?_ _
      have HFIN := Lib.hid (call_fin h hbD HD.out HX.out hown5 hg5 hat5 HX2.out (HMOD.out A5 c5))
      go_wp2
      go_returns
      exact ⟨rfl, HFIN.out⟩
    · rw [if_pos hf0]
      have hn1 : (fe == 0) = false := by simpa using hf0
      have hn2' : (fe != 0) = true := by simpa using hf0
      go_enter Tryd.func36, Tryd.ntmps36
      go_wp2_with fail
      refine FD.mono ?_
      rintro e w1 ⟨rfl, hb⟩
      clear FD
      go_wp2_with fail
      refine (FR _ hb).mono ?_
      rintro e w2 ⟨rfl, hb2⟩
      have HP := Lib.hid (RegPost.same h (below_then hb hb2))
      clear hb hb2 FR
      go_wp2
      go_returns
      exact ⟨rfl, HP.out⟩
end Go.Proofs.YthfakejhkbelhaaDoor
