/- Two lists that grow side by side. A table of characters: Set. -/
import Derived.Test.YtggichcfklbjiaaGreatDoorG12
import Derived.Test.YtggichcfklbjiaaGreatDoorG14
import Derived.Test.YtggichcfklbjiaaGreatDoorG05
import Derived.Deep.RegionHeld3
section
set_option linter.unusedSimpArgs false
set_option linter.unusedVariables false
namespace Go.Proofs.YtggichcfklbjiaaGreatDoor
open Go.RowKit

theorem own_grown {w w' : World} {base : Nat} {e : TypeId} {v : Value} {n : Nat} {xs : List Value} {row : Option Nat} (h : w.ownsRow base e 1 v n xs) (hg : w.grownBy w' row) (hne : ∀ b, v.ownBlock = some b → row ≠ some b) : w'.ownsRow base e 1 v n xs := by
  refine ⟨h.1, ?_⟩
  rcases h.2 with hn | ⟨g, cap, cur, hv, hgb, hh, rest⟩
  · exact .inl hn
  · refine .inr ⟨g, cap, cur, hv, hgb, (hg.block g (Array.getElem?_eq_some_iff.1 hh).1 ?_).trans hh, rest⟩
    have := hne g (by rw [hv]; rfl)
    exact fun h => this h.symm
/-- 'append' at a step of a region that draws its order. -/
theorem step_app {P : Program} {t e : TypeId} {z : Value} {bytes : Nat} (E : Elem P t e z bytes) (w : World) {ops : Array Oper} {o : Oper} {a : Act} {K : Act → World → Prop} {Q : Exit → Act → World → Prop} {R : Prop} (hgd : o.guard = none) (s x : Operand)
    (ho : o.op = .call { callee := .builtin .append, args := #[s, x], argTypes := #[t, t] }) (base : Nat)
    {v : Value} {n : Nat} {xs : List Value} (hs : a.eval s = v) (hown : w.ownsRow base e 1 v n xs) {A : Option Addr} {m c : Nat} {news : List Value} (hx : a.eval x = .slice A m c) (hr : Rd w A m news) (h1 : ∀ u ∈ news, u.oneCell' = true)
    (h63 : n + m ≤ 1099511627776) (hby : bytes ≤ 64) (hbase : base ≤ w.heap.size)
    (h : ∀ A' c' w', w'.ownsRow base e 1 (.slice A' (n + m) c') (n + m) (xs ++ news) → w.grownBy w' v.ownBlock →
      ((Value.slice A' (n + m) c').ownBlock = v.ownBlock ∨ (Value.slice A' (n + m) c').ownBlock = some w.heap.size) → K (a.put o.dst (.slice A' (n + m) c')) w') :
    if Region.wanted o (yielded ops a.tmps) = true then Oper.wp P o a w K Q else R := by
  rw [if_pos (by simp [Region.wanted, hgd])]
  obtain ⟨A', c', w', hrun, h2, h3, h4⟩ := run_app E w o.type base hown (c := c) hr h1 h63 hby hbase
  unfold Oper.wp execOp
  simp only [ho, resolve, invoke, builtin, Sem.run_bind, Sem.run_pure, Result.andThen_ok, List.map_toArray, List.map_cons, List.map_nil, hs, hx, hrun]
  exact h A' c' w' h2 h3 h4
/-- A quiet call at a step of a region that draws its order. -/
theorem step_call {P : Program} {w : World} {ops : Array Oper} {o : Oper} {a : Act} {K : Act → World → Prop} {Q : Exit → Act → World → Prop} {R : Prop} {f : FuncId} {vs : Array Value} {v : Value} (hgd : o.guard = none)
    (h : Calls P f vs w (fun e w' => e = .returned v ∧ w' = w)) (hrun : (execOp a.eval o).run P w = .ok (.enter f vs) w) (hk : K (a.put o.dst v) w) :
    if Region.wanted o (yielded ops a.tmps) = true then Oper.wp P o a w K Q else R := by
  rw [if_pos (by simp [Region.wanted, hgd])]
  unfold Oper.wp
  rw [hrun, Oper.upon_enter]
  refine h.mono ?_
  rintro e w' ⟨rfl, rfl⟩
  exact hk
/-- Two values stand in two rows. -/
def Apart (u v : Value) : Prop := ∀ b, v.ownBlock = some b → u.ownBlock ≠ some b
theorem Apart.symm {u v : Value} (h : Apart u v) : Apart v u := fun b hb hv => h b hv hb
theorem own_block_lt {w : World} {base : Nat} {e : TypeId} {v : Value} {n : Nat} {xs : List Value} (h : w.ownsRow base e 1 v n xs) : ∀ b, v.ownBlock = some b → b < w.heap.size := by
  intro b hb
  rcases h.2 with ⟨rfl, _⟩ | ⟨g, cap, cur, rfl, _, hh, _⟩
  · cases hb
  · injection hb with hb
    subst hb
    exact (Array.getElem?_eq_some_iff.1 hh).1
theorem Apart.step {u u' v : Value} {H : Nat} (h : Apart u v) (hu : u'.ownBlock = u.ownBlock ∨ u'.ownBlock = some H) (hv : ∀ b, v.ownBlock = some b → b < H) : Apart u' v := by
  intro b hb hc
  rcases hu with hu | hu
  · exact h b hb (hu ▸ hc)
  · rw [hu] at hc
    injection hc with hc
    have := hv b hb
    omega
theorem own_addr {w : World} {base : Nat} {e : TypeId} {A : Option Addr} {c n : Nat} {xs : List Value} (h : w.ownsRow base e 1 (.slice A n c) n xs) (hA : A ≠ none) : ∃ g, A = some ⟨g, 0, none⟩ := by
  rcases h.2 with ⟨hh, _⟩ | ⟨g, cap, cur, hv, _⟩
  · injection hh with hh _ _
    exact absurd hh hA
  · injection hv with h1 _ _
    exact ⟨g, h1⟩
/-- A list's bytes as a string, if the list is none, too. -/
theorem bytes_str0 {w : World} {base : Nat} {A : Option Addr} {c n : Nat} {l : List UInt8} (h : w.ownsRow base 5 1 (.slice A n c) n (Bs l)) (hn : l.length = n) (hA : A ≠ none) :
    (convert 135 9 (.slice A n c)).run Tryz.prog w = .ok (.string (mk8 l)) w := by
  subst hn
  by_cases hl : l = []
  · subst hl
    obtain ⟨g, h1⟩ := own_addr h hA
    · subst h1
      refine run_convert_bytes_back w 135 9 5 ⟨g, 0, none⟩ c [] Tryz.underlying135 Tryz.underlying5 Tryz.underlying9 (fun j hj => ?_)
      simp at hj
  · exact bytes_str h hl
theorem own_some {w : World} {base : Nat} {e : TypeId} {A : Option Addr} {c n m : Nat} {xs : List Value} (h : w.ownsRow base e 1 (.slice A n c) n xs) (hn : n = m + 1) : A ≠ none := by
  obtain ⟨g, hg, _⟩ := own_at h (by omega)
  rw [hg]
  simp
end Go.Proofs.YtggichcfklbjiaaGreatDoor
end

section
set_option linter.unusedSimpArgs false
set_option linter.unusedVariables false
namespace Go.Proofs.YtggichcfklbjiaaGreatDoor
open Go.RowKit Go.Lib Go.Maps

theorem int_info : ∃ i, Tryz.prog.info? 3 = some i := Option.isSome_iff_exists.1 (by kernel_rfl)
theorem int_u : Tryz.prog.underlying 3 = some (.int .i64) := by kernel_rfl
theorem int_c : Tryz.prog.cellsOf 3 = 1 := by kernel_rfl
def allB (g h : Nat → Int) : Bool := (List.range 256).all fun i => g i == h i
theorem eql_block (g h : Nat → Int) (w : World) : (binOp .eql 117 (.agg (blockC g).toArray) (.agg (blockC h).toArray)).run Tryz.prog w = .ok (.bool (allB g h)) w := by
  obtain ⟨i, hi⟩ := int_info
  exact run_eql_block blockT int_u hi int_c g h w
theorem allB_is {g h : Nat → Int} : allB g h = true ↔ ∀ i, i < 256 → g i = h i := by
  unfold allB
  rw [List.all_eq_true]
  constructor
  · intro H i hi
    simpa using H i (List.mem_range.2 hi)
  · intro H i hi
    simpa using H i (List.mem_range.1 hi)
/-- The table behind some blocks. -/
def setT (T : Int → Int) (lo hi v a : Int) : Int → Int := fun r => if lo ≤ r ∧ r ≤ hi ∧ r / 256 < a then v else T r
/-- A block's values behind some of its numbers. -/
def blkT (g : Nat → Int) (lo hi v : Int) (a : Int) : Nat → Int := fun j => if lo ≤ a * 256 + j ∧ a * 256 + j ≤ hi then v else g j
theorem blk_div {a r : Int} (h : r / 256 = a) : a * 256 + ((r % 256).toNat : Int) = r := by omega
def TabF (T : Int → Int) (f : Int → Option (Nat → Int)) : Prop := ∀ r, R32 r → T r = if r < 0 then 0 else match f (r / 256) with | some g => g (r % 256).toNat | none => 0
theorem tab_put {T : Int → Int} {f : Int → Option (Nat → Int)} {lo hi v a : Int} (h0 : 0 ≤ lo) (h : TabF (setT T lo hi v a) f) (ha : lo / 256 ≤ a) :
    TabF (setT T lo hi v (a + 1)) (upd f a (some (blkT ((f a).getD fun _ => 0) lo hi v a))) := by
  intro r hr
  have h1 := h r hr
  unfold setT at h1 ⊢
  by_cases hn : r < 0
  · rw [if_pos hn] at h1 ⊢
    rw [if_neg (by omega)] at h1 ⊢
    exact h1
  · rw [if_neg hn] at h1 ⊢
    unfold upd
    by_cases e : r / 256 = a
    · rw [if_pos e]
      simp only [blkT]
      rw [blk_div e]
      rw [if_neg (by omega)] at h1
      by_cases hin : lo ≤ r ∧ r ≤ hi
      · rw [if_pos hin, if_pos (by omega)]
      · rw [if_neg hin, if_neg (by omega), h1, e]
        cases f a <;> rfl
    · rw [if_neg e]
      rw [← h1]
      by_cases hin : lo ≤ r ∧ r ≤ hi ∧ r / 256 < a
      · rw [if_pos hin, if_pos (by omega)]
      · rw [if_neg hin, if_neg (by omega)]
theorem tab_del {T : Int → Int} {f : Int → Option (Nat → Int)} {lo hi v a : Int} (h0 : 0 ≤ lo) (h : TabF (setT T lo hi v a) f) (ha : lo / 256 ≤ a) (hz : ∀ i, i < 256 → blkT ((f a).getD fun _ => 0) lo hi v a i = 0) :
    TabF (setT T lo hi v (a + 1)) (upd f a none) := by
  intro r hr
  rw [tab_put h0 h ha r hr]
  split
  · rfl
  · unfold upd
    by_cases e : r / 256 = a
    · rw [if_pos e, if_pos e]
      exact hz _ (by omega)
    · rw [if_neg e, if_neg e]
theorem grown_drewT {w w5 : World} {row : Option Nat} (h : w.drew.grownBy w5 row) : w.grownBy w5 row := ⟨h.os, h.tape, h.output, h.size, h.block⟩
/-- What holds while Set goes from block to block. -/
structure SInv (w : World) (tb mb p9 n : Nat) (T : Int → Int) (lo hi v a : Int) (wr : World) : Prop where
  tab : ∃ n' f, n' ≤ n + (a - lo / 256).toNat ∧ MapF wr Tryz.prog 21 runeLit R32 blockV mb n' f ∧ TabF (setT T lo hi v a) f
  box : wr.heap[tb]? = some (.cells #[.int .i64 0, .map (some mb)] 105 (0, 0))
  zero : wr.heap[p9]? = some (.cells (blockC fun _ => 0).toArray 117 (0, 0))
  wrote : Wrote (fun g => g = mb) w wr
set_option maxRecDepth 100000 in
set_option maxHeartbeats 8000000 in
theorem trieSet_any {w : World} {tb mb n : Nat} {T : Int → Int} (h : TabAt w tb mb n T) (lo hi v : Int) (h0 : 0 ≤ lo) (h1 : lo ≤ hi) (h2 : hi ≤ 1114111) (hn : n ≤ 1000000000) :
    Calls Tryz.prog 55 #[.pointer (some ⟨tb, 0, none⟩), .int .i32 lo, .int .i32 hi, .int .i64 v] w fun e w' => e = .returned (.int .i64 0) ∧ TabAt w' tb mb (n + 4353) (fun r => if lo ≤ r ∧ r ≤ hi then v else T r) ∧ Wrote (fun g => g = mb) w w' := by
  obtain ⟨hb, f, hm, hT⟩ := h
  have c0 : w.cell? ⟨tb, 0, none⟩ = some (.int .i64 0) := by simp [World.cell?, hb]
  have PL := plain_any c0
  have hq1 : wrap32 (hi.tdiv 256) = hi / 256 := by rw [Int.tdiv_eq_ediv_of_nonneg (by omega)]; unfold wrap32; omega
  have hq2 : wrap32 (lo.tdiv 256) = lo / 256 := by rw [Int.tdiv_eq_ediv_of_nonneg (by omega)]; unfold wrap32; omega
  have hsz := blockC_length
  have hmt : mb ≠ tb := hm.ne_cells hb
  go_enter Tryz.func55, Tryz.ntmps55
  go_wp2_with fail
  refine PL.mono ?_
  rintro e w1 ⟨rfl, hb1⟩
  have hst := store_block w1
  have hz9 := heap_alloc_last w1 (.cells (blockC fun _ => 0).toArray 117)
  have hbz : Below w1.heap.size w1 (w1.alloc (.cells (blockC fun _ => 0).toArray 117)) := (Below.refl _ _).alloc (Nat.le_refl _) _
  have hS0 : SInv w tb mb w1.heap.size n T lo hi v (lo / 256) (w1.alloc (.cells (blockC fun _ => 0).toArray 117)) :=
    ⟨⟨n, f, by omega, (hm.below hb1 hm.lt).below hbz (Nat.lt_of_lt_of_le hm.lt hb1.size), fun r hr => by
        have := hT r hr
        unfold setT
        rw [if_neg (by omega)]
        exact this⟩, (hbz.block tb (Nat.lt_of_lt_of_le (Array.getElem?_eq_some_iff.1 hb).1 hb1.size)).trans ((hb1.block tb (Array.getElem?_eq_some_iff.1 hb).1).trans hb), hz9, .of_below (below_then hb1 hbz)⟩
  have hp9 := hb1.size
  clear PL hz9 hbz hm hT hb c0 hb1
  go_wp2
  clear hst
  go_loopw [10] (fun i wr => ∃ a : Int, lo / 256 ≤ a ∧ a ≤ hi / 256 + 1 ∧ i = .int .i32 a ∧ SInv w tb mb w1.heap.size n T lo hi v a wr) (fun i _ => (hi / 256 + 1 - intOf i).toNat)
  case atStart => exact ⟨lo / 256, by omega, by omega, rfl, hS0⟩
  case round =>
    obtain ⟨wo, rfl⟩ : ∃ wo, wo = wr := ⟨wr, rfl⟩
    obtain ⟨a, ha1, ha2, rfl, hS⟩ := hrel
    by_cases hlt : a ≤ hi / 256
    · obtain ⟨⟨n', f, hn', hm, hT⟩, hb, hz, hw⟩ := hS
      have d1 : wo.cell? ⟨tb, 0 + 1, none⟩ = some (.map (some mb)) := by simp [World.cell?, hb]
      have hk : R32 a := by unfold R32; omega
      have hst := store_block wo
      have hw1 : wrap32 (a * 256) = a * 256 := by unfold wrap32; omega
      have hsz2 : ∀ g, (Tryz.prog.info? 117).map (·.size) = some (blockC g).toArray.size := fun g => by rw [block_info]; simp [blockC_length]
      have hbl : Below wo.heap.size wo wo := Below.refl _ _
      obtain ⟨g, hg⟩ : ∃ g, g = (f a).getD fun _ => 0 := ⟨_, rfl⟩
      have h11 := heap_alloc_last wo (.cells (blockC g).toArray 117)
      have hbn : Below wo.heap.size wo (wo.alloc (.cells (blockC g).toArray 117)) := (Below.refl _ _).alloc (Nat.le_refl _) _
      have hp9l : w1.heap.size < wo.heap.size := (Array.getElem?_eq_some_iff.1 hz).1
      have HTAB := Lib.hid hT
      have HG := Lib.hid hg
      have hcase : (f a = none ∧ g = fun _ => 0) ∨ ∃ g', f a = some g' := by
        cases hf : f a with
        | none => exact .inl ⟨rfl, by rw [hg, hf]; rfl⟩
        | some g' => exact .inr ⟨g', rfl⟩
      clear hT hg
      have h110 := heap_alloc_last wo (.cells (blockC fun _ => 0).toArray 117)
      have hbn0 : Below wo.heap.size wo (wo.alloc (.cells (blockC fun _ => 0).toArray 117)) := (Below.refl _ _).alloc (Nat.le_refl _) _
      have hw2 : wrap32 (a * 256 + 256) = a * 256 + 256 := by unfold wrap32; omega
      have hw3 : wrap32 (a * 256 + 256 - 1) = a * 256 + 256 - 1 := by unfold wrap32; omega
      have hw4 : wrap32 (a * 256 + 255) = a * 256 + 255 := by unfold wrap32; omega
      obtain ⟨j0, hj0⟩ : ∃ j0 : Nat, max lo (a * 256) = a * 256 + j0 := ⟨(max lo (a * 256) - a * 256).toNat, by omega⟩
      have hj0l : j0 ≤ 256 := by omega
      have hj1 : a * 256 + (j0 : Int) ≤ min hi (a * 256 + 255) + 1 := by omega
      rcases hcase.symm with ⟨g', hfs⟩ | ⟨hfn, hg0⟩
      · obtain rfl : g = g' := by rw [HG.out, hfs]; rfl
        go_wp2_with (first | (at_lookup; refine wpList_lookF rfl _ _ rfl rune_keyed blocksT (zero_block _) hm (k := a) hk rfl rfl ?_; rw [← HG.out, hfs]) | go_in)
        go_loopw [13] (fun i wi => ∃ (k : Int) (j : Nat), j0 ≤ j ∧ Hid (k = a * 256 + j) ∧ k ≤ min hi (a * 256 + 255) + 1 ∧ i = .int .i32 k ∧ wi.heap[wo.heap.size]? = some (.cells (blockC (fun q => if j0 ≤ q ∧ q < j then v else g q)).toArray 117 (0, 0)) ∧ Below wo.heap.size wo wi) (fun i _ => (min hi (a * 256 + 255) + 1 - intOf i).toNat)
        case atStart =>
          refine ⟨_, j0, Nat.le_refl _, Lib.hid rfl, hj1, rfl, ?_, hbn⟩
          rw [blockC_congr (g := fun q => if j0 ≤ q ∧ q < j0 then v else g q) (h := g) (fun q _ => if_neg (by omega))]
          exact h11
        case round =>
          obtain ⟨k, j, hj2, HK, hj3, rfl, h12, hbi⟩ := hrel
          by_cases hjl : k ≤ min hi (a * 256 + 255)
          · have hkj := HK.out
            have hj256 : j < 256 := by omega
            have i1 : (j : Int) < 256 := by omega
            have i2 : (0 : Int) ≤ (j : Int) := by omega
            have hm5 : k.tmod 256 = (j : Int) := by rw [Int.tmod_eq_emod_of_nonneg (by omega)]; omega
            have hm7 : (k.tmod 256).toNat = j := by rw [hm5]; omega
            have i3 : 0 ≤ k.tmod 256 := by rw [hm5]; exact i2
            have i4 : k.tmod 256 < 256 := by rw [hm5]; exact i1
            have hm2 : wrap32 (k + 1) = k + 1 := by unfold wrap32; omega
            obtain ⟨z0, e0⟩ : ∃ z0, wr.cell? ⟨wo.heap.size, (k.tmod 256).toNat, none⟩ = some (.int .i64 z0) := ⟨_, by rw [hm7]; exact block_cell h12 hj256⟩
            have e1 : wr.frozen? ⟨wo.heap.size, (k.tmod 256).toNat, none⟩ = false := block_frozen h12 _
            have h13 := block_put h12 hj256 v
            have hb2 : Below wo.heap.size wo (wr.setCell ⟨wo.heap.size, (k.tmod 256).toNat, none⟩ (.int .i64 v)) := hbi.setCell (p := ⟨wo.heap.size, (k.tmod 256).toNat, none⟩) (Nat.le_refl _) _
            rw [blockC_congr (h := fun q => if j0 ≤ q ∧ q < j + 1 then v else g q) (fun q _ => by
              by_cases e : q = j
              · rw [if_pos e, if_pos (by omega)]
              · rw [if_neg e]
                by_cases e2 : j0 ≤ q ∧ q < j
                · rw [if_pos e2, if_pos (by omega)]
                · rw [if_neg e2, if_neg (by omega)])] at h13
            have h14 : (wr.setCell ⟨wo.heap.size, (k.tmod 256).toNat, none⟩ (.int .i64 v)).heap[wo.heap.size]? = some (.cells (blockC fun q => if j0 ≤ q ∧ q < j + 1 then v else g q).toArray 117 (0, 0)) := by rw [hm7]; exact h13
            have HK2 : Hid (k + 1 = a * 256 + ((j + 1 : Nat) : Int)) := by show _ = _; omega
            have hk4 : k + 1 ≤ min hi (a * 256 + 255) + 1 := by omega
            have hj4 : j0 ≤ j + 1 := by omega
            clear h12 hbi h11 h110 hbn hbn0 hm hz hb hw d1 hst hkj hm5 hm7 h13 i1 i2 hj1 hj0 hj0l
            go_wp2
            go_roundw
            case rel => exact ⟨k + 1, j + 1, hj4, HK2, hk4, by rw [hm2], h14, hb2⟩
            case measure => rw [hm2]; simp [intOf]; omega
          · have hkj := HK.out
            have hke : k = min hi (a * 256 + 255) + 1 := by omega
            have hkle : min hi (a * 256 + 255) < k := by omega
            have h15 : wr.heap[wo.heap.size]? = some (.cells (blockC (blkT g lo hi v a)).toArray 117 (0, 0)) := by
              rw [h12]
              congr 3
              refine blockC_congr fun q hq => ?_
              unfold blkT
              by_cases e : j0 ≤ q ∧ q < j
              · rw [if_pos e, if_pos (by omega)]
              · rw [if_neg e, if_neg (by omega)]
            have hzr : wr.heap[w1.heap.size]? = some (.cells (blockC fun _ => 0).toArray 117 (0, 0)) := (hbi.block _ hp9l).trans hz
            have htl : tb < wo.heap.size := (Array.getElem?_eq_some_iff.1 hb).1
            have hbr := (hbi.block tb htl).trans hb
            have d2 : wr.cell? ⟨tb, 0 + 1, none⟩ = some (.map (some mb)) := by simp [World.cell?, hbr]
            have hmr := hm.below hbi hm.lt
            have hmp : mb ≠ w1.heap.size := hm.ne_cells hz
            have heql := fun w => eql_block (blkT g lo hi v a) (fun _ => 0) w
            have hw5 : wrap32 (a + 1) = a + 1 := by unfold wrap32; omega
            have ha3 : lo / 256 ≤ a + 1 := by omega
            have ha4 : a + 1 ≤ hi / 256 + 1 := by omega
            have hmle : n' + 1 ≤ n + (a + 1 - lo / 256).toNat := by omega
            have HST : Hid (∀ w5, wr.grownBy w5 (some mb) → w5.heap[tb]? = some (.cells #[.int .i64 0, .map (some mb)] 105 (0, 0)) ∧ w5.heap[w1.heap.size]? = some (.cells (blockC fun _ => 0).toArray 117 (0, 0)) ∧ Wrote (fun g => g = mb) w w5) := fun w5 hg5 =>
              ⟨(hg5.block tb (Nat.lt_of_lt_of_le htl hbi.size) (fun e => hmt (by injection e with e; exact e.symm))).trans hbr, (hg5.block _ (Nat.lt_of_lt_of_le hp9l hbi.size) (fun e => hmp (by injection e with e; exact e.symm))).trans hzr, (hw.then_below hbi).trans (Wrote.grown hg5 fun k hk => by injection hk with hk; exact hk.symm)⟩
            have HB := Lib.hid hbi
            have HNE : Hid (mb ≠ wo.heap.size) := fun e => by have := hm.lt; omega
            cases hall : allB (blkT g lo hi v a) (fun _ => 0) with
            | true =>
              rw [hall] at heql
              have HZ := Lib.hid (allB_is.1 hall)
              clear h12 hbi h11 h110 hbn hbn0 hm hz hb hw d1 hst hkj hj1 hj0 hj0l hall hke hbr hmp
              go_wp2_with (first | (refine wpList_loadW rfl rfl blockT (hsz2 _) h15 rfl ?_) | (refine wpList_loadW rfl rfl blockT (hsz2 _) hzr rfl ?_) | (at_delete; refine wpList_delF rfl _ _ rfl rune_keyed blocksT hmr (k := a) hk rfl rfl ?_; intro w5 hm5 hg5 hs5) | go_in)
              obtain ⟨k1, k2, k3⟩ := HST.out _ hg5
              have hS5 : SInv w tb mb w1.heap.size n T lo hi v (a + 1) w5 := ⟨⟨n', _, by omega, hm5, tab_del h0 HTAB.out ha1 (by rw [← HG.out]; exact HZ.out)⟩, k1, k2, k3⟩
              clear hm5 hg5 hmr h15 hzr k1 k2 k3 d2
              go_roundw
              case rel => exact ⟨a + 1, ha3, ha4, by first | rfl | rw [hw5], hS5⟩
              case measure => (try rw [hw5]); simp [intOf]; omega
            | false =>
              rw [hall] at heql
              clear h12 hbi h11 h110 hbn hbn0 hm hz hb hw d1 hst hkj hj1 hj0 hj0l hall hke hbr hmp
              go_wp2_with (first | (refine wpList_loadW rfl rfl blockT (hsz2 _) h15 rfl ?_) | (refine wpList_loadW rfl rfl blockT (hsz2 _) hzr rfl ?_) | go_in)
              have h15d : wr.drew.heap[wo.heap.size]? = some (.cells (blockC (blkT g lo hi v a)).toArray 117 (0, 0)) := h15
              have hmd : MapF wr.drew Tryz.prog 21 runeLit R32 blockV mb n' f := hmr.at rfl
              have hmx : n' < maxLen := by unfold maxLen; omega
              clear h15 hmr hzr
              refine wp_region_held_drew (S := fun w' => w'.heap[wo.heap.size]? = some (.cells (blockC (blkT g lo hi v a)).toArray 117 (0, 0)) ∧ w'.cell? ⟨tb, 0 + 1, none⟩ = some (.map (some mb))) (by kernel_rfl) ⟨h15d, d2⟩ (fun hH => ?_)
              refine wpAnyH_take (i := 0) (v := .pointer (some ⟨tb, 0, none⟩)) rfl (by kernel_rfl) (by kernel_rfl) (by kernel_rfl) (fun _ _ _ h => h) (Or.inl ⟨by kernel_rfl, ?_⟩) hH ?_
              · rintro w ⟨hw1, hw2⟩
                go_simp
                all_goals try with_reducible rfl
              try simp only [List.getElem_toArray, List.getElem_cons_succ, List.getElem_cons_zero, Act.put, List.setIfInBounds_toArray, List.set_cons_zero, List.set_cons_succ]
              refine wpAnyH_take (i := 1) (v := .pointer (some ⟨tb, 0, none⟩)) rfl (by kernel_rfl) (by kernel_rfl) (by kernel_rfl) (fun _ _ _ h => h) (Or.inl ⟨by kernel_rfl, ?_⟩) hH ?_
              · rintro w ⟨hw1, hw2⟩
                go_simp
                all_goals try with_reducible rfl
              try simp only [List.getElem_toArray, List.getElem_cons_succ, List.getElem_cons_zero, Act.put, List.setIfInBounds_toArray, List.set_cons_zero, List.set_cons_succ]
              refine wpAnyH_take (i := 2) (v := .pointer (some ⟨tb, 0 + 1, none⟩)) rfl (by kernel_rfl) (by kernel_rfl) (by kernel_rfl) (fun _ _ _ h => h) (Or.inl ⟨by kernel_rfl, ?_⟩) hH ?_
              · rintro w ⟨hw1, hw2⟩
                go_simp
                all_goals try with_reducible rfl
              try simp only [List.getElem_toArray, List.getElem_cons_succ, List.getElem_cons_zero, Act.put, List.setIfInBounds_toArray, List.set_cons_zero, List.set_cons_succ]
              refine wpAnyH_take (i := 3) (v := .map (some mb)) rfl (by kernel_rfl) (by kernel_rfl) (by kernel_rfl) (fun _ _ _ h => h) (Or.inl ⟨by kernel_rfl, ?_⟩) hH ?_
              · rintro w ⟨hw1, hw2⟩
                go_simp
                all_goals try with_reducible rfl
              try simp only [List.getElem_toArray, List.getElem_cons_succ, List.getElem_cons_zero, Act.put, List.setIfInBounds_toArray, List.set_cons_zero, List.set_cons_succ]
              refine wpAnyH_take (i := 4) (v := .int .i32 a) rfl (by kernel_rfl) (by kernel_rfl) (by kernel_rfl) (fun _ _ _ h => h) (Or.inl ⟨by kernel_rfl, ?_⟩) hH ?_
              · rintro w ⟨hw1, hw2⟩
                go_simp
                all_goals try with_reducible rfl
              try simp only [List.getElem_toArray, List.getElem_cons_succ, List.getElem_cons_zero, Act.put, List.setIfInBounds_toArray, List.set_cons_zero, List.set_cons_succ]
              refine wpAnyH_take (i := 5) (v := .agg (blockC (blkT g lo hi v a)).toArray) rfl (by kernel_rfl) (by kernel_rfl) (by kernel_rfl) (fun _ _ _ h => h) (Or.inl ⟨by kernel_rfl, ?_⟩) hH ?_
              · rintro w ⟨hw1, hw2⟩
                exact exec_loadW rfl blockT (hsz2 _) hw1 rfl
              try simp only [List.getElem_toArray, List.getElem_cons_succ, List.getElem_cons_zero, Act.put, List.setIfInBounds_toArray, List.set_cons_zero, List.set_cons_succ]
              refine wpAnyH_ready (rs := [6]) (by kernel_rfl) (by simp) ?_
              refine AllReadyH.cons rfl (fun K hK => ?_) AllReadyH.nil
              refine step_putF rfl _ _ _ rfl rune_keyed blocksT hmx hmd (k := a) hk (blkT g lo hi v a) rfl rfl rfl ?_
              intro w5 hm5 hg5 hs5
              have hgw := grown_drewT hg5
              refine hK.out _ _ ⟨(hgw.block _ (Array.getElem?_eq_some_iff.1 h15d).1 (fun e => HNE.out (by injection e with e; exact e.symm))).trans h15d, (World.cell?_of_block (hgw.block tb (World.block_lt_of_cell? _ _ d2) (fun e => hmt (by injection e with e; exact e.symm)))).trans d2⟩ (fun _ => ?_)
              clear hK K
              try simp only [List.getElem_toArray, List.getElem_cons_succ, List.getElem_cons_zero, Act.put, List.setIfInBounds_toArray, List.set_cons_zero, List.set_cons_succ]
              refine wpAnyH_done (by kernel_rfl) ?_ _
              obtain ⟨k1, k2, k3⟩ := HST.out w5 hgw
              have hS5 : SInv w tb mb w1.heap.size n T lo hi v (a + 1) w5 := ⟨⟨n' + 1, _, by omega, hm5, by rw [HG.out]; exact tab_put h0 HTAB.out ha1⟩, k1, k2, k3⟩
              clear hm5 hg5 hmd h15d k1 k2 k3 d2 hgw hH
              go_wp2
              go_roundw
              case rel => exact ⟨a + 1, ha3, ha4, by first | rfl | rw [hw5], hS5⟩
              case measure => (try rw [hw5]); simp [intOf]; omega
      · have hgz : blockC (fun _ => 0) = blockC g := by rw [hg0]
        have HGZ : Hid (wo.alloc (.cells (blockC fun _ => 0).toArray 117) = wo.alloc (.cells (blockC g).toArray 117)) := by show _ = _; rw [hgz]
        clear hgz hg0
        go_wp2_with (first | (at_lookup; refine wpList_lookF rfl _ _ rfl rune_keyed blocksT (zero_block _) hm (k := a) hk rfl rfl ?_; rw [hfn]) | (refine wpList_loadW rfl rfl blockT (hsz2 _) ((hbn.block w1.heap.size hp9l).trans hz) rfl ?_) | (refine wpList_storeW rfl rfl (hsz2 _) (by simp [blockC_length]) (blockC_all _) h11 rfl rfl ?_; rw [World.setRow_alloc_new, HGZ.out]) | (refine wpList_storeW rfl rfl (hsz2 _) (by simp [blockC_length]) (blockC_all _) h110 rfl rfl ?_; rw [World.setRow_alloc_new, HGZ.out]) | go_in)
        go_loopw [13] (fun i wi => ∃ (k : Int) (j : Nat), j0 ≤ j ∧ Hid (k = a * 256 + j) ∧ k ≤ min hi (a * 256 + 255) + 1 ∧ i = .int .i32 k ∧ wi.heap[wo.heap.size]? = some (.cells (blockC (fun q => if j0 ≤ q ∧ q < j then v else g q)).toArray 117 (0, 0)) ∧ Below wo.heap.size wo wi) (fun i _ => (min hi (a * 256 + 255) + 1 - intOf i).toNat)
        case atStart =>
          refine ⟨_, j0, Nat.le_refl _, Lib.hid rfl, hj1, rfl, ?_, hbn⟩
          rw [blockC_congr (g := fun q => if j0 ≤ q ∧ q < j0 then v else g q) (h := g) (fun q _ => if_neg (by omega))]
          exact h11
        case round =>
          obtain ⟨k, j, hj2, HK, hj3, rfl, h12, hbi⟩ := hrel
          by_cases hjl : k ≤ min hi (a * 256 + 255)
          · have hkj := HK.out
            have hj256 : j < 256 := by omega
            have i1 : (j : Int) < 256 := by omega
            have i2 : (0 : Int) ≤ (j : Int) := by omega
            have hm5 : k.tmod 256 = (j : Int) := by rw [Int.tmod_eq_emod_of_nonneg (by omega)]; omega
            have hm7 : (k.tmod 256).toNat = j := by rw [hm5]; omega
            have i3 : 0 ≤ k.tmod 256 := by rw [hm5]; exact i2
            have i4 : k.tmod 256 < 256 := by rw [hm5]; exact i1
            have hm2 : wrap32 (k + 1) = k + 1 := by unfold wrap32; omega
            obtain ⟨z0, e0⟩ : ∃ z0, wr.cell? ⟨wo.heap.size, (k.tmod 256).toNat, none⟩ = some (.int .i64 z0) := ⟨_, by rw [hm7]; exact block_cell h12 hj256⟩
            have e1 : wr.frozen? ⟨wo.heap.size, (k.tmod 256).toNat, none⟩ = false := block_frozen h12 _
            have h13 := block_put h12 hj256 v
            have hb2 : Below wo.heap.size wo (wr.setCell ⟨wo.heap.size, (k.tmod 256).toNat, none⟩ (.int .i64 v)) := hbi.setCell (p := ⟨wo.heap.size, (k.tmod 256).toNat, none⟩) (Nat.le_refl _) _
            rw [blockC_congr (h := fun q => if j0 ≤ q ∧ q < j + 1 then v else g q) (fun q _ => by
              by_cases e : q = j
              · rw [if_pos e, if_pos (by omega)]
              · rw [if_neg e]
                by_cases e2 : j0 ≤ q ∧ q < j
                · rw [if_pos e2, if_pos (by omega)]
                · rw [if_neg e2, if_neg (by omega)])] at h13
            have h14 : (wr.setCell ⟨wo.heap.size, (k.tmod 256).toNat, none⟩ (.int .i64 v)).heap[wo.heap.size]? = some (.cells (blockC fun q => if j0 ≤ q ∧ q < j + 1 then v else g q).toArray 117 (0, 0)) := by rw [hm7]; exact h13
            have HK2 : Hid (k + 1 = a * 256 + ((j + 1 : Nat) : Int)) := by show _ = _; omega
            have hk4 : k + 1 ≤ min hi (a * 256 + 255) + 1 := by omega
            have hj4 : j0 ≤ j + 1 := by omega
            clear h12 hbi h11 h110 hbn hbn0 hm hz hb hw d1 hst hkj hm5 hm7 h13 i1 i2 hj1 hj0 hj0l
            go_wp2
            go_roundw
            case rel => exact ⟨k + 1, j + 1, hj4, HK2, hk4, by rw [hm2], h14, hb2⟩
            case measure => rw [hm2]; simp [intOf]; omega
          · have hkj := HK.out
            have hke : k = min hi (a * 256 + 255) + 1 := by omega
            have hkle : min hi (a * 256 + 255) < k := by omega
            have h15 : wr.heap[wo.heap.size]? = some (.cells (blockC (blkT g lo hi v a)).toArray 117 (0, 0)) := by
              rw [h12]
              congr 3
              refine blockC_congr fun q hq => ?_
              unfold blkT
              by_cases e : j0 ≤ q ∧ q < j
              · rw [if_pos e, if_pos (by omega)]
              · rw [if_neg e, if_neg (by omega)]
            have hzr : wr.heap[w1.heap.size]? = some (.cells (blockC fun _ => 0).toArray 117 (0, 0)) := (hbi.block _ hp9l).trans hz
            have htl : tb < wo.heap.size := (Array.getElem?_eq_some_iff.1 hb).1
            have hbr := (hbi.block tb htl).trans hb
            have d2 : wr.cell? ⟨tb, 0 + 1, none⟩ = some (.map (some mb)) := by simp [World.cell?, hbr]
            have hmr := hm.below hbi hm.lt
            have hmp : mb ≠ w1.heap.size := hm.ne_cells hz
            have heql := fun w => eql_block (blkT g lo hi v a) (fun _ => 0) w
            have hw5 : wrap32 (a + 1) = a + 1 := by unfold wrap32; omega
            have ha3 : lo / 256 ≤ a + 1 := by omega
            have ha4 : a + 1 ≤ hi / 256 + 1 := by omega
            have hmle : n' + 1 ≤ n + (a + 1 - lo / 256).toNat := by omega
            have HST : Hid (∀ w5, wr.grownBy w5 (some mb) → w5.heap[tb]? = some (.cells #[.int .i64 0, .map (some mb)] 105 (0, 0)) ∧ w5.heap[w1.heap.size]? = some (.cells (blockC fun _ => 0).toArray 117 (0, 0)) ∧ Wrote (fun g => g = mb) w w5) := fun w5 hg5 =>
              ⟨(hg5.block tb (Nat.lt_of_lt_of_le htl hbi.size) (fun e => hmt (by injection e with e; exact e.symm))).trans hbr, (hg5.block _ (Nat.lt_of_lt_of_le hp9l hbi.size) (fun e => hmp (by injection e with e; exact e.symm))).trans hzr, (hw.then_below hbi).trans (Wrote.grown hg5 fun k hk => by injection hk with hk; exact hk.symm)⟩
            have HB := Lib.hid hbi
            have HNE : Hid (mb ≠ wo.heap.size) := fun e => by have := hm.lt; omega
            cases hall : allB (blkT g lo hi v a) (fun _ => 0) with
            | true =>
              rw [hall] at heql
              have HZ := Lib.hid (allB_is.1 hall)
              clear h12 hbi h11 h110 hbn hbn0 hm hz hb hw d1 hst hkj hj1 hj0 hj0l hall hke hbr hmp
              go_wp2_with (first | (refine wpList_loadW rfl rfl blockT (hsz2 _) h15 rfl ?_) | (refine wpList_loadW rfl rfl blockT (hsz2 _) hzr rfl ?_) | (at_delete; refine wpList_delF rfl _ _ rfl rune_keyed blocksT hmr (k := a) hk rfl rfl ?_; intro w5 hm5 hg5 hs5) | go_in)
              obtain ⟨k1, k2, k3⟩ := HST.out _ hg5
              have hS5 : SInv w tb mb w1.heap.size n T lo hi v (a + 1) w5 := ⟨⟨n', _, by omega, hm5, tab_del h0 HTAB.out ha1 (by rw [← HG.out]; exact HZ.out)⟩, k1, k2, k3⟩
              clear hm5 hg5 hmr h15 hzr k1 k2 k3 d2
              go_roundw
              case rel => exact ⟨a + 1, ha3, ha4, by first | rfl | rw [hw5], hS5⟩
              case measure => (try rw [hw5]); simp [intOf]; omega
            | false =>
              rw [hall] at heql
              clear h12 hbi h11 h110 hbn hbn0 hm hz hb hw d1 hst hkj hj1 hj0 hj0l hall hke hbr hmp
              go_wp2_with (first | (refine wpList_loadW rfl rfl blockT (hsz2 _) h15 rfl ?_) | (refine wpList_loadW rfl rfl blockT (hsz2 _) hzr rfl ?_) | go_in)
              have h15d : wr.drew.heap[wo.heap.size]? = some (.cells (blockC (blkT g lo hi v a)).toArray 117 (0, 0)) := h15
              have hmd : MapF wr.drew Tryz.prog 21 runeLit R32 blockV mb n' f := hmr.at rfl
              have hmx : n' < maxLen := by unfold maxLen; omega
              clear h15 hmr hzr
              refine wp_region_held_drew (S := fun w' => w'.heap[wo.heap.size]? = some (.cells (blockC (blkT g lo hi v a)).toArray 117 (0, 0)) ∧ w'.cell? ⟨tb, 0 + 1, none⟩ = some (.map (some mb))) (by kernel_rfl) ⟨h15d, d2⟩ (fun hH => ?_)
              refine wpAnyH_take (i := 0) (v := .pointer (some ⟨tb, 0, none⟩)) rfl (by kernel_rfl) (by kernel_rfl) (by kernel_rfl) (fun _ _ _ h => h) (Or.inl ⟨by kernel_rfl, ?_⟩) hH ?_
              · rintro w ⟨hw1, hw2⟩
                go_simp
                all_goals try with_reducible rfl
              try simp only [List.getElem_toArray, List.getElem_cons_succ, List.getElem_cons_zero, Act.put, List.setIfInBounds_toArray, List.set_cons_zero, List.set_cons_succ]
              refine wpAnyH_take (i := 1) (v := .pointer (some ⟨tb, 0, none⟩)) rfl (by kernel_rfl) (by kernel_rfl) (by kernel_rfl) (fun _ _ _ h => h) (Or.inl ⟨by kernel_rfl, ?_⟩) hH ?_
              · rintro w ⟨hw1, hw2⟩
                go_simp
                all_goals try with_reducible rfl
              try simp only [List.getElem_toArray, List.getElem_cons_succ, List.getElem_cons_zero, Act.put, List.setIfInBounds_toArray, List.set_cons_zero, List.set_cons_succ]
              refine wpAnyH_take (i := 2) (v := .pointer (some ⟨tb, 0 + 1, none⟩)) rfl (by kernel_rfl) (by kernel_rfl) (by kernel_rfl) (fun _ _ _ h => h) (Or.inl ⟨by kernel_rfl, ?_⟩) hH ?_
              · rintro w ⟨hw1, hw2⟩
                go_simp
                all_goals try with_reducible rfl
              try simp only [List.getElem_toArray, List.getElem_cons_succ, List.getElem_cons_zero, Act.put, List.setIfInBounds_toArray, List.set_cons_zero, List.set_cons_succ]
              refine wpAnyH_take (i := 3) (v := .map (some mb)) rfl (by kernel_rfl) (by kernel_rfl) (by kernel_rfl) (fun _ _ _ h => h) (Or.inl ⟨by kernel_rfl, ?_⟩) hH ?_
              · rintro w ⟨hw1, hw2⟩
                go_simp
                all_goals try with_reducible rfl
              try simp only [List.getElem_toArray, List.getElem_cons_succ, List.getElem_cons_zero, Act.put, List.setIfInBounds_toArray, List.set_cons_zero, List.set_cons_succ]
              refine wpAnyH_take (i := 4) (v := .int .i32 a) rfl (by kernel_rfl) (by kernel_rfl) (by kernel_rfl) (fun _ _ _ h => h) (Or.inl ⟨by kernel_rfl, ?_⟩) hH ?_
              · rintro w ⟨hw1, hw2⟩
                go_simp
                all_goals try with_reducible rfl
              try simp only [List.getElem_toArray, List.getElem_cons_succ, List.getElem_cons_zero, Act.put, List.setIfInBounds_toArray, List.set_cons_zero, List.set_cons_succ]
              refine wpAnyH_take (i := 5) (v := .agg (blockC (blkT g lo hi v a)).toArray) rfl (by kernel_rfl) (by kernel_rfl) (by kernel_rfl) (fun _ _ _ h => h) (Or.inl ⟨by kernel_rfl, ?_⟩) hH ?_
              · rintro w ⟨hw1, hw2⟩
                exact exec_loadW rfl blockT (hsz2 _) hw1 rfl
              try simp only [List.getElem_toArray, List.getElem_cons_succ, List.getElem_cons_zero, Act.put, List.setIfInBounds_toArray, List.set_cons_zero, List.set_cons_succ]
              refine wpAnyH_ready (rs := [6]) (by kernel_rfl) (by simp) ?_
              refine AllReadyH.cons rfl (fun K hK => ?_) AllReadyH.nil
              refine step_putF rfl _ _ _ rfl rune_keyed blocksT hmx hmd (k := a) hk (blkT g lo hi v a) rfl rfl rfl ?_
              intro w5 hm5 hg5 hs5
              have hgw := grown_drewT hg5
              refine hK.out _ _ ⟨(hgw.block _ (Array.getElem?_eq_some_iff.1 h15d).1 (fun e => HNE.out (by injection e with e; exact e.symm))).trans h15d, (World.cell?_of_block (hgw.block tb (World.block_lt_of_cell? _ _ d2) (fun e => hmt (by injection e with e; exact e.symm)))).trans d2⟩ (fun _ => ?_)
              clear hK K
              try simp only [List.getElem_toArray, List.getElem_cons_succ, List.getElem_cons_zero, Act.put, List.setIfInBounds_toArray, List.set_cons_zero, List.set_cons_succ]
              refine wpAnyH_done (by kernel_rfl) ?_ _
              obtain ⟨k1, k2, k3⟩ := HST.out w5 hgw
              have hS5 : SInv w tb mb w1.heap.size n T lo hi v (a + 1) w5 := ⟨⟨n' + 1, _, by omega, hm5, by rw [HG.out]; exact tab_put h0 HTAB.out ha1⟩, k1, k2, k3⟩
              clear hm5 hg5 hmd h15d k1 k2 k3 d2 hgw hH
              go_wp2
              go_roundw
              case rel => exact ⟨a + 1, ha3, ha4, by first | rfl | rw [hw5], hS5⟩
              case measure => (try rw [hw5]); simp [intOf]; omega
    · have hlt' : hi / 256 < a := by omega
      obtain ⟨⟨n', f, hn', hm, hT⟩, hb, hz, hw⟩ := hS
      have HT : Hid (TabAt wo tb mb (n + 4353) (fun r => if lo ≤ r ∧ r ≤ hi then v else T r)) := by
        refine ⟨hb, f, hm.mono (by omega), fun r hr => ?_⟩
        have := hT r hr
        unfold setT at this
        refine Eq.trans ?_ this
        show (if lo ≤ r ∧ r ≤ hi then v else T r) = _
        by_cases hin : lo ≤ r ∧ r ≤ hi
        · rw [if_pos hin, if_pos (by omega)]
        · rw [if_neg hin, if_neg (by omega)]
      clear hm hT hb hz
      go_wp2
      go_returns
      exact ⟨rfl, HT.out, hw⟩
end Go.Proofs.YtggichcfklbjiaaGreatDoor
end
