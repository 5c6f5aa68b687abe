/- Whether a thing is called so, and where a thing is: the code. -/
import Derived.Test.YthfakejhkbelhaaDoorNmsS
import Derived.Test.YthfakejhkbelhaaDoorStrs
import Derived.Test.YthfakejhkbelhaaDoorMemK
set_option linter.unusedSimpArgs false
set_option linter.unusedVariables false
namespace Go.Proofs.YthfakejhkbelhaaDoor
open Go.RowKit

section
variable {w w' : World} {B : Nat} {cur : Array Value} {t : TypeId}
theorem box_cell (h : w.heap[B]? = some (.cells cur t (0, 0))) (j : Nat) {v : Value} (hj : cur[j]? = some v) : w.cell? ⟨B, j, none⟩ = some v := by
  rw [cell_of_row w B j cur t (0, 0) h]; exact hj
theorem box_frozen (h : w.heap[B]? = some (.cells cur t (0, 0))) (j : Nat) : w.frozen? ⟨B, j, none⟩ = false := by simp [World.frozen?, h]
theorem box_lt (h : w.heap[B]? = some (.cells cur t (0, 0))) : B < w.heap.size := (Array.getElem?_eq_some_iff.1 h).1
theorem box_below (h : w.heap[B]? = some (.cells cur t (0, 0))) (hb : Below w.heap.size w w') : w'.heap[B]? = some (.cells cur t (0, 0)) := (hb.block B (box_lt h)).trans h
theorem box_set (h : w.heap[B]? = some (.cells cur t (0, 0))) (j : Nat) (v : Value) : (w.setCell ⟨B, j, none⟩ v).heap[B]? = some (.cells (cur.setIfInBounds j v) t (0, 0)) := by
  have hb := box_lt h
  simp [World.setCell, Array.getElem?_modify, h]
theorem box_new (w : World) (cur : Array Value) (t : TypeId) : (w.alloc (.cells cur t)).heap[w.heap.size]? = some (.cells cur t (0, 0)) := by simp only [World.alloc, Array.getElem?_push_size]
end
theorem cell_belowU {w w' : World} {p : Addr} {u : Value} (h : w.cell? p = some u) (hb : Below w.heap.size w w') : w'.cell? p = some u := (hb.cell (World.block_lt_of_cell? w p h)).trans h
theorem cell_setU {w : World} {b o B j : Nat} {u v : Value} (h : w.cell? ⟨b, o, none⟩ = some u) (hne : ¬ (b = B)) : (w.setCell ⟨B, j, none⟩ v).cell? ⟨b, o, none⟩ = some u :=
  (World.cell?_of_block (Below.heap_setCell w ⟨B, j, none⟩ v b hne)).trans h
theorem sidx_any (g : FuncId) (cb : Array Value) (en : ∀ args w, (callFunc g args).run Tryd.prog w = .ok (.enter g args) w) (p : List UInt8 → Bool) (A : Option Addr) (n c : Nat) (zs : List (List UInt8)) (w : World) (hr : Rd w A n (Ss zs)) (hn : n ≤ 1099511627776)
    (hp : ∀ x W, Below w.heap.size w W → Calls Tryd.prog g (#[.string (mk8 x)] ++ cb) W fun e W' => e = .returned (.bool (p x)) ∧ Below W.heap.size W W') :
    Calls Tryd.prog 69 #[.slice A n c, .func (.func g) #[] cb] w fun e w' => (∃ k : Int, e = .returned (.int .i64 k) ∧ decide (0 ≤ k) = zs.any p) ∧ Below w.heap.size w w' := by
  have hzl : zs.length = n := by have := hr.1; simpa [Ss] using this
  have HZL := Lib.hid hzl
  clear hzl
  have HP := Lib.hid hp
  clear hp
  go_enter Tryd.func69, Tryd.ntmps69
  go_wp2
  go_loopw [8] (fun i wr => ∃ k : Nat, k ≤ n ∧ i = .int .i64 k ∧ Hid ((zs.take k).any p = false) ∧ Below w.heap.size w wr) (fun i _ => n - (intOf i).toNat)
  case atStart => exact ⟨0, Nat.zero_le _, rfl, by show _ = _; rfl, Below.refl _ _⟩
  case round =>
    obtain ⟨k, hk, rfl, HA, hb⟩ := hrel
    by_cases hlt : k < n
    · obtain ⟨x, hx⟩ : ∃ x, zs[k]? = some x := ⟨_, List.getElem?_eq_getElem (by rw [HZL.out]; exact hlt)⟩
      obtain ⟨b, off, rfl, hbl, hc⟩ := (hr.below hb).at_ (by omega)
      have cx : wr.cell? ⟨b, off + k, none⟩ = some (.string (mk8 x)) := hc k _ (by simp [Ss, hx])
      have HC := HP.out x wr hb
      have HT : Hid ((zs.take (k + 1)).any p = p x) := by
        show _ = _
        rw [List.take_add_one, hx, List.any_append, HA.out]
        simp
      have hi : (k : Int) < (n : Int) := by omega
      clear hc hr hx
      cases hpx : p x
      · rw [hpx] at HC HT
        clear hpx
        go_wp2_with fail
        refine HC.mono ?_
        rintro e w1 ⟨rfl, hb1⟩
        have hb2 := below_then hb hb1
        go_wp2
        go_roundw
        case rel => exact ⟨k + 1, by omega, by go_num, HT, hb2⟩
        case measure => simp [intOf]; omega
      · have HZ : Hid (zs.any p = true) := by
          show _ = _
          rw [← List.take_append_drop (k + 1) zs, List.any_append, HT.out, hpx]
          rfl
        rw [hpx] at HC
        clear hpx HT
        go_wp2_with fail
        refine HC.mono ?_
        rintro e w1 ⟨rfl, hb1⟩
        have hb2 := below_then hb hb1
        go_wp2
        go_returns
        rw [HZ.out]
        exact ⟨⟨(k : Int), rfl, by simp⟩, hb2⟩
    · have hi : (n : Int) ≤ (k : Int) := by omega
      have HZ : Hid (zs.any p = false) := by
        show _ = _
        rw [← HA.out, List.take_of_length_le (by rw [HZL.out]; omega)]
      go_wp2
      go_returns
      rw [HZ.out]
      exact ⟨⟨-1, rfl, by decide⟩, hb⟩
theorem scont_any (g : FuncId) (cb : Array Value) (en : ∀ args w, (callFunc g args).run Tryd.prog w = .ok (.enter g args) w) (p : List UInt8 → Bool) (A : Option Addr) (n c : Nat) (zs : List (List UInt8)) (w : World) (hr : Rd w A n (Ss zs)) (hn : n ≤ 1099511627776)
    (hp : ∀ x W, Below w.heap.size w W → Calls Tryd.prog g (#[.string (mk8 x)] ++ cb) W fun e W' => e = .returned (.bool (p x)) ∧ Below W.heap.size W W') :
    Calls Tryd.prog 58 #[.slice A n c, .func (.func g) #[] cb] w fun e w' => e = .returned (.bool (zs.any p)) ∧ Below w.heap.size w w' := by
  have HI := sidx_any g cb en p A n c zs w hr hn hp
  clear hp hr
  go_enter Tryd.func58, Tryd.ntmps58
  go_wp2_with fail
  refine HI.mono ?_
  rintro e w1 ⟨⟨k, rfl, hk⟩, hb⟩
  have HK := Lib.hid hk
  clear hk HI
  go_wp2
  go_returns
  refine ⟨?_, hb⟩
  rw [← HK.out]
  rfl
/-- The inner functions that ask whether two names are the same. -/
theorem is1_any (x s : List UInt8) (q : Nat) (w : World) (hE : EnvN w) (hq : w.cell? ⟨q, 0, none⟩ = some (.string (mk8 s))) :
    Calls Tryd.prog 74 #[.string (mk8 x), .pointer (some ⟨q, 0, none⟩)] w fun e w' => e = .returned (.bool (sameS x s)) ∧ Below w.heap.size w w' := by
  have SM := same21_any (mk8 x) (mk8 s) w hE
  rw [bs_mk8, bs_mk8] at SM
  go_enter Tryd.func74, Tryd.ntmps74
  go_wp2_with fail
  refine SM.mono ?_
  rintro e w1 ⟨rfl, hb⟩
  go_wp2
  go_returns
  exact ⟨rfl, hb⟩
theorem fresh1_any (x s : List UInt8) (q : Nat) (w : World) (hE : EnvN w) (hq : w.cell? ⟨q, 0, none⟩ = some (.string (mk8 s))) :
    Calls Tryd.prog 59 #[.string (mk8 x), .pointer (some ⟨q, 0, none⟩)] w fun e w' => e = .returned (.bool (sameS s x)) ∧ Below w.heap.size w w' := by
  have SM := same21_any (mk8 s) (mk8 x) w hE
  rw [bs_mk8, bs_mk8] at SM
  go_enter Tryd.func59, Tryd.ntmps59
  go_wp2_with fail
  refine SM.mono ?_
  rintro e w1 ⟨rfl, hb⟩
  go_wp2
  go_returns
  exact ⟨rfl, hb⟩
/-- A thing, as a value. -/
def thV (t : Thg) (A : Option Addr) (c : Nat) : Value := .agg #[.int .i64 t.x, .string (mk8 t.nm), .slice A t.ot.length c]
set_option maxRecDepth 20000 in
set_option maxHeartbeats 4000000 in
theorem is_any (t : Thg) (A : Option Addr) (c : Nat) (s : List UInt8) (w : World) (hE : EnvN w) (hr : Rd w A t.ot.length (Ss t.ot)) (hn : t.ot.length ≤ 1099511627776) :
    Calls Tryd.prog 68 #[thV t A c, .string (mk8 s)] w fun e w' => e = .returned (.bool (isS s t)) ∧ Below w.heap.size w w' := by
  have hmf : ∀ (fn : Fn) (first cap : Array Value) (w : World), (Instr.makeFunc fn first cap).run Tryd.prog w = .ok (.func fn first cap) w := fun _ _ _ _ => rfl
  obtain ⟨tx, tn, tot⟩ := t
  simp only [] at hr hn
  have SM := fun w h => same21_any (mk8 tn) (mk8 s) w h
  rw [bs_mk8, bs_mk8] at SM
  unfold isS
  simp only [thV]
  have HBOX : ∀ o1 o2, Below w.heap.size w ((w.alloc o1).alloc o2) := fun o1 o2 => ((Below.refl _ _).alloc (Nat.le_refl _) _).alloc (by simp) _
  cases hs : sameS tn s
  · rw [hs] at SM
    rw [Bool.false_or]
    clear hs
    go_enter Tryd.func68, Tryd.ntmps68
    go_wp2_with fail
    generalize hWW : (w.alloc _).alloc _ = W at *
    have hbW : Below w.heap.size w W := by rw [← hWW]; exact HBOX _ _
    have hx : W.heap[w.heap.size]? = some (.cells #[.int .i64 tx, .string (mk8 tn), .slice A tot.length c] 71 (0, 0)) := by rw [← hWW]; exact box_below (box_new w _ _) (Below.alloc (Below.refl _ _) (Nat.le_refl _) _)
    have hy : W.heap[w.heap.size + 1]? = some (.cells #[.string (mk8 s)] 9 (0, 0)) := by
      rw [← hWW]
      have := box_new (w.alloc (.cells #[.int .i64 tx, .string (mk8 tn), .slice A tot.length c] 71)) #[.string (mk8 s)] 9
      simpa using this
    clear hWW HBOX
    refine (SM _ (hE.below hbW)).mono ?_
    rintro e w1 ⟨rfl, hb⟩
    have hx1 := box_below hx hb
    have z2 : w1.cell? ⟨w.heap.size, 2, none⟩ = some (.slice A tot.length c) := box_cell hx1 2 rfl
    have q0 : w1.cell? ⟨w.heap.size + 1, 0, none⟩ = some (.string (mk8 s)) := box_cell (box_below hy hb) 0 rfl
    have hbw1 := below_then hbW hb
    have SC := scont_any 74 #[.pointer (some ⟨w.heap.size + 1, 0, none⟩)] (enters_of Tryd.func74 (by kernel_rfl) rfl) (fun o => sameS o s) A tot.length c tot w1 (hr.below hbw1) hn
      (fun x W' hb' => is1_any x s _ W' (hE.below (below_then hbw1 hb')) (cell_belowU q0 hb'))
    clear hx hy hx1 hb hbW SM
    go_wp2_with fail
    refine SC.mono ?_
    rintro e w2 ⟨rfl, hb2⟩
    have hb3 := below_then hbw1 hb2
    clear SC
    go_wp2
    go_returns
    exact ⟨rfl, hb3⟩
  · rw [hs] at SM
    rw [Bool.true_or]
    clear hs
    go_enter Tryd.func68, Tryd.ntmps68
    go_wp2_with fail
    refine (SM _ (hE.below (HBOX _ _))).mono ?_
    rintro e w1 ⟨rfl, hb⟩
    have hb2 := below_then (HBOX _ _) hb
    go_wp2
    go_returns
    exact ⟨rfl, hb2⟩
/-- Things, and where their lists of names lie. -/
abbrev TA := Thg × Option Addr × Nat
def tC (x : TA) : List Value := [.int .i64 x.1.x, .string (mk8 x.1.nm), .slice x.2.1 x.1.ot.length x.2.2]
def Ts (os : List TA) : List Value := os.flatMap tC
theorem Ts_snoc (os : List TA) (x : TA) : Ts (os ++ [x]) = Ts os ++ tC x := by simp [Ts]
theorem Ts_app (a b : List TA) : Ts (a ++ b) = Ts a ++ Ts b := by simp [Ts]
theorem Ts_len : ∀ os : List TA, (Ts os).length = os.length * 3
  | [] => rfl
  | x :: t => by
    show (tC x ++ Ts t).length = _
    rw [List.length_append, Ts_len t, List.length_cons]
    show 3 + _ = _
    omega
theorem Ts_at : ∀ (os : List TA) (i : Nat) (x : TA), os[i]? = some x → ∀ j u, (tC x)[j]? = some u → (Ts os)[i * 3 + j]? = some u
  | [], i, x, h => by simp at h
  | y :: t, 0, x, h => by
    intro j u hu
    simp at h
    subst h
    have hj : j < (tC y).length := (List.getElem?_eq_some_iff.1 hu).1
    show (tC y ++ Ts t)[0 * 3 + j]? = some u
    rw [Nat.zero_mul, Nat.zero_add, List.getElem?_append_left hj]
    exact hu
  | y :: t, i + 1, x, h => by
    intro j u hu
    have ih := Ts_at t i x (by simpa using h) j u hu
    show (tC y ++ Ts t)[(i + 1) * 3 + j]? = some u
    rw [List.getElem?_append_right (by show 3 ≤ (i + 1) * 3 + j; omega), show (i + 1) * 3 + j - (tC y).length = i * 3 + j by show (i + 1) * 3 + j - 3 = _; omega]
    exact ih
theorem tC_one (x : TA) : ∀ u ∈ tC x, u.oneCell' = true := by
  intro u hu
  simp [tC] at hu
  rcases hu with rfl | rfl | rfl <;> rfl
/-- Things that read so. -/
structure ThRd (w : World) (A : Option Addr) (os : List TA) : Prop where
  cells : RdK w A os.length 3 (Ts os)
  ot : ∀ x ∈ os, Rd w x.2.1 x.1.ot.length (Ss x.1.ot)
theorem ThRd.below {w w' : World} {A : Option Addr} {os : List TA} (h : ThRd w A os) (hb : Below w.heap.size w w') : ThRd w' A os := ⟨h.cells.below (by omega) hb, fun x hx => (h.ot x hx).below hb⟩
theorem ThRd.at_ {w : World} {A : Option Addr} {os : List TA} (h : ThRd w A os) (hn : 0 < os.length) : ∃ b off, A = some ⟨b, off, none⟩ ∧ b < w.heap.size ∧ ∀ j u, (Ts os)[j]? = some u → w.cell? ⟨b, off + j, none⟩ = some u := h.cells.at_ (by omega) hn
theorem th_cells {w : World} {os : List TA} {k : Nat} {t : Thg} {At : Option Addr} {ct : Nat} (hx : os[k]? = some (t, At, ct)) {b off : Nat} (hc : ∀ j u, (Ts os)[j]? = some u → w.cell? ⟨b, off + j, none⟩ = some u) :
    w.cell? ⟨b, off + k * 3, none⟩ = some (.int .i64 t.x) ∧ w.cell? ⟨b, off + k * 3 + 1, none⟩ = some (.string (mk8 t.nm)) ∧ w.cell? ⟨b, off + k * 3 + 2, none⟩ = some (.slice At t.ot.length ct) := by
  have hv := Ts_at os k _ hx
  have g : ∀ j u, (tC (t, At, ct))[j]? = some u → w.cell? ⟨b, off + k * 3 + j, none⟩ = some u := fun j u hu => by
    have := hc _ _ (hv j u hu)
    rwa [← Nat.add_assoc] at this
  exact ⟨g 0 _ rfl, g 1 _ rfl, g 2 _ rfl⟩
theorem drop_someN {α : Type} {R : List α} {k : Nat} {x : α} (h : R[k]? = some x) : R.drop k = x :: R.drop (k + 1) := by
  obtain ⟨hk, he⟩ := List.getElem?_eq_some_iff.1 h
  rw [List.drop_eq_getElem_cons hk, he]
theorem atF_step {s : List UInt8} {L : List Thg} {k : Nat} {x : Thg} (h : L[k]? = some x) (hno : isS s x = false) (HA : atF s L = (atF s (L.drop k)).map (· + k)) : atF s L = (atF s (L.drop (k + 1))).map (· + (k + 1)) := by
  rw [HA, drop_someN h]
  show (if isS s x = true then some 0 else (atF s (L.drop (k + 1))).map (· + 1)).map (· + k) = _
  rw [if_neg (by rw [hno]; simp), Option.map_map]
  cases atF s (L.drop (k + 1)) with
  | none => rfl
  | some n => simp; omega
set_option maxRecDepth 20000 in
set_option maxHeartbeats 4000000 in
theorem eidx_any (g : FuncId) (cb : Array Value) (en : ∀ args w, (callFunc g args).run Tryd.prog w = .ok (.enter g args) w) (s : List UInt8) (A : Option Addr) (n c : Nat) (os : List TA) (w : World) (hr : ThRd w A os) (hol : os.length = n) (hn : n ≤ 1099511627776)
    (hp : ∀ x ∈ os, ∀ W, Below w.heap.size w W → Calls Tryd.prog g (#[thV x.1 x.2.1 x.2.2] ++ cb) W fun e W' => e = .returned (.bool (isS s x.1)) ∧ Below W.heap.size W W') :
    Calls Tryd.prog 66 #[.slice A n c, .func (.func g) #[] cb] w fun e w' => e = .returned (.int .i64 (atI (atF s (os.map (·.1))))) ∧ Below w.heap.size w w' := by
  obtain ⟨L, hL⟩ : ∃ L, L = os.map (·.1) := ⟨_, rfl⟩
  rw [← hL]
  have hget : ∀ k t At ct, os[k]? = some (t, At, ct) → L[k]? = some t := fun k t At ct h => by rw [hL, List.getElem?_map, h]; rfl
  have HGET := Lib.hid hget
  have HLL : Hid (L.length = n) := by show _ = _; rw [hL, List.length_map]; exact hol
  have HOL := Lib.hid hol
  have HP := Lib.hid hp
  clear hp hol hL hget
  go_enter Tryd.func66, Tryd.ntmps66
  go_wp2
  go_loopw [8] (fun i wr => ∃ k : Nat, k ≤ n ∧ i = .int .i64 k ∧ Hid (atF s L = (atF s (L.drop k)).map (· + k)) ∧ Below w.heap.size w wr) (fun i _ => n - (intOf i).toNat)
  case atStart => exact ⟨0, Nat.zero_le _, rfl, by show _ = _; simp, Below.refl _ _⟩
  case round =>
    obtain ⟨k, hk, rfl, HA, hb⟩ := hrel
    by_cases hlt : k < n
    · obtain ⟨⟨t, At, ct⟩, hx⟩ : ∃ x, os[k]? = some x := ⟨_, List.getElem?_eq_getElem (by rw [HOL.out]; exact hlt)⟩
      obtain ⟨b, off, rfl, hbl, hc⟩ := (hr.below hb).at_ (by rw [HOL.out]; omega)
      obtain ⟨c0, c1, c2⟩ := th_cells hx hc
      have HC := HP.out _ (List.mem_of_getElem? hx) wr hb
      simp only [thV] at HC
      have hLk := HGET.out _ _ _ _ hx
      have hi : (k : Int) < (n : Int) := by omega
      clear hc hr hx
      cases hpx : isS s t
      · have HT : Hid (atF s L = (atF s (L.drop (k + 1))).map (· + (k + 1))) := atF_step hLk hpx HA.out
        rw [hpx] at HC
        clear hpx hLk HA
        go_wp2_with fail
        refine HC.mono ?_
        rintro e w1 ⟨rfl, hb1⟩
        have hb2 := below_then hb hb1
        go_wp2
        go_roundw
        case rel => exact ⟨k + 1, by omega, by go_num, HT, hb2⟩
        case measure => simp [intOf]; omega
      · have HZ : Hid (atI (atF s L) = k) := by
          show _ = _
          rw [HA.out, drop_someN hLk]
          show atI ((if isS s t = true then some 0 else _).map (· + k)) = _
          rw [if_pos hpx]
          simp [atI]
        rw [hpx] at HC
        clear hpx hLk HA
        go_wp2_with fail
        refine HC.mono ?_
        rintro e w1 ⟨rfl, hb1⟩
        have hb2 := below_then hb hb1
        go_wp2
        go_returns
        exact ⟨by rw [HZ.out] <;> rfl, hb2⟩
    · have hi : (n : Int) ≤ (k : Int) := by omega
      have HZ : Hid (atI (atF s L) = -1) := by
        show _ = _
        rw [HA.out, List.drop_eq_nil_of_le (by rw [HLL.out]; omega)]
        rfl
      clear HA
      go_wp2
      go_returns
      exact ⟨by rw [HZ.out] <;> rfl, hb⟩
set_option maxRecDepth 20000 in
theorem at1_any (t : Thg) (A : Option Addr) (c : Nat) (s : List UInt8) (q : Nat) (w : World) (hE : EnvN w) (hr : Rd w A t.ot.length (Ss t.ot)) (hn : t.ot.length ≤ 1099511627776) (hq : w.cell? ⟨q, 0, none⟩ = some (.string (mk8 s))) :
    Calls Tryd.prog 67 #[thV t A c, .pointer (some ⟨q, 0, none⟩)] w fun e w' => e = .returned (.bool (isS s t)) ∧ Below w.heap.size w w' := by
  have IS := fun w h h2 => is_any t A c s w h h2 hn
  obtain ⟨res, hres⟩ : ∃ res, res = isS s t := ⟨_, rfl⟩
  rw [← hres] at IS
  rw [← hres]
  obtain ⟨tx, tn, tot⟩ := t
  simp only [thV] at IS hr ⊢
  have HBOX : ∀ o, Below w.heap.size w (w.alloc o) := fun o => (Below.refl _ _).alloc (Nat.le_refl _) _
  have hq2 : ∀ o, (w.alloc o).cell? ⟨q, 0, none⟩ = some (.string (mk8 s)) := fun o => cell_belowU hq (HBOX o)
  clear hres
  go_enter Tryd.func67, Tryd.ntmps67
  go_wp2_with fail
  refine (IS _ (hE.below (HBOX _)) (hr.below (HBOX _))).mono ?_
  rintro e w1 ⟨rfl, hb⟩
  have hb2 := below_then (HBOX _) hb
  go_wp2
  go_returns
  exact ⟨rfl, hb2⟩
set_option maxRecDepth 20000 in
theorem at_any (r : Nat) (s : List UInt8) (A : Option Addr) (n c : Nat) (os : List TA) (w : World) (hE : EnvN w) (hc : w.cell? ⟨r, 0, none⟩ = some (.slice A n c)) (hr : ThRd w A os) (hol : os.length = n) (hn : n ≤ 1099511627776) (ho : ∀ x ∈ os, x.1.ot.length ≤ 1099511627776) :
    Calls Tryd.prog 57 #[.pointer (some ⟨r, 0, none⟩), .string (mk8 s)] w fun e w' => e = .returned (.int .i64 (atI (atF s (os.map (·.1))))) ∧ Below w.heap.size w w' := by
  have hmf : ∀ (fn : Fn) (first cap : Array Value) (w : World), (Instr.makeFunc fn first cap).run Tryd.prog w = .ok (.func fn first cap) w := fun _ _ _ _ => rfl
  have hbW : Below w.heap.size w (w.alloc (.cells #[.string (mk8 s)] 9)) := (Below.refl _ _).alloc (Nat.le_refl _) _
  have hq : (w.alloc (.cells #[.string (mk8 s)] 9)).cell? ⟨w.heap.size, 0, none⟩ = some (.string (mk8 s)) := box_cell (box_new _ _ _) 0 rfl
  have hc2 := cell_belowU hc hbW
  have EI := eidx_any 67 #[.pointer (some ⟨w.heap.size, 0, none⟩)] (enters_of Tryd.func67 (by kernel_rfl) rfl) s A n c os _ (hr.below hbW) hol hn
    (fun x hx W hb => at1_any x.1 x.2.1 x.2.2 s _ W ((hE.below hbW).below hb) (((hr.below hbW).below hb).ot x hx) (ho x hx) (cell_belowU hq hb))
  go_enter Tryd.func57, Tryd.ntmps57
  go_wp2_with fail
  refine EI.mono ?_
  rintro e w1 ⟨rfl, hb⟩
  have hb2 := below_then hbW hb
  clear EI
  go_wp2
  go_returns
  exact ⟨rfl, hb2⟩
end Go.Proofs.YthfakejhkbelhaaDoor
