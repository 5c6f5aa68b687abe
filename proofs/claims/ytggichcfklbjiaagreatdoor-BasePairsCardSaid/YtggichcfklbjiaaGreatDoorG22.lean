/- Rows of a file: the code. Rows of a file: reading them, whether two are one, and the chapter's examples. slices.ContainsFunc of characters. -/
import Derived.Test.YtggichcfklbjiaaGreatDoorG21
import Derived.Test.YtggichcfklbjiaaGreatDoorG13
section
set_option linter.unusedSimpArgs false
set_option linter.unusedVariables false
namespace Go.Proofs.YtggichcfklbjiaaGreatDoor
open Go.RowKit

theorem linesW_ok : ∀ (ls : List (List UInt8)) (out : List (Int × List UInt8)) (k : Nat), (∀ p ∈ out, p.2.length ≤ 512) → (∀ p ∈ (linesW out k ls).1, p.2.length ≤ 512) ∧ (linesW out k ls).1.length ≤ out.length + ls.length
  | [], out, k, h => ⟨h, by simp [linesW]⟩
  | l :: ls, out, k, h => by
    by_cases hl : 512 < l.length
    · rw [linesW_long hl]; exact ⟨fun p hp => absurd hp (by simp), by simp⟩
    · by_cases ht : tellL l = []
      · rw [linesW_none hl ht]
        obtain ⟨h1, h2⟩ := linesW_ok ls out (k + 1) h
        exact ⟨h1, by simp only [List.length_cons]; omega⟩
      · rw [linesW_some hl ht]
        have hn : ∀ p ∈ out ++ [((k : Int) + 1, tellL l)], p.2.length ≤ 512 := by
          intro p hp
          rcases List.mem_append.1 hp with hp | hp
          · exact h p hp
          · rw [List.mem_singleton] at hp
            subst hp
            have := tellL_len l
            show (tellL l).length ≤ 512
            omega
        obtain ⟨h1, h2⟩ := linesW_ok ls _ (k + 1) hn
        refine ⟨h1, ?_⟩
        rw [List.length_append, List.length_singleton] at h2
        simp only [List.length_cons]
        omega
theorem linesS_ok (s : List UInt8) : (∀ p ∈ (linesS s).1, p.2.length ≤ 512) ∧ (linesS s).1.length ≤ 4096 := by
  unfold linesS
  split
  · exact ⟨fun p hp => absurd hp (by simp), by simp⟩
  · obtain ⟨h1, h2⟩ := linesW_ok (cutL 10 s) [] 0 (fun p hp => absurd hp (by simp))
    exact ⟨h1, by simp only [List.length_nil] at h2; omega⟩
theorem takeS_ok {N : Nat} (st : StU) (l : List UInt8) (hl : l.length ≤ N) (h : ∀ f, st.op = some f → RowOk N f) : (takeS st l).1.out.length ≤ st.out.length + 1 ∧ ∀ f, (takeS st l).1.op = some f → RowOk N f := by
  have hx : RowOk N (parseS l).1 := ⟨Nat.le_trans (parse_ok l).1 hl, (parse_ok l).2⟩
  unfold takeS
  split
  · exact ⟨Nat.le_succ _, h⟩
  · generalize (parseS l).1 = x at *
    unfold takeR closeS freeS
    split
    · split
      · exact ⟨Nat.le_succ _, h⟩
      · split
        · exact ⟨Nat.le_succ _, h⟩
        · exact ⟨by simp, fun f hf => absurd hf (by simp)⟩
    · split
      · exact ⟨Nat.le_succ _, h⟩
      · split
        · exact ⟨Nat.le_succ _, h⟩
        · split
          · refine ⟨Nat.le_succ _, fun f hf => ?_⟩
            injection hf with hf
            subst hf
            exact hx
          · exact ⟨by simp, fun f hf => absurd hf (by simp)⟩
theorem rowsW_bad {st : StU} {p : Int × List UInt8} {ls : List (Int × List UInt8)} (h : (takeS st p.2).2 ≠ 0) : rowsW st (p :: ls) = (st, p.1, (takeS st p.2).2) := by
  simp only [rowsW]; rw [if_pos h]
theorem rowsW_good {st : StU} {p : Int × List UInt8} {ls : List (Int × List UInt8)} (h : (takeS st p.2).2 = 0) : rowsW st (p :: ls) = rowsW (takeS st p.2).1 ls := by
  simp only [rowsW]; rw [if_neg (by rw [h]; simp)]
theorem lastNo_get {L : List (Int × List UInt8)} {p : Int × List UInt8} (h : L[L.length - 1]? = some p) : lastNo L = p.1 := by
  unfold lastNo
  rw [List.getLast?_eq_getElem?, h]
/-- New rows, the number of a line, and what is wrong. -/
def FreshRows (T : TypeId) (w : World) (r : List RowS × Int × Int) (e : Ending) (w' : World) : Prop :=
  ∃ os A c, os.map (·.1) = r.1 ∧ e = .returned (.tuple #[.slice A os.length c, .int .i64 r.2.1, .int .i64 r.2.2]) ∧ RowsAt T w.heap.size w' os A c ∧ Below w.heap.size w w'
theorem takesZ (p : Nat) (st : StU) (l : List UInt8) (w : World) (hE : Env w) (hs : l.length ≤ 512) (hh : HoldsU p st w) (hop : ∀ f, st.op = some f → RowOk 512 f) (hol : st.out.length ≤ 100000) :
    Calls Tryz.prog 45 #[.string (mk8 l), .pointer (some ⟨p + 1, 0, none⟩), .pointer (some ⟨p + 3, 0, none⟩), .pointer (some ⟨p + 2, 0, none⟩), .pointer (some ⟨p, 0, none⟩)] w (fun e w' => e = .returned (.int .i64 (takeS st l).2) ∧ HoldsU p (takeS st l).1 w' ∧ Below p w w' ∧ ((takeS st l).2 ≠ 0 → Below w.heap.size w w')) :=
  takes_any p st l w hE (by omega) hh (fun f hf => ⟨by have := (hop f hf).1; omega, (hop f hf).2⟩) hol
theorem holds_new (w : World) : HoldsU w.heap.size ⟨[], none, -1⟩ ((((w.alloc (.cells #[.slice none 0 0] 52)).alloc (.cells #[.pointer none] 87)).alloc (.cells #[.int .i32 (-1)] 21)).alloc (.cells #[closV w.heap.size] 91)) := by
  refine ⟨[], none, 0, none, rfl, ?_, RowsAt.nil _ _ _, ?_, fun _ => rfl, fun f hf => absurd hf (by simp), ?_, ?_⟩
  · exact box_alloc _ (box_alloc _ (box_alloc _ (box_new w _ _)))
  · exact box_alloc _ (box_alloc _ (by have := box_new (w.alloc (.cells #[.slice none 0 0] 52)) #[.pointer none] 87; simpa using this))
  · exact box_alloc _ (by have := box_new ((w.alloc (.cells #[.slice none 0 0] 52)).alloc (.cells #[.pointer none] 87)) #[.int .i32 (-1)] 21; simpa using this)
  · have := box_new (((w.alloc (.cells #[.slice none 0 0] 52)).alloc (.cells #[.pointer none] 87)).alloc (.cells #[.int .i32 (-1)] 21)) #[closV w.heap.size] 91
    simpa using this
theorem below_four {B : Nat} {a w : World} (h : Below B a w) (hB : B ≤ w.heap.size) (o1 o2 o3 o4 : Obj) : Below B a ((((w.alloc o1).alloc o2).alloc o3).alloc o4) :=
  (((h.alloc hB _).alloc (by simp; omega) _).alloc (by simp; omega) _).alloc (by simp; omega) _
set_option maxRecDepth 20000 in
set_option maxHeartbeats 4000000 in
theorem rows_any (s : ByteArray) (w : World) (hE : Env w) (hs : s.size ≤ 1073741824) :
    Calls Tryz.prog 22 #[.string s] w (FreshRows 88 w (rowsS (bs s))) := by
  have LN := lines_any s w hE hs
  have hlo := linesS_ok (bs s)
  unfold rowsS
  obtain ⟨⟨L, e0⟩, hL⟩ : ∃ z, z = linesS (bs s) := ⟨_, rfl⟩
  rw [← hL] at LN hlo ⊢
  simp only [] at hlo ⊢
  clear hL
  by_cases he : e0 = 0
  · subst he
    rw [if_neg (show ¬ ((0 : Int) ≠ 0) by simp)]
    have HLO := Lib.hid hlo
    have hll := hlo.2
    clear hlo
    obtain ⟨R, hR⟩ : ∃ R, R = endU L (rowsW ⟨[], none, -1⟩ L) := ⟨_, rfl⟩
    rw [← hR]
    have HR := Lib.hid hR
    clear hR
    have hmf : ∀ (fn : Fn) (first cap : Array Value) (w : World), (Instr.makeFunc fn first cap).run Tryz.prog w = .ok (.func fn first cap) w := fun _ _ _ _ => rfl
    have hsf : ∀ (a : Addr) (fn : Fn) (first cap : Array Value) (w : World), (store a (.func fn first cap)).run Tryz.prog w = stored Tryz.prog w a (.func fn first cap) .plain := fun a fn first cap w => run_store Tryz.prog w a _ .plain rfl
    go_enter Tryz.func22, Tryz.ntmps22
    go_wp2_with fail
    refine LN.mono ?_
    intro e w1 hF
    obtain ⟨A, c, rfl, hr, hb1⟩ := hF.rd
    have hE1 := hE.below hb1
    clear hF LN
    have hH := holds_new w1
    have hB0 := below_four (Below.refl w1.heap.size w1) (Nat.le_refl _) (.cells #[.slice none 0 0] 52) (.cells #[.pointer none] 87) (.cells #[.int .i32 (-1)] 21) (.cells #[closV w1.heap.size] 91)
    have HRW : Hid (rowsW ⟨[], none, -1⟩ L = rowsW ⟨[], none, -1⟩ (L.drop 0)) := rfl
    go_wp2
    go_loopw [27] (fun i wr => ∃ (k : Nat) (st : StU), k ≤ L.length ∧ i = .int .i64 k ∧ st.out.length ≤ k ∧ (k = 0 → st.op = none) ∧ (∀ f, st.op = some f → RowOk 512 f) ∧ Hid (rowsW ⟨[], none, -1⟩ L = rowsW st (L.drop k)) ∧ HoldsU w1.heap.size st wr ∧ Below w1.heap.size w1 wr) (fun i _ => L.length - (intOf i).toNat)
    case atStart => exact ⟨0, ⟨[], none, -1⟩, Nat.zero_le _, rfl, Nat.zero_le _, fun _ => rfl, fun f hf => absurd hf (by simp), HRW, hH, hB0⟩
    case round =>
      obtain ⟨k, st, hk, rfl, hol, hk0, hop, HW, hh, hb⟩ := hrel
      clear hH hB0 HRW hmf hsf
      have HOP := Lib.hid hop
      have HK0 := Lib.hid hk0
      clear hop hk0
      by_cases hin : k < L.length
      · have hi : (k : Int) < (L.length : Int) := by omega
        obtain ⟨l, hl⟩ : ∃ l, L[k]? = some l := ⟨_, List.getElem?_eq_getElem hin⟩
        have hz := HLO.out.1 l (List.mem_of_getElem? hl)
        have hd := drop_get hl
        obtain ⟨b, off, rfl, hbl, hcx⟩ := (hr.below (by omega) hb).at_ (by omega) (by omega)
        have cx1 := hcx _ _ (Ls_at L k l hl).1
        have cx2 := hcx _ _ (Ls_at L k l hl).2
        rw [← Nat.add_assoc] at cx2
        clear hcx
        have hbA : Below wr.heap.size wr (wr.alloc (.cells #[.int .i64 l.1, .string (mk8 l.2)] 96)) := (Below.refl _ _).alloc (Nat.le_refl _) _
        have TK := takesZ w1.heap.size st l.2 _ ((hE1.below hb).below hbA) hz (hh.below hbA) HOP.out (by omega)
        have hto := takeS_ok (N := 512) st l.2 hz HOP.out
        have hbw : w1.heap.size ≤ wr.heap.size := hb.size
        obtain ⟨l1, l2⟩ := l
        simp only [] at TK hto cx1 cx2 hbA hz
        have HBB := Lib.hid (And.intro hb hbA)
        by_cases hte : (takeS st l2).2 = 0
        · have HS2 : Hid (rowsW ⟨[], none, -1⟩ L = rowsW (takeS st l2).1 (L.drop (k + 1))) := by show _ = _; rw [HW.out, hd, rowsW_good hte]
          obtain ⟨⟨st2, e2⟩, hs2⟩ : ∃ z, z = takeS st l2 := ⟨_, rfl⟩
          rw [← hs2] at TK hto HS2 hte
          simp only [] at TK hto HS2 hte
          subst hte
          clear hs2 hd hb hbA hh hl hz
          go_wp2_with fail
          refine TK.mono ?_
          rintro e w2 ⟨rfl, hh2, hb2, _⟩
          have hb3 := (HBB.out.1.trans (HBB.out.2.mono hbw)).trans hb2
          clear TK
          go_wp2
          go_roundw
          case rel => exact ⟨k + 1, st2, by omega, by go_num, by omega, fun h => absurd h (by omega), hto.2, HS2, hh2, hb3⟩
          case measure => simp [intOf]; omega
        · have hres : rowsW ⟨[], none, -1⟩ L = (st, l1, (takeS st l2).2) := by rw [HW.out, hd, rowsW_bad hte]
          have hR : R = ([], l1, (takeS st l2).2) := by rw [HR.out, hres]; unfold endU; rw [if_pos hte]
          have HR2 := Lib.hid hR
          obtain ⟨⟨st2, e2⟩, hs2⟩ : ∃ z, z = takeS st l2 := ⟨_, rfl⟩
          rw [← hs2] at TK HR2 hte
          simp only [] at TK HR2 hte
          have hne : (e2 != 0) = true := by simpa using hte
          clear hs2 hd hb hbA hh hl hz hres hR
          go_wp2_with fail
          refine TK.mono ?_
          rintro e w2 ⟨rfl, hh2, hb2, hb4⟩
          replace hb4 := hb4 hte
          have hb3 := (HBB.out.1.trans (HBB.out.2.mono hbw)).trans hb2
          have hbl := box_below (box_new wr #[.int .i64 l1, .string (mk8 l2)] 96) hb4
          have cl : w2.cell? ⟨wr.heap.size, 0, none⟩ = some (.int .i64 l1) := box_cell hbl 0 rfl
          have HB3 := Lib.hid hb3
          clear TK hb4 hbl hb2 hb3 hte hh2
          go_wp2
          go_quiet (fail)
          go_wp2
          go_returns
          rw [HR2.out]
          exact ⟨[], none, 0, rfl, rfl, RowsAt.nil _ _ _, below_then hb1 (below_drew' HB3.out _)⟩
      · have hi : (L.length : Int) ≤ (k : Int) := by omega
        have hres : rowsW ⟨[], none, -1⟩ L = (st, 0, 0) := by rw [HW.out, List.drop_of_length_le (by omega)]; rfl
        have hR : R = endU L (st, 0, 0) := by rw [HR.out, hres]
        obtain ⟨os, Ao, co, q, hH⟩ := hh
        cases hst : st.op with
        | none =>
          have hR2 : R = (st.out, 0, 0) := by rw [hR]; unfold endU; rw [if_neg (by simp), hst]; rfl
          have hq := hH.shut hst
          subst hq
          have cq : wr.cell? ⟨w1.heap.size + 1, 0, none⟩ = some (.pointer none) := box_cell hH.first 0 rfl
          have co1 : wr.cell? ⟨w1.heap.size, 0, none⟩ = some (.slice Ao os.length co) := box_cell hH.out 0 rfl
          have HR2 := Lib.hid hR2
          have HHH := Lib.hid (And.intro hH hb)
          clear hres hR hR2 hH hb hst
          go_wp2
          go_returns
          rw [HR2.out]
          have hz := hb1.size
          exact ⟨os, Ao, co, HHH.out.1.outs, rfl, HHH.out.1.rows.base (by omega), below_then hb1 HHH.out.2⟩
        | some f =>
          have hR2 : R = ([], lastNo L, 10) := by rw [hR]; unfold endU; rw [if_neg (by simp), hst]; rfl
          obtain ⟨b0, Af, cf, hbp, hq, hbf, hap⟩ := hH.opens f hst
          subst hq
          have hk1 : k ≠ 0 := fun h => by have := HK0.out h; rw [hst] at this; cases this
          obtain ⟨l, hl⟩ : ∃ l, L[L.length - 1]? = some l := ⟨_, List.getElem?_eq_getElem (by omega)⟩
          rw [lastNo_get hl] at hR2
          have cq : wr.cell? ⟨w1.heap.size + 1, 0, none⟩ = some (.pointer (some ⟨b0, 0, none⟩)) := box_cell hH.first 0 rfl
          obtain ⟨b, off, rfl, hbl, hcx⟩ := (hr.below (by omega) hb).at_ (by omega) (by omega)
          have cx1 := hcx _ _ (Ls_at L _ l hl).1
          have hw1 : IntKind.i64.wrap ((L.length : Int) - 1) = ((L.length - 1 : Nat) : Int) := by rw [IntWalk.i64_in _ (by omega)]; omega
          have hlt : ((L.length - 1 : Nat) : Int) < (L.length : Int) := by omega
          have HR2 := Lib.hid hR2
          have HHH := Lib.hid (And.intro hH hb)
          clear hres hR hR2 hH hb hst hcx hbf hap
          go_wp2
          go_quiet (fail)
          go_wp2
          go_returns
          rw [HR2.out]
          exact ⟨[], none, 0, rfl, rfl, RowsAt.nil _ _ _, below_then hb1 (below_drew' HHH.out.2 _)⟩
  · rw [if_pos he]
    have hne : (e0 != 0) = true := by simpa using he
    clear he hlo
    go_enter Tryz.func22, Tryz.ntmps22
    go_wp2_with fail
    refine LN.mono ?_
    rintro e w1 ⟨A, c, rfl, hown, hb⟩
    go_wp2
    go_returns
    exact ⟨[], none, 0, rfl, rfl, RowsAt.nil _ _ _, hb⟩
end Go.Proofs.YtggichcfklbjiaaGreatDoor
end

section
section
set_option linter.unusedSimpArgs false
set_option linter.unusedVariables false
namespace Go.Proofs.YtggichcfklbjiaaGreatDoor
open Go.RowKit

/-- Rows that read so. -/
structure RowsRd (w : World) (A : Option Addr) (os : List RA) : Prop where
  cells : RdK w A os.length 7 (Vs os)
  into : ∀ x ∈ os, Rd w x.2.1 x.1.il.length (Rs x.1.il)
section
variable {w w' : World} {A : Option Addr} {os : List RA}
theorem RowsAt.rd {T : TypeId} {B c : Nat} (h : RowsAt T B w os A c) : RowsRd w A os := by
  refine ⟨?_, fun x hx => ?_⟩
  · obtain ⟨A', c', hv, _, _, hr⟩ := RdK.of_own h.own
    injection hv with h1 _ _
    subst h1
    exact hr
  · obtain ⟨A', c', hv, _, _, hr⟩ := Rd.of_own (h.into x hx)
    injection hv with h1 _ _
    subst h1
    exact hr
theorem RowsRd.below (h : RowsRd w A os) (hb : Below w.heap.size w w') : RowsRd w' A os := ⟨h.cells.below (by omega) hb, fun x hx => (h.into x hx).below hb⟩
theorem RowsRd.at_ (h : RowsRd w A os) (hn : 0 < os.length) : ∃ b off, A = some ⟨b, off, none⟩ ∧ b < w.heap.size ∧ ∀ j u, (Vs os)[j]? = some u → w.cell? ⟨b, off + j, none⟩ = some u := h.cells.at_ (by omega) hn
theorem row_cells {os : List RA} {k : Nat} {x : RowS} {Ax : Option Addr} {cx : Nat} (hx : os[k]? = some (x, Ax, cx)) {b off : Nat} (hc : ∀ j u, (Vs os)[j]? = some u → w.cell? ⟨b, off + j, none⟩ = some u) :
    w.cell? ⟨b, off + k * 7, none⟩ = some (.int .i32 x.fr) ∧ w.cell? ⟨b, off + k * 7 + 1, none⟩ = some (.int .i32 x.up) ∧ w.cell? ⟨b, off + k * 7 + 2, none⟩ = some (.string (mk8 x.nm)) ∧ w.cell? ⟨b, off + k * 7 + 3, none⟩ = some (.string (mk8 x.ct)) ∧ w.cell? ⟨b, off + k * 7 + 4, none⟩ = some (.int .i64 x.cl) ∧ w.cell? ⟨b, off + k * 7 + 5, none⟩ = some (.string (mk8 x.kd)) ∧ w.cell? ⟨b, off + k * 7 + 6, none⟩ = some (.slice Ax x.il.length cx) := by
  have hv := Vs_at os k _ hx
  have g : ∀ j u, (rowC (x, Ax, cx))[j]? = some u → w.cell? ⟨b, off + k * 7 + j, none⟩ = some u := fun j u hu => by
    have := hc _ _ (hv j u hu)
    rwa [← Nat.add_assoc] at this
  exact ⟨g 0 _ rfl, g 1 _ rfl, g 2 _ rfl, g 3 _ rfl, g 4 _ rfl, g 5 _ rfl, g 6 _ rfl⟩
end
theorem str_eq_self (s : ByteArray) : (s == s) = true := by
  cases s with | mk a => show (a == a) = true; simp
set_option maxRecDepth 20000 in
set_option maxHeartbeats 4000000 in
def awr1 : RowS := ⟨201, 201, [69], [76, 117], 0, [], [69, 769]⟩
def awr2 : RowS := ⟨202, 202, [88], [76, 117], 0, [110, 111, 66, 114, 101, 97, 107], [32]⟩
theorem aw05 : rowsS (bs ⟨#[48, 48, 67, 57, 59, 69, 59, 76, 117, 59, 48, 59, 76, 59, 48, 48, 52, 53, 32, 48, 51, 48, 49, 10, 48, 48, 67, 65, 59, 88, 59, 76, 117, 59, 48, 59, 76, 59, 60, 110, 111, 66, 114, 101, 97, 107, 62, 32, 48, 48, 50, 48]⟩) = ([awr1, awr2], 0, 0) := by kernel_rfl
end Go.Proofs.YtggichcfklbjiaaGreatDoor
end

section
set_option linter.unusedSimpArgs false
set_option linter.unusedVariables false
namespace Go.Proofs.YtggichcfklbjiaaGreatDoor
open Go.RowKit

theorem indexf_any (g : FuncId) (cb : Array Value) (en : ∀ args w, (callFunc g args).run Tryz.prog w = .ok (.enter g args) w) (p : Int → Bool) (A : Option Addr) (n c : Nat) (zs : List Int) (w : World) (hr : Rd w A n (Rs zs)) (hn : n ≤ 1099511627776)
    (hp : ∀ x W, Below w.heap.size w W → Calls Tryz.prog g (#[.int .i32 x] ++ cb) W fun e W' => e = .returned (.bool (p x)) ∧ Below W.heap.size W W') :
    Calls Tryz.prog 78 #[.slice A n c, .func (.func g) #[] cb] w fun e w' => (∃ k : Int, e = .returned (.int .i64 k) ∧ decide (0 ≤ k) = zs.any p) ∧ Below w.heap.size w w' := by
  have hzl : zs.length = n := by have := hr.1; simpa [Rs] using this
  have HZL := Lib.hid hzl
  clear hzl
  have HP := Lib.hid hp
  clear hp
  go_enter Tryz.func78, Tryz.ntmps78
  go_wp2
  go_loopw [8] (fun i wr => ∃ k : Nat, k ≤ n ∧ i = .int .i64 k ∧ Hid ((zs.take k).any p = false) ∧ Below w.heap.size w wr) (fun i _ => n - (intOf i).toNat)
  case atStart => exact ⟨0, Nat.zero_le _, rfl, by show _ = _; rfl, Below.refl _ _⟩
  case round =>
    obtain ⟨k, hk, rfl, HA, hb⟩ := hrel
    by_cases hlt : k < n
    · obtain ⟨x, hx⟩ : ∃ x, zs[k]? = some x := ⟨_, List.getElem?_eq_getElem (by rw [HZL.out]; exact hlt)⟩
      obtain ⟨b, off, rfl, hbl, hc⟩ := (hr.below hb).at_ (by omega)
      have cx : wr.cell? ⟨b, off + k, none⟩ = some (.int .i32 x) := hc k _ (by simp [Rs, hx])
      have HC := HP.out x wr hb
      have HT : Hid ((zs.take (k + 1)).any p = p x) := by
        show _ = _
        rw [List.take_add_one, hx, List.any_append, HA.out]
        simp
      have hi : (k : Int) < (n : Int) := by omega
      clear hc hr hx
      cases hpx : p x
      · rw [hpx] at HC HT
        clear hpx
        go_wp2_with fail
        refine HC.mono ?_
        rintro e w1 ⟨rfl, hb1⟩
        have hb2 := below_then hb hb1
        go_wp2
        go_roundw
        case rel => exact ⟨k + 1, by omega, by go_num, HT, hb2⟩
        case measure => simp [intOf]; omega
      · have HZ : Hid (zs.any p = true) := by
          show _ = _
          rw [← List.take_append_drop (k + 1) zs, List.any_append, HT.out, hpx]
          rfl
        rw [hpx] at HC
        clear hpx HT
        go_wp2_with fail
        refine HC.mono ?_
        rintro e w1 ⟨rfl, hb1⟩
        have hb2 := below_then hb hb1
        go_wp2
        go_returns
        rw [HZ.out]
        exact ⟨⟨(k : Int), rfl, by simp⟩, hb2⟩
    · have hi : (n : Int) ≤ (k : Int) := by omega
      have HZ : Hid (zs.any p = false) := by
        show _ = _
        rw [← HA.out, List.take_of_length_le (by rw [HZL.out]; omega)]
      go_wp2
      go_returns
      rw [HZ.out]
      exact ⟨⟨-1, rfl, by decide⟩, hb⟩
theorem containsf_any (g : FuncId) (cb : Array Value) (en : ∀ args w, (callFunc g args).run Tryz.prog w = .ok (.enter g args) w) (p : Int → Bool) (A : Option Addr) (n c : Nat) (zs : List Int) (w : World) (hr : Rd w A n (Rs zs)) (hn : n ≤ 1099511627776)
    (hp : ∀ x W, Below w.heap.size w W → Calls Tryz.prog g (#[.int .i32 x] ++ cb) W fun e W' => e = .returned (.bool (p x)) ∧ Below W.heap.size W W') :
    Calls Tryz.prog 49 #[.slice A n c, .func (.func g) #[] cb] w fun e w' => e = .returned (.bool (zs.any p)) ∧ Below w.heap.size w w' := by
  have HI := indexf_any g cb en p A n c zs w hr hn hp
  clear hp hr
  go_enter Tryz.func49, Tryz.ntmps49
  go_wp2_with fail
  refine HI.mono ?_
  rintro e w1 ⟨⟨k, rfl, hk⟩, hb⟩
  have HK := Lib.hid hk
  clear hk HI
  go_wp2
  go_returns
  refine ⟨?_, hb⟩
  rw [← HK.out]
  rfl
/-- Between two characters. -/
def betw (a b x : Int) : Bool := decide (a ≤ x) && decide (x ≤ b)
theorem sets1_any (x a b : Int) (p q : Nat) (w : World) (ha : w.cell? ⟨p, 0, none⟩ = some (.int .i32 a)) (hb : w.cell? ⟨q, 0, none⟩ = some (.int .i32 b)) :
    Calls Tryz.prog 50 #[.int .i32 x, .pointer (some ⟨p, 0, none⟩), .pointer (some ⟨q, 0, none⟩)] w fun e w' => e = .returned (.bool (betw a b x)) ∧ w = w' := by
  by_cases h1 : a ≤ x
  · by_cases h2 : x ≤ b
    · go_enter Tryz.func50, Tryz.ntmps50
      go_wp2
      go_returns
      exact ⟨ret_bool (by simp [betw, h1, h2]), rfl⟩
    · have h3 : b < x := by omega
      go_enter Tryz.func50, Tryz.ntmps50
      go_wp2
      go_returns
      exact ⟨ret_bool (by simp [betw, h2]; try omega), rfl⟩
  · have h3 : x < a := by omega
    go_enter Tryz.func50, Tryz.ntmps50
    go_wp2
    go_returns
    exact ⟨ret_bool (by simp [betw, h1]; try omega), rfl⟩
end Go.Proofs.YtggichcfklbjiaaGreatDoor
end
end
