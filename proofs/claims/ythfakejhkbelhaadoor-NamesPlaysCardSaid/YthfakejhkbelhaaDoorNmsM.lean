/- All names listed: the code. -/
import Derived.Test.YthfakejhkbelhaaDoorNmsL
set_option linter.unusedSimpArgs false
set_option linter.unusedVariables false
namespace Go.Proofs.YthfakejhkbelhaaDoor
open Go.RowKit Go.Lib Go.Shelf
attribute [local go_sem] Oper.semAt_some

theorem lineS_at {L : List Thg} {s : List UInt8} {i : Nat} {t : Thg} (h : atF s L = some i) (ht : L[i]? = some t) : lineS L s = barF s t.ot := by
  unfold lineS
  rw [h]
  simp only [ht]
def ListedP (L : List Thg) (w : World) (e : Ending) (w' : World) : Prop := ∃ A' c', e = .returned (.tuple #[.slice A' L.length c', .bool true]) ∧ w'.ownsRow w.heap.size 9 1 (.slice A' L.length c') L.length (Ss (listS L)) ∧ Below w.heap.size w w'
theorem keeps_below {W W' : World} (hb : Below W.heap.size W W') : KeepsOthers W W' := ⟨hb.size, fun k o hk _ => (hb.block k (Array.getElem?_eq_some_iff.1 hk).1).trans hk⟩
theorem boxed_below {W W' : World} {b : Nat} {t : TypeId} {v : Value} (h : Boxed W b t v) (hb : Below W.heap.size W W') : Boxed W' b t v := (hb.block b h.lt).trans h
theorem bar_step {s : List UInt8} {ot : List (List UInt8)} {k : Nat} {o : List UInt8} (h : ot[k]? = some o) : mk8 (barF s (ot.take k)) ++ (⟨#[124]⟩ : ByteArray) ++ mk8 o = mk8 (barF s (ot.take (k + 1))) := by
  refine bs_inj ?_
  rw [bs_append, bs_append, bs_mk8, bs_mk8, bs_mk8]
  unfold barF
  rw [List.take_add_one, h]
  simp [bs]
section
variable {B r : Nat} {w : World} {os : List TA} {A : Option Addr} {c : Nat}
set_option maxRecDepth 100000 in
set_option maxHeartbeats 4000000 in
theorem listed_any (h : RegAt B r w os A c) (hE : EnvN w) (hG : Good (os.map (·.1))) : Calls Tryd.prog 17 #[.pointer (some ⟨r, 0, none⟩)] w (ListedP (os.map (·.1)) w) := by
  refine (callsIn_wide (n := 5)).1 ?_
  have hro : Fence.wide.round = none := rfl
  have h1 : 1 ≤ 5 := by omega
  refine callsIn_of_wp_marks Tryd.func17 rfl trivial ?_ hro
  simp only [Tryd.ntmps17, List.size_toArray, List.length_cons, List.length_nil, Nat.reduceAdd, Nat.reduceSub, Array.replicate_succ, Array.replicate_zero, List.push_toArray, List.append_toArray, List.nil_append, List.cons_append]
  have hnf : ∀ (f : Fn) (a c : Array Value) (w : World), Sem.run Tryd.prog (binOp BinOp.eql 65 (Value.func f a c) Value.nilFunc) w = .ok (.bool false) w := fun f a c w => by kernel_rfl
  obtain ⟨W0, hW0⟩ : ∃ W0, ((w.alloc (.cells #[.pointer (some ⟨r, 0, none⟩)] 31)).alloc (.cells #[.slice none 0 0] 28)).alloc (.cells #[.bool false] 4) = W0 := ⟨_, rfl⟩
  have hsz : W0.heap.size = w.heap.size + 3 := by rw [← hW0]; simp
  have hB0 : Below w.heap.size w W0 := by
    rw [← hW0]
    exact (((Below.refl _ w).alloc (Nat.le_refl _) _).alloc (by simp) _).alloc (by simp; omega) _
  have bx1 : Boxed W0 w.heap.size 31 (.pointer (some ⟨r, 0, none⟩)) := by rw [← hW0]; exact ((Boxed.new w _ _).alloc _).alloc _
  have bx2 : Boxed W0 (w.heap.size + 1) 28 (.slice none 0 0) := by
    rw [← hW0]
    have := Boxed.new (w.alloc (.cells #[.pointer (some ⟨r, 0, none⟩)] 31)) 28 (.slice none 0 0)
    rw [World.size_alloc] at this
    exact this.alloc _
  have bx3 : Boxed W0 (w.heap.size + 1 + 1) 4 (.bool false) := by
    rw [← hW0]
    have := Boxed.new ((w.alloc (.cells #[.pointer (some ⟨r, 0, none⟩)] 31)).alloc (.cells #[.slice none 0 0] 28)) 4 (.bool false)
    rwa [World.size_alloc, World.size_alloc] at this
  have c1 := bx1.cell
  have AL := All_any (h.below hB0)
  gi_wp2_with (refine ⟨trivial, ?_⟩; gi_at_call 37; refine (callsIn_wide.2 AL).mono ?_; rintro e w' ⟨A', c', rfl, hca, hoa, hba⟩)
  have hn0 : w'.heap.size = w'.heap.size := rfl
  have hwl : w.heap.size + 3 ≤ w'.heap.size := by have := hba.size; omega
  have by1 := boxed_below bx1 hba
  have by2 := boxed_below bx2 hba
  have by3 := boxed_below bx3 hba
  have hBw := below_then hB0 hba
  have hR := h.below hBw
  have hEw := hE.below hBw
  have hlen := h.len
  have bO := Boxed.new w' 28 (.slice none 0 0)
  have hBO : Below w'.heap.size w' (w'.alloc (.cells #[.slice none 0 0] 28)) := (Below.refl _ _).alloc (Nat.le_refl _) _
  obtain ⟨i0, hi, hz0, hz1, hz2⟩ := info_parts strElem.hi
  clear hba bx1 bx2 bx3 c1 AL hW0 h hE hB0
  refine wpIn_rangeFunc_ownG hro h1 (gf := 56) (lb := #[.pointer (some ⟨w.heap.size + 3, 0, none⟩)]) rfl trivial (enters_of Tryd.func56 (by kernel_rfl) rfl)
    (all_stops Fence.wide (5 - 1) trivial hro (by omega) (w.heap.size + 3) w'.heap.size A' c' os (by omega) w' rfl (by rw [← hsz]; exact hca) hoa) belowK_t (belowK_b (by simp)) hBO (fun _ => rfl)
    (fun pre W => (∃ v, Boxed W w'.heap.size 28 v ∧ W.ownsRow w'.heap.size 9 1 v pre.length (Ss (pre.map fun t => lineS (os.map (·.1)) t.nm)) ∧ True) ∧ Below w'.heap.size w' W)
    (fun _ pre _ => ¬ ∀ t ∈ pre, ∃ i, atF t.nm (os.map (·.1)) = some i)
    (OwnFrom.and (Own.from (holdsRow_own w'.heap.size w'.heap.size 28 9 1 (fun pre : List Thg => pre.length) (fun pre => Ss (pre.map fun t => lineS (os.map (·.1)) t.nm)) (fun _ _ => True)) _) (ownFrom_below (Nat.le_refl _) (by simp)))
    (fun _ _ _ _ _ hs _ _ => hs)
    ⟨⟨_, bO, World.ownsRow_nil _ _ _ _, trivial⟩, hBO⟩
    (fun x => { tmps := #[.pointer (some ⟨r, 0, none⟩), .pointer (some ⟨w.heap.size, 0, none⟩), .pointer (some ⟨w.heap.size + 1, 0, none⟩), .pointer (some ⟨w.heap.size + 1 + 1, 0, none⟩), .func (.func 56) #[] #[.pointer (some ⟨w.heap.size + 3, 0, none⟩)], .pointer (some ⟨w'.heap.size, 0, none⟩), .string (mk8 x.nm), undef, undef, undef, .pointer (some ⟨r, 0, none⟩), .func (.func 56) #[] #[.pointer (some ⟨w.heap.size + 3, 0, none⟩)], .func (.func 56) #[] #[.pointer (some ⟨w.heap.size + 3, 0, none⟩)], .bool false, .func (.func 56) #[] #[.pointer (some ⟨w.heap.size + 3, 0, none⟩)], .string (mk8 x.nm), .int .i64 x.x, undef, undef, undef, undef, undef, undef, undef, undef, undef, undef, undef, undef, undef, undef, undef, undef, undef, undef, undef, undef, undef, undef, undef, undef, undef, undef, undef, undef, undef], defers := [] }) ?assign ?body ?done ?stop
  case assign =>
    intro l x W K hK
    gi_wp2
    exact hK
  case body =>
    rintro l pre x W ⟨⟨v, hv, hrow, _⟩, hB⟩ hlt
    obtain ⟨A3, c3, rfl, _, _, hrd⟩ := Rd.of_own hrow
    have hc := hv.cell
    have z1 := (boxed_below by1 hB).cell
    have OT := Others_any (hR.below hB) x.nm (hEw.below hB)
    have hpl : (pre.length : Int) ≤ 300 := by omega
    have hd : 1 ≤ 5 - 1 - 1 := by omega
    cases hat : atF x.nm (os.map (·.1)) with
    | none =>
      rw [hat] at OT
      have hbad : ¬ ∀ t ∈ pre ++ [x], ∃ i, atF t.nm (os.map (·.1)) = some i := by
        intro hh
        obtain ⟨i, hi⟩ := hh x (by simp)
        rw [hat] at hi
        cases hi
      have HB := Lib.hid hbad
      clear hbad hat
      gi_wp2_with (refine ⟨trivial, ?_⟩; gi_at_call 18; refine (CallsIn.inRound l (callsIn_wide.2 OT)).mono ?_; rintro e W2 ⟨he, hb2⟩; unfold OthersP at he; simp only [] at he; obtain rfl := he; have c2 := (boxed_below (boxed_below by2 hB) hb2).cell; have f2 := (boxed_below (boxed_below by2 hB) hb2).frozen; have c3 := (boxed_below (boxed_below by3 hB) hb2).cell; have f3 := (boxed_below (boxed_below by3 hB) hb2).frozen)
      exact ⟨((keeps_below hb2).trans ((KeepsOthers.setCell _ _ _).trans (KeepsOthers.setCell _ _ _))).from _, HB.out⟩
    | some i =>
      rw [hat] at OT
      gi_wp2_with (refine ⟨trivial, ?_⟩; gi_at_call 18; refine (CallsIn.inRound l (callsIn_wide.2 OT)).mono ?_; rintro e W2 ⟨he, hb2⟩; unfold OthersP at he; simp only [] at he; obtain ⟨t, A4, c4, hLi, rfl, hown4⟩ := he)
      have hm := atF_may hat
      have hsl := (mayS_ascii hm).1
      have hgt := hG t (List.mem_of_getElem? hLi)
      have hline := lineS_at hat hLi
      have hbl := bars_len hgt.2.2
      obtain ⟨A5, c5, he5, _, _, hrd4⟩ := Rd.of_own hown4
      injection he5 with he5 _ he6
      subst he5 he6
      have hmay : ∀ k, (barF x.nm (t.ot.take k)).length ≤ 64 + k * 65 := by
        intro k
        have h1 := bars_len (l := t.ot.take k) (fun o ho => hgt.2.2 o (List.mem_of_mem_take ho))
        have h2 : (t.ot.take k).length * 65 ≤ k * 65 := Nat.mul_le_mul_right _ (by rw [List.length_take]; omega)
        unfold barF
        rw [List.length_append]
        omega
      have HM := Lib.hid (And.intro hgt.2.2 hmay)
      have HL := Lib.hid hline
      have hn1 := hgt.2.1
      have hv2 := boxed_below hv hb2
      clear hmay hgt hline hbl hLi OT hat hsl hm
      gi_loopw [6, 9] (fun nm i wr => ∃ k : Nat, k ≤ t.ot.length ∧ nm = .string (mk8 (barF x.nm (t.ot.take k))) ∧ i = .int .i64 k ∧ wr = W2) (fun _ i _ => t.ot.length - (intOf i).toNat)
      case atStart => exact ⟨0, Nat.zero_le _, by simp [barF], rfl, rfl⟩
      case round =>
        obtain ⟨k, hk, rfl, rfl, rfl⟩ := hrel
        by_cases hkl : k < t.ot.length
        · obtain ⟨o, ho⟩ : ∃ o, t.ot[k]? = some o := ⟨_, List.getElem?_eq_getElem hkl⟩
          obtain ⟨b, off, rfl, _, hcx⟩ := hrd4.at_ (by omega)
          have co : wr.cell? ⟨b, off + k, none⟩ = some (.string (mk8 o)) := hcx k _ (by simp [Ss, ho])
          have hol := (mayS_ascii (HM.out.1 o (List.mem_of_getElem? ho))).1
          have hml := HM.out.2 k
          have HS := Lib.hid (bar_step (s := x.nm) ho)
          have hs1 : (mk8 (barF x.nm (t.ot.take k))).size = (barF x.nm (t.ot.take k)).length := mk8_size _
          have hs2 : (mk8 o).size = o.length := mk8_size _
          have hs3 : ((mk8 (barF x.nm (t.ot.take k))) ++ (⟨#[124]⟩ : ByteArray)).size = (barF x.nm (t.ot.take k)).length + 1 := by rw [ByteArray.size_append, hs1]; rfl
          have q1 : ¬ (9223372036854775807 < (mk8 (barF x.nm (t.ot.take k))).size + (⟨#[124]⟩ : ByteArray).size) := by rw [hs1]; show ¬ (9223372036854775807 < _ + 1); omega
          have q2 : ¬ (9223372036854775807 < (mk8 (barF x.nm (t.ot.take k))).size + 1) := by rw [hs1]; omega
          have q3 : ¬ (9223372036854775807 < ((mk8 (barF x.nm (t.ot.take k))) ++ (⟨#[124]⟩ : ByteArray)).size + (mk8 o).size) := by rw [hs3, hs2]; omega
          have q4 : ¬ (9223372036854775807 < (mk8 (barF x.nm (t.ot.take k))).size + 1 + (mk8 o).size) := by rw [hs1, hs2]; omega
          have hki : (k : Int) < (t.ot.length : Int) := by omega
          clear hs1 hs2 hs3 ho hcx hml hol
          gi_wp2
          exact ⟨⟨k + 1, by omega, by rw [HS.out], by simp, trivial⟩, by simp [intOf]; omega⟩
        · obtain rfl : k = t.ot.length := by omega
          have hki : ((t.ot.length : Nat) : Int) ≤ (t.ot.length : Int) := Int.le_refl _
          have hrow2 := own_below hrow hb2
          have hsz2 := hb2.size
          have hBs := hB.size
          rw [List.take_of_length_le (Nat.le_refl _)]
          have hc2 := hv2.cell
          have hpl2 : pre.length ≤ 256 := by omega
          clear HM hrd4 hv hrow hc hown4 z1
          gi_wp2_with (gi_at_builtin; refine wpListIn_append_own _ rfl _ _ 28 rfl w'.heap.size 9 i0 (.string ⟨#[]⟩) 1 16 Tryd.underlying28 hi hz0 hz1 hz2 rfl (by decide) _ _ _ rfl (hrow2.alloc _) ⟨wr.heap.size, 0, none⟩ 1 1 [.string (mk8 (barF x.nm t.ot))] rfl rfl (cell_one_new _ _ _) (by simp [Value.oneCell']) (by unfold maxLen; omega) (by omega) (by simp; omega) ?_; intro v' w6 hown' hgrow _; obtain ⟨g', cap', rfl⟩ := ownsRow_succ hown'; obtain ⟨hv1, hv3, hr2, hk2, hb3⟩ := hv2.appended (by decide) hrow2 (by omega) (Nat.le_refl _) hown' hgrow; have hc1 := hv1.cell; have hf1 := hv1.frozen)
          refine ⟨((keeps_below hb2).trans hk2).from _, (hb2.mono (by omega)).trans hb3, ⟨_, hv3, ?_⟩, (hB.trans (hb2.mono (by omega))).trans hb3⟩
          have hLo := HL.out
          have hr3 := hr2
          rw [← hLo] at hr3
          simpa [Ss] using hr3
  case done =>
    rintro D ys W hD rfl ⟨⟨v, hv, hrow, _⟩, hB⟩ hK
    obtain ⟨A3, cc, rfl, _, _, hrd⟩ := Rd.of_own hrow
    rw [List.length_map] at hv hrow
    have hc := hv.cell
    have b2 := boxed_below by2 hB
    have b3 := boxed_below by3 hB
    have c2 := b2.cell
    have f2 := b2.frozen
    have c3 := b3.cell
    have f3 := b3.frozen
    clear b2 b3
    gi_wp2
    have hK' := ((KeepsOthers.setCell W ⟨w.heap.size + 1, 0, none⟩ (.slice A3 os.length cc)).trans (KeepsOthers.setCell _ ⟨w.heap.size + 1 + 1, 0, none⟩ (.bool true))).same D _ hK rfl
    have hD0 : w'.heap.size < D := by simp at hD; omega
    have b4 := ((boxed_below by3 hB).kept (grownBy_setCell' W (w.heap.size + 1) (.slice A3 os.length cc)) (by simp)).set (.bool true)
    have b5 := ((boxed_below by2 hB).set (.slice A3 os.length cc)).kept (grownBy_setCell' _ (w.heap.size + 1 + 1) (.bool true)) (by simp)
    refine ⟨by simp, .inl ⟨_, _, rfl, run_takeDeferred hK', ?_⟩⟩
    have b6 := (b4.kept (grownBy_putObj' _ D (.deferred none)) (by simp; omega)).cell
    have b7 := (b5.kept (grownBy_putObj' _ D (.deferred none)) (by simp; omega)).cell
    refine ⟨.tuple #[.slice A3 os.length cc, .bool true], ?_, A3, cc, ?_⟩
    · simp [results, Tryd.f17, go_sem, b6, b7]
    · rw [List.length_map]
      refine ⟨rfl, ?_, ?_⟩
      · refine own_base (B := w'.heap.size) ?_ (by omega)
        refine own_sameN hrow (fun g hg => ?_)
        obtain ⟨hgl, cur, hcur⟩ := own_blk hrow hg
        have hgD : g ≠ D := fun e => by rw [e, hK] at hcur; cases hcur
        rw [World.putObj_heap_other hgD, Below.heap_setCell _ _ _ g (by show g ≠ w.heap.size + 1 + 1; omega), Below.heap_setCell _ _ _ g (by show g ≠ w.heap.size + 1; omega)]
      · have hB2 := ((below_then hBw hB).setCell (p := ⟨w.heap.size + 1, 0, none⟩) (by simp) (.slice A3 os.length cc)).setCell (p := ⟨w.heap.size + 1 + 1, 0, none⟩) (by simp; omega) (.bool true)
        exact hB2.trans (belowK_b (w := w) (Nat.le_refl _) _ D _ _ (by omega) hK' rfl rfl)
  case stop =>
    rintro D c pre W _ hpre h _
    exact (h fun t ht => good_at hG (hpre.subset ht)).elim
end
end Go.Proofs.YthfakejhkbelhaaDoor
