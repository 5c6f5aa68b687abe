/- Whether what a name finds is the document's answer's: the code. -/
import Derived.Test.YthfakejhkbelhaaDoorNmsZ
set_option linter.unusedSimpArgs false
set_option linter.unusedVariables false
namespace Go.Proofs.YthfakejhkbelhaaDoor
open Go.RowKit Go.Lib

section
variable {B r : Nat} {w : World} {os : List TA} {A : Option Addr} {c : Nat}
set_option maxRecDepth 20000 in
set_option maxHeartbeats 4000000 in
theorem found_yes (h : RegAt B r w os A c) (hE : EnvN w) {xs : List TA} {Ax : Option Addr} (cx : Nat) (hx : ThRd w Ax xs) (hst : ShortT xs) (hL : xs.map (·.1) = os.map (·.1)) (s : List UInt8) (hs : s.length ≤ 1000000) :
    Calls Tryd.prog 24 #[.pointer (some ⟨r, 0, none⟩), .slice Ax xs.length cx, .string (mk8 s)] w fun e w' => e = .returned (.bool true) ∧ Below w.heap.size w w' := by
  have hxl : xs.length = os.length := by rw [← List.length_map (f := (·.1)), hL, List.length_map]
  have hx256 : xs.length ≤ 256 := by have := h.len; omega
  obtain ⟨L, hLL⟩ : ∃ L, L = os.map (·.1) := ⟨_, rfl⟩
  have FD := FindQ_any h s hE
  have OT := fun W hb => OthersQ_any (h.below hb) s (hE.below (w' := W) hb)
  have RF := fun W hb => rfind_any s Ax xs.length cx xs W (hx.below hb) rfl (by omega) hst hs
  rw [← hLL] at FD OT hL
  rw [hL] at RF
  have HL := Lib.hid hL
  have hlt := fun i h => atF_lt (s := s) (l := L) (i := i) h
  have hll : L.length = xs.length := by rw [← hL, List.length_map]
  have HST := Lib.hid hst
  clear hLL hL h hxl hst hE
  cases hat : atF s L with
  | none =>
    rw [hat] at FD OT RF
    simp only [atI] at RF
    clear hlt hll hat
    go_enter Tryd.func24, Tryd.ntmps24
    go_wp2_with fail
    refine FD.mono ?_
    rintro e w1 ⟨x1, nm1, f1, rfl, HA1, HA2, hb1⟩
    obtain ⟨rfl, rfl, rfl⟩ := HA2.out rfl
    have OT1 := OT w1 hb1
    clear FD OT HA1 HA2
    go_wp2_with fail
    refine OT1.mono ?_
    rintro e w2 ⟨A2, ls, c2, f2, rfl, hown, HO1, HO2, hb2⟩
    obtain ⟨rfl, rfl⟩ := HO2.out rfl
    have hb12 := below_then hb1 hb2
    have RF1 := RF w2 hb12
    have hte : (mk8 []).toList.isEmpty = true := by rw [toList_bs, bs_mk8]; rfl
    clear OT1 RF HO1 HO2 hown
    go_wp2_with fail
    refine RF1.mono ?_
    rintro e w3 ⟨rfl, hb3⟩
    clear RF1
    go_wp2
    go_returns
    exact ⟨rfl, below_then hb12 hb3⟩
  | some i =>
    rw [hat] at FD OT RF
    simp only [atI] at RF
    have hi := hlt i hat
    rw [hll] at hi
    obtain ⟨⟨t, At, ct⟩, hxk⟩ : ∃ x, xs[i]? = some x := ⟨_, List.getElem?_eq_getElem hi⟩
    have hLt : L[i]? = some t := by rw [← HL.out, List.getElem?_map, hxk]; rfl
    have HLT := Lib.hid hLt
    have HXK := Lib.hid hxk
    have htl : t.ot.length ≤ 1000000 := HST.out.ot _ (List.mem_of_getElem? hxk)
    have hi0 : (0 : Int) ≤ (i : Int) := by omega
    have hi1 : (i : Int) < (xs.length : Int) := by omega
    clear hlt hll hat hLt hxk
    go_enter Tryd.func24, Tryd.ntmps24
    go_wp2_with fail
    refine FD.mono ?_
    rintro e w1 ⟨x1, nm1, f1, rfl, HA1, HA2, hb1⟩
    obtain ⟨t', ht', rfl, rfl, rfl⟩ := HA1.out i rfl
    obtain rfl : t = t' := by have := HLT.out; rw [ht'] at this; injection this with this; exact this.symm
    have OT1 := OT w1 hb1
    clear FD OT HA1 HA2 ht'
    go_wp2_with fail
    refine OT1.mono ?_
    rintro e w2 ⟨A2, ls, c2, f2, rfl, hown, HO1, HO2, hb2⟩
    obtain ⟨t', ht', rfl, rfl⟩ := HO1.out i rfl
    obtain rfl : t = t' := by have := HLT.out; rw [ht'] at this; injection this with this; exact this.symm
    have hb12 := below_then hb1 hb2
    have RF1 := RF w2 hb12
    clear OT1 RF HO1 HO2 ht'
    go_wp2_with fail
    refine RF1.mono ?_
    rintro e w3 ⟨rfl, hb3⟩
    have hb13 := below_then hb12 hb3
    have hx3 := hx.below hb13
    obtain ⟨b, off, rfl, _, hcx⟩ := hx3.at_ (by omega)
    obtain ⟨t0, t1, t2⟩ := th_cells HXK.out hcx
    have hot := hx3.ot _ (List.mem_of_getElem? HXK.out)
    simp only [] at hot
    have hown3 := own_below hown hb3
    obtain ⟨A3, c3, he3, _, _, hrd3⟩ := Rd.of_own hown3
    injection he3 with he3 _ he4
    subst he3 he4
    have TX := texts_any A2 At t.ot.length t.ot.length c2 ct t.ot t.ot w3 hrd3 hot htl htl
    rw [decide_eq_true rfl] at TX
    have hse := str_eq_self (mk8 t.nm)
    clear RF1 hcx hx3 hx hown hown3 hrd3 hot
    go_wp2_with fail
    refine TX.mono ?_
    rintro e w4 ⟨rfl, hd4⟩
    go_wp2
    go_returns
    exact ⟨rfl, below_then hb13 hd4.to⟩
end
end Go.Proofs.YthfakejhkbelhaaDoor
