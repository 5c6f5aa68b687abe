/- The document's answer of a call: the code. -/
import Derived.Test.YthfakejhkbelhaaDoorNmsX
set_option linter.unusedSimpArgs false
set_option linter.unusedVariables false
namespace Go.Proofs.YthfakejhkbelhaaDoor
open Go.RowKit Go.Lib

def AskedP (B : Nat) (w : World) (os : List TA) (A : Option Addr) (c : Nat) (A2 : Addr → Prop) (r : List Thg × Int) (e : Ending) (w' : World) : Prop :=
  ∃ os' A' c', e = .returned (.tuple #[.slice A' os'.length c', .int .i64 r.2]) ∧ XPost B w os A c A2 r.1 w' os' A' c'
section
variable {B : Nat} {w : World} {os : List TA} {A : Option Addr} {c : Nat}
set_option maxRecDepth 20000 in
set_option maxHeartbeats 4000000 in
theorem asked_add (h : XAt B w os A c) (hB : B ≤ w.heap.size) (hlen : os.length ≤ 1000) (hst : ShortT os) (x : Int) (nm : List UInt8) (A2 : Option Addr) (n2 c2 : Nat) (ls : List (List UInt8)) (hr2 : Rd w A2 n2 (Ss ls)) (hnm : nm.length ≤ 1000000) (hls : Short ls) (hn2 : n2 ≤ 1000) (hyB : ls ≠ [] → ∀ a, A2 = some a → a.block < B) :
    Calls Tryd.prog 22 #[.slice A os.length c, .agg #[.int .i64 0, .int .i64 x, .string (mk8 nm), .slice A2 n2 c2]] w (AskedP B w os A c (fun a => ls ≠ [] ∧ A2 = some a) (addN (os.map (·.1)) x nm ls)) := by
  have hll : ls.length = n2 := by have := hr2.1; simpa [Ss] using this
  have hLl : (os.map (·.1)).length = os.length := List.length_map _
  obtain ⟨W1, hW1⟩ : ∃ W1, w.alloc (.cells #[.int .i64 0, .int .i64 x, .string (mk8 nm), .slice A2 n2 c2] 30) = W1 := ⟨_, rfl⟩
  have hb1 : Below w.heap.size w W1 := by rw [← hW1]; exact (Below.refl _ w).alloc (Nat.le_refl _) _
  have c0 : W1.cell? ⟨w.heap.size, 0, none⟩ = some (.int .i64 0) := by rw [← hW1]; simp [go_sem]
  have c1 : W1.cell? ⟨w.heap.size, 1, none⟩ = some (.int .i64 x) := by rw [← hW1]; simp [go_sem]
  have c2' : W1.cell? ⟨w.heap.size, 2, none⟩ = some (.string (mk8 nm)) := by rw [← hW1]; simp [go_sem]
  have c3 : W1.cell? ⟨w.heap.size, 3, none⟩ = some (.slice A2 n2 c2) := by rw [← hW1]; simp [go_sem]
  have FD := rfind_any nm A os.length c os W1 (h.rd.below hb1) rfl (by omega) hst hnm
  have HST := Lib.hid hst
  have HLS := Lib.hid hls
  have HLL := Lib.hid hll
  obtain ⟨ad, had⟩ : ∃ ad, ad = addN (os.map (·.1)) x nm ls := ⟨_, rfl⟩
  obtain ⟨fr, hfr⟩ : ∃ fr, fr = freshN (os.map (·.1)) (nm :: ls) := ⟨_, rfl⟩
  rw [← had]
  have HAD := Lib.hid had
  have HFR := Lib.hid hfr
  have HLl := Lib.hid hLl
  clear hst hls hll had hfr hLl
  go_enter Tryd.func22, Tryd.ntmps22
  go_wp2_with fail
  refine FD.mono ?_
  rintro e w2 ⟨rfl, hb2⟩
  have hb12 := below_then hb1 hb2
  have d0 := cell_below c0 hb2
  have d1 := cell_below c1 hb2
  have d2 := cell_below c2' hb2
  have d3 := cell_below c3 hb2
  have hrw := hr2.below hb12
  have hbA : Below w2.heap.size w2 (w2.alloc (.cells #[.string (mk8 nm)] 9)) := (Below.refl _ _).alloc (Nat.le_refl _) _
  have hown0 : (w2.alloc (.cells #[.string (mk8 nm)] 9)).ownsRow w2.heap.size 9 1 (.slice none 0 0) 0 [] := World.ownsRow_nil _ _ _ _
  have hrd1 := Rd.new1 w2 9 (.string (mk8 nm))
  have hone1 := one_of (u := .string (mk8 nm)) rfl
  clear c0 c1 c2' c3 FD hW1
  go_wp2_with (at_builtin; refine wpList_app strElem _ rfl _ _ rfl w2.heap.size rfl hown0 rfl hrd1 hone1 (by simp) (by omega) (by simp) ?_)
  intro A6 c6 w6 hown6 hg6 hat6
  have hb6 := below_app hbA (by simp) hown0 hg6
  have hown6' : w6.ownsRow w2.heap.size 9 1 (.slice A6 1 c6) 1 (Ss [nm]) := by simpa [Ss] using hown6
  have hrd6 := hrw.below hb6
  have hone6 := Ss_one ls
  have hz6 := hb6.size
  have e1 := cell_below d1 hb6
  have e2 := cell_below d2 hb6
  have e3 := cell_below d3 hb6
  clear hown0 hown6 hg6 hat6 hrd1 hone1 hbA d0 hrw
  go_wp2_with (at_builtin; refine wpList_app strElem _ rfl _ _ rfl w2.heap.size rfl hown6' rfl hrd6 hone6 (by omega) (by omega) (by omega) ?_)
  intro A7 c7 w7 hown7 hg7 hat7
  have hb7 := below_app hb6 hz6 hown6' hg7
  have f1 := cell_below d1 hb7
  have f2 := cell_below d2 hb7
  have f3 := cell_below d3 hb7
  have hown8 : w7.ownsRow w2.heap.size 9 1 (.slice A7 (1 + n2) c7) (1 + n2) (Ss (nm :: ls)) := by simpa [Ss] using hown7
  obtain ⟨A', c'', hv', hnc', _, hrd7⟩ := Rd.of_own hown8
  injection hv' with hv1 _ hv2
  subst hv1 hv2
  have hb07 := below_then hb12 hb7
  have hX := h.below hb07
  have FR := rfresh_any A7 (1 + n2) c7 (nm :: ls) A os.length c os w7 hX.rd rfl (by omega) HST.out hrd7 (by omega) (fun s hs => by
    rcases List.mem_cons.1 hs with rfl | hs
    · exact hnm
    · exact HLS.out s hs)
  rw [← HFR.out] at FR
  clear hown6' hown7 hg7 hat7 hrd6 hone6 hown8 hrd7 hnc' d1 d2 d3 e1 e2 e3
  go_wp2_with fail
  refine FR.mono ?_
  rintro e w8 ⟨rfl, hb8⟩
  have hb08 := below_then hb07 hb8
  have g1 := cell_below f1 hb8
  have g2 := cell_below f2 hb8
  have g3 := cell_below f3 hb8
  clear FR f1 f2 f3
  by_cases hf0 : fr = 0
  · by_cases hl : os.length = 256
    · have hA : Hid (ad = (os.map (·.1), 14)) := by
        show _ = _
        rw [HAD.out]
        unfold addN
        rw [← HFR.out, if_neg (by simp [hf0]), if_pos (by rw [HLl.out]; exact hl)]
      have HP := Lib.hid (XPost.same (A2 := fun a => ls ≠ [] ∧ A2 = some a) h hb08)
      subst hf0
      have hli : ((os.length : Int) == 256) = true := by simp [hl]
      have hli2 : (os.length : Int) = 256 := by omega
      clear h hX hl
      go_wp2
      go_returns
      rw [hA.out]
      exact ⟨os, A, c, rfl, HP.out⟩
    · have hA : Hid (ad = (os.map (·.1) ++ [⟨x, nm, ls⟩], 0)) := by
        show _ = _
        rw [HAD.out]
        unfold addN
        rw [← HFR.out, if_neg (by simp [hf0]), if_neg (by rw [HLl.out]; exact hl)]
      subst hf0
      have hli : ((os.length : Int) == 256) = false := by simp; omega
      have hX8 := h.below hb08
      have hbB : Below w8.heap.size w8 (w8.alloc (.cells #[.int .i64 x, .string (mk8 nm), .slice A2 n2 c2] 75)) := (Below.refl _ _).alloc (Nat.le_refl _) _
      have hX9 := hX8.below hbB
      have hrdA := RdK.new (k := 3) w8 75 1 [.int .i64 x, .string (mk8 nm), .slice A2 n2 c2] rfl
      have htc : tC ((⟨x, nm, ls⟩ : Thg), A2, c2) = [.int .i64 x, .string (mk8 nm), .slice A2 n2 c2] := by simp [tC, HLL.out]
      have honeA : ∀ u ∈ [Value.int .i64 x, .string (mk8 nm), .slice A2 n2 c2], u.oneCell' = true := htc ▸ tC_one (⟨x, nm, ls⟩, A2, c2)
      have hB8 : B ≤ (w8.alloc (.cells #[.int .i64 x, .string (mk8 nm), .slice A2 n2 c2] 75)).heap.size := by have := hb08.size; simp; omega
      have hr9 : Rd (w8.alloc (.cells #[.int .i64 x, .string (mk8 nm), .slice A2 n2 c2] 75)) A2 n2 (Ss ls) := (hr2.below hb08).below hbB
      have HTC := Lib.hid htc
      have hb09 := below_then hb08 hbB
      clear h hX hl htc
      go_wp2_with (at_builtin; refine wpList_appK thElem _ rfl _ _ rfl B rfl hX9.own rfl hrdA honeA (by omega) (by omega) hB8 ?_)
      intro A9 c9 w9 hown9 hg9 hat9
      have HP := Lib.hid (XPost.from_ hb09 (x_app hX9 ((⟨x, nm, ls⟩ : Thg), A2, c2) (by show Rd _ A2 ls.length (Ss ls); rw [HLL.out]; exact hr9) hyB hB8 (by rw [HTC.out]; exact hown9) hg9 (by simpa using hat9)))
      clear hown9 hg9 hat9 hX9 hX8
      go_wp2
      go_returns
      rw [hA.out]
      refine ⟨os ++ [((⟨x, nm, ls⟩ : Thg), A2, c2)], A9, c9, ?_, HP.out⟩
      simp
  · have hA : Hid (ad = (os.map (·.1), fr)) := by
      show _ = _
      rw [HAD.out]
      unfold addN
      rw [← HFR.out, if_pos hf0]
    have HP := Lib.hid (XPost.same (A2 := fun a => ls ≠ [] ∧ A2 = some a) h hb08)
    have hn1 : (fr == 0) = false := by simpa using hf0
    have hn2' : (fr != 0) = true := by simpa using hf0
    clear h hX
    go_wp2
    go_returns
    rw [hA.out]
    exact ⟨os, A, c, rfl, HP.out⟩
theorem drop_find {L : List Thg} {nm : List UInt8} {i : Nat} (h : atF nm L = some i) : dropN L nm = (L.eraseIdx i, 0) := by unfold dropN; rw [h]
theorem drop_none {L : List Thg} {nm : List UInt8} (h : atF nm L = none) : dropN L nm = (L, 13) := by unfold dropN; rw [h]
theorem call_none {L : List Thg} {nm : List UInt8} {ot : List (List UInt8)} (h : atF nm L = none) : callN L nm ot = (L, 13) := by unfold callN; rw [h]
theorem call_find {L : List Thg} {nm : List UInt8} {ot : List (List UInt8)} {i : Nat} (h : atF nm L = some i) : callN L nm ot = if freshN L ot ≠ 0 then (L, freshN L ot) else (L.modify i (fun t => { t with ot := t.ot ++ ot }), 0) := by unfold callN; rw [h]
set_option maxRecDepth 20000 in
set_option maxHeartbeats 4000000 in
theorem asked_none (N2 : Addr → Prop) (h : XAt B w os A c) (hlen : os.length ≤ 1000) (hst : ShortT os) (k x : Int) (hk : ¬ k = 0) (nm : List UInt8) (A2 : Option Addr) (n2 c2 : Nat) (hnm : nm.length ≤ 1000000) (hat : atF nm (os.map (·.1)) = none) :
    Calls Tryd.prog 22 #[.slice A os.length c, .agg #[.int .i64 k, .int .i64 x, .string (mk8 nm), .slice A2 n2 c2]] w (AskedP B w os A c N2 (os.map (·.1), 13)) := by
  obtain ⟨W1, hW1⟩ : ∃ W1, w.alloc (.cells #[.int .i64 k, .int .i64 x, .string (mk8 nm), .slice A2 n2 c2] 30) = W1 := ⟨_, rfl⟩
  have hb1 : Below w.heap.size w W1 := by rw [← hW1]; exact (Below.refl _ w).alloc (Nat.le_refl _) _
  have c0 : W1.cell? ⟨w.heap.size, 0, none⟩ = some (.int .i64 k) := by rw [← hW1]; simp [go_sem]
  have c2' : W1.cell? ⟨w.heap.size, 2, none⟩ = some (.string (mk8 nm)) := by rw [← hW1]; simp [go_sem]
  have FD := rfind_any nm A os.length c os W1 (h.rd.below hb1) rfl (by omega) hst hnm
  rw [hat] at FD
  simp only [atI] at FD
  have hk0 : (k == 0) = false := by simpa using hk
  clear hst hat
  go_enter Tryd.func22, Tryd.ntmps22
  go_wp2_with fail
  refine FD.mono ?_
  rintro e w2 ⟨rfl, hb2⟩
  have d0 := cell_below c0 hb2
  have HP := Lib.hid (XPost.same (A2 := N2) h (below_then hb1 hb2))
  clear c0 c2' FD hW1 h
  go_wp2
  go_returns
  exact ⟨os, A, c, rfl, HP.out⟩
set_option maxRecDepth 20000 in
set_option maxHeartbeats 4000000 in
theorem asked_drop (N2 : Addr → Prop) (h : XAt B w os A c) (hB : B ≤ w.heap.size) (hlen : os.length ≤ 1000) (hst : ShortT os) (k x : Int) (hk : ¬ k = 0) (hk1 : ¬ k = 1) (nm : List UInt8) (A2 : Option Addr) (n2 c2 : Nat) (hnm : nm.length ≤ 1000000) (i : Nat) (hat : atF nm (os.map (·.1)) = some i) :
    Calls Tryd.prog 22 #[.slice A os.length c, .agg #[.int .i64 k, .int .i64 x, .string (mk8 nm), .slice A2 n2 c2]] w (AskedP B w os A c N2 ((os.map (·.1)).eraseIdx i, 0)) := by
  have hi : i < os.length := by have := atF_lt hat; rwa [List.length_map] at this
  obtain ⟨W1, hW1⟩ : ∃ W1, w.alloc (.cells #[.int .i64 k, .int .i64 x, .string (mk8 nm), .slice A2 n2 c2] 30) = W1 := ⟨_, rfl⟩
  have hb1 : Below w.heap.size w W1 := by rw [← hW1]; exact (Below.refl _ w).alloc (Nat.le_refl _) _
  have c0 : W1.cell? ⟨w.heap.size, 0, none⟩ = some (.int .i64 k) := by rw [← hW1]; simp [go_sem]
  have c2' : W1.cell? ⟨w.heap.size, 2, none⟩ = some (.string (mk8 nm)) := by rw [← hW1]; simp [go_sem]
  have FD := rfind_any nm A os.length c os W1 (h.rd.below hb1) rfl (by omega) hst hnm
  rw [hat] at FD
  simp only [atI] at FD
  have hk0 : (k == 0) = false := by simpa using hk
  have hk1' : (k == 1) = false := by simpa using hk1
  have hk1n : (k != 1) = true := by simp [hk1]
  have hi0 : (0 : Int) ≤ (i : Int) := by omega
  obtain ⟨A0, c0', hv, hnc, _, _⟩ := RdK.of_own h.own
  injection hv with hv1 _ hv2
  subst hv1 hv2
  obtain ⟨g, hg⟩ : ∃ g, A = some ⟨g, 0, none⟩ := by
    rcases h.own.2 with ⟨hh, hz⟩ | ⟨g, cap, cur, hv, _⟩
    · omega
    · injection hv with hv _ _
      exact ⟨g, hv⟩
  subst hg
  clear hst hat hk hk1
  go_enter Tryd.func22, Tryd.ntmps22
  go_wp2_with fail
  refine FD.mono ?_
  rintro e w2 ⟨rfl, hb2⟩
  have d0 := cell_below c0 hb2
  have hb12 := below_then hb1 hb2
  have hX2 := h.below hb12
  have DR := rdrop_any g os.length c i os w2 hX2.rd.cells rfl hi (by omega) hnc
  have hB2 : B ≤ w2.heap.size := by have := hb12.size; omega
  clear c0 c2' FD hW1
  go_wp2_with fail
  refine DR.mono ?_
  rintro e w3 ⟨A', c', rfl, hown, hb3⟩
  have HP := Lib.hid (XPost.from_ hb12 (x_drop hX2 hB2 i hi N2 hown hb3))
  have hl : (os.eraseIdx i).length = os.length - 1 := List.length_eraseIdx_of_lt hi
  have HL := Lib.hid hl
  clear hown DR hX2 h hl
  go_wp2
  go_returns
  exact ⟨os.eraseIdx i, A', c', by rw [HL.out] <;> rfl, HP.out⟩
set_option maxRecDepth 20000 in
set_option maxHeartbeats 4000000 in
theorem asked_call (N2 : Addr → Prop) (h : XAt B w os A c) (hB : B ≤ w.heap.size) (hlen : os.length ≤ 1000) (hst : ShortT os) (x : Int) (nm : List UInt8) (A2 : Option Addr) (n2 c2 : Nat) (ls : List (List UInt8)) (hr2 : Rd w A2 n2 (Ss ls)) (hnm : nm.length ≤ 1000000) (hls : Short ls) (hn2 : n2 ≤ 1000) (i : Nat) (hat : atF nm (os.map (·.1)) = some i) :
    Calls Tryd.prog 22 #[.slice A os.length c, .agg #[.int .i64 1, .int .i64 x, .string (mk8 nm), .slice A2 n2 c2]] w (AskedP B w os A c N2 (callN (os.map (·.1)) nm ls)) := by
  have hi : i < os.length := by have := atF_lt hat; rwa [List.length_map] at this
  have hll : ls.length = n2 := by have := hr2.1; simpa [Ss] using this
  obtain ⟨W1, hW1⟩ : ∃ W1, w.alloc (.cells #[.int .i64 1, .int .i64 x, .string (mk8 nm), .slice A2 n2 c2] 30) = W1 := ⟨_, rfl⟩
  have hb1 : Below w.heap.size w W1 := by rw [← hW1]; exact (Below.refl _ w).alloc (Nat.le_refl _) _
  have c0 : W1.cell? ⟨w.heap.size, 0, none⟩ = some (.int .i64 1) := by rw [← hW1]; simp [go_sem]
  have c2' : W1.cell? ⟨w.heap.size, 2, none⟩ = some (.string (mk8 nm)) := by rw [← hW1]; simp [go_sem]
  have c3 : W1.cell? ⟨w.heap.size, 3, none⟩ = some (.slice A2 n2 c2) := by rw [← hW1]; simp [go_sem]
  have FD := rfind_any nm A os.length c os W1 (h.rd.below hb1) rfl (by omega) hst hnm
  rw [hat] at FD
  simp only [atI] at FD
  have hi0 : (0 : Int) ≤ (i : Int) := by omega
  have hi1 : (i : Int) < (os.length : Int) := by omega
  obtain ⟨g, hg⟩ : ∃ g, A = some ⟨g, 0, none⟩ := by
    rcases h.own.2 with ⟨hh, hz⟩ | ⟨g, cap, cur, hv, _⟩
    · omega
    · injection hv with hv _ _
      exact ⟨g, hv⟩
  subst hg
  obtain ⟨ad, had⟩ : ∃ ad, ad = callN (os.map (·.1)) nm ls := ⟨_, rfl⟩
  obtain ⟨fr, hfr⟩ : ∃ fr, fr = freshN (os.map (·.1)) ls := ⟨_, rfl⟩
  rw [← had]
  rw [call_find hat, ← hfr] at had
  have HAD := Lib.hid had
  have HFR := Lib.hid hfr
  have HST := Lib.hid hst
  have HLS := Lib.hid hls
  have HLL := Lib.hid hll
  clear hst hat had hfr hll
  go_enter Tryd.func22, Tryd.ntmps22
  go_wp2_with fail
  refine FD.mono ?_
  rintro e w2 ⟨rfl, hb2⟩
  have hb12 := below_then hb1 hb2
  have d0 := cell_below c0 hb2
  have d3 := cell_below c3 hb2
  have hrw := hr2.below hb12
  have hX2 := h.below hb12
  have FR := rfresh_any A2 n2 c2 ls (some ⟨g, 0, none⟩) os.length c os w2 hX2.rd rfl (by omega) HST.out hrw (by omega) hls
  rw [← HFR.out] at FR
  clear c0 c2' c3 FD hW1
  go_wp2_with fail
  refine FR.mono ?_
  rintro e w3 ⟨rfl, hb3⟩
  have hb13 := below_then hb12 hb3
  have f3 := cell_below d3 hb3
  clear FR d3
  by_cases hf0 : fr = 0
  · have hA : Hid (ad = ((os.map (·.1)).modify i (fun t => { t with ot := t.ot ++ ls }), 0)) := by
      show _ = _
      rw [HAD.out, if_neg (by simp [hf0])]
    subst hf0
    obtain ⟨⟨t, At, ct⟩, hx⟩ : ∃ x, os[i]? = some x := ⟨_, List.getElem?_eq_getElem hi⟩
    have hX3 := h.below hb13
    obtain ⟨b, off, hbe, _, hcx⟩ := hX3.rd.at_ (by omega)
    injection hbe with hbe
    injection hbe with hbe1 hbe2
    subst hbe1 hbe2
    obtain ⟨t0, t1, t2⟩ := th_cells hx hcx
    rw [Nat.zero_add] at t0 t1 t2
    have hot := hX3.ot _ (List.mem_of_getElem? hx)
    have htl := HST.out.ot _ (List.mem_of_getElem? hx)
    simp only [] at hot htl
    have hown0 : w3.ownsRow w3.heap.size 9 1 (.slice none 0 0) 0 [] := World.ownsRow_nil _ _ _ _
    have honeT := Ss_one t.ot
    have honeL := Ss_one ls
    have hr3 := hr2.below hb13
    have HX := Lib.hid hx
    clear hcx hX2 h hrw hx
    go_wp2_with (at_builtin; refine wpList_app strElem _ rfl _ _ rfl w3.heap.size rfl hown0 rfl hot honeT (by omega) (by omega) (Nat.le_refl _) ?_)
    intro A6 c6 w6 hown6 hg6 hat6
    have hb6 := below_app (Below.refl w3.heap.size w3) (Nat.le_refl _) hown0 hg6
    have hown6' : w6.ownsRow w3.heap.size 9 1 (.slice A6 t.ot.length c6) t.ot.length (Ss t.ot) := by simpa using hown6
    have hrd6 := hr3.below hb6
    have hz6 := hb6.size
    have g3 := cell_below f3 hb6
    have hz0 : 0 + t.ot.length = t.ot.length := by omega
    try rw [hz0]
    clear hown0 hown6 hg6 hat6 hot
    go_wp2_with (at_builtin; refine wpList_app strElem _ rfl _ _ rfl w3.heap.size rfl hown6' rfl hrd6 honeL (by omega) (by omega) hz6 ?_)
    intro A8 c8 w8 hown8 hg8 hat8
    have hb8 := below_app hb6 hz6 hown6' hg8
    have HP := Lib.hid (XPost.from_ hb13 (x_call (ls := ls) (N := t.ot.length + n2) hX3 HX.out N2 (Nat.le_refl _) hb8 (by rw [List.length_append, HLL.out]) (by
      rw [show Ss (t.ot ++ ls) = Ss t.ot ++ Ss ls from List.map_append]; exact hown8)))
    have hX8 := hX3.below hb8
    obtain ⟨b, off, hbe, _, hcx⟩ := hX8.rd.at_ (by omega)
    injection hbe with hbe
    injection hbe with hbe1 hbe2
    subst hbe1 hbe2
    obtain ⟨_, _, u2⟩ := th_cells HX.out hcx
    have u3 : w8.frozen? ⟨g, 0 + i * 3 + 2, none⟩ = false := by
      obtain ⟨_, cur, hcur⟩ := own_blk hX8.own (show (Value.slice (some ⟨g, 0, none⟩) os.length c).ownBlock = some g from rfl)
      exact box_frozen hcur _
    rw [Nat.zero_add] at u2 u3
    clear hown6' hown8 hg8 hat8 hrd6 hX3 hX8 hcx hr3 t0 t1 t2
    go_wp2
    go_returns
    rw [hA.out]
    refine ⟨_, some ⟨g, 0, none⟩, c, ?_, HP.out⟩
    simp
  · have hA : Hid (ad = (os.map (·.1), fr)) := by
      show _ = _
      rw [HAD.out, if_pos hf0]
    have HP := Lib.hid (XPost.same (A2 := N2) h hb13)
    have hn1 : (fr == 0) = false := by simpa using hf0
    have hn2' : (fr != 0) = true := by simpa using hf0
    clear h hX2
    go_wp2
    go_returns
    rw [hA.out]
    exact ⟨os, some ⟨g, 0, none⟩, c, rfl, HP.out⟩
theorem asked_any (h : XAt B w os A c) (hB : B ≤ w.heap.size) (hlen : os.length ≤ 1000) (hst : ShortT os) (y : OA) (hr2 : Rd w y.2.1 y.1.ot.length (Ss y.1.ot)) (hnm : y.1.nm.length ≤ 1000000) (hls : Short y.1.ot) (hn2 : y.1.ot.length ≤ 1000) (hyB : y.1.ot ≠ [] → ∀ a, y.2.1 = some a → a.block < B) :
    Calls Tryd.prog 22 #[.slice A os.length c, oV y] w (AskedP B w os A c (fun a => y.1.ot ≠ [] ∧ y.2.1 = some a) (opD (os.map (·.1)) y.1)) := by
  obtain ⟨⟨k, x, nm, ls⟩, A2, c2⟩ := y
  simp only [] at hr2 hnm hls hn2 hyB
  unfold opD opN
  simp only []
  by_cases hk : k = 0
  · subst hk
    rw [if_pos rfl]
    exact asked_add h hB hlen hst x nm A2 ls.length c2 ls hr2 hnm hls hn2 hyB
  · rw [if_neg hk]
    by_cases hk1 : k = 1
    · subst hk1
      rw [if_pos rfl]
      cases hat : atF nm (os.map (·.1)) with
      | none => rw [call_none hat]; exact asked_none _ h hlen hst 1 x hk nm A2 ls.length c2 hnm hat
      | some i => exact asked_call _ h hB hlen hst x nm A2 ls.length c2 ls hr2 hnm hls hn2 i hat
    · rw [if_neg hk1]
      cases hat : atF nm (os.map (·.1)) with
      | none => rw [drop_none hat]; exact asked_none _ h hlen hst k x hk nm A2 ls.length c2 hnm hat
      | some i => rw [drop_find hat]; exact asked_drop _ h hB hlen hst k x hk hk1 nm A2 ls.length c2 hnm i hat
end
end Go.Proofs.YthfakejhkbelhaaDoor
