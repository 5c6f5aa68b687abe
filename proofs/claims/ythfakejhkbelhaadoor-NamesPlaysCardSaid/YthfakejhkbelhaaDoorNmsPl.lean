/- The law on what each call answers: true. -/
import Derived.Test.YthfakejhkbelhaaDoorNmsO
set_option linter.unusedSimpArgs false
set_option linter.unusedVariables false
namespace Go.Proofs.YthfakejhkbelhaaDoor
open Go.RowKit Go.Lib

theorem short_of {os : List TA} {k : Nat} (h : Reg1 (os.map (·.1))) (hf : FewR k (os.map (·.1))) (hk : k ≤ 1000) : ShortT os := by
  refine ⟨fun x hx => ?_, fun x hx s hs => ?_⟩
  · have := hf.2 x.1 (List.mem_map_of_mem hx)
    omega
  · have hm := h.may s (List.mem_flatMap.2 ⟨x.1, List.mem_map_of_mem hx, hs⟩)
    have := (mayS_ascii hm).1
    omega
/-- The list's blocks are none of the registry's. -/
def Far (W1 : World) (osr : List TA) (Ar : Option Addr) (cr : Nat) (osx : List TA) (Ax : Option Addr) (cx : Nat) : Prop :=
  (∀ g, (Value.slice Ax osx.length cx).ownBlock = some g → ¬ RegB W1.heap.size osr Ar cr g) ∧ (∀ x ∈ osx, x.1.ot ≠ [] → ∀ a, x.2.1 = some a → ¬ RegB W1.heap.size osr Ar cr a.block)
/-- Behind k calls: a registry, and the document's answer, that hold the same things. -/
def PInv (W1 : World) (k : Nat) (w : World) (Ax : Option Addr) (n cx : Nat) : Prop := ∃ (osr : List TA) (Ar : Option Addr) (cr : Nat) (osx : List TA),
  RegAt W1.heap.size W1.heap.size w osr Ar cr ∧ XAt W1.heap.size w osx Ax cx ∧ osx.length = n ∧ osx.map (·.1) = osr.map (·.1) ∧ Reg1 (osr.map (·.1)) ∧ FewR k (osr.map (·.1)) ∧ Far W1 osr Ar cr osx Ax cx ∧ Below W1.heap.size W1 w
def PMid (W1 : World) (k : Nat) (y : OpT) (w : World) (Ax : Option Addr) (n cx : Nat) (want : Int) : Prop := ∃ (osr : List TA) (Ar : Option Addr) (cr : Nat) (osx : List TA),
  RegAt W1.heap.size W1.heap.size w osr Ar cr ∧ XAt W1.heap.size w osx Ax cx ∧ osx.length = n ∧ osx.map (·.1) = (opD (osr.map (·.1)) y).1 ∧ want = (opD (osr.map (·.1)) y).2 ∧ Reg1 (osr.map (·.1)) ∧ FewR k (osr.map (·.1)) ∧ Far W1 osr Ar cr osx Ax cx ∧ Below W1.heap.size W1 w
section
variable {W1 w w' : World} {k n cx : Nat} {Ax : Option Addr}
theorem PInv.bel (h : PInv W1 k w Ax n cx) : Below W1.heap.size W1 w := by
  obtain ⟨_, _, _, _, _, _, _, _, _, _, _, h⟩ := h
  exact h
theorem PMid.bel {y : OpT} {want : Int} (h : PMid W1 k y w Ax n cx want) : Below W1.heap.size W1 w := by
  obtain ⟨_, _, _, _, _, _, _, _, _, _, _, _, h⟩ := h
  exact h
theorem PInv.below (h : PInv W1 k w Ax n cx) (hb : Below w.heap.size w w') : PInv W1 k w' Ax n cx := by
  obtain ⟨osr, Ar, cr, osx, h1, h2, h3, h4, h5, h6, h7, h8⟩ := h
  exact ⟨osr, Ar, cr, osx, h1.below hb, h2.below hb, h3, h4, h5, h6, h7, below_then h8 hb⟩
theorem PMid.below {y : OpT} {want : Int} (h : PMid W1 k y w Ax n cx want) (hb : Below w.heap.size w w') : PMid W1 k y w' Ax n cx want := by
  obtain ⟨osr, Ar, cr, osx, h1, h2, h3, h4, h5, h6, h7, h8, h9⟩ := h
  exact ⟨osr, Ar, cr, osx, h1.below hb, h2.below hb, h3, h4, h5, h6, h7, h8, below_then h9 hb⟩
theorem RegAt.geB {B r : Nat} {os : List TA} {A : Option Addr} {c : Nat} (h : RegAt B r w os A c) {g : Nat} (hg : RegB r os A c g) : B ≤ g := by
  rcases hg with rfl | hg | ⟨x, hx, hg⟩
  · exact h.rb
  · exact (own_blk h.own hg).1
  · exact (own_blk (h.ot x hx) hg).1
theorem newP_any (W : World) : Calls Tryd.prog 14 #[] W fun e w' => e = .returned (.pointer (some ⟨W.heap.size, 0, none⟩)) ∧ PInv W 0 w' none 0 0 :=
  (new_any W).mono fun e w' ⟨h1, h2⟩ => by
    subst h2
    exact ⟨h1, [], none, 0, [], reg_new W, ⟨World.ownsRow_nil _ _ _ _, fun x hx => by simp at hx, fun x hx => by simp at hx, fun x hx => by simp at hx⟩, rfl, rfl, reg1_nil, fewR_nil, ⟨fun g hg => by simp [Value.ownBlock] at hg, fun x hx => by simp at hx⟩, (Below.refl _ _).alloc (Nat.le_refl _) _⟩
/-- The document's answer's step. -/
def MidP (W1 : World) (k : Nat) (y : OpT) (e : Ending) (w' : World) : Prop := ∃ (A' : Option Addr) (n' c' : Nat) (want : Int), e = .returned (.tuple #[.slice A' n' c', .int .i64 want]) ∧ PMid W1 k y w' A' n' c' want
theorem pinv_asked (h : PInv W1 k w Ax n cx) (hk : k ≤ 100) (y : OA) (hy : OpRd W1 y) (hf : fewO y.1 = true) :
    Calls Tryd.prog 22 #[.slice Ax n cx, oV y] w (MidP W1 k y.1) := by
  obtain ⟨osr, Ar, cr, osx, h1, h2, h3, h4, h5, h6, h7, h8⟩ := h
  subst h3
  have hfo := fewO_is hf
  have hlen : osx.length ≤ 1000 := by
    have := h6.1
    rw [← h4, List.length_map] at this
    omega
  have hsh : ShortT osx := short_of (h4 ▸ h5) (h4 ▸ h6) (by omega)
  have hyB : y.1.ot ≠ [] → ∀ a, y.2.1 = some a → a.block < W1.heap.size := fun hn a ha => by
    obtain ⟨b, off, hA, hb, _⟩ := hy.ot.at_ (List.length_pos_iff.2 hn)
    rw [hA] at ha
    injection ha with ha
    rw [← ha]; exact hb
  have hyw : Rd w y.2.1 y.1.ot.length (Ss y.1.ot) := by
    refine ⟨hy.ot.1, fun h0 => ?_⟩
    obtain ⟨b, off, hA, hb, hc⟩ := hy.ot.at_ h0
    exact ⟨b, off, hA, fun j u hu => (h8.cell (p := ⟨b, off + j, none⟩) hb).trans (hc j u hu)⟩
  refine (asked_any h2 h8.size hlen hsh y hyw (by have := hfo.1; omega) (fun s hs => by have := hfo.2.2 s hs; omega) (by have := hfo.2.1; omega) hyB).mono ?_
  rintro e w' ⟨os', A', c', rfl, h9, h10, h11, h12, h13⟩
  have hreg : RegAt W1.heap.size W1.heap.size w' osr Ar cr := h1.same fun g hg => h11.block g (h1.lt hg) fun e => h7.1 g e hg
  refine ⟨A', os'.length, c', _, rfl, osr, Ar, cr, os', hreg, h10, rfl, by rw [h9, h4], by rw [h4], h5, h6, ⟨fun g hg hB => ?_, fun x hx hn a ha hB => ?_⟩, ?_⟩
  · rcases h12 g hg with h | h
    · exact h7.1 g h hB
    · have := h1.lt hB; omega
  · rcases h13 x hx hn a ha with ⟨y, hy, hny, hya⟩ | h | h
    · exact h7.2 y hy hny a hya hB
    · have h14 := h1.geB hB
      have := hyB h.1 a h.2
      omega
    · have := h1.lt hB; omega
  · exact h8.trans (h11.below (fun g hg => (own_blk h2.own hg).1) h8.size)
theorem pmid_calls {y : OA} {want : Int} (h : PMid W1 k y.1 w Ax n cx want) (hE : EnvN w) (hk : k ≤ 100) (hy : OpRd W1 y) (hf : fewO y.1 = true) :
    Calls Tryd.prog 16 #[.pointer (some ⟨W1.heap.size, 0, none⟩), oV y] w fun e w' => e = .returned (.int .i64 want) ∧ PInv W1 (k + 1) w' Ax n cx := by
  obtain ⟨osr, Ar, cr, osx, h1, h2, h3, h4, h5, h6, h7, h8, h9⟩ := h
  subst h3
  have hfo := fewO_is hf
  have hyw : Rd w y.2.1 y.1.ot.length (Ss y.1.ot) := by
    refine ⟨hy.ot.1, fun h0 => ?_⟩
    obtain ⟨b, off, hA, hb, hc⟩ := hy.ot.at_ h0
    exact ⟨b, off, hA, fun j u hu => (h9.cell (p := ⟨b, off + j, none⟩) hb).trans (hc j u hu)⟩
  refine (calls_any h1 hE y.1.k y.1.x y.1.nm y.2.1 y.1.ot.length y.2.2 y.1.ot hyw hy.nil (by omega) hy.cap (fun x hx => by have := h7.2 x.1 (List.mem_map_of_mem hx); omega)).mono ?_
  rintro e w' ⟨rfl, os', A', c', h10, h11, h12, h13, h14⟩
  have hw : Wrote (RegB W1.heap.size osr Ar cr) w w' := ⟨h12.os, h12.tape, h12.output, h12.size, h13⟩
  refine ⟨by rw [h5]; rfl, os', A', c', osx, h11, h2.wrote hw h8.1 h8.2, rfl, by rw [h4, h10]; rfl, ?_, ?_, ⟨fun g hg hB => ?_, fun x hx hn a ha hB => ?_⟩, h9.trans h12⟩
  · rw [h10]; exact reg1_op h6 y.1
  · rw [h10]; exact fewR_op h7 y.1 hfo.2.1
  · rcases h14 g hB with h | h
    · exact h8.1 g hg h
    · have := own_ltN h2.own g hg; omega
  · rcases h14 a.block hB with h | h
    · exact h8.2 x hx hn a ha h
    · have := h2.lt x hx hn a ha; omega
theorem pinv_same (h : PInv W1 k w Ax n cx) : Calls Tryd.prog 23 #[.pointer (some ⟨W1.heap.size, 0, none⟩), .slice Ax n cx] w fun e w' => e = .returned (.bool true) ∧ Below w.heap.size w w' := by
  obtain ⟨osr, Ar, cr, osx, h1, h2, h3, h4, h5, h6, h7, h8⟩ := h
  subst h3
  exact same_yes h1 cx h2.rd h4
theorem pinv_found (h : PInv W1 k w Ax n cx) (hE : EnvN w) (hk : k ≤ 100) (s : List UInt8) (hs : s.length ≤ 1000000) : Calls Tryd.prog 24 #[.pointer (some ⟨W1.heap.size, 0, none⟩), .slice Ax n cx, .string (mk8 s)] w fun e w' => e = .returned (.bool true) ∧ Below w.heap.size w w' := by
  obtain ⟨osr, Ar, cr, osx, h1, h2, h3, h4, h5, h6, h7, h8⟩ := h
  subst h3
  exact found_yes h1 hE cx h2.rd (short_of (h4 ▸ h5) (h4 ▸ h6) (by omega)) h4 s hs
end
set_option maxRecDepth 20000 in
set_option maxHeartbeats 8000000 in
theorem namesPlays_yes (A : Option Addr) (n c : Nat) (ys : List OA) (s : ByteArray) (w : World) (hE : EnvN w) (hr : OpsRd w A ys) (hyl : ys.length = n) (hn : n ≤ 9223372036854775807) (hol : ∀ y ∈ ys, y.1.ot.length ≤ 9223372036854775807) :
    Calls Tryd.prog 6 #[.slice A n c, .string s] w fun e w' => e = .returned (.bool true) ∧ Below w.heap.size w w' := by
  have NW := newP_any w
  have FW := fun W h => few_any A n c ys W (hr.below h) hyl hn hol
  have AW := Lib.hid fun W h => awake21_any W (hE.below h)
  by_cases hbig : fewB (ys.map (·.1)) = true ∧ s.size ≤ 100
  · obtain ⟨hs1, hs2⟩ := hbig
    have hsi : (s.size : Int) ≤ 100 := by omega
    rw [hs1] at FW
    have FW' := Lib.hid FW
    have HF := Lib.hid (fewB_is hs1)
    have HYL := Lib.hid hyl
    have hn60 : n ≤ 60 := by have := HF.out.1; rw [List.length_map, hyl] at this; exact this
    have hsm : mk8 (bs s) = s := mk8_bs s
    have hsl : (bs s).length ≤ 1000000 := by rw [bs_length]; omega
    have FN := fun (W' : World) (k : Nat) (Ax : Option Addr) (m cx : Nat) (h : PInv w k W' Ax m cx) (hk : k ≤ 100) (hE : EnvN W') => pinv_found h hE hk (bs s) hsl
    rw [hsm] at FN
    have FN' := Lib.hid FN
    clear hol hs1 FW hyl hsm hsl FN
    go_enter Tryd.func6, Tryd.ntmps6
    go_wp2_with fail
    refine NW.mono ?_
    rintro e w2 ⟨rfl, hP⟩
    clear NW
    go_wp2_with fail
    refine (FW'.out _ hP.bel).mono ?_
    rintro e w3 ⟨rfl, rfl⟩
    clear FW'
    go_wp2
    go_loopw [6, 7] (fun x i wr => ∃ (k : Nat) (Ax : Option Addr) (m cx : Nat), k ≤ n ∧ x = .slice Ax m cx ∧ i = .int .i64 k ∧ PInv w k wr Ax m cx) (fun _ i _ => n - (intOf i).toNat)
    case atStart => exact ⟨0, none, 0, 0, Nat.zero_le _, rfl, rfl, hP⟩
    case round =>
      obtain ⟨k, Ax, m, cx, hk, rfl, rfl, hP⟩ := hrel
      have hbw := hP.bel
      by_cases hlt : k < n
      · obtain ⟨⟨t, At, ct⟩, hx⟩ : ∃ x, ys[k]? = some x := ⟨_, List.getElem?_eq_getElem (by rw [HYL.out]; exact hlt)⟩
        obtain ⟨b, off, rfl, hbl, hc⟩ := hr.at_ (by rw [HYL.out]; omega)
        obtain ⟨e0, e1, e2, e3⟩ := op_cells hx hc
        have HC : Hid (∀ W, Below w.heap.size w W → W.cell? ⟨b, off + k * 4, none⟩ = some (.int .i64 t.k) ∧ W.cell? ⟨b, off + k * 4 + 1, none⟩ = some (.int .i64 t.x) ∧ W.cell? ⟨b, off + k * 4 + 2, none⟩ = some (.string (mk8 t.nm)) ∧ W.cell? ⟨b, off + k * 4 + 3, none⟩ = some (.slice At t.ot.length ct)) := fun W h =>
          ⟨(h.cell (p := ⟨b, off + k * 4, none⟩) hbl).trans e0, (h.cell (p := ⟨b, off + k * 4 + 1, none⟩) hbl).trans e1, (h.cell (p := ⟨b, off + k * 4 + 2, none⟩) hbl).trans e2, (h.cell (p := ⟨b, off + k * 4 + 3, none⟩) hbl).trans e3⟩
        have hy := hr.each _ (List.mem_of_getElem? hx)
        have hfo := HF.out.2 t (List.mem_map.2 ⟨_, List.mem_of_getElem? hx, rfl⟩)
        have AK := pinv_asked hP (by omega) (t, At, ct) hy hfo
        dsimp only [oV] at AK
        have hki : (k : Int) < (n : Int) := by omega
        have hfo2 := fewO_is hfo
        have HFO := Lib.hid hfo2.2.2
        have hnl : t.nm.length ≤ 1000000 := by have := hfo2.1; omega
        have hol : t.ot.length ≤ 1000000 := by have := hfo2.2.1; omega
        have hyo := hy.ot
        simp only [] at hyo
        obtain ⟨a0, a1, a2, a3⟩ := HC.out _ hbw
        clear hx hc hr hfo2 e0 e1 e2 e3
        go_wp2_with fail
        refine AK.mono ?_
        rintro e w1 ⟨A', n', c', want, rfl, hM⟩
        have CA := pmid_calls (y := (t, At, ct)) hM (hE.below hM.bel) (by omega) hy hfo
        dsimp only [oV] at CA
        obtain ⟨b0, b1, b2, b3⟩ := HC.out _ hM.bel
        clear AK hP a0 a1 a2 a3 hM hbw
        go_wp2_with fail
        refine CA.mono ?_
        rintro e w2 ⟨rfl, hP⟩
        have hwq : (want == want) = true := by simp
        have SM := pinv_same hP
        clear CA b0 b1 b2 b3 hy hfo
        go_wp2_with fail
        refine SM.mono ?_
        rintro e w3 ⟨rfl, hb3⟩
        have hP3 := hP.below hb3
        have F1 := pinv_found hP3 (hE.below hP3.bel) (by omega) t.nm hnl
        obtain ⟨b0, b1, b2, b3⟩ := HC.out _ hP3.bel
        clear SM hP hb3
        go_wp2_with fail
        refine F1.mono ?_
        rintro e w4 ⟨rfl, hb4⟩
        have hP4 := hP3.below hb4
        have F2 := FN'.out _ _ _ _ _ hP4 (by omega) (hE.below hP4.bel)
        clear F1 hP3 hb4 b0 b1 b2 b3
        go_wp2_with fail
        refine F2.mono ?_
        rintro e w5 ⟨rfl, hb5⟩
        have hP5 := hP4.below hb5
        clear F2 hP4 hb5
        go_wp2
        go_loopw [9] (fun i wr => ∃ j : Nat, j ≤ t.ot.length ∧ i = .int .i64 j ∧ PInv w (k + 1) wr A' n' c') (fun i _ => t.ot.length - (intOf i).toNat)
        case atStart => exact ⟨0, Nat.zero_le _, rfl, hP5⟩
        case round =>
          obtain ⟨j, hj, rfl, hPj⟩ := hrel
          obtain ⟨b0, b1, b2, b3⟩ := HC.out _ hPj.bel
          by_cases hjl : j < t.ot.length
          · have hji : (j : Int) < (t.ot.length : Int) := by omega
            obtain ⟨o, hot⟩ : ∃ o, t.ot[j]? = some o := ⟨_, List.getElem?_eq_getElem hjl⟩
            obtain ⟨g, goff, rfl, hg, hcx⟩ := hyo.at_ (by omega)
            have hco : wr.cell? ⟨g, goff + j, none⟩ = some (.string (mk8 o)) := (hPj.bel.cell (p := ⟨g, goff + j, none⟩) hg).trans (hcx j _ (by simp [Ss, hot]))
            have FO := pinv_found hPj (hE.below hPj.bel) (by omega) o (by have := HFO.out o (List.mem_of_getElem? hot); omega)
            clear hcx hot
            go_wp2_with fail
            refine FO.mono ?_
            rintro e w6 ⟨rfl, hb6⟩
            have hP6 := hPj.below hb6
            clear FO hPj hb6 b0 b1 b2 b3 hco
            go_wp2
            go_roundw
            case rel => exact ⟨j + 1, by omega, by go_num, hP6⟩
            case measure => simp [intOf]; omega
          · have hji : (t.ot.length : Int) ≤ (j : Int) := by omega
            go_wp2
            go_roundw
            case rel => exact ⟨k + 1, A', n', c', by omega, rfl, by go_num, hPj⟩
            case measure => simp [intOf]; omega
      · have hki : (n : Int) ≤ (k : Int) := by omega
        have AW' := AW.out _ hbw
        clear hr hP
        go_wp2_with fail
        refine AW'.mono ?_
        rintro e w4 ⟨rfl, hb4⟩
        go_wp2
        go_returns
        exact ⟨rfl, below_then hbw hb4⟩
  · cases hs1 : fewB (ys.map (·.1)) with
    | false =>
      rw [hs1] at FW
      have FW' := Lib.hid FW
      clear hr hyl hol hs1 hbig FW hE
      go_enter Tryd.func6, Tryd.ntmps6
      go_wp2_with fail
      refine NW.mono ?_
      rintro e w2 ⟨rfl, hP⟩
      have hb := hP.bel
      clear NW hP
      go_wp2_with fail
      refine (FW'.out _ hb).mono ?_
      rintro e w3 ⟨rfl, rfl⟩
      go_wp2_with fail
      refine (AW.out _ hb).mono ?_
      rintro e w4 ⟨rfl, hb4⟩
      go_wp2
      go_returns
      exact ⟨rfl, below_then hb hb4⟩
    | true =>
      have hsz : 100 < s.size := by
        refine Nat.lt_of_not_le fun h => hbig ⟨hs1, h⟩
      have hsi : (100 : Int) < (s.size : Int) := by omega
      rw [hs1] at FW
      have FW' := Lib.hid FW
      clear hr hyl hol hs1 hbig FW hE hsz
      go_enter Tryd.func6, Tryd.ntmps6
      go_wp2_with fail
      refine NW.mono ?_
      rintro e w2 ⟨rfl, hP⟩
      have hb := hP.bel
      clear NW hP
      go_wp2_with fail
      refine (FW'.out _ hb).mono ?_
      rintro e w3 ⟨rfl, rfl⟩
      go_wp2_with fail
      refine (AW.out _ hb).mono ?_
      rintro e w4 ⟨rfl, hb4⟩
      go_wp2
      go_returns
      exact ⟨rfl, below_then hb hb4⟩
end Go.Proofs.YthfakejhkbelhaaDoor
