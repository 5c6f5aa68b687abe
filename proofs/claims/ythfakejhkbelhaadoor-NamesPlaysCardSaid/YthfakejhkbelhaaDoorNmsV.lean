/- The document's answer: where a thing is, and what is wrong with new names: the code. -/
import Derived.Test.YthfakejhkbelhaaDoorNmsT
import Derived.Test.YthfakejhkbelhaaDoorNamE
import Derived.Deep.RegionHeld3
set_option linter.unusedSimpArgs false
set_option linter.unusedVariables false
namespace Go.Proofs.YthfakejhkbelhaaDoor
open Go.RowKit Go.Lib

/-- Names are none too long. -/
def Short (l : List (List UInt8)) : Prop := ∀ s ∈ l, s.length ≤ 1000000
structure ShortT (os : List TA) : Prop where
  ot : ∀ x ∈ os, x.1.ot.length ≤ 1000000
  nm : ∀ x ∈ os, Short (namesT x.1)
theorem isS_empty {s : List UInt8} (h : plainS s = []) (t : Thg) : isS s t = false := by
  refine isS_all.2 fun a _ => ?_
  unfold sameS
  rw [decide_eq_false_iff_not, h]
  exact fun e => e.1 e.2
theorem sameS_dec {a s : List UInt8} (h : plainS s ≠ []) : sameS a s = decide (plainS a = plainS s) := by
  unfold sameS
  by_cases e : plainS a = plainS s
  · rw [decide_eq_true ⟨e ▸ h, e⟩, decide_eq_true e]
  · rw [decide_eq_false (fun h => e h.2), decide_eq_false e]
theorem ot_step {p : List UInt8 → Bool} {l : List (List UInt8)} {k : Nat} {o : List UInt8} (ho : l[k]? = some o) (h : (l.take k).any p = false) : (l.take (k + 1)).any p = p o := by
  rw [List.take_add_one, ho, List.any_append, h]
  simp
set_option maxRecDepth 20000 in
set_option maxHeartbeats 4000000 in
theorem rfind_none (s : List UInt8) (A : Option Addr) (n c : Nat) (os : List TA) (w : World) (hr : ThRd w A os) (hol : os.length = n) (hn : n ≤ 1000000) (ho : ShortT os) (hs : s.length ≤ 1000000) (hp : plainS s = []) :
    Calls Tryd.prog 40 #[.slice A n c, .string (mk8 s)] w fun e w' => e = .returned (.int .i64 (-1)) ∧ Below w.heap.size w w' := by
  have PL := rplain_any (mk8 s) w (by rw [mk8_size]; omega)
  rw [bs_mk8, hp] at PL
  have hte : (mk8 []).toList.isEmpty = true := by rw [toList_bs, bs_mk8]; rfl
  have hte2 : (!(mk8 []).toList.isEmpty) = false := by rw [hte]; rfl
  have HOL := Lib.hid hol
  have HO := Lib.hid ho
  clear hp hol ho
  go_enter Tryd.func40, Tryd.ntmps40
  go_wp2_with fail
  refine PL.mono ?_
  rintro e w1 ⟨rfl, hb1⟩
  clear PL
  go_wp2
  go_loopw [6] (fun i wr => ∃ k : Nat, k ≤ n ∧ i = .int .i64 k ∧ wr = w1) (fun i _ => n - (intOf i).toNat)
  case atStart => exact ⟨0, Nat.zero_le _, rfl, rfl⟩
  case round =>
    obtain ⟨k, hk, rfl, rfl⟩ := hrel
    by_cases hlt : k < n
    · obtain ⟨⟨t, At, ct⟩, hx⟩ : ∃ x, os[k]? = some x := ⟨_, List.getElem?_eq_getElem (by rw [HOL.out]; exact hlt)⟩
      obtain ⟨b, off, rfl, hbl, hc⟩ := (hr.below hb1).at_ (by rw [HOL.out]; omega)
      obtain ⟨c0, c1, c2⟩ := th_cells hx hc
      have htl := HO.out.ot _ (List.mem_of_getElem? hx)
      simp only [] at htl
      have hki : (k : Int) < (n : Int) := by omega
      clear hc hx hr
      go_wp2
      go_loopw [7] (fun i wr2 => ∃ m : Nat, m ≤ t.ot.length ∧ i = .int .i64 m ∧ wr2 = wr) (fun i _ => t.ot.length - (intOf i).toNat)
      case atStart => exact ⟨0, Nat.zero_le _, rfl, rfl⟩
      case round =>
        obtain ⟨m, hm, rfl, rfl⟩ := hrel
        by_cases hml : m < t.ot.length
        · have hmi : (m : Int) < (t.ot.length : Int) := by omega
          go_wp2
          go_roundw
          case rel => exact ⟨m + 1, by omega, by go_num, trivial⟩
          case measure => simp [intOf]; omega
        · have hmi : (t.ot.length : Int) ≤ (m : Int) := by omega
          go_wp2
          go_roundw
          case rel => exact ⟨k + 1, by omega, by go_num, trivial⟩
          case measure => simp [intOf]; omega
    · have hki : (n : Int) ≤ (k : Int) := by omega
      go_wp2
      go_returns
      exact ⟨rfl, hb1⟩
set_option maxRecDepth 20000 in
set_option maxHeartbeats 4000000 in
theorem rfind_some (s : List UInt8) (A : Option Addr) (n c : Nat) (os : List TA) (w : World) (hr : ThRd w A os) (hol : os.length = n) (hn : n ≤ 1000000) (ho : ShortT os) (hs : s.length ≤ 1000000) (hp : plainS s ≠ []) :
    Calls Tryd.prog 40 #[.slice A n c, .string (mk8 s)] w fun e w' => e = .returned (.int .i64 (atI (atF s (os.map (·.1))))) ∧ Below w.heap.size w w' := by
  have PL := rplain_any (mk8 s) w (by rw [mk8_size]; omega)
  rw [bs_mk8] at PL
  have HSD : Hid (∀ a, sameS a s = decide (plainS a = plainS s)) := fun a => sameS_dec hp
  obtain ⟨p, hpp⟩ : ∃ p, p = plainS s := ⟨_, rfl⟩
  rw [← hpp] at PL
  have HPP := Lib.hid hpp
  have hte : (mk8 p).toList.isEmpty = false := by
    rw [toList_bs, bs_mk8, hpp]
    cases hx : plainS s with
    | nil => exact absurd hx hp
    | cons c t => rfl
  obtain ⟨L, hL⟩ : ∃ L, L = os.map (·.1) := ⟨_, rfl⟩
  rw [← hL]
  have HGET : Hid (∀ k t At ct, os[k]? = some (t, At, ct) → L[k]? = some t) := fun k t At ct h => by rw [hL, List.getElem?_map, h]; rfl
  have HLL : Hid (L.length = n) := by show _ = _; rw [hL, List.length_map]; exact hol
  have HOL := Lib.hid hol
  have HO := Lib.hid ho
  clear hp hol ho hpp hL
  go_enter Tryd.func40, Tryd.ntmps40
  go_wp2_with fail
  refine PL.mono ?_
  rintro e w1 ⟨rfl, hb1⟩
  clear PL
  go_wp2
  go_loopw [6] (fun i wr => ∃ k : Nat, k ≤ n ∧ i = .int .i64 k ∧ Hid (atF s L = (atF s (L.drop k)).map (· + k)) ∧ Below w.heap.size w wr) (fun i _ => n - (intOf i).toNat)
  case atStart => exact ⟨0, Nat.zero_le _, rfl, by show _ = _; simp, hb1⟩
  case round =>
    obtain ⟨k, hk, rfl, HA, hb⟩ := hrel
    by_cases hlt : k < n
    · obtain ⟨⟨t, At, ct⟩, hx⟩ : ∃ x, os[k]? = some x := ⟨_, List.getElem?_eq_getElem (by rw [HOL.out]; exact hlt)⟩
      have hrb := hr.below hb
      obtain ⟨b, off, rfl, hbl, hc⟩ := hrb.at_ (by rw [HOL.out]; omega)
      obtain ⟨c0, c1, c2⟩ := th_cells hx hc
      have htl := HO.out.ot _ (List.mem_of_getElem? hx)
      have hsh := HO.out.nm _ (List.mem_of_getElem? hx)
      have hrt := hrb.ot _ (List.mem_of_getElem? hx)
      simp only [] at htl hsh hrt
      have hLk := HGET.out _ _ _ _ hx
      have PN := fun W => rplain_any (mk8 t.nm) W (by rw [mk8_size]; have := hsh t.nm (by simp [namesT]); omega)
      rw [bs_mk8] at PN
      obtain ⟨q, hq⟩ : ∃ q, q = plainS t.nm := ⟨_, rfl⟩
      rw [← hq] at PN
      have hki : (k : Int) < (n : Int) := by omega
      have HYES : Hid (isS s t = true → atI (atF s L) = k) := by
        show _ → _
        intro hy
        rw [HA.out, drop_someN hLk]
        show atI ((if isS s t = true then some 0 else _).map (· + k)) = _
        rw [if_pos hy]
        simp [atI]
      have HNO : Hid (isS s t = false → atF s L = (atF s (L.drop (k + 1))).map (· + (k + 1))) := fun h => atF_step hLk h HA.out
      have HSH := Lib.hid hsh
      clear hc hx hr hrb hLk HA hsh
      by_cases hpq : q = p
      · have hy : isS s t = true := by
          unfold isS
          rw [HSD.out, decide_eq_true (by rw [← hq, hpq, HPP.out]), Bool.true_or]
        have HZ : Hid (atI (atF s L) = k) := HYES.out hy
        subst hpq
        clear hy hq c2 hrt
        go_wp2_with fail
        refine (PN _).mono ?_
        rintro e w2 ⟨rfl, hb2⟩
        have hb3 := below_then hb hb2
        clear PN
        go_wp2
        go_returns
        exact ⟨by rw [HZ.out] <;> rfl, hb3⟩
      · have hne : ¬ ((mk8 q).toList = (mk8 p).toList) := fun h => hpq (by rw [toList_bs, toList_bs, bs_mk8, bs_mk8] at h; exact h)
        have hbq : ((mk8 q).toList == (mk8 p).toList) = false := beq_eq_false_iff_ne.2 hne
        have HNM : Hid (sameS t.nm s = false) := by show _ = _; rw [HSD.out, decide_eq_false_iff_not, ← hq, ← HPP.out]; exact hpq
        clear hq hpq
        go_wp2_with fail
        refine (PN _).mono ?_
        rintro e w2 ⟨rfl, hb2⟩
        have hb3 := below_then hb hb2
        have d2 := cell_belowU c2 hb2
        have hrt2 := hrt.below hb2
        clear PN hb2 c0 c1 c2 hrt hb
        go_wp2
        go_loopw [7] (fun i wr2 => ∃ m : Nat, m ≤ t.ot.length ∧ i = .int .i64 m ∧ Hid ((t.ot.take m).any (fun o => sameS o s) = false) ∧ Below w2.heap.size w2 wr2) (fun i _ => t.ot.length - (intOf i).toNat)
        case atStart => exact ⟨0, Nat.zero_le _, rfl, by show _ = _; rfl, Below.refl _ _⟩
        case round =>
          obtain ⟨m, hm, rfl, HM, hbm⟩ := hrel
          have e2 := cell_belowU d2 hbm
          by_cases hml : m < t.ot.length
          · have hmi : (m : Int) < (t.ot.length : Int) := by omega
            obtain ⟨o, hot⟩ : ∃ o, t.ot[m]? = some o := ⟨_, List.getElem?_eq_getElem hml⟩
            obtain ⟨g, goff, rfl, hg, hcx⟩ := (hrt2.below hbm).at_ (by omega)
            have hco := hcx m (.string (mk8 o)) (by simp [Ss, hot])
            have PO := fun W => rplain_any (mk8 o) W (by rw [mk8_size]; have := HSH.out o (by simp [namesT, List.mem_of_getElem? hot]); omega)
            rw [bs_mk8] at PO
            have HST := Lib.hid (ot_step (p := fun o => sameS o s) hot HM.out)
            have HMEM := Lib.hid (List.mem_of_getElem? hot)
            obtain ⟨q2, hq2⟩ : ∃ q2, q2 = plainS o := ⟨_, rfl⟩
            rw [← hq2] at PO
            clear hcx hot HM hrt2
            by_cases hpq : q2 = p
            · have hy : isS s t = true := by
                unfold isS
                rw [Bool.or_eq_true]
                refine .inr (List.any_eq_true.2 ⟨o, HMEM.out, ?_⟩)
                rw [HSD.out, decide_eq_true (by rw [← hq2, hpq, HPP.out])]
              have HZ : Hid (atI (atF s L) = k) := HYES.out hy
              subst hpq
              clear hy hq2
              go_wp2_with fail
              refine (PO _).mono ?_
              rintro e w3 ⟨rfl, hb4⟩
              have hb5 := below_then (below_then hb3 hbm) hb4
              clear PO
              go_wp2
              go_returns
              exact ⟨by rw [HZ.out] <;> rfl, hb5⟩
            · have hne : ¬ ((mk8 q2).toList = (mk8 p).toList) := fun h => hpq (by rw [toList_bs, toList_bs, bs_mk8, bs_mk8] at h; exact h)
              have hbq : ((mk8 q2).toList == (mk8 p).toList) = false := beq_eq_false_iff_ne.2 hne
              have HT2 : Hid ((t.ot.take (m + 1)).any (fun o => sameS o s) = false) := by show _ = _; rw [HST.out, HSD.out, decide_eq_false_iff_not, ← hq2, ← HPP.out]; exact hpq
              clear hq2 hpq
              go_wp2_with fail
              refine (PO _).mono ?_
              rintro e w3 ⟨rfl, hb4⟩
              have hb5 := below_then hbm hb4
              clear PO hb4
              go_wp2
              go_roundw
              case rel => exact ⟨m + 1, by omega, by go_num, HT2, hb5⟩
              case measure => simp [intOf]; omega
          · have hmi : (t.ot.length : Int) ≤ (m : Int) := by omega
            have hn0 : isS s t = false := by
              unfold isS
              rw [HNM.out, Bool.false_or]
              have := HM.out
              rwa [List.take_of_length_le (by omega)] at this
            have HA2 : Hid (atF s L = (atF s (L.drop (k + 1))).map (· + (k + 1))) := HNO.out hn0
            have hb5 := below_then hb3 hbm
            clear hn0 HM
            go_wp2
            go_roundw
            case rel => exact ⟨k + 1, by omega, by go_num, HA2, hb5⟩
            case measure => simp [intOf]; omega
    · have hki : (n : Int) ≤ (k : Int) := by omega
      have HZ : Hid (atI (atF s L) = -1) := by
        show _ = _
        rw [HA.out, List.drop_eq_nil_of_le (by rw [HLL.out]; omega)]
        rfl
      clear HA
      go_wp2
      go_returns
      exact ⟨by rw [HZ.out] <;> rfl, hb⟩
theorem rfind_any (s : List UInt8) (A : Option Addr) (n c : Nat) (os : List TA) (w : World) (hr : ThRd w A os) (hol : os.length = n) (hn : n ≤ 1000000) (ho : ShortT os) (hs : s.length ≤ 1000000) :
    Calls Tryd.prog 40 #[.slice A n c, .string (mk8 s)] w fun e w' => e = .returned (.int .i64 (atI (atF s (os.map (·.1))))) ∧ Below w.heap.size w w' := by
  by_cases hp : plainS s = []
  · rw [atF_none fun t _ => isS_empty hp t]
    exact rfind_none s A n c os w hr hol hn ho hs hp
  · exact rfind_some s A n c os w hr hol hn ho hs hp
theorem keepN {A : World → Prop} {w0 w w' : World} (MK : ∀ w', Below w0.heap.size w0 w' → A w' ∧ Below w0.heap.size w0 w') (h : A w ∧ Below w0.heap.size w0 w) (hb : Below w.heap.size w w') : A w' ∧ Below w0.heap.size w0 w' := MK _ (below_then h.2 hb)
theorem rmayL_any (s : List UInt8) (w : World) (hs : s.length ≤ 1000000) : Calls Tryd.prog 11 #[.string (mk8 s)] w fun e w' => e = .returned (.int .i64 (mayS s)) ∧ w = w' := by
  have := rmay_any (mk8 s) w (by rw [mk8_size]; omega)
  rwa [bs_mk8] at this
theorem mayAll_drop {l : List (List UInt8)} {k : Nat} {s : List UInt8} (h : l[k]? = some s) : mayAll (l.drop k) = if mayS s ≠ 0 then mayS s else mayAll (l.drop (k + 1)) := by
  rw [drop_someN h]
  rfl
theorem thereF_drop {L : List Thg} {l : List (List UInt8)} {k : Nat} {s : List UInt8} (h : l[k]? = some s) :
    thereF L (l.take k) (l.drop k) = if (atF s L).isSome = true ∨ ((l.take k).any fun p => sameS s p) = true then true else thereF L (l.take (k + 1)) (l.drop (k + 1)) := by
  rw [drop_someN h, List.take_add_one, h]
  rfl
def atB (s : List UInt8) (L : List Thg) : Bool := (atF s L).isSome
theorem atI_isSome (o : Option Nat) : decide (0 ≤ atI o) = o.isSome := by
  cases o with
  | none => rfl
  | some i => simp [atI]
set_option maxRecDepth 20000 in
set_option maxHeartbeats 4000000 in
theorem rfresh_any (A2 : Option Addr) (n2 c2 : Nat) (ls : List (List UInt8)) (A : Option Addr) (n c : Nat) (os : List TA) (w : World) (hr : ThRd w A os) (hol : os.length = n) (hn : n ≤ 1000000) (ho : ShortT os) (hr2 : Rd w A2 n2 (Ss ls)) (hn2 : n2 ≤ 1000000) (hls : Short ls) :
    Calls Tryd.prog 41 #[.slice A n c, .slice A2 n2 c2] w fun e w' => e = .returned (.int .i64 (freshN (os.map (·.1)) ls)) ∧ Below w.heap.size w w' := by
  have hll : ls.length = n2 := by have := hr2.1; simpa [Ss] using this
  obtain ⟨L, hL⟩ : ∃ L, L = os.map (·.1) := ⟨_, rfl⟩
  have FN := fun s hs W h => rfind_any s A n c os W (hr.below h) hol hn ho hs
  rw [← hL] at FN ⊢
  have HFN := Lib.hid FN
  obtain ⟨res, hres⟩ : ∃ r, r = freshN L ls := ⟨_, rfl⟩
  rw [← hres]
  have HR1 : Hid (mayAll ls ≠ 0 → res = mayAll ls) := fun h => by rw [hres]; unfold freshN; rw [if_pos h]
  have HR2 : Hid (mayAll ls = 0 → res = if thereF L [] ls = true then 12 else 0) := fun h => by rw [hres]; unfold freshN; rw [if_neg (by rw [h]; simp)]
  have HLS := Lib.hid hls
  have HLL := Lib.hid hll
  clear hr hol ho hL hres hls FN hll
  go_enter Tryd.func41, Tryd.ntmps41
  go_wp2
  go_loopw [5] (fun i wr => ∃ k : Nat, k ≤ n2 ∧ i = .int .i64 k ∧ Hid (mayAll ls = mayAll (ls.drop k)) ∧ wr = w) (fun i _ => n2 - (intOf i).toNat)
  case atStart => exact ⟨0, Nat.zero_le _, rfl, by show _ = _; rfl, rfl⟩
  case round =>
    obtain ⟨k, hk, rfl, HM, rfl⟩ := hrel
    by_cases hlt : k < n2
    · have hki : (k : Int) < (n2 : Int) := by omega
      obtain ⟨s, hs⟩ : ∃ s, ls[k]? = some s := ⟨_, List.getElem?_eq_getElem (by rw [HLL.out]; exact hlt)⟩
      obtain ⟨b, off, rfl, _, hcx⟩ := hr2.at_ (by omega)
      have hcs := hcx k (.string (mk8 s)) (by simp [Ss, hs])
      have MY := rmayL_any s wr (HLS.out s (List.mem_of_getElem? hs))
      have hdr := mayAll_drop hs
      rw [← HM.out] at hdr
      obtain ⟨my, hmy⟩ : ∃ m, m = mayS s := ⟨_, rfl⟩
      rw [← hmy] at MY hdr
      clear hcx hs HM hmy hr2
      by_cases h0 : my = 0
      · rw [if_neg (by simp [h0])] at hdr
        subst h0
        have HD := Lib.hid hdr
        clear hdr
        go_wp2_with fail
        refine MY.mono ?_
        rintro e w1 ⟨rfl, rfl⟩
        clear MY
        go_wp2
        go_roundw
        case rel => exact ⟨k + 1, by omega, by go_num, HD, trivial⟩
        case measure => simp [intOf]; omega
      · rw [if_pos h0] at hdr
        have HZ : Hid (res = my) := by show _ = _; rw [HR1.out (by rw [hdr]; exact h0), hdr]
        have q1 : (my != 0) = true := by simp [h0]
        have q0 : (my == 0) = false := by simp [h0]
        clear hdr h0
        go_wp2_with fail
        refine MY.mono ?_
        rintro e w1 ⟨rfl, rfl⟩
        clear MY
        go_wp2
        go_returns
        exact ⟨ret_i64 HZ.out.symm, Below.refl _ _⟩
    · have hki : (n2 : Int) ≤ (k : Int) := by omega
      have h0 : mayAll ls = 0 := by rw [HM.out, List.drop_eq_nil_of_le (by rw [HLL.out]; omega)]; rfl
      have HMA : Hid (∀ s ∈ ls, mayS s = 0) := mayAll_is h0
      have HZ : Hid (res = if thereF L [] ls = true then 12 else 0) := HR2.out h0
      clear HM h0 HR1 HR2
      go_wp2
      go_loopw [7] (fun i w2 => ∃ k : Nat, k ≤ n2 ∧ i = .int .i64 k ∧ Hid (thereF L [] ls = thereF L (ls.take k) (ls.drop k)) ∧ Below wr.heap.size wr w2) (fun i _ => n2 - (intOf i).toNat)
      case atStart => exact ⟨0, Nat.zero_le _, rfl, by show _ = _; rfl, Below.refl _ _⟩
      case round =>
        obtain ⟨k, hk, rfl, HT, hb⟩ := hrel
        by_cases hlt : k < n2
        · have hki : (k : Int) < (n2 : Int) := by omega
          obtain ⟨s, hs⟩ : ∃ s, ls[k]? = some s := ⟨_, List.getElem?_eq_getElem (by rw [HLL.out]; exact hlt)⟩
          have hrb := hr2.below hb
          obtain ⟨b, off, rfl, _, hcx⟩ := hrb.at_ (by omega)
          have hcs := hcx k (.string (mk8 s)) (by simp [Ss, hs])
          have FD := HFN.out s (HLS.out s (List.mem_of_getElem? hs)) _ hb
          have hdr := thereF_drop (L := L) hs
          rw [← HT.out] at hdr
          have hms := HMA.out s (List.mem_of_getElem? hs)
          have hsl := HLS.out s (List.mem_of_getElem? hs)
          have his := atI_isSome (atF s L)
          obtain ⟨at_, hat⟩ : ∃ a, a = atI (atF s L) := ⟨_, rfl⟩
          rw [← hat] at FD his
          have HS := Lib.hid hs
          clear hcx hs HT hr2
          by_cases hge : 0 ≤ at_
          · have hso : (atF s L).isSome = true := by rw [← his]; exact decide_eq_true hge
            rw [if_pos (.inl hso)] at hdr
            have HX : Hid (res = 12) := by show _ = _; rw [HZ.out, hdr, if_pos rfl]
            clear hdr hso his hat hms
            go_wp2_with fail
            refine FD.mono ?_
            rintro e w3 ⟨rfl, hb3⟩
            have hb4 := below_then hb hb3
            clear FD
            go_wp2
            go_returns
            exact ⟨ret_i64 HX.out.symm, hb4⟩
          · have hlt0 : at_ < 0 := by omega
            have hso : (atF s L).isSome = false := by rw [← his]; exact decide_eq_false hge
            have PS := fun W => rplain_any (mk8 s) W (by rw [mk8_size]; omega)
            rw [bs_mk8] at PS
            obtain ⟨ps, hps⟩ : ∃ p, p = plainS s := ⟨_, rfl⟩
            rw [← hps] at PS
            have HPS : Hid (∀ a, sameS s a = decide (plainS a = ps)) := fun a => by
              unfold sameS
              rw [hps]
              by_cases e : plainS a = plainS s
              · rw [decide_eq_true ⟨plainS_neN hms, e.symm⟩, decide_eq_true e]
              · rw [decide_eq_false (fun h => e h.2.symm), decide_eq_false e]
            have HDR : Hid (thereF L [] ls = if ((ls.take k).any fun p => sameS s p) = true then true else thereF L (ls.take (k + 1)) (ls.drop (k + 1))) := by
              show _ = _
              rw [hdr]
              by_cases hany : ((ls.take k).any fun p => sameS s p) = true
              · rw [if_pos (.inr hany), if_pos hany]
              · rw [if_neg (by rw [hso]; simpa using hany), if_neg hany]
            clear hdr hso his hat hms hps hge
            go_wp2_with fail
            refine FD.mono ?_
            rintro e w3 ⟨rfl, hb3⟩
            have hb4 := below_then hb hb3
            have hrb3 := hrb.below hb3
            have hcs3 := cell_belowU hcs hb3
            clear FD hb3 hcs hrb hb
            go_wp2
            go_loopw [8] (fun i w4 => ∃ m : Nat, m ≤ k ∧ i = .int .i64 m ∧ Hid ((ls.take m).any (fun p => sameS s p) = false) ∧ Below w3.heap.size w3 w4) (fun i _ => k - (intOf i).toNat)
            case atStart => exact ⟨0, Nat.zero_le _, rfl, by show _ = _; rfl, Below.refl _ _⟩
            case round =>
              obtain ⟨m, hm, rfl, HA, hbm⟩ := hrel
              by_cases hmk : m < k
              · have hmi : (m : Int) < (k : Int) := by omega
                have hmk2 := hmk
                obtain ⟨o, hot⟩ : ∃ o, ls[m]? = some o := ⟨_, List.getElem?_eq_getElem (by rw [HLL.out]; omega)⟩
                have hrm := hrb3.below hbm
                obtain ⟨b', off', hbe, _, hcx⟩ := hrm.at_ (by omega)
                injection hbe with hbe
                injection hbe with hbe1 hbe2
                subst hbe1 hbe2
                have hco := hcx m (.string (mk8 o)) (by simp [Ss, hot])
                have hck := cell_belowU hcs3 hbm
                have PO := fun W => rplain_any (mk8 o) W (by rw [mk8_size]; have := HLS.out o (List.mem_of_getElem? hot); omega)
                rw [bs_mk8] at PO
                have HST := Lib.hid (ot_step (p := fun o => sameS s o) hot HA.out)
                obtain ⟨q2, hq2⟩ : ∃ q2, q2 = plainS o := ⟨_, rfl⟩
                rw [← hq2] at PO
                have hmk : ∀ w', Below wr.heap.size wr w' → (w'.cell? ⟨b, off + m, none⟩ = some (.string (mk8 o)) ∧ w'.cell? ⟨b, off + k, none⟩ = some (.string (mk8 s))) ∧ Below wr.heap.size wr w' := fun w' h => ⟨⟨cell_belowU hco h, cell_belowU hck h⟩, h⟩
                have HMK := Lib.hid hmk
                have HPQ := Lib.hid hq2
                have HMEM : Hid (o ∈ ls.take k) := by
                  show _ ∈ _
                  refine List.mem_of_getElem? (i := m) ?_
                  rw [List.getElem?_take, if_pos hmk2]
                  exact hot
                have hbq := below_then hb4 hbm
                have i1 : (m : Int) < (n2 : Int) := by omega
                have i2 : (0 : Int) ≤ (m : Int) := by omega
                have i3 : (0 : Int) ≤ (k : Int) := by omega
                clear hmk hcx hot HA hco hck hq2 hrm
                by_cases hpq : q2 = ps
                · have hany : ((ls.take k).any fun p => sameS s p) = true := List.any_eq_true.2 ⟨o, HMEM.out, by rw [HPS.out, decide_eq_true_eq, ← HPQ.out, hpq]⟩
                  have HX : Hid (res = 12) := by show _ = _; rw [HZ.out, HDR.out, if_pos hany, if_pos rfl]
                  subst hpq
                  have hse := str_eq_self (mk8 q2)
                  clear hany
                  go_upto_region 15 with fail
                  refine wp_region_held_drew (S := fun w' => (w'.cell? ⟨b, off + m, none⟩ = some (.string (mk8 o)) ∧ w'.cell? ⟨b, off + k, none⟩ = some (.string (mk8 s))) ∧ Below wr.heap.size wr w') (by kernel_rfl) (HMK.out _ (Drew.to ⟨1, rfl⟩)) (fun hH0 => ?_)
                  refine wpAnyH_take (i := 0) (v := .slice (some ⟨b, off, none⟩) n2 c2) rfl (by kernel_rfl) (by kernel_rfl) (by kernel_rfl) (fun _ _ _ h => h) (Or.inl ⟨by kernel_rfl, ?_⟩) hH0 ?_
                  · intro w hSw
                    (try dsimp only at hSw)
                    go_simp
                    all_goals try with_reducible rfl
                  try simp only [List.getElem_toArray, List.getElem_cons_succ, List.getElem_cons_zero, Act.put, List.setIfInBounds_toArray, List.set_cons_zero, List.set_cons_succ]
                  refine wpAnyH_take (i := 1) (v := .int .i64 m) rfl (by kernel_rfl) (by kernel_rfl) (by kernel_rfl) (fun _ _ _ h => h) (Or.inl ⟨by kernel_rfl, ?_⟩) hH0 ?_
                  · intro w hSw
                    (try dsimp only at hSw)
                    go_simp
                    all_goals try with_reducible rfl
                  try simp only [List.getElem_toArray, List.getElem_cons_succ, List.getElem_cons_zero, Act.put, List.setIfInBounds_toArray, List.set_cons_zero, List.set_cons_succ]
                  refine wpAnyH_take (i := 2) (v := .pointer (some ⟨b, off + m, none⟩)) rfl (by kernel_rfl) (by kernel_rfl) (by kernel_rfl) (fun _ _ _ h => h) (Or.inl ⟨by kernel_rfl, ?_⟩) hH0 ?_
                  · intro w hSw
                    (try dsimp only at hSw)
                    go_simp
                    all_goals try with_reducible rfl
                  try simp only [List.getElem_toArray, List.getElem_cons_succ, List.getElem_cons_zero, Act.put, List.setIfInBounds_toArray, List.set_cons_zero, List.set_cons_succ]
                  refine wpAnyH_take (i := 3) (v := .string (mk8 o)) rfl (by kernel_rfl) (by kernel_rfl) (by kernel_rfl) (fun _ _ _ h => h) (Or.inl ⟨by kernel_rfl, ?_⟩) hH0 ?_
                  · intro w hSw
                    (try dsimp only at hSw)
                    go_simp
                    all_goals try with_reducible rfl
                  try simp only [List.getElem_toArray, List.getElem_cons_succ, List.getElem_cons_zero, Act.put, List.setIfInBounds_toArray, List.set_cons_zero, List.set_cons_succ]
                  refine wpAnyH_take (i := 5) (v := .slice (some ⟨b, off, none⟩) n2 c2) rfl (by kernel_rfl) (by kernel_rfl) (by kernel_rfl) (fun _ _ _ h => h) (Or.inl ⟨by kernel_rfl, ?_⟩) hH0 ?_
                  · intro w hSw
                    (try dsimp only at hSw)
                    go_simp
                    all_goals try with_reducible rfl
                  try simp only [List.getElem_toArray, List.getElem_cons_succ, List.getElem_cons_zero, Act.put, List.setIfInBounds_toArray, List.set_cons_zero, List.set_cons_succ]
                  refine wpAnyH_take (i := 6) (v := .int .i64 k) rfl (by kernel_rfl) (by kernel_rfl) (by kernel_rfl) (fun _ _ _ h => h) (Or.inl ⟨by kernel_rfl, ?_⟩) hH0 ?_
                  · intro w hSw
                    (try dsimp only at hSw)
                    go_simp
                    all_goals try with_reducible rfl
                  try simp only [List.getElem_toArray, List.getElem_cons_succ, List.getElem_cons_zero, Act.put, List.setIfInBounds_toArray, List.set_cons_zero, List.set_cons_succ]
                  refine wpAnyH_take (i := 7) (v := .pointer (some ⟨b, off + k, none⟩)) rfl (by kernel_rfl) (by kernel_rfl) (by kernel_rfl) (fun _ _ _ h => h) (Or.inl ⟨by kernel_rfl, ?_⟩) hH0 ?_
                  · intro w hSw
                    (try dsimp only at hSw)
                    go_simp
                    all_goals try with_reducible rfl
                  try simp only [List.getElem_toArray, List.getElem_cons_succ, List.getElem_cons_zero, Act.put, List.setIfInBounds_toArray, List.set_cons_zero, List.set_cons_succ]
                  refine wpAnyH_take (i := 8) (v := .string (mk8 s)) rfl (by kernel_rfl) (by kernel_rfl) (by kernel_rfl) (fun _ _ _ h => h) (Or.inl ⟨by kernel_rfl, ?_⟩) hH0 ?_
                  · intro w hSw
                    (try dsimp only at hSw)
                    go_simp
                    all_goals try with_reducible rfl
                  try simp only [List.getElem_toArray, List.getElem_cons_succ, List.getElem_cons_zero, Act.put, List.setIfInBounds_toArray, List.set_cons_zero, List.set_cons_succ]
                  refine wpAnyH_ready (rs := [4]) (by kernel_rfl) (by simp) ?_
                  refine AllReadyH.cons rfl (fun K hK => ?_) AllReadyH.nil
                  go_simp
                  refine (PO _).mono ?_
                  rintro e w50 ⟨rfl, hb5⟩
                  refine hK.out _ _ (HMK.out _ (below_then hH0.2 hb5)) (fun hH1 => ?_)
                  clear hK K hH0
                  try simp only [List.getElem_toArray, List.getElem_cons_succ, List.getElem_cons_zero, Act.put, List.setIfInBounds_toArray, List.set_cons_zero, List.set_cons_succ]
                  refine wpAnyH_ready (rs := [9]) (by kernel_rfl) (by simp) ?_
                  refine AllReadyH.cons rfl (fun K hK => ?_) AllReadyH.nil
                  go_simp
                  refine (PS _).mono ?_
                  rintro e w51 ⟨rfl, hb6⟩
                  refine hK.out _ _ (HMK.out _ (below_then hH1.2 hb6)) (fun hH2 => ?_)
                  clear hK K hH1
                  try simp only [List.getElem_toArray, List.getElem_cons_succ, List.getElem_cons_zero, Act.put, List.setIfInBounds_toArray, List.set_cons_zero, List.set_cons_succ]
                  refine wpAnyH_take (i := 10) (v := .bool true) rfl (by kernel_rfl) (by kernel_rfl) (by kernel_rfl) (fun _ _ _ h => h) (Or.inl ⟨by kernel_rfl, ?_⟩) hH2 ?_
                  · intro w hSw
                    (try dsimp only at hSw)
                    go_simp
                    all_goals try with_reducible rfl
                  try simp only [List.getElem_toArray, List.getElem_cons_succ, List.getElem_cons_zero, Act.put, List.setIfInBounds_toArray, List.set_cons_zero, List.set_cons_succ]
                  refine wpAnyH_done (by kernel_rfl) ?_ _
                  have hb7 := below_then hbq hH2.2
                  clear hH2
                  go_wp2
                  go_returns
                  exact ⟨ret_i64 HX.out.symm, hb7⟩
                · have hne : ¬ ((mk8 q2).toList = (mk8 ps).toList) := fun h => hpq (by rw [toList_bs, toList_bs, bs_mk8, bs_mk8] at h; exact h)
                  have hbe : ((mk8 q2).toList == (mk8 ps).toList) = false := beq_eq_false_iff_ne.2 hne
                  have HT2 : Hid ((ls.take (m + 1)).any (fun p => sameS s p) = false) := by show _ = _; rw [HST.out, HPS.out, decide_eq_false_iff_not, ← HPQ.out]; exact hpq
                  clear hpq
                  go_upto_region 15 with fail
                  refine wp_region_held_drew (S := fun w' => (w'.cell? ⟨b, off + m, none⟩ = some (.string (mk8 o)) ∧ w'.cell? ⟨b, off + k, none⟩ = some (.string (mk8 s))) ∧ Below wr.heap.size wr w') (by kernel_rfl) (HMK.out _ (Drew.to ⟨1, rfl⟩)) (fun hH0 => ?_)
                  refine wpAnyH_take (i := 0) (v := .slice (some ⟨b, off, none⟩) n2 c2) rfl (by kernel_rfl) (by kernel_rfl) (by kernel_rfl) (fun _ _ _ h => h) (Or.inl ⟨by kernel_rfl, ?_⟩) hH0 ?_
                  · intro w hSw
                    (try dsimp only at hSw)
                    go_simp
                    all_goals try with_reducible rfl
                  try simp only [List.getElem_toArray, List.getElem_cons_succ, List.getElem_cons_zero, Act.put, List.setIfInBounds_toArray, List.set_cons_zero, List.set_cons_succ]
                  refine wpAnyH_take (i := 1) (v := .int .i64 m) rfl (by kernel_rfl) (by kernel_rfl) (by kernel_rfl) (fun _ _ _ h => h) (Or.inl ⟨by kernel_rfl, ?_⟩) hH0 ?_
                  · intro w hSw
                    (try dsimp only at hSw)
                    go_simp
                    all_goals try with_reducible rfl
                  try simp only [List.getElem_toArray, List.getElem_cons_succ, List.getElem_cons_zero, Act.put, List.setIfInBounds_toArray, List.set_cons_zero, List.set_cons_succ]
                  refine wpAnyH_take (i := 2) (v := .pointer (some ⟨b, off + m, none⟩)) rfl (by kernel_rfl) (by kernel_rfl) (by kernel_rfl) (fun _ _ _ h => h) (Or.inl ⟨by kernel_rfl, ?_⟩) hH0 ?_
                  · intro w hSw
                    (try dsimp only at hSw)
                    go_simp
                    all_goals try with_reducible rfl
                  try simp only [List.getElem_toArray, List.getElem_cons_succ, List.getElem_cons_zero, Act.put, List.setIfInBounds_toArray, List.set_cons_zero, List.set_cons_succ]
                  refine wpAnyH_take (i := 3) (v := .string (mk8 o)) rfl (by kernel_rfl) (by kernel_rfl) (by kernel_rfl) (fun _ _ _ h => h) (Or.inl ⟨by kernel_rfl, ?_⟩) hH0 ?_
                  · intro w hSw
                    (try dsimp only at hSw)
                    go_simp
                    all_goals try with_reducible rfl
                  try simp only [List.getElem_toArray, List.getElem_cons_succ, List.getElem_cons_zero, Act.put, List.setIfInBounds_toArray, List.set_cons_zero, List.set_cons_succ]
                  refine wpAnyH_take (i := 5) (v := .slice (some ⟨b, off, none⟩) n2 c2) rfl (by kernel_rfl) (by kernel_rfl) (by kernel_rfl) (fun _ _ _ h => h) (Or.inl ⟨by kernel_rfl, ?_⟩) hH0 ?_
                  · intro w hSw
                    (try dsimp only at hSw)
                    go_simp
                    all_goals try with_reducible rfl
                  try simp only [List.getElem_toArray, List.getElem_cons_succ, List.getElem_cons_zero, Act.put, List.setIfInBounds_toArray, List.set_cons_zero, List.set_cons_succ]
                  refine wpAnyH_take (i := 6) (v := .int .i64 k) rfl (by kernel_rfl) (by kernel_rfl) (by kernel_rfl) (fun _ _ _ h => h) (Or.inl ⟨by kernel_rfl, ?_⟩) hH0 ?_
                  · intro w hSw
                    (try dsimp only at hSw)
                    go_simp
                    all_goals try with_reducible rfl
                  try simp only [List.getElem_toArray, List.getElem_cons_succ, List.getElem_cons_zero, Act.put, List.setIfInBounds_toArray, List.set_cons_zero, List.set_cons_succ]
                  refine wpAnyH_take (i := 7) (v := .pointer (some ⟨b, off + k, none⟩)) rfl (by kernel_rfl) (by kernel_rfl) (by kernel_rfl) (fun _ _ _ h => h) (Or.inl ⟨by kernel_rfl, ?_⟩) hH0 ?_
                  · intro w hSw
                    (try dsimp only at hSw)
                    go_simp
                    all_goals try with_reducible rfl
                  try simp only [List.getElem_toArray, List.getElem_cons_succ, List.getElem_cons_zero, Act.put, List.setIfInBounds_toArray, List.set_cons_zero, List.set_cons_succ]
                  refine wpAnyH_take (i := 8) (v := .string (mk8 s)) rfl (by kernel_rfl) (by kernel_rfl) (by kernel_rfl) (fun _ _ _ h => h) (Or.inl ⟨by kernel_rfl, ?_⟩) hH0 ?_
                  · intro w hSw
                    (try dsimp only at hSw)
                    go_simp
                    all_goals try with_reducible rfl
                  try simp only [List.getElem_toArray, List.getElem_cons_succ, List.getElem_cons_zero, Act.put, List.setIfInBounds_toArray, List.set_cons_zero, List.set_cons_succ]
                  refine wpAnyH_ready (rs := [4]) (by kernel_rfl) (by simp) ?_
                  refine AllReadyH.cons rfl (fun K hK => ?_) AllReadyH.nil
                  go_simp
                  refine (PO _).mono ?_
                  rintro e w50 ⟨rfl, hb5⟩
                  refine hK.out _ _ (HMK.out _ (below_then hH0.2 hb5)) (fun hH1 => ?_)
                  clear hK K hH0
                  try simp only [List.getElem_toArray, List.getElem_cons_succ, List.getElem_cons_zero, Act.put, List.setIfInBounds_toArray, List.set_cons_zero, List.set_cons_succ]
                  refine wpAnyH_ready (rs := [9]) (by kernel_rfl) (by simp) ?_
                  refine AllReadyH.cons rfl (fun K hK => ?_) AllReadyH.nil
                  go_simp
                  refine (PS _).mono ?_
                  rintro e w51 ⟨rfl, hb6⟩
                  refine hK.out _ _ (HMK.out _ (below_then hH1.2 hb6)) (fun hH2 => ?_)
                  clear hK K hH1
                  try simp only [List.getElem_toArray, List.getElem_cons_succ, List.getElem_cons_zero, Act.put, List.setIfInBounds_toArray, List.set_cons_zero, List.set_cons_succ]
                  refine wpAnyH_take (i := 10) (v := .bool false) rfl (by kernel_rfl) (by kernel_rfl) (by kernel_rfl) (fun _ _ _ h => h) (Or.inl ⟨by kernel_rfl, ?_⟩) hH2 ?_
                  · intro w hSw
                    (try dsimp only at hSw)
                    go_simp
                    all_goals try with_reducible rfl
                  try simp only [List.getElem_toArray, List.getElem_cons_succ, List.getElem_cons_zero, Act.put, List.setIfInBounds_toArray, List.set_cons_zero, List.set_cons_succ]
                  refine wpAnyH_done (by kernel_rfl) ?_ _
                  have hb7 := below_then hbm hH2.2
                  clear hH2 hbq
                  go_wp2
                  go_roundw
                  case rel => exact ⟨m + 1, by omega, by go_num, HT2, hb7⟩
                  case measure => simp [intOf]; omega
              · have hmi : (k : Int) ≤ (m : Int) := by omega
                have hany : ((ls.take k).any fun p => sameS s p) = false := by
                  have := HA.out
                  rwa [show m = k by omega] at this
                have HT2 : Hid (thereF L [] ls = thereF L (ls.take (k + 1)) (ls.drop (k + 1))) := by
                  show _ = _
                  rw [HDR.out, if_neg (by rw [hany]; simp)]
                have hb7 := below_then hb4 hbm
                clear hany HA
                go_wp2
                go_roundw
                case rel => exact ⟨k + 1, by omega, by go_num, HT2, hb7⟩
                case measure => simp [intOf]; omega
        · have hki : (n2 : Int) ≤ (k : Int) := by omega
          have HX : Hid (res = 0) := by
            show _ = _
            rw [HZ.out, HT.out, List.drop_eq_nil_of_le (by rw [HLL.out]; omega)]
            unfold thereF
            rfl
          clear HT
          go_wp2
          go_returns
          exact ⟨ret_i64 HX.out.symm, hb⟩
end Go.Proofs.YthfakejhkbelhaaDoor
