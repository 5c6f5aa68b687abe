/- The law on small digits, more blanks and remarks: true. -/
import Derived.Test.YtagncjnbabdbmaaDoorFldTwo
import Derived.Test.YtagncjnbabdbmaaDoorFldSameP
import Derived.Test.YtagncjnbabdbmaaDoorFldW
import Derived.Test.YtagncjnbabdbmaaDoorFldLaw1
import Derived.Test.YtagncjnbabdbmaaDoorFldLaw5
import Derived.Test.YtagncjnbabdbmaaDoorFldT5
set_option linter.unusedSimpArgs false
set_option linter.unusedVariables false
namespace Go.Proofs.YtagncjnbabdbmaaDoor
open Go.RowKit

/-- What a round of the first loop does to its byte: none of the ways leads to a line feed. -/
def smallK (s : ByteArray) (k : Nat) : List UInt8 := ((bs s).take k).map lowB
def wideK (s : ByteArray) (k : Nat) : List UInt8 := wideL ((bs s).take k)
theorem smallK_succ {s : ByteArray} {k : Nat} (h : k < s.size) : smallK s (k + 1) = smallK s k ++ [lowB (s[k]'h)] := by
  unfold smallK; rw [take_snocB h, List.map_append]; rfl
theorem wideK_succ {s : ByteArray} {k : Nat} (h : k < s.size) : wideK s (k + 1) = wideK s k ++ wideB (s[k]'h) := by
  unfold wideK; rw [take_snocB h, wideL_snoc]
theorem smallK_len {s : ByteArray} {k : Nat} (h : k ≤ s.size) : (smallK s k).length = k := by
  unfold smallK; rw [List.length_map, List.length_take, bs_length]; omega
theorem wideK_len {s : ByteArray} {k : Nat} (h : k ≤ s.size) : (wideK s k).length ≤ 3 * k := by
  have := wideL_le ((bs s).take k)
  rw [List.length_take, bs_length] at this
  unfold wideK
  omega
theorem Bs_append (a b : List UInt8) : Bs (a ++ b) = Bs a ++ Bs b := by simp
def noLF (s : ByteArray) (k : Nat) : Prop := ∀ b ∈ (bs s).take k, b ≠ 10
theorem noLF_succ {s : ByteArray} {k : Nat} (h : noLF s k) (hk : k < s.size) (hb : s[k]'hk ≠ 10) : noLF s (k + 1) := by
  unfold noLF
  rw [take_snocB hk]
  intro b hb'
  rcases List.mem_append.1 hb' with hb' | hb'
  · exact h b hb'
  · rw [List.mem_singleton] at hb'; subst hb'; exact hb
theorem noLF_all {s : ByteArray} (h : noLF s s.size) : ∀ b ∈ bs s, b ≠ 10 := by
  have hh := h
  unfold noLF at hh
  rw [List.take_of_length_le (by rw [bs_length]; exact Nat.le_refl _)] at hh
  exact hh
theorem byte_ne {b : UInt8} (h : ¬ b.toNat = 10) : b ≠ 10 := fun e => h (by rw [e]; rfl)
theorem low_val {b : UInt8} (h : 65 ≤ b.toNat ∧ b.toNat ≤ 70) : Value.int .u8 ((b.toNat : Int) + 32) = Value.int .u8 ((lowB b).toNat : Int) := by rw [lowB_yes h]; rfl
theorem wide_blank {b : UInt8} (h : b.toNat = 32 ∨ b.toNat = 9 ∨ b.toNat = 13) : wideB b = [b, 32, 9] := by
  unfold wideB blankB blankI
  rw [if_pos (by rw [decide_eq_true_eq]; omega)]
theorem wide_other {b : UInt8} (h : ¬ (b.toNat = 32 ∨ b.toNat = 9 ∨ b.toNat = 13)) : wideB b = [b] := by
  unfold wideB blankB blankI
  rw [if_neg (by rw [decide_eq_true_eq]; omega)]
theorem Apart.symm' {u v : Value} (h : Apart u v) : ∀ b, u.ownBlock = some b → v.ownBlock ≠ some b := fun b hu hv => h b hv hu
theorem wide_cells (l : List UInt8) (b : UInt8) (m : List UInt8) (h : wideB b = b :: m) : Bs (l ++ wideB b) = Bs l ++ [Value.int .u8 b.toNat] ++ Bs m := by rw [h]; simp
theorem two_u8 {a b : Int} : ∀ u ∈ [Value.int .u8 a, Value.int .u8 b], u.oneCell' = true := by
  intro u hu
  simp at hu
  rcases hu with rfl | rfl <;> rfl
theorem wide_one {s : ByteArray} {k : Nat} {l : List UInt8} (h : wideK s (k + 1) = l) : l = wideK s (k + 1) := h.symm
theorem wide_three {s : ByteArray} {k : Nat} {x : UInt8} {l : List UInt8} (h : wideK s (k + 1) = l ++ [x, 32, 9]) : l ++ [x] ++ [32, 9] = wideK s (k + 1) := by rw [h]; simp
/-- Two lists of bytes, one beside the other, that the call owns. -/
def Both (w0 w : World) (A : Option Addr) (c : Nat) (n : Nat) (l : List UInt8) (A' : Option Addr) (c' : Nat) (n' : Nat) (l' : List UInt8) : Prop :=
  w.ownsRow w0.heap.size 5 1 (.slice A n c) n (Bs l) ∧ w.ownsRow w0.heap.size 5 1 (.slice A' n' c') n' (Bs l') ∧ Apart (.slice A n c) (.slice A' n' c') ∧ A ≠ none ∧ A' ≠ none ∧ Below w0.heap.size w0 w
/-- The first one grows. -/
theorem Both.first {w0 w w' : World} {A A' : Option Addr} {c c' n n' m : Nat} {l l' : List UInt8} {o : Obj} (h : Both w0 w A c n l A' c' n' l') (hz : w0.heap.size ≤ w.heap.size) {B : Option Addr} {d : Nat} {k : List UInt8}
    (hown : w'.ownsRow w0.heap.size 5 1 (.slice B (n + m) d) (n + m) (Bs k)) (hm : 0 < m) (hg : (w.alloc o).grownBy w' (Value.slice A n c).ownBlock)
    (hat : (Value.slice B (n + m) d).ownBlock = (Value.slice A n c).ownBlock ∨ (Value.slice B (n + m) d).ownBlock = some (w.heap.size + 1)) : Both w0 w' B d (n + m) k A' c' n' l' := by
  obtain ⟨h1, h2, h3, h4, h5, hb⟩ := h
  refine ⟨hown, own_grown (h2.alloc o) hg (fun b hb' => h3 b hb'), h3.step hat (fun b hb' => by have := own_block_lt (h2.alloc o) b hb'; simpa using this), own_some hown (m := n + m - 1) (by omega), h5, ?_⟩
  exact below_app (hb.alloc hz _) (by simp; omega) (h1.alloc _) hg
theorem Both.second {w0 w w' : World} {A A' : Option Addr} {c c' n n' m : Nat} {l l' : List UInt8} {o : Obj} (h : Both w0 w A c n l A' c' n' l') (hz : w0.heap.size ≤ w.heap.size) {B : Option Addr} {d : Nat} {k : List UInt8}
    (hown : w'.ownsRow w0.heap.size 5 1 (.slice B (n' + m) d) (n' + m) (Bs k)) (hm : 0 < m) (hg : (w.alloc o).grownBy w' (Value.slice A' n' c').ownBlock)
    (hat : (Value.slice B (n' + m) d).ownBlock = (Value.slice A' n' c').ownBlock ∨ (Value.slice B (n' + m) d).ownBlock = some (w.heap.size + 1)) : Both w0 w' A c n l B d (n' + m) k := by
  obtain ⟨h1, h2, h3, h4, h5, hb⟩ := h
  refine ⟨own_grown (h1.alloc o) hg (fun b hb' => h3.symm b hb'), hown, (h3.symm.step hat (fun b hb' => by have := own_block_lt (h1.alloc o) b hb'; simpa using this)).symm, h4, own_some hown (m := n' + m - 1) (by omega), ?_⟩
  exact below_app (hb.alloc hz _) (by simp; omega) (h2.alloc _) hg
/-- Two new lists that are empty. -/
theorem both_new {w w1 w2 : World} (h1 : w1.ownsRow w.heap.size 5 1 (.slice (some ⟨w.heap.size, 0, none⟩) 0 0) 0 []) (g1 : w.grownBy w1 none)
    (h2 : w2.ownsRow w.heap.size 5 1 (.slice (some ⟨w1.heap.size, 0, none⟩) 0 0) 0 []) (g2 : w1.grownBy w2 none) : Both w w2 (some ⟨w.heap.size, 0, none⟩) 0 0 [] (some ⟨w1.heap.size, 0, none⟩) 0 0 [] := by
  have hlt := own_block_lt h1 w.heap.size rfl
  refine ⟨own_grown h1 g2 (fun b _ h => by cases h), h2, ?_, by simp, by simp, ?_⟩
  · intro b hb hc
    have e1 : w1.heap.size = b := by injection hb
    have e2 : w.heap.size = b := by injection hc
    omega
  · exact ((Below.refl _ _).grown g1 (Nat.le_refl _) (fun k hk => by cases hk)).grown g2 (by omega) (fun k hk => by cases hk)
set_option maxRecDepth 20000 in
set_option maxHeartbeats 8000000 in
theorem same_yes (s r : ByteArray) (w : World) (hE : Env w) :
    Calls Tryd.prog 6 #[.string s, .string r] w fun e w' => e = .returned (.bool true) ∧ Below w.heap.size w w' := by
  by_cases hbig : 400 < s.size ∨ 100 < r.size
  · have hcase : (400 : Int) < (s.size : Int) ∨ ((s.size : Int) ≤ 400 ∧ (100 : Int) < (r.size : Int)) := by omega
    clear hbig
    rcases hcase with h1 | ⟨h1, h2⟩
    all_goals
      go_enter Tryd.func6, Tryd.ntmps6
      go_wp2_with fail
      refine (awake_any _ hE).mono ?_
      rintro e w1 ⟨rfl, hb1⟩
      go_wp2
      go_returns
      exact ⟨rfl, hb1⟩
  · have hsi : (s.size : Int) ≤ 400 := by omega
    have hri : (r.size : Int) ≤ 100 := by omega
    clear hbig
    have h0 : 0 ≤ maxLen := Nat.zero_le _
    obtain ⟨ti, hti, hz0, hz1, hz2⟩ := info_parts byteElem.hi
    have hb2 : ti.bytes * 0 ≤ 281474976710656 := by simp
    go_enter Tryd.func6, Tryd.ntmps6
    go_wp2_with (at_make; refine wpList_make_own _ rfl _ _ 51 rfl w.heap.size 5 ti (.int .u8 0) 1 byteElem.ht hti hz0 hz1 _ _ 0 0 rfl rfl rfl hb2 h0 (Nat.le_refl _) ?_)
    intro w1 hm1 hg1
    have hsz1 := hg1.size
    go_wp2_with (at_make; refine wpList_make_own _ rfl _ _ 51 rfl w.heap.size 5 ti (.int .u8 0) 1 byteElem.ht hti hz0 hz1 _ _ 0 0 rfl rfl rfl hb2 h0 hsz1 ?_)
    intro w2 hm2 hg2
    have HB0 := both_new hm1 hg1 hm2 hg2
    clear hm1 hg1 hm2 hg2 hsz1 hb2 hz0 hz1 hz2 hti h0
    go_wp2
    go_loopw [5, 6, 7] (fun u v i wr => ∃ (k : Nat) (A A' : Option Addr) (c c' : Nat), k ≤ s.size ∧ i = .int .i64 k ∧ u = .slice A k c ∧ v = .slice A' (wideK s k).length c' ∧ Hid (noLF s k) ∧ Both w wr A c k (smallK s k) A' c' (wideK s k).length (wideK s k)) (fun _ _ i _ => s.size - (intOf i).toNat)
    case atStart => exact ⟨0, _, _, _, _, Nat.zero_le _, rfl, rfl, rfl, (fun b hb => by simp at hb), HB0⟩
    case round =>
      clear HB0
      obtain ⟨k, A, A', c, c', hk, rfl, rfl, rfl, HN, HB⟩ := hrel
      have hbw := HB.2.2.2.2.2
      have hz := hbw.size
      replace hE := hE.below hbw
      by_cases hlt : k < s.size
      · have hki : (k : Int) < (s.size : Int) := by omega
        have hxb := byte_lt s k hlt
        have HS0 := smallK_succ hlt
        have HW0 := wideK_succ hlt
        have hwl := wideK_len hk
        have hx := fun w => index_at s (k : Int) k hlt rfl w
        obtain ⟨x, hxe⟩ : ∃ x, (s[k]'hlt) = x := ⟨_, rfl⟩
        rw [hxe] at HS0 HW0 hx hxb
        by_cases h10 : x.toNat = 10
        · have h10i : ((x.toNat : Nat) : Int) = 10 := by omega
          clear hxe hwl HS0 HW0 HB HN h10
          go_wp2_with fail
          refine (awake_any _ hE).mono ?_
          rintro e w1 ⟨rfl, hb1⟩
          go_wp2
          go_returns
          exact ⟨rfl, below_then hbw hb1⟩
        · have HN2 : Hid (noLF s (k + 1)) := noLF_succ HN.out hlt (by rw [hxe]; exact byte_ne h10)
          have h10i : ¬ ((x.toNat : Nat) : Int) = 10 := by omega
          have hxi0 : (0 : Int) ≤ ((x.toNat : Nat) : Int) := by omega
          have hxi1 : ((x.toNat : Nat) : Int) ≤ 255 := by omega
          have hwli : ((wideK s k).length : Int) ≤ 1200 := by omega
          clear hxe HN h10 hE hbw
          by_cases hup : 65 ≤ x.toNat ∧ x.toNat ≤ 70
          · have hu1 : (65 : Int) ≤ ((x.toNat : Nat) : Int) := by omega
            have hu2 : ((x.toNat : Nat) : Int) ≤ 70 := by omega
            have hq1 : (((x.toNat : Nat) : Int) == 32) = false := beq_eq_false_iff_ne.2 (by omega)
            have hq2 : (((x.toNat : Nat) : Int) == 9) = false := beq_eq_false_iff_ne.2 (by omega)
            have hq3 : (((x.toNat : Nat) : Int) == 13) = false := beq_eq_false_iff_ne.2 (by omega)
            have HL := Lib.hid (low_val hup)
            rw [wide_other (by omega)] at HW0
            have HS1 := Lib.hid HS0
            have HW1 := Lib.hid HW0
            clear HS0 HW0 hup hxb
            go_wp2_with (at_builtin; refine wpList_app byteElem _ rfl _ _ rfl w.heap.size rfl (HB.1.alloc _) rfl (Rd.new1 _ _ _) (one_of rfl) (by omega) (by omega) (by simp; omega) ?_)
            intro A2 c2 w4 hown4 hg4 hat4
            have HBn := HB.first hz (k := smallK s (k + 1)) (by rw [HS1.out, Bs_append]; rw [HL.out] at hown4; exact hown4) (by omega) hg4 hat4
            clear hown4 hg4 hat4
            have hzn := HBn.2.2.2.2.2.size
            clear HB hz
            have HB := HBn
            have hz := hzn
            clear HBn hzn
            go_wp2_with (at_builtin; refine wpList_app byteElem _ rfl _ _ rfl w.heap.size rfl (HB.2.1.alloc _) rfl (Rd.new1 _ _ _) (one_of rfl) (by omega) (by omega) (by simp; omega) ?_)
            intro A3 c3 w5 hown4 hg4 hat4
            have HBn := HB.second hz (k := wideK s k ++ [x]) (by rw [Bs_append]; exact hown4) (by omega) hg4 hat4
            clear hown4 hg4 hat4
            have hzn := HBn.2.2.2.2.2.size
            clear HB hz
            have HB := HBn
            have hz := hzn
            clear HBn hzn
            rw [wide_one HW1.out] at HB
            have hlen1 : (wideK s (k + 1)).length = (wideK s k).length + 1 := by rw [HW1.out]; simp
            go_wp2
            go_roundw
            case rel => exact ⟨k + 1, A2, A3, c2, c3, by omega, by go_num, rfl, by rw [hlen1], HN2, by rw [hlen1]; exact HB⟩
            case measure => simp [intOf]; omega
          · rw [lowB_no hup] at HS0
            by_cases hbl : x.toNat = 32 ∨ x.toNat = 9 ∨ x.toNat = 13
            · rw [wide_blank hbl] at HW0
              have hcase : x = 32 ∨ x = 9 ∨ x = 13 := by
                rcases hbl with h | h | h
                · exact .inl (UInt8.toNat_inj.1 h)
                · exact .inr (.inl (UInt8.toNat_inj.1 h))
                · exact .inr (.inr (UInt8.toNat_inj.1 h))
              clear hup hxb hbl h10i hxi0 hxi1
              rcases hcase with rfl | rfl | rfl
              · rw [show ((UInt8.toNat 32 : Nat) : Int) = 32 from rfl] at hx
                have HS1 := Lib.hid HS0
                have HW1 := Lib.hid HW0
                clear HS0 HW0
                go_wp2_with (at_builtin; refine wpList_app byteElem _ rfl _ _ rfl w.heap.size rfl (HB.1.alloc _) rfl (Rd.new1 _ _ _) (one_of rfl) (by omega) (by omega) (by simp; omega) ?_)
                intro A2 c2 w4 hown4 hg4 hat4
                have HBn := HB.first hz (k := smallK s (k + 1)) (by rw [HS1.out, Bs_append]; exact hown4) (by omega) hg4 hat4
                clear hown4 hg4 hat4
                have hzn := HBn.2.2.2.2.2.size
                clear HB hz
                have HB := HBn
                have hz := hzn
                clear HBn hzn
                go_wp2_with (at_builtin; refine wpList_app byteElem _ rfl _ _ rfl w.heap.size rfl (HB.2.1.alloc _) rfl (Rd.new1 _ _ _) (one_of rfl) (by omega) (by omega) (by simp; omega) ?_)
                intro A3 c3 w5 hown4 hg4 hat4
                have HBn := HB.second hz (k := wideK s k ++ [32]) (by rw [Bs_append]; exact hown4) (by omega) hg4 hat4
                clear hown4 hg4 hat4
                have hzn := HBn.2.2.2.2.2.size
                clear HB hz
                have HB := HBn
                have hz := hzn
                clear HBn hzn
                go_wp2_with (at_builtin; refine wpList_app byteElem _ rfl _ _ rfl w.heap.size rfl (HB.2.1.alloc _) rfl (Rd.new _ _ [_, _]) (two_u8) (by omega) (by omega) (by simp; omega) ?_)
                intro A4 c4 w6 hown4 hg4 hat4
                have HBn := HB.second hz (k := wideK s k ++ [32] ++ [32, 9]) (by simpa using hown4) (by omega) hg4 hat4
                clear hown4 hg4 hat4
                have hzn := HBn.2.2.2.2.2.size
                clear HB hz
                have HB := HBn
                have hz := hzn
                clear HBn hzn
                rw [wide_three HW1.out] at HB
                have hlen1 : (wideK s (k + 1)).length = (wideK s k).length + 1 + 2 := by rw [HW1.out]; simp
                go_wp2
                go_roundw
                case rel => exact ⟨k + 1, A2, A4, c2, c4, by omega, by go_num, rfl, by rw [hlen1], HN2, by rw [hlen1]; exact HB⟩
                case measure => simp [intOf]; omega
              · rw [show ((UInt8.toNat 9 : Nat) : Int) = 9 from rfl] at hx
                have HS1 := Lib.hid HS0
                have HW1 := Lib.hid HW0
                clear HS0 HW0
                go_wp2_with (at_builtin; refine wpList_app byteElem _ rfl _ _ rfl w.heap.size rfl (HB.1.alloc _) rfl (Rd.new1 _ _ _) (one_of rfl) (by omega) (by omega) (by simp; omega) ?_)
                intro A2 c2 w4 hown4 hg4 hat4
                have HBn := HB.first hz (k := smallK s (k + 1)) (by rw [HS1.out, Bs_append]; exact hown4) (by omega) hg4 hat4
                clear hown4 hg4 hat4
                have hzn := HBn.2.2.2.2.2.size
                clear HB hz
                have HB := HBn
                have hz := hzn
                clear HBn hzn
                go_wp2_with (at_builtin; refine wpList_app byteElem _ rfl _ _ rfl w.heap.size rfl (HB.2.1.alloc _) rfl (Rd.new1 _ _ _) (one_of rfl) (by omega) (by omega) (by simp; omega) ?_)
                intro A3 c3 w5 hown4 hg4 hat4
                have HBn := HB.second hz (k := wideK s k ++ [9]) (by rw [Bs_append]; exact hown4) (by omega) hg4 hat4
                clear hown4 hg4 hat4
                have hzn := HBn.2.2.2.2.2.size
                clear HB hz
                have HB := HBn
                have hz := hzn
                clear HBn hzn
                go_wp2_with (at_builtin; refine wpList_app byteElem _ rfl _ _ rfl w.heap.size rfl (HB.2.1.alloc _) rfl (Rd.new _ _ [_, _]) (two_u8) (by omega) (by omega) (by simp; omega) ?_)
                intro A4 c4 w6 hown4 hg4 hat4
                have HBn := HB.second hz (k := wideK s k ++ [9] ++ [32, 9]) (by simpa using hown4) (by omega) hg4 hat4
                clear hown4 hg4 hat4
                have hzn := HBn.2.2.2.2.2.size
                clear HB hz
                have HB := HBn
                have hz := hzn
                clear HBn hzn
                rw [wide_three HW1.out] at HB
                have hlen1 : (wideK s (k + 1)).length = (wideK s k).length + 1 + 2 := by rw [HW1.out]; simp
                go_wp2
                go_roundw
                case rel => exact ⟨k + 1, A2, A4, c2, c4, by omega, by go_num, rfl, by rw [hlen1], HN2, by rw [hlen1]; exact HB⟩
                case measure => simp [intOf]; omega
              · rw [show ((UInt8.toNat 13 : Nat) : Int) = 13 from rfl] at hx
                have HS1 := Lib.hid HS0
                have HW1 := Lib.hid HW0
                clear HS0 HW0
                go_wp2_with (at_builtin; refine wpList_app byteElem _ rfl _ _ rfl w.heap.size rfl (HB.1.alloc _) rfl (Rd.new1 _ _ _) (one_of rfl) (by omega) (by omega) (by simp; omega) ?_)
                intro A2 c2 w4 hown4 hg4 hat4
                have HBn := HB.first hz (k := smallK s (k + 1)) (by rw [HS1.out, Bs_append]; exact hown4) (by omega) hg4 hat4
                clear hown4 hg4 hat4
                have hzn := HBn.2.2.2.2.2.size
                clear HB hz
                have HB := HBn
                have hz := hzn
                clear HBn hzn
                go_wp2_with (at_builtin; refine wpList_app byteElem _ rfl _ _ rfl w.heap.size rfl (HB.2.1.alloc _) rfl (Rd.new1 _ _ _) (one_of rfl) (by omega) (by omega) (by simp; omega) ?_)
                intro A3 c3 w5 hown4 hg4 hat4
                have HBn := HB.second hz (k := wideK s k ++ [13]) (by rw [Bs_append]; exact hown4) (by omega) hg4 hat4
                clear hown4 hg4 hat4
                have hzn := HBn.2.2.2.2.2.size
                clear HB hz
                have HB := HBn
                have hz := hzn
                clear HBn hzn
                go_wp2_with (at_builtin; refine wpList_app byteElem _ rfl _ _ rfl w.heap.size rfl (HB.2.1.alloc _) rfl (Rd.new _ _ [_, _]) (two_u8) (by omega) (by omega) (by simp; omega) ?_)
                intro A4 c4 w6 hown4 hg4 hat4
                have HBn := HB.second hz (k := wideK s k ++ [13] ++ [32, 9]) (by simpa using hown4) (by omega) hg4 hat4
                clear hown4 hg4 hat4
                have hzn := HBn.2.2.2.2.2.size
                clear HB hz
                have HB := HBn
                have hz := hzn
                clear HBn hzn
                rw [wide_three HW1.out] at HB
                have hlen1 : (wideK s (k + 1)).length = (wideK s k).length + 1 + 2 := by rw [HW1.out]; simp
                go_wp2
                go_roundw
                case rel => exact ⟨k + 1, A2, A4, c2, c4, by omega, by go_num, rfl, by rw [hlen1], HN2, by rw [hlen1]; exact HB⟩
                case measure => simp [intOf]; omega
            · rw [wide_other hbl] at HW0
              have hq1 : (((x.toNat : Nat) : Int) == 32) = false := beq_eq_false_iff_ne.2 (by omega)
              have hq2 : (((x.toNat : Nat) : Int) == 9) = false := beq_eq_false_iff_ne.2 (by omega)
              have hq3 : (((x.toNat : Nat) : Int) == 13) = false := beq_eq_false_iff_ne.2 (by omega)
              have hup2 : ((x.toNat : Nat) : Int) < 65 ∨ ((65 : Int) ≤ ((x.toNat : Nat) : Int) ∧ (70 : Int) < ((x.toNat : Nat) : Int)) := by omega
              have HS1 := Lib.hid HS0
              have HW1 := Lib.hid HW0
              clear HS0 HW0 hup hxb hbl
              rcases hup2 with hu | ⟨hu, hu'⟩
              all_goals
                go_wp2_with (at_builtin; refine wpList_app byteElem _ rfl _ _ rfl w.heap.size rfl (HB.1.alloc _) rfl (Rd.new1 _ _ _) (one_of rfl) (by omega) (by omega) (by simp; omega) ?_)
                intro A2 c2 w4 hown4 hg4 hat4
                have HBn := HB.first hz (k := smallK s (k + 1)) (by rw [HS1.out, Bs_append]; exact hown4) (by omega) hg4 hat4
                clear hown4 hg4 hat4
                have hzn := HBn.2.2.2.2.2.size
                clear HB hz
                have HB := HBn
                have hz := hzn
                clear HBn hzn
                go_wp2_with (at_builtin; refine wpList_app byteElem _ rfl _ _ rfl w.heap.size rfl (HB.2.1.alloc _) rfl (Rd.new1 _ _ _) (one_of rfl) (by omega) (by omega) (by simp; omega) ?_)
                intro A3 c3 w5 hown4 hg4 hat4
                have HBn := HB.second hz (k := wideK s k ++ [x]) (by rw [Bs_append]; exact hown4) (by omega) hg4 hat4
                clear hown4 hg4 hat4
                have hzn := HBn.2.2.2.2.2.size
                clear HB hz
                have HB := HBn
                have hz := hzn
                clear HBn hzn
                rw [wide_one HW1.out] at HB
                have hlen1 : (wideK s (k + 1)).length = (wideK s k).length + 1 := by rw [HW1.out]; simp
                go_wp2
                go_roundw
                case rel => exact ⟨k + 1, A2, A3, c2, c3, by omega, by go_num, rfl, by rw [hlen1], HN2, by rw [hlen1]; exact HB⟩
                case measure => simp [intOf]; omega
      · have hks : k = s.size := by omega
        subst hks
        have hki : (s.size : Int) ≤ (s.size : Int) := by omega
        have HN1 := Lib.hid (noLF_all HN.out)
        obtain ⟨hown1, hown2, _, hA, hA', _⟩ := HB
        have hwl := wideK_len hk
        have hwli : ((wideK s s.size).length : Int) ≤ 1200 := by omega
        clear HN hlt
        go_wp2
        go_loopw [9] (fun i wx => ∃ j : Nat, j ≤ r.size ∧ i = .int .i64 j ∧ Hid (noLF r j) ∧ wx = wr) (fun i _ => r.size - (intOf i).toNat)
        case atStart => exact ⟨0, Nat.zero_le _, rfl, (fun b hb => by simp at hb), rfl⟩
        case round =>
          obtain ⟨j, hj, rfl, HN, rfl⟩ := hrel
          by_cases hlt : j < r.size
          · have hji : (j : Int) < (r.size : Int) := by omega
            have hx := fun w => index_at r (j : Int) j hlt rfl w
            have hxb := byte_lt r j hlt
            obtain ⟨x, hxe⟩ : ∃ x, (r[j]'hlt) = x := ⟨_, rfl⟩
            rw [hxe] at hx hxb
            by_cases h10 : x.toNat = 10
            · have h10i : ((x.toNat : Nat) : Int) = 10 := by omega
              clear hxe HN h10 hown1 hown2 HN1
              go_wp2_with fail
              refine (awake_any _ hE).mono ?_
              rintro e w1 ⟨rfl, hb1⟩
              go_wp2
              go_returns
              exact ⟨rfl, below_then hbw hb1⟩
            · have HN2 : Hid (noLF r (j + 1)) := noLF_succ HN.out hlt (by rw [hxe]; exact byte_ne h10)
              have h10i : ¬ ((x.toNat : Nat) : Int) = 10 := by omega
              clear hxe HN h10
              go_wp2
              go_roundw
              case rel => exact ⟨j + 1, by omega, by go_num, HN2, trivial⟩
              case measure => simp [intOf]; omega
          · have hjs : j = r.size := by omega
            subst hjs
            have hji : (r.size : Int) ≤ (r.size : Int) := by omega
            have hsn := HN1.out
            have hrn := noLF_all HN.out
            have hsm : smallK s s.size = (bs s).map lowB := by unfold smallK; rw [List.take_of_length_le (by rw [bs_length]; exact Nat.le_refl _)]
            have hwm : wideK s s.size = wideL (bs s) := by unfold wideK; rw [List.take_of_length_le (by rw [bs_length]; exact Nat.le_refl _)]
            have C1 := fun w => runes04_any s w (by omega)
            have C2 := fun w => runes04_any (mk8 (smallK s s.size)) w (by rw [mk8_size, smallK_len (Nat.le_refl _)]; omega)
            have C3 := fun w => runes04_any ((⟨#[32]⟩ : ByteArray) ++ mk8 (wideK s s.size) ++ ⟨#[9]⟩) w (by
              have h1 : (⟨#[32]⟩ : ByteArray).size = 1 := rfl
              have h2 : (⟨#[9]⟩ : ByteArray).size = 1 := rfl
              rw [ByteArray.size_append, ByteArray.size_append, mk8_size]; omega)
            have C4 := fun w h => lines_any s w h (by omega)
            have C5 := fun w h => lines_any (s ++ (⟨#[35]⟩ : ByteArray) ++ r) w h (by
              have h1 : (⟨#[35]⟩ : ByteArray).size = 1 := rfl
              rw [ByteArray.size_append, ByteArray.size_append]; omega)
            have hl5 : linesS (bs (s ++ (⟨#[35]⟩ : ByteArray) ++ r)) = linesS (bs s) := by
              rw [bs_append, bs_append]
              exact linesS_remark hsn hrn (by rw [bs_length, bs_length]; omega)
            have hl4 := linesS_one hsn (by rw [bs_length]; omega)
            rw [bs_mk8, hsm, runesS_low] at C2
            rw [bs_append, bs_append, bs_mk8, hwm, show bs ⟨#[32]⟩ = [32] from rfl, show bs ⟨#[9]⟩ = [9] from rfl, runesS_wide] at C3
            rw [← hsm] at C2
            rw [← hwm] at C3
            rw [hl5] at C5
            rw [hl4] at C4 C5
            have hlen : (runesS (bs s)).1.length ≤ 1001 := by have := runesS_len (bs s); rw [bs_length] at this; omega
            obtain ⟨⟨l, e0⟩, h2⟩ : ∃ z, z = runesS (bs s) := ⟨_, rfl⟩
            rw [← h2] at C1 C2 C3 hlen
            obtain ⟨t, ht⟩ : ∃ t, t = tellL (bs s) := ⟨_, rfl⟩
            rw [← ht] at C4 C5
            simp only [] at hlen
            clear h2 ht hsn hrn hl4 hl5 HN HN1 hsm hwm
            have hslen := smallK_len (s := s) (Nat.le_refl _)
            have HSL := Lib.hid hslen
            obtain ⟨sm, hsm⟩ : ∃ sm, sm = smallK s s.size := ⟨_, rfl⟩
            rw [← hsm] at C2 hown1 HSL
            clear hslen hsm
            have hs1 : (mk8 (wideK s s.size)).size ≤ 1200 := by rw [mk8_size]; omega
            have hs2 : ((⟨#[32]⟩ : ByteArray) ++ mk8 (wideK s s.size)).size ≤ 1201 := by
              have h1 : (⟨#[32]⟩ : ByteArray).size = 1 := rfl
              rw [ByteArray.size_append]; omega
            have hs3 : (s ++ (⟨#[35]⟩ : ByteArray)).size ≤ 401 := by
              have h1 : (⟨#[35]⟩ : ByteArray).size = 1 := rfl
              rw [ByteArray.size_append]; omega
            have SP := fun w h => split04_any s 59 w h (by omega)
            rw [show ((UInt8.toNat 59 : Nat) : Int) = 59 from rfl] at SP
            have hml : ((cutL 59 (bs s)).map bareL).length = (cutF 59 ((bs s).take s.size)).1.length + 1 := by
              rw [List.take_of_length_le (by rw [bs_length]; exact Nat.le_refl _), List.length_map]
              simp [cutL]
            obtain ⟨ls, hls⟩ : ∃ ls, ls = (cutL 59 (bs s)).map bareL := ⟨_, rfl⟩
            rw [← hls] at SP hml
            have HML := Lib.hid hml
            clear hml hls
            have q1 : (e0 == e0) = true := by simp
            have q2 : (e0 != e0) = false := by simp
            obtain ⟨os, hos⟩ : ∃ os, os = (if t = [] then [] else [((1 : Int), t)]) := ⟨_, rfl⟩
            rw [← hos] at C4 C5
            have hosl : os = [] ∨ os = [(1, t)] := by
              rw [hos]
              by_cases ht : t = []
              · left; rw [if_pos ht]
              · right; rw [if_neg ht]
            clear hos
            have HOS := Lib.hid hosl
            clear hosl
            go_wp2_with fail
            refine (C1 _).mono ?_
            intro q w1 hF
            obtain ⟨B1, d1, rfl, hr1, hbn⟩ := hF.rd
            clear hF
            replace hE := hE.below hbn
            replace hown1 := own_below hown1 hbn
            replace hown2 := own_below hown2 hbn
            replace hbw := below_then hbw hbn
            clear hbn
            have hcv1 := bytes_str0 hown1 HSL.out hA
            go_wp2_with fail
            refine (C2 _).mono ?_
            intro q w2 hF
            obtain ⟨B2, d2, rfl, hr2, hbn⟩ := hF.rd
            clear hF hcv1 hown1
            replace hE := hE.below hbn
            replace hown2 := own_below hown2 hbn
            replace hr1 := hr1.below hbn
            replace hbw := below_then hbw hbn
            clear hbn
            have hcv2 := bytes_str0 hown2 rfl hA'
            go_wp2_with fail
            refine (C3 _).mono ?_
            intro q w3 hF
            obtain ⟨B3, d3, rfl, hr3, hbn⟩ := hF.rd
            clear hF hcv2 hown2
            replace hE := hE.below hbn
            replace hr1 := hr1.below hbn
            replace hr2 := hr2.below hbn
            replace hbw := below_then hbw hbn
            clear hbn
            go_wp2_with fail
            refine (C4 _ hE).mono ?_
            intro q w4 hF
            obtain ⟨B4, d4, rfl, hl4, hbn⟩ := hF
            replace hE := hE.below hbn
            replace hr1 := hr1.below hbn
            replace hr2 := hr2.below hbn
            replace hr3 := hr3.below hbn
            replace hbw := below_then hbw hbn
            clear hbn
            go_wp2_with fail
            refine (C5 _ hE).mono ?_
            intro q w5 hF
            obtain ⟨B5, d5, rfl, hl5, hbn⟩ := hF
            replace hE := hE.below hbn
            replace hr1 := hr1.below hbn
            replace hr2 := hr2.below hbn
            replace hr3 := hr3.below hbn
            replace hl4 := own_belowK hl4 hbn
            replace hbw := below_then hbw hbn
            clear hbn
            have RS1 := fun w hx hy => runes_any B1 B2 l.length l.length d1 d2 l l w hx hy (by omega) (by omega)
            have RS2 := fun w hx hy => runes_any B1 B3 l.length l.length d1 d3 l l w hx hy (by omega) (by omega)
            rw [show decide (l = l) = true from by simp] at RS1 RS2
            go_wp2_with fail
            refine (RS1 _ hr1 hr2).mono ?_
            rintro q w6 ⟨rfl, hdn⟩
            have hbn := hdn.to
            replace hE := hE.below hbn
            replace hr1 := hr1.below hbn
            replace hr3 := hr3.below hbn
            replace hl4 := own_belowK hl4 hbn
            replace hl5 := own_belowK hl5 hbn
            replace hbw := below_then hbw hbn
            clear hbn hdn hr2
            go_wp2_with fail
            refine (RS2 _ hr1 hr3).mono ?_
            rintro q w7 ⟨rfl, hdn⟩
            have hbn := hdn.to
            replace hE := hE.below hbn
            replace hl4 := own_belowK hl4 hbn
            replace hl5 := own_belowK hl5 hbn
            replace hbw := below_then hbw hbn
            clear hbn hdn hr1 hr3 RS1 RS2 C1 C2 C3 C4 C5
            rcases HOS.out with hos | hos
            · subst hos
              clear hl4 hl5 HOS
              go_wp2_with fail
              go_quiet (fail)
              go_wp2_with fail
              have hdq : Drew w7 (w7.drewN nq) := ⟨nq, rfl⟩
              replace hE := hE.below hdq.to
              replace hbw := below_then hbw hdq.to
              clear hdq
              refine (SP _ hE).mono ?_
              intro q w8 hF
              obtain ⟨B6, d6, rfl, _, hbn⟩ := hF
              replace hE := hE.below hbn
              replace hbw := below_then hbw hbn
              clear hbn
              go_wp2
              go_loopw [21, 22] (fun n i wx => ∃ k q : Nat, k ≤ s.size ∧ i = .int .i64 k ∧ n = .int .i64 q ∧ q ≤ k ∧ Hid (q = (cutF 59 ((bs s).take k)).1.length) ∧ wx = w8) (fun _ i _ => s.size - (intOf i).toNat)
              case atStart => exact ⟨0, 0, Nat.zero_le _, rfl, rfl, Nat.le_refl _, rfl, rfl⟩
              case round =>
                obtain ⟨k, q, hk, rfl, rfl, hqk, HQ, rfl⟩ := hrel
                by_cases hlt : k < s.size
                · have hki : (k : Int) < (s.size : Int) := by omega
                  have hx := fun w => index_at s (k : Int) k hlt rfl w
                  have hxb := byte_lt s k hlt
                  have hct := cutF_take (sep := 59) hlt
                  obtain ⟨x, hxe⟩ : ∃ x, (s[k]'hlt) = x := ⟨_, rfl⟩
                  rw [hxe] at hx hxb hct
                  by_cases h59 : x = 59
                  · subst h59
                    rw [show ((UInt8.toNat 59 : Nat) : Int) = 59 from rfl] at hx
                    have HQ2 : Hid (q + 1 = (cutF 59 ((bs s).take (k + 1))).1.length) := by
                      show _ = _
                      rw [hct]
                      unfold cutStep
                      rw [if_pos rfl, List.length_append, ← HQ.out]; rfl
                    clear hct hxe hxb
                    go_wp2
                    go_roundw
                    case rel => exact ⟨k + 1, q + 1, by omega, by go_num, by go_num, by omega, HQ2, trivial⟩
                    case measure => simp [intOf]; omega
                  · have HQ2 : Hid (q = (cutF 59 ((bs s).take (k + 1))).1.length) := by
                      show _ = _
                      rw [hct]
                      unfold cutStep
                      rw [if_neg h59]
                      exact HQ.out
                    have hne : ¬ ((x.toNat : Nat) : Int) = 59 := fun h => h59 (UInt8.toNat_inj.1 (by rw [show (59 : UInt8).toNat = 59 from rfl]; omega))
                    clear hct hxe h59
                    go_wp2
                    go_roundw
                    case rel => exact ⟨k + 1, q, by omega, by go_num, rfl, by omega, HQ2, trivial⟩
                    case measure => simp [intOf]; omega
                · have hks : k = s.size := by omega
                  subst hks
                  have hki : (s.size : Int) ≤ (s.size : Int) := by omega
                  have hlq : (ls.length : Int) = (q : Int) + 1 := by have h1 := HML.out; have h2 := HQ.out; omega
                  have hlq2 : ((ls.length : Int) == (q : Int) + 1) = true := by rw [hlq]; simp
                  clear hlt
                  go_wp2_with fail
                  refine (awake_any _ hE).mono ?_
                  rintro q w9 ⟨rfl, hbn⟩
                  go_wp2
                  go_returns
                  exact ⟨rfl, below_then hbw hbn⟩
            · subst hos
              obtain ⟨g4, rfl, hc4⟩ := own_at hl4 (by simp)
              obtain ⟨g5, rfl, hc5⟩ := own_at hl5 (by simp)
              have hc40 := hc4 0 _ rfl
              have hc41 := hc4 1 _ rfl
              have hc50 := hc5 0 _ rfl
              have hc51 := hc5 1 _ rfl
              clear hc4 hc5 hl4 hl5 HOS
              go_wp2_with fail
              go_quiet (fail)
              go_wp2_with fail
              have hdq : Drew w7 (w7.drewN nq) := ⟨nq, rfl⟩
              replace hE := hE.below hdq.to
              replace hbw := below_then hbw hdq.to
              clear hdq
              refine (SP _ hE).mono ?_
              intro q w8 hF
              obtain ⟨B6, d6, rfl, _, hbn⟩ := hF
              replace hE := hE.below hbn
              replace hbw := below_then hbw hbn
              clear hbn
              go_wp2
              go_loopw [21, 22] (fun n i wx => ∃ k q : Nat, k ≤ s.size ∧ i = .int .i64 k ∧ n = .int .i64 q ∧ q ≤ k ∧ Hid (q = (cutF 59 ((bs s).take k)).1.length) ∧ wx = w8) (fun _ i _ => s.size - (intOf i).toNat)
              case atStart => exact ⟨0, 0, Nat.zero_le _, rfl, rfl, Nat.le_refl _, rfl, rfl⟩
              case round =>
                obtain ⟨k, q, hk, rfl, rfl, hqk, HQ, rfl⟩ := hrel
                by_cases hlt : k < s.size
                · have hki : (k : Int) < (s.size : Int) := by omega
                  have hx := fun w => index_at s (k : Int) k hlt rfl w
                  have hxb := byte_lt s k hlt
                  have hct := cutF_take (sep := 59) hlt
                  obtain ⟨x, hxe⟩ : ∃ x, (s[k]'hlt) = x := ⟨_, rfl⟩
                  rw [hxe] at hx hxb hct
                  by_cases h59 : x = 59
                  · subst h59
                    rw [show ((UInt8.toNat 59 : Nat) : Int) = 59 from rfl] at hx
                    have HQ2 : Hid (q + 1 = (cutF 59 ((bs s).take (k + 1))).1.length) := by
                      show _ = _
                      rw [hct]
                      unfold cutStep
                      rw [if_pos rfl, List.length_append, ← HQ.out]; rfl
                    clear hct hxe hxb
                    go_wp2
                    go_roundw
                    case rel => exact ⟨k + 1, q + 1, by omega, by go_num, by go_num, by omega, HQ2, trivial⟩
                    case measure => simp [intOf]; omega
                  · have HQ2 : Hid (q = (cutF 59 ((bs s).take (k + 1))).1.length) := by
                      show _ = _
                      rw [hct]
                      unfold cutStep
                      rw [if_neg h59]
                      exact HQ.out
                    have hne : ¬ ((x.toNat : Nat) : Int) = 59 := fun h => h59 (UInt8.toNat_inj.1 (by rw [show (59 : UInt8).toNat = 59 from rfl]; omega))
                    clear hct hxe h59
                    go_wp2
                    go_roundw
                    case rel => exact ⟨k + 1, q, by omega, by go_num, rfl, by omega, HQ2, trivial⟩
                    case measure => simp [intOf]; omega
                · have hks : k = s.size := by omega
                  subst hks
                  have hki : (s.size : Int) ≤ (s.size : Int) := by omega
                  have hlq : (ls.length : Int) = (q : Int) + 1 := by have h1 := HML.out; have h2 := HQ.out; omega
                  have hlq2 : ((ls.length : Int) == (q : Int) + 1) = true := by rw [hlq]; simp
                  clear hlt
                  go_wp2_with fail
                  refine (awake_any _ hE).mono ?_
                  rintro q w9 ⟨rfl, hbn⟩
                  go_wp2
                  go_returns
                  exact ⟨rfl, below_then hbw hbn⟩
end Go.Proofs.YtagncjnbabdbmaaDoor
