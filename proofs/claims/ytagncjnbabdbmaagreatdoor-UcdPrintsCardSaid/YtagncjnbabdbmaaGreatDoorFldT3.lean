/- How characters are told: the code. -/
import Derived.Test.YtagncjnbabdbmaaGreatDoorFldT2
import Derived.Test.YtagncjnbabdbmaaGreatDoorFldLaw2
set_option linter.unusedSimpArgs false
set_option linter.unusedVariables false
namespace Go.Proofs.YtagncjnbabdbmaaGreatDoor
open Go.RowKit

abbrev letters : ByteArray := ⟨#[48, 49, 50, 51, 52, 53, 54, 55, 56, 57, 65, 66, 67, 68, 69, 70]⟩
theorem letter_at (d : Nat) (hd : d < 16) (w : World) : (Instr.index 9 (.string letters) (.int .i64 d)).run Tryz.prog w = .ok (.int .u8 (dchar d).toNat) w := by
  rcases (show d = 0 ∨ d = 1 ∨ d = 2 ∨ d = 3 ∨ d = 4 ∨ d = 5 ∨ d = 6 ∨ d = 7 ∨ d = 8 ∨ d = 9 ∨ d = 10 ∨ d = 11 ∨ d = 12 ∨ d = 13 ∨ d = 14 ∨ d = 15 by omega) with h | h | h | h | h | h | h | h | h | h | h | h | h | h | h | h
  all_goals
    subst h
    kernel_rfl
theorem bytes_one (l : List UInt8) : ∀ u ∈ Bs l, u.oneCell' = true := by
  intro u hu
  obtain ⟨b, _, rfl⟩ := List.mem_map.1 hu
  rfl
theorem max_nat (r : Int) (h1 : r ≤ 2147483647) : ∃ m : Nat, max 0 r = (m : Int) ∧ digS r = digF 8 m [] ∧ m < 16 ^ 8 := by
  refine ⟨(max 0 r).toNat, by omega, rfl, ?_⟩
  have : max 0 r ≤ 2147483647 := by omega
  omega
theorem one_max : 1 ≤ maxLen := by decide
theorem own_full {w : World} {B : Nat} {e : TypeId} {A : Option Addr} {n c : Nat} {xs : List Value} (h : w.ownsRow B e 1 (.slice A n c) n xs) (hn : 0 < n) :
    ∃ g, A = some ⟨g, 0, none⟩ ∧ g < w.heap.size ∧ n ≤ c ∧ ∀ j u, xs[j]? = some u → w.cell? ⟨g, j, none⟩ = some u := by
  obtain ⟨g, hA, hc⟩ := own_at h hn
  have hl := h.1
  have h0 := hc 0 _ (List.getElem?_eq_getElem (by omega))
  obtain ⟨A', c', e2, hnc, _, _⟩ := Rd.of_own h
  injection e2 with _ _ e3
  exact ⟨g, hA, World.block_lt_of_cell? w _ h0, by rw [e3]; exact hnc, hc⟩
theorem join_any (A : Option Addr) (n c B : Nat) (zs : List Int) (w : World) (h : w.ownsRow B 9 1 (.slice A n c) n (Ss (zs.map digS))) (hl : zs.length = n) (hn : n ≤ 1000) :
    Calls Tryz.prog 40 #[.slice A n c, .string ⟨#[32]⟩] w fun e w' => e = .returned (.string (mk8 (textS zs))) ∧ Below w.heap.size w w' := by
  by_cases h0 : n = 0
  · subst h0
    have hz : zs = [] := List.eq_nil_of_length_eq_zero hl
    subst hz
    refine (Tryz.strings_Join_none A c ⟨#[32]⟩ w).mono ?_
    rintro e w' ⟨rfl, rfl⟩
    exact ⟨rfl, Below.refl _ _⟩
  · obtain ⟨g, rfl, hg, hnc, hc⟩ := own_full h (by omega)
    have hxl : ((zs.map digS).map mk8).length = n := by simp [hl]
    have hdat : ((zs.map digS).map mk8).map (·.data.toList) = zs.map digS := by
      rw [List.map_map]
      exact (List.map_congr_left (fun x _ => rfl)).trans (List.map_id _)
    have hlen := textS_len zs zs.length (Nat.le_refl _)
    rw [List.take_length] at hlen
    unfold textS at hlen
    have := Tryz.strings_Join g 0 c ((zs.map digS).map mk8) ⟨#[32]⟩ w (fun j x hx => by
      rw [Nat.zero_add]
      refine hc j (.string x) ?_
      have : Ss (zs.map digS) = ((zs.map digS).map mk8).map Value.string := by simp [List.map_map]
      rw [this, List.getElem?_map, hx]
      rfl) hg (by omega) (by omega) (by
        rw [hdat]
        show (Lib.join (zs.map digS) [32]).length ≤ _
        omega)
    rw [hxl, hdat] at this
    exact this
set_option maxRecDepth 20000 in
set_option maxHeartbeats 4000000 in
theorem text04_any (A : Option Addr) (n c : Nat) (zs : List Int) (w : World) (hr : Rd w A n (Rs zs)) (hi : ∀ z ∈ zs, -2147483648 ≤ z ∧ z ≤ 2147483647) (hn : n ≤ 1000) :
    Calls Tryz.prog 39 #[.slice A n c] w fun e w' => e = .returned (.string (mk8 (textS zs))) ∧ Below w.heap.size w w' := by
  have hzl : zs.length = n := by have := hr.1; simpa using this
  have HZL := Lib.hid hzl
  clear hzl
  go_enter Tryz.func39, Tryz.ntmps39
  go_wp2
  go_loopw [3, 11] (fun s i wr => ∃ (k : Nat) (A' : Option Addr) (c' : Nat), k ≤ n ∧ i = .int .i64 k ∧ s = .slice A' k c' ∧ wr.ownsRow w.heap.size 9 1 (.slice A' k c') k (Ss ((zs.take k).map digS)) ∧ Below w.heap.size w wr) (fun _ i _ => n - (intOf i).toNat)
  case atStart => exact ⟨0, none, 0, Nat.zero_le _, rfl, rfl, World.ownsRow_nil _ _ _ _, Below.refl _ _⟩
  case round =>
    obtain ⟨k, A', c', hk, rfl, rfl, hown, hb⟩ := hrel
    have hz := hb.size
    by_cases hlt : k < n
    · obtain ⟨z, hzz⟩ : ∃ z, zs[k]? = some z := ⟨_, List.getElem?_eq_getElem (by rw [HZL.out]; exact hlt)⟩
      have hzi := hi z (List.mem_of_getElem? hzz)
      obtain ⟨b, off, rfl, hbl, hcx⟩ := (hr.below hb).at_ (by omega)
      have hc := hcx k (.int .i32 z) (by simp [hzz])
      clear hcx
      obtain ⟨m, hm, hS, hm2⟩ := max_nat z hzi.2
      have hii : (k : Int) < (n : Int) := by omega
      have HT := Lib.hid (take_snoc' hzz)
      have HS := Lib.hid hS
      have HM2 := Lib.hid hm2
      clear hi hS hzz hm2 hr
      go_wp2
      go_loopw [6, 7, 8] (fun q v i wx => ∃ (x f : Nat) (acc : List UInt8) (B : Option Addr) (d : Nat), q = .int .i64 x ∧ v = .slice B acc.length d ∧ i = .int .i64 acc.length ∧ acc.length + f = 8 ∧ x < 16 ^ f ∧ Hid (digF 8 m [] = digF f x acc) ∧ wx.ownsRow wr.heap.size 5 1 (.slice B acc.length d) acc.length (Bs acc) ∧ Below wr.heap.size wr wx) (fun _ _ i _ => 8 - (intOf i).toNat)
      case atStart => exact ⟨m, 8, [], none, 0, rfl, rfl, rfl, rfl, HM2.out, rfl, World.ownsRow_nil _ _ _ _, Below.refl _ _⟩
      case round =>
        obtain ⟨q, f, acc, B, dc, rfl, rfl, rfl, hlen, hq, HD, hownx, hbx⟩ := hrel
        have hzx := hbx.size
        by_cases hcont : 0 < q ∨ acc.length < 4
        · obtain ⟨f, rfl⟩ : ∃ g, f = g + 1 := by
            cases f with
            | zero => exfalso; simp at hq; omega
            | succ g => exact ⟨g, rfl⟩
          have hal : (acc.length : Int) ≤ 8 := by omega
          by_cases hq0 : q = 0
          · subst hq0
            have hc2 : (acc.length : Int) < 4 := by omega
            have HD2 : Hid (digF 8 m [] = digF f 0 (48 :: acc)) := by show _ = _; rw [HD.out, digF_more hcont]; rfl
            have HQ2 : Hid (0 < 16 ^ f) := Nat.pow_pos (by omega)
            have hix := letter_at 0 (by omega)
            rw [show ((dchar 0).toNat : Int) = 48 from rfl] at hix
            clear hcont hq
            go_wp2_with (at_builtin; refine wpList_app byteElem _ rfl _ _ rfl wr.heap.size rfl (own_new wr 5 [.int .u8 48] (by decide)) rfl ((rd_own hownx).alloc _) (bytes_one _) (by simp <;> omega) (by omega) (by simp) ?_)
            intro B2 d2 w4 hown4 hg4 hat4
            have hb4 := below_app (hbx.alloc hzx _) (by simp <;> omega) (own_base (own_new wr 5 [.int .u8 48] (by decide)) hzx) hg4
            go_wp2
            go_roundw
            case rel => exact ⟨0, f, 48 :: acc, B2, d2, rfl, by simp <;> omega, by simp <;> omega, by simp <;> omega, HQ2.out, HD2, by have := own_base hown4 hzx; simpa [Nat.add_comm] using this, hb4⟩
            case measure => simp [intOf]; omega
          · have hq1 : (0 : Int) < (q : Int) := by omega
            have HD2 : Hid (digF 8 m [] = digF f (q / 16) (dchar (q % 16) :: acc)) := by show _ = _; rw [HD.out, digF_more hcont]
            have hq2 : q / 16 < 16 ^ f := by rw [Nat.pow_succ] at hq; omega
            have hq9 : (q : Int) ≤ 4294967296 := by
              have : (16 : Nat) ^ (f + 1) ≤ 16 ^ 8 := Nat.pow_le_pow_right (by omega) (by omega)
              have h8 : (16 : Nat) ^ 8 = 4294967296 := rfl
              omega
            obtain ⟨d, hd⟩ : ∃ d, d = q % 16 := ⟨_, rfl⟩
            have hd16 : d < 16 := by omega
            rw [← hd] at HD2
            have hmod : Int.tmod (q : Int) 16 = (d : Int) := by rw [hd]; rfl
            obtain ⟨e, he⟩ : ∃ e, e = q / 16 := ⟨_, rfl⟩
            have hdiv : Int.tdiv (q : Int) 16 = (e : Int) := by rw [he]; rfl
            rw [← he] at HD2 hq2
            have he9 : (e : Int) ≤ 4294967296 := by omega
            have HQ2 := Lib.hid hq2
            have hix := letter_at d hd16
            clear hcont hq hd hq2 he hq0
            go_wp2_with (at_builtin; refine wpList_app byteElem _ rfl _ _ rfl wr.heap.size rfl (own_new wr 5 [.int .u8 (dchar d).toNat] one_max) rfl ((rd_own hownx).alloc _) (bytes_one _) (by simp <;> omega) (by omega) (by simp) ?_)
            all_goals
              intro B2 d2 w4 hown4 hg4 hat4
              have hb4 := below_app (hbx.alloc hzx _) (by simp <;> omega) (own_base (own_new wr 5 [.int .u8 (dchar d).toNat] one_max) hzx) hg4
              go_wp2
              go_roundw
              case rel => exact ⟨e, f, dchar d :: acc, B2, d2, by go_num, by simp <;> omega, by simp <;> omega, by simp <;> omega, HQ2.out, HD2, by have := own_base hown4 hzx; simpa [Nat.add_comm] using this, hb4⟩
              case measure => simp [intOf]; omega
        · have c1 : (q : Int) ≤ 0 := by omega
          have c2 : (4 : Int) ≤ (acc.length : Int) := by omega
          have hne : acc ≠ [] := by intro h; rw [h] at c2; simp at c2
          have HD2 : Hid (digS z = acc) := by show _ = _; rw [HS.out, HD.out, digF_end hcont]
          have hcv := bytes_str hownx hne
          have hown2 := own_below hown hbx
          have hb2 := below_then hb hbx
          have hz2 := hb2.size
          clear hcont hq hne
          go_wp2_with (at_builtin; refine wpList_app strElem _ rfl _ _ rfl w.heap.size rfl (hown2.alloc _) rfl (Rd.new1 _ _ _) (one_of rfl) (by omega) (by omega) (by simp <;> omega) ?_)
          intro A2 c2 w4 hown4 hg4 hat4
          have hb4 := below_app (hb2.alloc hz2 _) (by simp <;> omega) (hown2.alloc _) hg4
          go_wp2
          go_roundw
          case rel => exact ⟨k + 1, A2, c2, by omega, by go_num, rfl, by rw [HT.out, List.map_append, List.map_cons, List.map_nil, HD2.out]; simpa using hown4, hb4⟩
          case measure => simp [intOf]; omega
    · have hkn : k = n := by omega
      subst hkn
      have hall : zs.take k = zs := List.take_of_length_le (by rw [HZL.out]; exact Nat.le_refl _)
      rw [hall] at hown
      have JA := join_any A' k c' w.heap.size zs _ hown HZL.out hn
      have hii : (k : Int) ≤ (k : Int) := by omega
      clear hall hr hi
      go_wp2_with fail
      refine JA.mono ?_
      rintro e w1 ⟨rfl, hb1⟩
      go_wp2
      go_returns
      exact ⟨rfl, below_then hb hb1⟩
end Go.Proofs.YtagncjnbabdbmaaGreatDoor
