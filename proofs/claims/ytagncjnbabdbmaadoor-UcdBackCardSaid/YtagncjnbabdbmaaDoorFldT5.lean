/- The document's answer for bytes that a text tells: the walk. -/
import Derived.Test.YtagncjnbabdbmaaDoorFldT4
import Derived.Test.YtagncjnbabdbmaaDoorFldTwo
import Derived.Deep.RegionLaw
set_option linter.unusedSimpArgs false
set_option linter.unusedVariables false
namespace Go.Proofs.YtagncjnbabdbmaaDoor
open Go.RowKit

theorem str_ne_other {s t : ByteArray} (h : s ≠ t) : (s != t) = true := by
  show (!(s == t)) = true
  have : (s == t) = false := by
    cases s with | mk a => cases t with | mk b =>
      show (a == b) = false
      rw [beq_eq_false_iff_ne]
      exact fun e => h (by rw [e])
  rw [this]; rfl
theorem index_at (s : ByteArray) (i : Int) (k : Nat) (hk : k < s.size) (h : i = (k : Int)) (w : World) : (Instr.index 9 (.string s) (.int .i64 i)).run Tryd.prog w = .ok (.int .u8 (s[k]'hk).toNat) w := by
  subst h
  rw [run_index_string w 9 s .i64 k Tryd.underlying9, dif_pos ⟨by omega, by omega⟩]
  rfl
theorem slice_at (s : ByteArray) (i j : Int) (a b : Nat) (h1 : a ≤ b) (h2 : b ≤ s.size) (hi : i = (a : Int)) (hj : j = (b : Int)) (w : World) :
    (Instr.slice 9 (.string s) (some (.int .i64 i)) (some (.int .i64 j)) none).run Tryd.prog w = .ok (.string (s.extract a b)) w := by
  subst hi hj
  exact run_slice_string w 9 s .i64 .i64 a b Tryd.underlying9 (by omega) (by omega) (by omega)
set_option maxRecDepth 20000 in
set_option maxHeartbeats 4000000 in
theorem rbytes_any (s ahead : ByteArray) (w : World) (hs : s.size ≤ 1000000) (ha : ahead.size ≤ 1000) :
    Calls Tryd.prog 30 #[.string s, .string ahead] w fun e w' => e = .returned (.tuple #[.string (mk8 (bytesS (bs ahead) (bs s)).1), .int .i64 (bytesS (bs ahead) (bs s)).2]) ∧ Below w.heap.size w w' := by
  have hsi : (s.size : Int) ≤ 1000000 := by omega
  have hai : (ahead.size : Int) ≤ 1000 := by omega
  clear hs ha
  go_enter Tryd.func30, Tryd.ntmps30
  go_wp2
  go_loopw [6, 8] (fun u i wr => ∃ (k : Nat) (os : List UInt8) (f : Nat) (A' : Option Addr) (c' : Nat), i = .int .i64 k ∧ u = .slice A' os.length c' ∧ k ≤ s.size ∧ s.size - k < f ∧ os.length ≤ k ∧ (os = [] → k = 0) ∧ Hid (bytesS (bs ahead) (bs s) = bytesF (bs ahead) f os ((bs s).drop k)) ∧ wr.ownsRow w.heap.size 5 1 (.slice A' os.length c') os.length (Bs os) ∧ Below w.heap.size w wr) (fun _ i _ => s.size - (intOf i).toNat)
  case atStart => exact ⟨0, [], s.size + 1, none, 0, rfl, rfl, Nat.zero_le _, by omega, Nat.le_refl _, fun _ => rfl, by show _ = _; unfold bytesS; rw [bs_length]; rfl, World.ownsRow_nil _ _ _ _, Below.refl _ _⟩
  case round =>
    obtain ⟨k, os, f, A', c', rfl, rfl, hk, hkf, hol, hos0, HR, hown, hb⟩ := hrel
    have hz := hb.size
    obtain ⟨f, rfl⟩ : ∃ g, f = g + 1 := ⟨f - 1, by omega⟩
    by_cases hlt : k < s.size
    · have hki : (k : Int) < (s.size : Int) := by omega
      by_cases hroom : s.size < k + ahead.size + 2
      · have hres : bytesS (bs ahead) (bs s) = ([], 10) := by rw [HR.out, bytesF_out hlt (.inl hroom)]
        have HRES := Lib.hid hres
        have hri : (s.size : Int) < (k : Int) + ((ahead.size : Int) + 2) := by omega
        clear hres hos0 hroom hlt
        go_wp2
        go_returns
        exact ⟨ret_se (by rw [HRES.out]; rfl) (by rw [HRES.out]), hb⟩
      · have hri : (k : Int) + ((ahead.size : Int) + 2) ≤ (s.size : Int) := by omega
        have hsl := fun w => slice_at s (k : Int) ((k : Int) + ((ahead.size : Int) + 2) - 2) k (k + ahead.size) (by omega) (by omega) (by omega) (by omega) w
        by_cases heq : s.extract k (k + ahead.size) = ahead
        · rw [heq] at hsl
          have hne := str_ne_self ahead
          obtain ⟨p, hp⟩ : ∃ p, p = k + ahead.size := ⟨_, rfl⟩
          obtain ⟨p1, hp1⟩ : ∃ p1, p1 = k + ahead.size + 1 := ⟨_, rfl⟩
          have hpl : p < s.size := by omega
          have hpl1 : p1 < s.size := by omega
          have htwo := bytesF_at (f := f) (os := os) hp hp1 hpl hpl1 heq
          have hx := fun w => index_at s ((k : Int) + ((ahead.size : Int) + 2) - 2) p hpl (by omega) w
          have hy := fun w => index_at s ((k : Int) + ((ahead.size : Int) + 2) - 1) p1 hpl1 (by omega) w
          have hxb := byte_lt s p hpl
          have hyb := byte_lt s p1 hpl1
          obtain ⟨x, hxe⟩ : ∃ x, s[p]'hpl = x := ⟨_, rfl⟩
          obtain ⟨y, hye⟩ : ∃ y, s[p1]'hpl1 = y := ⟨_, rfl⟩
          rw [hxe] at htwo hx hxb
          rw [hye] at htwo hy hyb
          have DX := fun w => rdigit_any (x.toNat : Int) w (by omega) (by omega)
          have DY := fun w => rdigit_any (y.toNat : Int) w (by omega) (by omega)
          have gx := hexDigit_le (x.toNat : Int)
          have gy := hexDigit_le (y.toNat : Int)
          have gx2 := hexDigit_ge (x.toNat : Int)
          have gy2 := hexDigit_ge (y.toNat : Int)
          obtain ⟨d, hd⟩ : ∃ d, d = hexDigit (x.toNat : Int) := ⟨_, rfl⟩
          obtain ⟨e, he⟩ : ∃ e, e = hexDigit (y.toNat : Int) := ⟨_, rfl⟩
          rw [← hd] at htwo DX gx gx2
          rw [← he] at htwo DY gy gy2
          have HXE := Lib.hid hxe
          have HYE := Lib.hid hye
          have HP := Lib.hid hp
          have HP1 := Lib.hid hp1
          clear hd he hxe hye heq hroom hlt hxb hyb hp hp1
          by_cases hd0 : d < 0
          · rw [if_pos (.inl hd0)] at htwo
            have hres : bytesS (bs ahead) (bs s) = ([], 10) := by rw [HR.out, htwo]
            have HRES := Lib.hid hres
            clear hres htwo hos0
            go_wp2_with fail
            refine (DX _).mono ?_
            rintro q w1 ⟨rfl, rfl⟩
            go_wp2
            go_returns
            exact ⟨ret_se (by rw [HRES.out]; rfl) (by rw [HRES.out]), hb⟩
          · have hd1 : 0 ≤ d := by omega
            by_cases he0 : e < 0
            · rw [if_pos (.inr he0)] at htwo
              have hres : bytesS (bs ahead) (bs s) = ([], 10) := by rw [HR.out, htwo]
              have HRES := Lib.hid hres
              clear hres htwo hos0 hd0
              go_wp2_with fail
              refine (DX _).mono ?_
              rintro q w1 ⟨rfl, rfl⟩
              go_wp2_with fail
              refine (DY _).mono ?_
              rintro q w1 ⟨rfl, rfl⟩
              go_wp2
              go_returns
              exact ⟨ret_se (by rw [HRES.out]; rfl) (by rw [HRES.out]), hb⟩
            · have he1 : 0 ≤ e := by omega
              rw [if_neg (by omega)] at htwo
              have HR2 : Hid (bytesS (bs ahead) (bs s) = bytesF (bs ahead) f (os ++ [UInt8.ofNat (16 * d + e).toNat]) ((bs s).drop (k + (ahead.size + 2)))) := by show _ = _; rw [HR.out, htwo]
              have HV := Lib.hid (byte_val (n := 16 * d + e) (by omega) (by omega))
              have hne8 : ¬ (k + (ahead.size + 2) = 0) := by omega
              clear htwo hos0 hd0 he0
              go_wp2_with fail
              refine (DX _).mono ?_
              rintro q w1 ⟨rfl, rfl⟩
              go_wp2_with fail
              refine (DY _).mono ?_
              rintro q w1 ⟨rfl, rfl⟩
              go_upto_region 8 with fail
              have DXS : ∀ w, Calls Tryd.prog 54 #[.int .u8 (x.toNat : Int)] w (fun e' w'' => e' = .returned (.int .i64 d) ∧ w'' = w) := fun w => (DX w).mono (fun _ _ h => ⟨h.1, h.2.symm⟩)
              have DYS : ∀ w, Calls Tryd.prog 54 #[.int .u8 (y.toNat : Int)] w (fun e' w'' => e' = .returned (.int .i64 e) ∧ w'' = w) := fun w => (DY w).mono (fun _ _ h => ⟨h.1, h.2.symm⟩)
              have hw1 : IntKind.i64.wrap ((k : Int) + ((ahead.size : Int) + 2)) = (k : Int) + ((ahead.size : Int) + 2) := IntWalk.i64_in _ (by omega)
              have hw2 : IntKind.i64.wrap ((k : Int) + ((ahead.size : Int) + 2) - 2) = (p : Int) := by have := HP.out; rw [IntWalk.i64_in _ (by omega)]; omega
              have hw3 : IntKind.i64.wrap ((k : Int) + ((ahead.size : Int) + 2) - 1) = (p1 : Int) := by have := HP1.out; rw [IntWalk.i64_in _ (by omega)]; omega
              have hw4 : IntKind.i64.wrap (16 * d) = 16 * d := IntWalk.i64_in _ (by omega)
              have hw5 : IntKind.i64.wrap (16 * d + e) = 16 * d + e := IntWalk.i64_in _ (by omega)
              have hxe := HXE.out
              have hye := HYE.out
              have hpi : (p : Int) < (s.size : Int) := by omega
              have hpi1 : (p1 : Int) < (s.size : Int) := by omega
              have hw6 : IntKind.u8.wrap (16 * d + e) = 16 * d + e := IntWalk.u8_in _ (by omega)
              have hownA : ((wr.alloc (.cells #[.int .u8 (16 * d + e)] 5)).drew).ownsRow w.heap.size 5 1 (.slice A' os.length c') os.length (Bs os) := hown.alloc _
              have hrdA : Rd ((wr.alloc (.cells #[.int .u8 (16 * d + e)] 5)).drew) (some ⟨wr.heap.size, 0, none⟩) 1 [.int .u8 (16 * d + e)] := (Rd.new1 _ _ _).drew
              have hbsA : w.heap.size ≤ ((wr.alloc (.cells #[.int .u8 (16 * d + e)] 5)).drew).heap.size := by simp; omega
              have hdrA : Drew (wr.alloc (.cells #[.int .u8 (16 * d + e)] 5)) ((wr.alloc (.cells #[.int .u8 (16 * d + e)] 5)).drew) := ⟨1, rfl⟩
              have hbA := below_then (hb.alloc hz _) hdrA.to
              have honeA : ∀ u ∈ [Value.int .u8 (16 * d + e)], u.oneCell' = true := one_of rfl
              have h63A : os.length + 1 ≤ 1099511627776 := by omega
              have hbyA : 1 ≤ 64 := by omega
              clear hx hy DX DY HXE HYE HP HP1
              go_region_law (first
                | (refine step_call rfl (DXS _) ?hr ?_; (case hr => go_simp))
                | (refine step_call rfl (DYS _) ?hr ?_; (case hr => go_simp))
                | (refine step_app byteElem _ rfl (.tmp 56) (.tmp 74) rfl w.heap.size rfl hownA rfl hrdA honeA h63A hbyA hbsA ?_; intro A2 c2 w4 hown4 hg4 hat4))
              all_goals
                have hb4 := below_app hbA hbsA hownA hg4
                clear hbA hbsA hownA hrdA hdrA hxe hye
                go_wp2
                go_roundw
                case rel => exact ⟨k + (ahead.size + 2), os ++ [UInt8.ofNat (16 * d + e).toNat], f, A2, c2, by go_num, by simp, by omega, by omega, by simp <;> omega, by simp, HR2, by rw [HV.out] at hown4; simpa using hown4, hb4⟩
                case measure => simp [intOf]; omega
        · have hres : bytesS (bs ahead) (bs s) = ([], 10) := by rw [HR.out, bytesF_out hlt (.inr heq)]
          have HRES := Lib.hid hres
          have hne := str_ne_other heq
          obtain ⟨u, hu⟩ : ∃ u, u = s.extract k (k + ahead.size) := ⟨_, rfl⟩
          rw [← hu] at hne hsl heq
          have hne2 : ¬ (u.toList = ahead.toList) := fun h => heq (bs_inj (by rw [← toList_bs, ← toList_bs, h]))
          clear hres hos0 hroom hlt hu heq
          go_wp2
          go_returns
          exact ⟨ret_se (by rw [HRES.out]; rfl) (by rw [HRES.out]), hb⟩
    · have hks : k = s.size := by omega
      have hki : (s.size : Int) ≤ (k : Int) := by omega
      have hdr : (bs s).drop k = [] := List.drop_eq_nil_of_le (by rw [bs_length]; omega)
      rw [hdr] at HR
      by_cases hos : os = []
      · have hs0 : s.size = 0 := by have := hos0 hos; omega
        have hte : s.toList.isEmpty = true := by rw [toList_bs, bs_nil hs0]; rfl
        have hres : bytesS (bs ahead) (bs s) = ([], 10) := by
          rw [HR.out]
          exact bytesF_no (fun h => h.1 hos) (fun h => by have := h.2; simp at this)
        have HRES := Lib.hid hres
        clear hres hos0 hlt hdr hks hs0
        go_wp2
        go_returns
        exact ⟨ret_se (by rw [HRES.out]; rfl) (by rw [HRES.out]), hb⟩
      · have hs0 : ¬ s.size = 0 := by have := List.length_pos_iff.2 hos; omega
        have hte := str_ne hs0
        have hres : bytesS (bs ahead) (bs s) = (os, 0) := by rw [HR.out]; exact bytesF_end hos rfl
        have HRES := Lib.hid hres
        have hcv := bytes_str hown hos
        clear hres hos0 hlt hdr hks hs0
        go_wp2
        go_returns
        exact ⟨ret_se (by rw [HRES.out]) (by rw [HRES.out]), hb⟩
end Go.Proofs.YtagncjnbabdbmaaDoor
