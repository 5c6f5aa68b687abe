/- Bytes that a text tells: the word, and the code's. -/
import Derived.Test.YtagncjnbabdbmaaDoorFldC
import Derived.Laws.IdiomStrings
set_option linter.unusedSimpArgs false
set_option linter.unusedVariables false
namespace Go.Proofs.YtagncjnbabdbmaaDoor
open Go.RowKit

def bytesF (ahead : List UInt8) : Nat → List UInt8 → List UInt8 → List UInt8 × Int
  | 0, out, _ => (out, 0)
  | f + 1, out, s =>
    if out ≠ [] ∧ s = [] then (out, 0)
    else if Lib.hasPrefix s ahead = true ∧ 2 ≤ (s.drop ahead.length).length then
      (if numS 16 2 ((s.drop ahead.length).take 2) < 0 then ([], 10)
       else bytesF ahead f (out ++ [UInt8.ofNat (numS 16 2 ((s.drop ahead.length).take 2)).toNat]) ((s.drop ahead.length).drop 2))
    else ([], 10)
def bytesS (ahead s : List UInt8) : List UInt8 × Int := bytesF ahead (s.length + 1) [] s
theorem bytesF_end {ahead out s : List UInt8} {f : Nat} (ho : out ≠ []) (hs : s = []) : bytesF ahead (f + 1) out s = (out, 0) := by
  simp only [bytesF]; rw [if_pos ⟨ho, hs⟩]
theorem bytesF_no {ahead out s : List UInt8} {f : Nat} (h : ¬ (out ≠ [] ∧ s = [])) (hp : ¬ (Lib.hasPrefix s ahead = true ∧ 2 ≤ (s.drop ahead.length).length)) : bytesF ahead (f + 1) out s = ([], 10) := by
  simp only [bytesF]; rw [if_neg h, if_neg hp]
theorem bytesF_bad {ahead out s : List UInt8} {f : Nat} (h : ¬ (out ≠ [] ∧ s = [])) (hp : Lib.hasPrefix s ahead = true ∧ 2 ≤ (s.drop ahead.length).length) (hn : numS 16 2 ((s.drop ahead.length).take 2) < 0) : bytesF ahead (f + 1) out s = ([], 10) := by
  simp only [bytesF]; rw [if_neg h, if_pos hp, if_pos hn]
theorem bytesF_more {ahead out s : List UInt8} {f : Nat} (h : ¬ (out ≠ [] ∧ s = [])) (hp : Lib.hasPrefix s ahead = true ∧ 2 ≤ (s.drop ahead.length).length) (hn : ¬ numS 16 2 ((s.drop ahead.length).take 2) < 0) :
    bytesF ahead (f + 1) out s = bytesF ahead f (out ++ [UInt8.ofNat (numS 16 2 ((s.drop ahead.length).take 2)).toNat]) ((s.drop ahead.length).drop 2) := by
  simp only [bytesF]; rw [if_neg h, if_pos hp, if_neg hn]

abbrev Bs (l : List UInt8) : List Value := l.map (fun b => Value.int .u8 b.toNat)
theorem byteElem : Elem Tryd.prog 51 5 (.int .u8 0) 1 := ⟨Tryd.underlying51, by kernel_rfl, rfl⟩
theorem byte_val {n : Int} (h0 : 0 ≤ n) (h1 : n ≤ 255) : Value.int .u8 n = Value.int .u8 ((UInt8.ofNat n.toNat).toNat : Int) := by
  have h : ∀ m : Nat, m < 256 → (UInt8.ofNat m).toNat = m := fun m hm => by
    rw [UInt8.toNat_ofNat', Nat.mod_eq_of_lt (show m < 2 ^ 8 from hm)]
  rw [h n.toNat (by omega), Int.toNat_of_nonneg h0]
theorem ret_se {a a' : ByteArray} {b b' : Int} (h1 : a = a') (h2 : b = b') : Ending.returned (.tuple #[.string a, .int .i64 b]) = .returned (.tuple #[.string a', .int .i64 b']) := by rw [h1, h2]
theorem own_bytes {w : World} {base : Nat} {A : Option Addr} {c : Nat} {l : List UInt8} (h : w.ownsRow base 5 1 (.slice A l.length c) l.length (Bs l)) (hl : l ≠ []) :
    ∃ b off, A = some ⟨b, off, none⟩ ∧ ∀ j u, (Bs l)[j]? = some u → w.cell? ⟨b, off + j, none⟩ = some u := by
  have hlen : 0 < l.length := List.length_pos_iff.2 hl
  obtain ⟨A', c', e, _, _, hr⟩ := Rd.of_own h
  injection e with e1 _ e2
  subst e1 e2
  exact hr.2 hlen
theorem bytes_str {w : World} {base : Nat} {A : Option Addr} {c : Nat} {l : List UInt8} (h : w.ownsRow base 5 1 (.slice A l.length c) l.length (Bs l)) (hl : l ≠ []) :
    (convert 51 9 (.slice A l.length c)).run Tryd.prog w = .ok (.string (mk8 l)) w :=
  (own_bytes h hl).elim fun b h1 => h1.elim fun off h2 => by
    rw [h2.1]
    refine run_convert_bytes_back w 51 9 5 ⟨b, off, none⟩ c l Tryd.underlying51 Tryd.underlying5 Tryd.underlying9 (fun j hj => ?_)
    rw [Addr.add_lit]
    exact h2.2 j _ (by simp [hj])
theorem cutprefix_any (s p : ByteArray) (w : World) :
    Calls Tryd.prog 52 #[.string s, .string p] w fun e w' => e = .returned (.tuple #[.string (mk8 (Lib.trimPrefix (bs s) (bs p))), .bool (Lib.hasPrefix (bs s) (bs p))]) ∧ w = w' := by
  refine (Tryd.strings_CutPrefix s p w).mono ?_
  rintro e w' ⟨rfl, rfl⟩
  exact ⟨rfl, rfl⟩
theorem num16bM (l : List UInt8) (w : World) (hs : l.length ≤ 1073741824) :
    Calls Tryd.prog 53 #[.string ((mk8 l).extract 0 2), .int .i64 16, .int .i64 2] w fun e w' => e = .returned (.int .i64 (numS 16 2 (l.take 2))) ∧ Below w.heap.size w w' := by
  have := number16b ((mk8 l).extract 0 2) w (by have := mk8_size l; rw [ByteArray.size_extract]; omega)
  rw [bs_extract, bs_mk8, List.drop_zero] at this
  exact this
theorem bytes04_any (s ahead : ByteArray) (w : World) (hs : s.size ≤ 1073741824) :
    Calls Tryd.prog 21 #[.string s, .string ahead] w fun e w' => e = .returned (.tuple #[.string (mk8 (bytesS (bs ahead) (bs s)).1), .int .i64 (bytesS (bs ahead) (bs s)).2]) ∧ Below w.heap.size w w' := by
  go_enter Tryd.func21, Tryd.ntmps21
  go_wp2
  go_loopw [0, 6] (fun v u wr => ∃ (t : ByteArray) (os : List UInt8) (f : Nat) (A' : Option Addr) (c' : Nat), v = .string t ∧ u = .slice A' os.length c' ∧ t.size < f ∧ os.length + f ≤ s.size + 1 ∧ t.size ≤ s.size ∧ Hid (bytesS (bs ahead) (bs s) = bytesF (bs ahead) f os (bs t)) ∧ wr.ownsRow w.heap.size 5 1 (.slice A' os.length c') os.length (Bs os) ∧ Below w.heap.size w wr) (fun v _ _ => strLen v)
  case atStart => exact ⟨s, [], s.size + 1, none, 0, rfl, rfl, by omega, by simp, by omega, by show _ = _; unfold bytesS; rw [bs_length], World.ownsRow_nil _ _ _ _, Below.refl _ _⟩
  case round =>
    obtain ⟨t, os, f, A', c', rfl, rfl, htf, hof, hts, HR, hown, hb⟩ := hrel
    have hz := hb.size
    obtain ⟨f, rfl⟩ : ∃ g, f = g + 1 := ⟨f - 1, by omega⟩
    by_cases hend : os ≠ [] ∧ bs t = []
    · obtain ⟨ho, ht⟩ := hend
      have hres : bytesS (bs ahead) (bs s) = (os, 0) := by rw [HR.out, bytesF_end ho ht]
      have HRES := Lib.hid hres
      have hcv := bytes_str hown ho
      have ho2 : ((os.length : Int) == 0) = false := beq_eq_false_iff_ne.2 (by have := List.length_pos_iff.2 ho; omega)
      have hte : t.toList.isEmpty = true := by rw [toList_bs, ht]; rfl
      have hte2 : (!t.toList.isEmpty) = false := by rw [hte]; rfl
      have hnl : t.toList = [] := by rw [toList_bs, ht]
      clear ho ht hres
      go_wp2
      go_returns
      exact ⟨ret_se (by rw [HRES.out]) (by rw [HRES.out]), hb⟩
    · have hcase : ((os.length : Int) == 0) = true ∨ (((os.length : Int) == 0) = false ∧ t.toList.isEmpty = false ∧ (!t.toList.isEmpty) = true) := by
        by_cases ho : os = []
        · left; simp [ho]
        · right
          have hne : ¬ t.size = 0 := fun h0 => hend ⟨ho, bs_nil h0⟩
          exact ⟨beq_eq_false_iff_ne.2 (by have := List.length_pos_iff.2 ho; omega), str_ne hne, by rw [str_ne hne]; rfl⟩
      have HCP := fun w => cutprefix_any t ahead w
      have htl : (bs t).length = t.size := bs_length t
      by_cases hpre : Lib.hasPrefix (bs t) (bs ahead) = true
      · have htp : Lib.trimPrefix (bs t) (bs ahead) = (bs t).drop (bs ahead).length := by unfold Lib.trimPrefix; rw [if_pos hpre]
        obtain ⟨r, hr⟩ : ∃ r, r = (bs t).drop (bs ahead).length := ⟨_, rfl⟩
        have hrl : r.length ≤ t.size := by rw [hr, List.length_drop]; omega
        rw [htp, hpre, ← hr] at HCP
        clear htp
        by_cases h2 : 2 ≤ r.length
        · have h2i : (2 : Int) ≤ ((mk8 r).size : Int) := by rw [mk8_size]; omega
          have hnum := numS16b_bd (r.take 2)
          by_cases hneg : numS 16 2 (r.take 2) < 0
          · have hres : bytesS (bs ahead) (bs s) = ([], 10) := by rw [HR.out, bytesF_bad hend (by rw [← hr]; exact ⟨hpre, h2⟩) (by rw [← hr]; exact hneg)]
            have HRES := Lib.hid hres
            have hrl2 : r.length ≤ 1073741824 := by omega
            clear hres hend hpre hr h2
            rcases hcase with hc1 | ⟨hc1, hc2, hc3⟩
            all_goals
              go_wp2_with fail
              refine (HCP _).mono ?_
              rintro e w1 ⟨rfl, rfl⟩
              go_wp2_with fail
              refine (num16bM r _ hrl2).mono ?_
              rintro e w2 ⟨rfl, hb2⟩
              go_wp2
              go_returns
              exact ⟨ret_se (by rw [HRES.out]; rfl) (by rw [HRES.out]), below_then hb hb2⟩
          · have HR2 : Hid (bytesS (bs ahead) (bs s) = bytesF (bs ahead) f (os ++ [UInt8.ofNat (numS 16 2 (r.take 2)).toNat]) (bs ((mk8 r).extract 2 (mk8 r).size))) := by
              show _ = _
              rw [HR.out, bytesF_more hend (by rw [← hr]; exact ⟨hpre, h2⟩) (by rw [← hr]; exact hneg), ← hr, bs_extract, bs_mk8, mk8_size, List.take_length]
            have hn0 : 0 ≤ numS 16 2 (r.take 2) := by omega
            have hval := byte_val hn0 hnum.2
            have hrl2 : r.length ≤ 1073741824 := by omega
            have hex : ((mk8 r).extract 2 (mk8 r).size).size = r.length - 2 := by have := mk8_size r; rw [ByteArray.size_extract]; omega
            have HV := Lib.hid hval
            clear hend hpre hr hval hneg
            obtain ⟨n, hn⟩ : ∃ n, n = numS 16 2 (r.take 2) := ⟨_, rfl⟩
            have HNM := fun w => num16bM r w hrl2
            rw [← hn] at hn0 hnum HV HR2 HNM
            clear hn
            have hn1 := hnum.2
            clear hnum
            rcases hcase with hc1 | ⟨hc1, hc2, hc3⟩
            all_goals
              go_wp2_with fail
              refine (HCP _).mono ?_
              rintro e w1 ⟨rfl, rfl⟩
              go_wp2_with fail
              refine (HNM _).mono ?_
              rintro e w2 ⟨rfl, hb2⟩
              have hown2 := own_below hown hb2
              have hb3 := below_then hb hb2
              have hz3 := hb3.size
              go_wp2_with (at_builtin; refine wpList_app byteElem _ rfl _ _ rfl w.heap.size rfl (hown2.alloc _) rfl (Rd.new1 _ _ _) (one_of rfl) (by omega) (by omega) (by simp; omega) ?_)
              intro A2 c2 w4 hown4 hg4 hat4
              have hb4 := below_app (hb3.alloc hz3 _) (by simp; omega) (hown2.alloc _) hg4
              go_wp2
              go_roundw
              case rel => exact ⟨_, os ++ [UInt8.ofNat n.toNat], f, A2, c2, rfl, by simp, by omega, by simp; omega, by omega, HR2, by rw [HV.out] at hown4; simpa using hown4, hb4⟩
              case measure => simp only [strLen]; omega
        · have h2i : ((mk8 r).size : Int) < 2 := by rw [mk8_size]; omega
          have hres : bytesS (bs ahead) (bs s) = ([], 10) := by rw [HR.out, bytesF_no hend (by rw [← hr]; exact fun h => h2 h.2)]
          have HRES := Lib.hid hres
          clear hres hend hpre hr h2
          rcases hcase with hc1 | ⟨hc1, hc2, hc3⟩
          all_goals
            go_wp2_with fail
            refine (HCP _).mono ?_
            rintro e w1 ⟨rfl, rfl⟩
            go_wp2
            go_returns
            exact ⟨ret_se (by rw [HRES.out]; rfl) (by rw [HRES.out]), hb⟩
      · have hpre' : Lib.hasPrefix (bs t) (bs ahead) = false := by simpa using hpre
        have hres : bytesS (bs ahead) (bs s) = ([], 10) := by rw [HR.out, bytesF_no hend (fun h => hpre h.1)]
        have HRES := Lib.hid hres
        rw [hpre'] at HCP
        clear hres hend hpre hpre'
        rcases hcase with hc1 | ⟨hc1, hc2, hc3⟩
        all_goals
          go_wp2_with fail
          refine (HCP _).mono ?_
          rintro e w1 ⟨rfl, rfl⟩
          go_wp2
          go_returns
          exact ⟨ret_se (by rw [HRES.out]; rfl) (by rw [HRES.out]), hb⟩
end Go.Proofs.YtagncjnbabdbmaaDoor
