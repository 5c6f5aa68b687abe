/- Lines of a text: the word, the document's answer, and the code's. -/
import Derived.Test.YtagncjnbabdbmaaDoorFldD
import Derived.Test.YtagncjnbabdbmaaDoorMemK
set_option linter.unusedSimpArgs false
set_option linter.unusedVariables false
namespace Go.Proofs.YtagncjnbabdbmaaDoor
open Go.RowKit

/-- What a line tells: what stands ahead of the first #, bare. -/
def tellL (l : List UInt8) : List UInt8 := bareL (Lib.cut l [35]).1
theorem tellL_len (l : List UInt8) : (tellL l).length ≤ l.length := by
  have h1 := bareL_len (Lib.cut l [35]).1
  have h2 := (cut_le l [35]).1
  unfold tellL
  omega
def linesW : List (Int × List UInt8) → Nat → List (List UInt8) → List (Int × List UInt8) × Int
  | out, _, [] => (out, 0)
  | out, k, l :: ls => if 512 < l.length then ([], 10) else linesW (if tellL l = [] then out else out ++ [((k : Int) + 1, tellL l)]) (k + 1) ls
def linesS (s : List UInt8) : List (Int × List UInt8) × Int := if 4096 < (cutL 10 s).length then ([], 14) else linesW [] 0 (cutL 10 s)
theorem linesW_long {out : List (Int × List UInt8)} {k : Nat} {l : List UInt8} {ls : List (List UInt8)} (h : 512 < l.length) : linesW out k (l :: ls) = ([], 10) := by
  simp only [linesW]; rw [if_pos h]
theorem linesW_none {out : List (Int × List UInt8)} {k : Nat} {l : List UInt8} {ls : List (List UInt8)} (h : ¬ 512 < l.length) (ht : tellL l = []) : linesW out k (l :: ls) = linesW out (k + 1) ls := by
  simp only [linesW]; rw [if_neg h, if_pos ht]
theorem linesW_some {out : List (Int × List UInt8)} {k : Nat} {l : List UInt8} {ls : List (List UInt8)} (h : ¬ 512 < l.length) (ht : ¬ tellL l = []) : linesW out k (l :: ls) = linesW (out ++ [((k : Int) + 1, tellL l)]) (k + 1) ls := by
  simp only [linesW]; rw [if_neg h, if_neg ht]

/-- The cells of lines. -/
def Ls (os : List (Int × List UInt8)) : List Value := os.flatMap fun p => [Value.int .i64 p.1, Value.string (mk8 p.2)]
theorem Ls_length (os : List (Int × List UInt8)) : (Ls os).length = os.length * 2 := by
  induction os with
  | nil => rfl
  | cons x t ih => simp only [Ls, List.flatMap_cons, List.length_append, List.length_cons, List.length_nil] at ih ⊢; omega
theorem Ls_snoc (os : List (Int × List UInt8)) (p : Int × List UInt8) : Ls (os ++ [p]) = Ls os ++ [Value.int .i64 p.1, Value.string (mk8 p.2)] := by simp [Ls]
theorem Ls_at : ∀ (os : List (Int × List UInt8)) (i : Nat) (p : Int × List UInt8), os[i]? = some p → (Ls os)[i * 2]? = some (.int .i64 p.1) ∧ (Ls os)[i * 2 + 1]? = some (.string (mk8 p.2))
  | [], i, p, h => by simp at h
  | y :: t, 0, p, h => by
    simp at h
    subst h
    simp [Ls]
  | y :: t, i + 1, p, h => by
    have ih := Ls_at t i p (by simpa using h)
    have e : Ls (y :: t) = Value.int .i64 y.1 :: Value.string (mk8 y.2) :: Ls t := by simp [Ls]
    rw [e, show (i + 1) * 2 = i * 2 + 1 + 1 by omega, show i * 2 + 1 + 1 + 1 = (i * 2 + 1) + 1 + 1 by omega]
    simpa using ih
theorem two_of {n : Int} {s : ByteArray} : ∀ u ∈ [Value.int .i64 n, Value.string s], u.oneCell' = true := by
  intro u hu
  simp at hu
  rcases hu with rfl | rfl <;> rfl
theorem lineElem : ElemK Tryd.prog 23 31 (.agg #[.int .i64 0, .string ByteArray.empty]) 2 24 := ⟨Tryd.underlying23, by kernel_rfl, rfl, by omega⟩
theorem rlineElem : ElemK Tryd.prog 27 32 (.agg #[.int .i64 0, .string ByteArray.empty]) 2 24 := ⟨Tryd.underlying27, by kernel_rfl, rfl, by omega⟩
/-- New lines, and what is wrong. -/
def FreshLE (T : TypeId) (w : World) (r : List (Int × List UInt8) × Int) (e : Ending) (w' : World) : Prop :=
  ∃ A c, e = .returned (.tuple #[.slice A r.1.length c, .int .i64 r.2]) ∧ w'.ownsRow w.heap.size T 2 (.slice A r.1.length c) r.1.length (Ls r.1) ∧ Below w.heap.size w w'
theorem FreshLE.rd {T : TypeId} {w w' : World} {r : List (Int × List UInt8) × Int} {e : Ending} (h : FreshLE T w r e w') : ∃ A c, e = .returned (.tuple #[.slice A r.1.length c, .int .i64 r.2]) ∧ RdK w' A r.1.length 2 (Ls r.1) ∧ Below w.heap.size w w' := by
  obtain ⟨A, c, he, hown, hb⟩ := h
  obtain ⟨A', c', e2, _, _, hr⟩ := RdK.of_own hown
  injection e2 with e2a _ _
  subst e2a
  exact ⟨A, c, he, hr, hb⟩

theorem rlines_any (s : ByteArray) (w : World) (hs : s.size ≤ 1073741824) :
    Calls Tryd.prog 16 #[.string s] w (FreshLE 32 w (linesS (bs s))) := by
  have hpart := cutL_part 10 (bs s)
  have hlen := cutL_len 10 (bs s)
  rw [bs_length] at hpart hlen
  have HC := rcut_any s 10 w hs
  obtain ⟨ls, hls⟩ : ∃ ls, ls = cutL 10 (bs s) := ⟨_, rfl⟩
  have hS : linesS (bs s) = if 4096 < ls.length then ([], 14) else linesW [] 0 ls := by rw [hls]; rfl
  rw [← hls] at HC hpart hlen
  clear hls
  rw [show (UInt8.toNat 10 : Int) = 10 from rfl] at HC
  have HPT := Lib.hid hpart
  clear hpart
  by_cases hbig : 4096 < ls.length
  · rw [if_pos hbig] at hS
    rw [hS]
    have hbi : (4096 : Int) < (ls.length : Int) := by omega
    clear hS
    go_enter Tryd.func16, Tryd.ntmps16
    go_wp2_with fail
    refine HC.mono ?_
    rintro e w1 ⟨A, c, rfl, hown, hb⟩
    go_wp2
    go_returns
    exact ⟨none, 0, rfl, World.ownsRow_nil _ _ _ _, hb⟩
  · rw [if_neg hbig] at hS
    rw [hS]
    have hbi : (ls.length : Int) ≤ 4096 := by omega
    clear hS
    go_enter Tryd.func16, Tryd.ntmps16
    go_wp2_with fail
    refine HC.mono ?_
    intro e w1 hF
    obtain ⟨A, c, rfl, hr, hb1⟩ := hF.rd
    clear hF HC
    go_wp2
    go_loopw [5, 6] (fun v i wr => ∃ (k : Nat) (os : List (Int × List UInt8)) (A' : Option Addr) (c' : Nat), k ≤ ls.length ∧ i = .int .i64 k ∧ os.length ≤ k ∧ Hid (linesW [] 0 ls = linesW os k (ls.drop k)) ∧ v = .slice A' os.length c' ∧ wr.ownsRow w1.heap.size 32 2 (.slice A' os.length c') os.length (Ls os) ∧ Below w1.heap.size w1 wr) (fun _ i _ => ls.length - (intOf i).toNat)
    case atStart => exact ⟨0, [], none, 0, Nat.zero_le _, rfl, Nat.zero_le _, rfl, rfl, World.ownsRow_nil _ _ _ _, Below.refl _ _⟩
    case round =>
      obtain ⟨k, os, A', c', hk, rfl, hol, HR, rfl, hown, hb⟩ := hrel
      have hz := hb.size
      by_cases hin : k < ls.length
      · have hi : (k : Int) < (ls.length : Int) := by omega
        obtain ⟨l, hl⟩ : ∃ l, ls[k]? = some l := ⟨_, List.getElem?_eq_getElem hin⟩
        have hll := HPT.out l (List.mem_of_getElem? hl)
        have hd := drop_get hl
        obtain ⟨b, off, rfl, hbl, hcx⟩ := (hr.below hb).at_ (by omega)
        have hc0 := hcx k _ (Ss_get hl)
        clear hcx
        have hsz : (mk8 l).size ≤ 1073741824 := by rw [mk8_size]; omega
        by_cases hlong : 512 < l.length
        · have hres : linesW [] 0 ls = ([], 10) := by rw [HR.out, hd, linesW_long hlong]
          have HRES := Lib.hid hres
          have hlo : (512 : Int) < ((mk8 l).size : Int) := by rw [mk8_size]; omega
          clear hlong hd hres hl
          go_wp2
          go_returns
          rw [HRES.out]
          exact ⟨none, 0, rfl, World.ownsRow_nil _ _ _ _, below_then hb1 hb⟩
        · have hlo : ((mk8 l).size : Int) ≤ 512 := by rw [mk8_size]; omega
          have hcf := cut_first 35 l
          have hcp := cutL_part 35 l
          have HC2 := fun w => rcut_any (mk8 l) 35 w hsz
          rw [bs_mk8, show (UInt8.toNat 35 : Int) = 35 from rfl] at HC2
          obtain ⟨t, ht⟩ : ∃ t, t = (Lib.cut l [35]).1 := ⟨_, rfl⟩
          rw [← ht] at hcf
          have htl : tellL l = bareL t := by rw [ht]; rfl
          have htz := hcp t (List.mem_of_getElem? hcf)
          have hn0 : 0 < (cutL 35 l).length := (List.getElem?_eq_some_iff.1 hcf).1
          have hn0' : (0 : Int) < ((cutL 35 l).length : Int) := by omega
          have htz2 : (mk8 t).size ≤ 4611686018427387904 := by rw [mk8_size]; omega
          have hbt := bareL_len t
          by_cases hte : bareL t = []
          · have HR2 : Hid (linesW [] 0 ls = linesW os (k + 1) (ls.drop (k + 1))) := by show _ = _; rw [HR.out, hd, linesW_none hlong (by rw [htl]; exact hte)]
            clear hd hlong htl ht hcp htz hbt
            go_wp2_with fail
            refine (HC2 _).mono ?_
            intro e w2 hF2
            obtain ⟨A2, c2, rfl, hr2, hb2⟩ := hF2.rd
            obtain ⟨b2, off2, rfl, hbl2, hcx2⟩ := hr2.at_ hn0
            have hc2 := hcx2 0 _ (Ss_get hcf)
            rw [Nat.add_zero] at hc2
            have hown2 := own_belowK hown hb2
            have hb3 := below_then hb hb2
            clear hcx2 hr2 hF2 hown hb hcf HC2
            go_wp2_with fail
            refine (rbare_any _ _ htz2).mono ?_
            rw [bs_mk8, hte, show mk8 [] = ⟨#[]⟩ from rfl]
            rintro e w3 ⟨rfl, rfl⟩
            go_wp2
            go_roundw
            case rel => exact ⟨k + 1, os, A', c', by omega, by go_num, by omega, HR2, rfl, hown2, hb3⟩
            case measure => simp [intOf]; omega
          · have HR2 : Hid (linesW [] 0 ls = linesW (os ++ [((k : Int) + 1, bareL t)]) (k + 1) (ls.drop (k + 1))) := by show _ = _; rw [HR.out, hd, linesW_some hlong (by rw [htl]; exact hte), htl]
            have hne1 : ¬ (mk8 (bareL t)).size = 0 := by rw [mk8_size]; intro h0; exact hte (List.eq_nil_of_length_eq_zero h0)
            have hne2 : (mk8 (bareL t)).toList.isEmpty = false := str_ne hne1
            have hne3 : (!(mk8 (bareL t)).toList.isEmpty) = true := by rw [hne2]; rfl
            clear hd hlong htl ht hcp htz hbt hne1 hte
            go_wp2_with fail
            refine (HC2 _).mono ?_
            intro e w2 hF2
            obtain ⟨A2, c2, rfl, hr2, hb2⟩ := hF2.rd
            obtain ⟨b2, off2, rfl, hbl2, hcx2⟩ := hr2.at_ hn0
            have hc2 := hcx2 0 _ (Ss_get hcf)
            rw [Nat.add_zero] at hc2
            have hown2 := own_belowK hown hb2
            have hb3 := below_then hb hb2
            have hz3 := hb3.size
            clear hcx2 hr2 hF2 hown hb hcf HC2
            go_wp2_with fail
            refine (rbare_any _ _ htz2).mono ?_
            rw [bs_mk8]
            rintro e w3 ⟨rfl, rfl⟩
            go_wp2_with (at_builtin; refine wpList_appK rlineElem _ rfl _ _ rfl w1.heap.size rfl (own_belowK hown2 ((Below.refl _ _).alloc (Nat.le_refl _) _)) rfl (RdK.new _ _ 1 _ rfl) two_of (by omega) (by omega) (by simp; omega) ?_)
            intro A3 c3 w4 hown4 hg4 hat4
            have hb4 := below_appK (hb3.alloc hz3 _) (by simp; omega) (Nat.le_refl _) (own_belowK hown2 ((Below.refl _ _).alloc (Nat.le_refl _) _)) hg4
            go_wp2
            go_roundw
            case rel => exact ⟨k + 1, os ++ [((k : Int) + 1, bareL t)], A3, c3, by omega, by go_num, by simp; omega, HR2, by simp, by rw [Ls_snoc]; simpa using hown4, hb4⟩
            case measure => simp [intOf]; omega
      · have hi : (ls.length : Int) ≤ (k : Int) := by omega
        have hres : linesW [] 0 ls = (os, 0) := by rw [HR.out, List.drop_of_length_le (by omega)]; rfl
        have HRES := Lib.hid hres
        clear hres
        go_wp2
        go_returns
        rw [HRES.out]
        exact ⟨A', c', rfl, own_baseK hown hb1.size, below_then hb1 hb⟩
end Go.Proofs.YtagncjnbabdbmaaDoor
