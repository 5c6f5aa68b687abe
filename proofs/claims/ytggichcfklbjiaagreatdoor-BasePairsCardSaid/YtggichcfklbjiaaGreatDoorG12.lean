/- Lines of a text: the code's. Its inner function writes on a variable of the outer one. Bytes that a text tells: the word, and the code's. -/
import Derived.Test.YtggichcfklbjiaaGreatDoorG11
import Derived.Test.YtggichcfklbjiaaGreatDoorG10
import Derived.Laws.IdiomStrings
section
set_option linter.unusedSimpArgs false
set_option linter.unusedVariables false
namespace Go.Proofs.YtggichcfklbjiaaGreatDoor
open Go.RowKit

theorem own_other {w w' : World} {B k : Nat} {e : TypeId} {v : Value} {n : Nat} {xs : List Value} (h : w.ownsRow B e k v n xs) (hk : ∀ g, B ≤ g → w'.heap[g]? = w.heap[g]?) : w'.ownsRow B e k v n xs := by
  refine ⟨h.1, ?_⟩
  rcases h.2 with hn | ⟨g, cap, cur, hv, hg, hh, rest⟩
  · exact .inl hn
  · exact .inr ⟨g, cap, cur, hv, hg, (hk g hg).trans hh, rest⟩
theorem bareZ (l : List UInt8) (w : World) (hs : l.length ≤ 1073741824) :
    Calls Tryz.prog 72 #[.string (mk8 l)] w fun e w' => e = .returned (.string (mk8 (bareL l))) ∧ Below w.heap.size w w' := bareM l w (by rw [mk8_size]; exact hs)
/-- What the variable at p holds: lines of the call's own. -/
structure HoldsL (p : Nat) (os : List (Int × List UInt8)) (w : World) : Prop where
  ex : ∃ A c, w.cell? ⟨p, 0, none⟩ = some (.slice A os.length c) ∧ w.ownsRow (p + 1) 96 2 (.slice A os.length c) os.length (Ls os)
  fz : w.frozen? ⟨p, 0, none⟩ = false
theorem tell_any (no : Int) (l : List UInt8) (p : Nat) (os : List (Int × List UInt8)) (w : World) (hE : Env w) (hsz : l.length ≤ 512) (hol : os.length ≤ 100000) (hh : HoldsL p os w) :
    Calls Tryz.prog 70 #[.int .i64 no, .string (mk8 l), .pointer (some ⟨p, 0, none⟩)] w fun e w' => e = .returned (.tuple #[]) ∧ HoldsL p (if tellL l = [] then os else os ++ [(no, tellL l)]) w' ∧ Below p w w' := by
  have HC := cut_any (mk8 l) ⟨#[35]⟩ w hE (by rw [mk8_size]; omega)
  rw [bs_mk8, show bs ⟨#[35]⟩ = [35] from rfl] at HC
  have hcl := (cut_le l [35]).1
  have htl : tellL l = bareL (Lib.cut l [35]).1 := rfl
  obtain ⟨⟨a, b, is⟩, hx⟩ : ∃ x, x = Lib.cut l [35] := ⟨_, rfl⟩
  rw [← hx] at HC hcl htl
  simp only [] at HC hcl htl
  rw [htl]
  clear hx htl
  obtain ⟨⟨A, c, hcell, hown⟩, hfz⟩ := hh
  have hp : p < w.heap.size := World.block_lt_of_cell? w _ hcell
  by_cases hte : bareL a = []
  · rw [if_pos hte]
    go_enter Tryz.func70, Tryz.ntmps70
    go_wp2_with fail
    refine HC.mono ?_
    rintro e w1 ⟨rfl, hb1⟩
    go_wp2_with fail
    refine (bareZ _ _ (by omega)).mono ?_
    rw [hte, show mk8 [] = ⟨#[]⟩ from rfl]
    rintro e w2 ⟨rfl, hb2⟩
    have hb := below_then hb1 hb2
    go_wp2
    go_returns
    exact ⟨rfl, ⟨⟨A, c, by rw [hb.cell hp]; exact hcell, own_belowK hown hb⟩, by rw [hb.frozen hp]; exact hfz⟩, hb.mono (by omega)⟩
  · rw [if_neg hte]
    have hne1 : ¬ (mk8 (bareL a)).size = 0 := by rw [mk8_size]; intro h0; exact hte (List.eq_nil_of_length_eq_zero h0)
    have hne2 : (mk8 (bareL a)).toList.isEmpty = false := str_ne hne1
    have hne3 : (!(mk8 (bareL a)).toList.isEmpty) = true := by rw [hne2]; rfl
    clear hne1 hte
    go_enter Tryz.func70, Tryz.ntmps70
    go_wp2_with fail
    refine HC.mono ?_
    rintro e w1 ⟨rfl, hb1⟩
    go_wp2_with fail
    refine (bareZ _ _ (by omega)).mono ?_
    rintro e w2 ⟨rfl, hb2⟩
    have hb := below_then hb1 hb2
    have hcell2 : w2.cell? ⟨p, 0, none⟩ = some (.slice A os.length c) := by rw [hb.cell hp]; exact hcell
    have hown2 := own_belowK hown hb
    have hfz2 : w2.frozen? ⟨p, 0, none⟩ = false := by rw [hb.frozen hp]; exact hfz
    have hp2 : p < w2.heap.size := World.block_lt_of_cell? w2 _ hcell2
    have hb' := hb.mono (show p ≤ w.heap.size by omega)
    clear hcell hown hfz hb1 hb2 hb HC
    go_wp2_with (at_builtin; refine wpList_appK lineElem _ rfl _ _ rfl (p + 1) rfl (own_belowK hown2 ((Below.refl _ _).alloc (Nat.le_refl _) _)) rfl (RdK.new _ _ 1 _ rfl) two_of (by omega) (by omega) (by simp; omega) ?_)
    intro A3 c3 w4 hown4 hg4 hat4
    have hb4 := below_appK (hb'.alloc (by omega) _) (by simp; omega) (Nat.le_succ p) (own_belowK hown2 ((Below.refl _ _).alloc (Nat.le_refl _) _)) hg4
    have hal := (Below.refl w2.heap.size w2).alloc (Nat.le_refl _) (.cells #[.int .i64 no, .string (mk8 (bareL a))] 96)
    have hne : ∀ k, (Value.slice A os.length c).ownBlock = some k → p + 1 ≤ k := fun k hk => (hown2.lt k hk).1
    have hblk : w4.heap[p]? = w2.heap[p]? := by
      refine (hg4.block p (by simp; omega) (fun h => ?_)).trans (hal.block p hp2)
      have := hne p h.symm
      omega
    have hcell4 : w4.cell? ⟨p, 0, none⟩ = some (.slice A os.length c) := (World.cell?_of_block (a := ⟨p, 0, none⟩) hblk).trans hcell2
    have hfz4 : w4.frozen? ⟨p, 0, none⟩ = false := (World.frozen?_of_block (a := ⟨p, 0, none⟩) hblk).trans hfz2
    clear hblk hne hal hown2 hat4 hg4
    go_wp2
    go_returns
    refine ⟨rfl, ⟨⟨A3, c3, ?_, ?_⟩, ?_⟩, hb4.setCell (Nat.le_refl p) _⟩
    · rw [World.cell?_setCell_same' w4 _ _ (by rw [hcell4]; rfl)]; simp
    · rw [Ls_snoc]
      have := own_other hown4 (w' := w4.setCell ⟨p, 0, none⟩ (.slice A3 (os.length + 1) c3)) (fun g hg => Below.heap_setCell _ _ _ g (by show g ≠ p; omega))
      simpa using this
    · rw [World.frozen?_setCell]; exact hfz4
theorem lines_any (s : ByteArray) (w : World) (hE : Env w) (hs : s.size ≤ 1073741824) :
    Calls Tryz.prog 42 #[.string s] w (FreshLE 96 w (linesS (bs s))) := by
  have hpart := cutL_part 10 (bs s)
  rw [bs_length] at hpart
  have HC := fsplit_any s 10 w hE hs
  obtain ⟨ls, hls⟩ : ∃ ls, ls = cutL 10 (bs s) := ⟨_, rfl⟩
  have hS : linesS (bs s) = if 4096 < ls.length then ([], 14) else linesW [] 0 ls := by rw [hls]; rfl
  rw [← hls] at HC hpart
  clear hls
  have HPT := Lib.hid hpart
  clear hpart
  by_cases hbig : 4096 < ls.length
  · rw [if_pos hbig] at hS
    rw [hS]
    have hbi : (4096 : Int) < (ls.length : Int) := by omega
    clear hS
    go_enter Tryz.func42, Tryz.ntmps42
    go_wp2_with fail
    refine HC.mono ?_
    rintro e w1 ⟨A, c, rfl, hown, hb⟩
    go_wp2
    go_returns
    exact ⟨none, 0, rfl, World.ownsRow_nil _ _ _ _, hb⟩
  · rw [if_neg hbig] at hS
    rw [hS]
    have hbi : (ls.length : Int) ≤ 4096 := by omega
    clear hS
    have hmf : ∀ (fn : Fn) (first cap : Array Value) (w : World), (Instr.makeFunc fn first cap).run Tryz.prog w = .ok (.func fn first cap) w := fun _ _ _ _ => rfl
    go_enter Tryz.func42, Tryz.ntmps42
    go_wp2_with fail
    refine HC.mono ?_
    intro e w1 hF
    obtain ⟨A, c, rfl, hr, hb1⟩ := hF.rd
    have hE1 := hE.below hb1
    clear hF HC
    have hH : HoldsL w1.heap.size [] (w1.alloc (.cells #[.slice none 0 0] 84)) := ⟨⟨none, 0, World.cell?_alloc_at _ _ _ _ rfl, World.ownsRow_nil _ _ _ _⟩, World.frozen?_alloc_at _ _ _ _ rfl⟩
    have hB0 := (Below.refl w1.heap.size w1).alloc (Nat.le_refl _) (.cells #[.slice none 0 0] 84)
    go_wp2
    go_loopw [17] (fun i wr => ∃ (k : Nat) (os : List (Int × List UInt8)), k ≤ ls.length ∧ i = .int .i64 k ∧ os.length ≤ k ∧ Hid (linesW [] 0 ls = linesW os k (ls.drop k)) ∧ HoldsL w1.heap.size os wr ∧ Below w1.heap.size w1 wr) (fun i _ => ls.length - (intOf i).toNat)
    case atStart => exact ⟨0, [], Nat.zero_le _, rfl, Nat.zero_le _, rfl, hH, hB0⟩
    case round =>
      obtain ⟨k, os, hk, rfl, hol, HR, hh, hb⟩ := hrel
      clear hH hB0
      by_cases hin : k < ls.length
      · have hi : (k : Int) < (ls.length : Int) := by omega
        obtain ⟨l, hl⟩ : ∃ l, ls[k]? = some l := ⟨_, List.getElem?_eq_getElem hin⟩
        have hll := HPT.out l (List.mem_of_getElem? hl)
        have hd := drop_get hl
        obtain ⟨b, off, rfl, hbl, hcx⟩ := (hr.below hb).at_ (by omega)
        have hc0 := hcx k _ (Ss_get hl)
        clear hcx
        by_cases hlong : 512 < l.length
        · have hres : linesW [] 0 ls = ([], 10) := by rw [HR.out, hd, linesW_long hlong]
          have HRES := Lib.hid hres
          have hlo : (512 : Int) < ((mk8 l).size : Int) := by rw [mk8_size]; omega
          clear hlong hd hres hl
          go_wp2
          go_returns
          rw [HRES.out]
          exact ⟨none, 0, rfl, World.ownsRow_nil _ _ _ _, below_then hb1 hb⟩
        · have hlo : ((mk8 l).size : Int) ≤ 512 := by rw [mk8_size]; omega
          have hst : linesW os k (ls.drop k) = linesW (if tellL l = [] then os else os ++ [((k : Int) + 1, tellL l)]) (k + 1) (ls.drop (k + 1)) := by
            rw [hd]
            by_cases ht : tellL l = []
            · rw [linesW_none hlong ht, if_pos ht]
            · rw [linesW_some hlong ht, if_neg ht]
          have HT := tell_any ((k : Int) + 1) l w1.heap.size os wr (hE1.below hb) (by omega) (by omega) hh
          have hol2 : (if tellL l = [] then os else os ++ [((k : Int) + 1, tellL l)]).length ≤ k + 1 := by
            split
            · omega
            · rw [List.length_append, List.length_singleton]; omega
          obtain ⟨os2, hos2⟩ : ∃ o, o = (if tellL l = [] then os else os ++ [((k : Int) + 1, tellL l)]) := ⟨_, rfl⟩
          rw [← hos2] at hst HT hol2
          have HR2 : Hid (linesW [] 0 ls = linesW os2 (k + 1) (ls.drop (k + 1))) := by show _ = _; rw [HR.out, hst]
          clear hst hos2 hd hlong hh hl
          go_wp2_with fail
          refine HT.mono ?_
          rintro e w2 ⟨rfl, hh2, hb2⟩
          have hb3 := hb.trans hb2
          go_wp2
          go_roundw
          case rel => exact ⟨k + 1, os2, by omega, by go_num, hol2, HR2, hh2, hb3⟩
          case measure => simp [intOf]; omega
      · have hi : (ls.length : Int) ≤ (k : Int) := by omega
        have hres : linesW [] 0 ls = (os, 0) := by rw [HR.out, List.drop_of_length_le (by omega)]; rfl
        have HRES := Lib.hid hres
        obtain ⟨⟨A', c', hcell, hown⟩, hfz⟩ := hh
        clear hres hfz
        go_wp2
        go_returns
        rw [HRES.out]
        have := hb1.size
        exact ⟨A', c', rfl, own_baseK hown (by omega), below_then hb1 hb⟩
end Go.Proofs.YtggichcfklbjiaaGreatDoor
end

section
set_option linter.unusedSimpArgs false
set_option linter.unusedVariables false
namespace Go.Proofs.YtggichcfklbjiaaGreatDoor
open Go.RowKit

def bytesF (ahead : List UInt8) : Nat → List UInt8 → List UInt8 → List UInt8 × Int
  | 0, out, _ => (out, 0)
  | f + 1, out, s =>
    if out ≠ [] ∧ s = [] then (out, 0)
    else if Lib.hasPrefix s ahead = true ∧ 2 ≤ (s.drop ahead.length).length then
      (if numS 16 2 ((s.drop ahead.length).take 2) < 0 then ([], 10)
       else bytesF ahead f (out ++ [UInt8.ofNat (numS 16 2 ((s.drop ahead.length).take 2)).toNat]) ((s.drop ahead.length).drop 2))
    else ([], 10)
def bytesS (ahead s : List UInt8) : List UInt8 × Int := bytesF ahead (s.length + 1) [] s
theorem bytesF_end {ahead out s : List UInt8} {f : Nat} (ho : out ≠ []) (hs : s = []) : bytesF ahead (f + 1) out s = (out, 0) := by
  simp only [bytesF]; rw [if_pos ⟨ho, hs⟩]
theorem bytesF_no {ahead out s : List UInt8} {f : Nat} (h : ¬ (out ≠ [] ∧ s = [])) (hp : ¬ (Lib.hasPrefix s ahead = true ∧ 2 ≤ (s.drop ahead.length).length)) : bytesF ahead (f + 1) out s = ([], 10) := by
  simp only [bytesF]; rw [if_neg h, if_neg hp]
theorem bytesF_bad {ahead out s : List UInt8} {f : Nat} (h : ¬ (out ≠ [] ∧ s = [])) (hp : Lib.hasPrefix s ahead = true ∧ 2 ≤ (s.drop ahead.length).length) (hn : numS 16 2 ((s.drop ahead.length).take 2) < 0) : bytesF ahead (f + 1) out s = ([], 10) := by
  simp only [bytesF]; rw [if_neg h, if_pos hp, if_pos hn]
theorem bytesF_more {ahead out s : List UInt8} {f : Nat} (h : ¬ (out ≠ [] ∧ s = [])) (hp : Lib.hasPrefix s ahead = true ∧ 2 ≤ (s.drop ahead.length).length) (hn : ¬ numS 16 2 ((s.drop ahead.length).take 2) < 0) :
    bytesF ahead (f + 1) out s = bytesF ahead f (out ++ [UInt8.ofNat (numS 16 2 ((s.drop ahead.length).take 2)).toNat]) ((s.drop ahead.length).drop 2) := by
  simp only [bytesF]; rw [if_neg h, if_pos hp, if_neg hn]

abbrev Bs (l : List UInt8) : List Value := l.map (fun b => Value.int .u8 b.toNat)
theorem byteElem : Elem Tryz.prog 135 5 (.int .u8 0) 1 := ⟨Tryz.underlying135, by kernel_rfl, rfl⟩
theorem byte_val {n : Int} (h0 : 0 ≤ n) (h1 : n ≤ 255) : Value.int .u8 n = Value.int .u8 ((UInt8.ofNat n.toNat).toNat : Int) := by
  have h : ∀ m : Nat, m < 256 → (UInt8.ofNat m).toNat = m := fun m hm => by
    rw [UInt8.toNat_ofNat', Nat.mod_eq_of_lt (show m < 2 ^ 8 from hm)]
  rw [h n.toNat (by omega), Int.toNat_of_nonneg h0]
theorem ret_se {a a' : ByteArray} {b b' : Int} (h1 : a = a') (h2 : b = b') : Ending.returned (.tuple #[.string a, .int .i64 b]) = .returned (.tuple #[.string a', .int .i64 b']) := by rw [h1, h2]
theorem own_bytes {w : World} {base : Nat} {A : Option Addr} {c : Nat} {l : List UInt8} (h : w.ownsRow base 5 1 (.slice A l.length c) l.length (Bs l)) (hl : l ≠ []) :
    ∃ b off, A = some ⟨b, off, none⟩ ∧ ∀ j u, (Bs l)[j]? = some u → w.cell? ⟨b, off + j, none⟩ = some u := by
  have hlen : 0 < l.length := List.length_pos_iff.2 hl
  obtain ⟨A', c', e, _, _, hr⟩ := Rd.of_own h
  injection e with e1 _ e2
  subst e1 e2
  exact hr.2 hlen
theorem bytes_str {w : World} {base : Nat} {A : Option Addr} {c : Nat} {l : List UInt8} (h : w.ownsRow base 5 1 (.slice A l.length c) l.length (Bs l)) (hl : l ≠ []) :
    (convert 135 9 (.slice A l.length c)).run Tryz.prog w = .ok (.string (mk8 l)) w :=
  (own_bytes h hl).elim fun b h1 => h1.elim fun off h2 => by
    rw [h2.1]
    refine run_convert_bytes_back w 135 9 5 ⟨b, off, none⟩ c l Tryz.underlying135 Tryz.underlying5 Tryz.underlying9 (fun j hj => ?_)
    rw [Addr.add_lit]
    exact h2.2 j _ (by simp [hj])
theorem cutprefix_any (s p : ByteArray) (w : World) :
    Calls Tryz.prog 73 #[.string s, .string p] w fun e w' => e = .returned (.tuple #[.string (mk8 (Lib.trimPrefix (bs s) (bs p))), .bool (Lib.hasPrefix (bs s) (bs p))]) ∧ w = w' := by
  refine (Tryz.strings_CutPrefix s p w).mono ?_
  rintro e w' ⟨rfl, rfl⟩
  exact ⟨rfl, rfl⟩
theorem num16bM (l : List UInt8) (w : World) (hs : l.length ≤ 1073741824) :
    Calls Tryz.prog 91 #[.string ((mk8 l).extract 0 2), .int .i64 16, .int .i64 2] w fun e w' => e = .returned (.int .i64 (numS 16 2 (l.take 2))) ∧ Below w.heap.size w w' := by
  have := number16b ((mk8 l).extract 0 2) w (by have := mk8_size l; rw [ByteArray.size_extract]; omega)
  rw [bs_extract, bs_mk8, List.drop_zero] at this
  exact this
end Go.Proofs.YtggichcfklbjiaaGreatDoor
end
