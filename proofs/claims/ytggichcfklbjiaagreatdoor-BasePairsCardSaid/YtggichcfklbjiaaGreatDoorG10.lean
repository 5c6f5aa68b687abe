/- The contracts of the code's words: characters told one by one, a range of characters, what stands between bytes. The contracts of the code's Split. -/
import Derived.Test.YtggichcfklbjiaaGreatDoorG08
import Derived.Test.YtggichcfklbjiaaGreatDoorG09
import Derived.Laws.IdiomStrings
section
set_option linter.unusedSimpArgs false
set_option linter.unusedVariables false
namespace Go.Proofs.YtggichcfklbjiaaGreatDoor
open Go.RowKit

/-- What the library's search needs of the world: one of its variables is a number. -/
def Env (w : World) : Prop := ∃ m, w.cell? ⟨1, 0, none⟩ = some (.int .i64 m) ∧ 1 < w.heap.size
theorem Env.below {w w' : World} (h : Env w) (hb : Below w.heap.size w w') : Env w' := by
  obtain ⟨m, hm, hl⟩ := h
  exact ⟨m, by rw [hb.cell hl]; exact hm, by have := hb.size; omega⟩
theorem own_base {w : World} {B B' : Nat} {e : TypeId} {v : Value} {n : Nat} {xs : List Value} (h : w.ownsRow B e 1 v n xs) (hb : B' ≤ B) : w.ownsRow B' e 1 v n xs := by
  obtain ⟨h1, h2⟩ := h
  refine ⟨h1, ?_⟩
  rcases h2 with h2 | ⟨g, cap, cur, h2, h3, h4⟩
  · exact .inl h2
  · exact .inr ⟨g, cap, cur, h2, by omega, h4⟩
theorem words_part (s : ByteArray) : ∀ (k : Nat) (l : List UInt8), (wordsL (bs s))[k]? = some l → l.length ≤ s.size := by
  intro k l h
  have := (words_len (bs s) []).2 l (List.mem_of_getElem? h)
  rw [bs_length] at this
  simpa using this
theorem drop_get {α : Type} {l : List α} {k : Nat} {x : α} (h : l[k]? = some x) : l.drop k = x :: l.drop (k + 1) := by
  obtain ⟨hk, hx⟩ := List.getElem?_eq_some_iff.1 h
  rw [List.drop_eq_getElem_cons hk, hx]
theorem hexM (l : List UInt8) (w : World) (hs : (mk8 l).size ≤ 1073741824) :
    Calls Tryz.prog 75 #[.string (mk8 l)] w fun e w' => e = .returned (.tuple #[.int .i32 (hexS l).1, .int .i64 (hexS l).2]) ∧ Below w.heap.size w w' := hex_any (mk8 l) w (by omega)
theorem bareM (l : List UInt8) (w : World) (hs : (mk8 l).size ≤ 1073741824) :
    Calls Tryz.prog 72 #[.string (mk8 l)] w fun e w' => e = .returned (.string (mk8 (bareL l))) ∧ Below w.heap.size w w' := bare_any (mk8 l) w (by omega)
theorem runes04_any (s : ByteArray) (w : World) (hs : s.size ≤ 1073741824) :
    Calls Tryz.prog 94 #[.string s] w (FreshRE w (runesS (bs s))) := by
  have hwl := (words_len (bs s) []).1
  rw [bs_length] at hwl
  have hwp := words_part s
  obtain ⟨ws, hws⟩ : ∃ ws, ws = wordsL (bs s) := ⟨_, rfl⟩
  have HF := ffields_any s w (by omega)
  have hS : runesS (bs s) = runesW [] ws := by rw [hws]; rfl
  have hwl2 : ws.length ≤ s.size + 1 := by rw [hws]; exact hwl
  rw [← hws] at HF hwp
  rw [hS]
  clear hwl hws hS
  go_enter Tryz.func94, Tryz.ntmps94
  go_wp2_with fail
  refine HF.mono ?_
  rintro e w1 hF1
  obtain ⟨A, c, rfl, hr, hb1⟩ := hF1.rd
  clear hF1 HF
  go_wp2
  go_loopw [4, 12] (fun v i wr => ∃ (k : Nat) (os : List Int) (A' : Option Addr) (c' : Nat), k ≤ ws.length ∧ i = .int .i64 k ∧ os.length ≤ k ∧ Hid (runesW [] ws = runesW os (ws.drop k)) ∧ v = .slice A' os.length c' ∧ wr.ownsRow w1.heap.size 21 1 (.slice A' os.length c') os.length (Rs os) ∧ Below w1.heap.size w1 wr) (fun _ i _ => ws.length - (intOf i).toNat)
  case atStart => exact ⟨0, [], none, 0, Nat.zero_le _, rfl, Nat.zero_le _, rfl, rfl, World.ownsRow_nil _ _ _ _, Below.refl _ _⟩
  case round =>
    obtain ⟨k, os, A', c', hk, rfl, hol, HR, rfl, hown, hb⟩ := hrel
    have hz := hb.size
    by_cases hin : k < ws.length
    · have hi : (k : Int) < (ws.length : Int) := by omega
      obtain ⟨l, hl⟩ : ∃ l, ws[k]? = some l := ⟨_, List.getElem?_eq_getElem hin⟩
      have hll := hwp k l hl
      have hd := drop_get hl
      obtain ⟨b, off, rfl, hbl, hcx⟩ := (hr.below hb).at_ (by omega)
      have hc0 := hcx k _ (Ss_get hl)
      clear hcx
      have hll2 : (mk8 l).size ≤ 1073741824 := by rw [mk8_size]; omega
      by_cases hg : (hexS l).2 = 0
      · have HR2 : Hid (runesW [] ws = runesW (os ++ [(hexS l).1]) (ws.drop (k + 1))) := by show _ = _; rw [HR.out, hd, runesW_good hg]
        have hgb : ((hexS l).2 != 0) = false := by simp [hg]
        clear hg hd
        go_wp2_with fail
        refine (hexM _ _ (by omega)).mono ?_
        rintro e w2 ⟨rfl, hb2⟩
        have hown2 := own_below hown hb2
        have hb3 := below_then hb hb2
        have hz2 := hb2.size
        go_wp2_with (at_builtin; refine wpList_app runeElem _ rfl _ _ rfl w1.heap.size rfl (hown2.alloc _) rfl (Rd.new1 _ _ _) (one_of rfl) (by omega) (by omega) (by simp; omega) ?_)
        intro A2 c2 w3 hown3 hg3 hat3
        have hb4 := below_app (hb3.alloc (by omega) _) (by simp; omega) (hown2.alloc _) hg3
        go_wp2
        go_roundw
        case rel => exact ⟨k + 1, os ++ [(hexS l).1], A2, c2, by omega, by go_num, by simp; omega, HR2, by simp, by simpa using hown3, hb4⟩
        case measure => simp [intOf]; omega
      · have hres : runesW [] ws = ([], (hexS l).2) := by rw [HR.out, hd, runesW_bad hg]
        have hgb : ((hexS l).2 != 0) = true := by simp [hg]
        have HRES := Lib.hid hres
        clear hg hd hres
        go_wp2_with fail
        refine (hexM _ _ (by omega)).mono ?_
        rintro e w2 ⟨rfl, hb2⟩
        go_wp2
        go_returns
        rw [HRES.out]
        exact ⟨none, 0, rfl, World.ownsRow_nil _ _ _ _, below_then hb1 (below_then hb hb2)⟩
    · have hi : (ws.length : Int) ≤ (k : Int) := by omega
      have hres : runesW [] ws = (os, 0) := by rw [HR.out, List.drop_of_length_le (by omega)]; rfl
      have HRES := Lib.hid hres
      clear hres
      go_wp2
      go_returns
      rw [HRES.out]
      exact ⟨A', c', rfl, own_base hown hb1.size, below_then hb1 hb⟩

def rangeT (a b : List UInt8) : Int × Int × Int :=
  if (hexS a).2 ≠ 0 then (0, 0, (hexS a).2) else if (hexS b).2 ≠ 0 then (0, 0, (hexS b).2) else if (hexS b).1 < (hexS a).1 then (0, 0, 11) else ((hexS a).1, (hexS b).1, 0)
def rangeS (l : List UInt8) : Int × Int × Int :=
  if (Lib.cut l [46, 46]).2.2 = true then rangeT (bareL (Lib.cut l [46, 46]).1) (bareL (Lib.cut l [46, 46]).2.1) else rangeT l l
theorem ret_rre {a b c a' b' c' : Int} (h1 : a = a') (h2 : b = b') (h3 : c = c') : Ending.returned (.tuple #[.int .i32 a, .int .i32 b, .int .i64 c]) = .returned (.tuple #[.int .i32 a', .int .i32 b', .int .i64 c']) := by rw [h1, h2, h3]
theorem cut_le (l sep : List UInt8) : (Lib.cut l sep).1.length ≤ l.length ∧ (Lib.cut l sep).2.1.length ≤ l.length := by
  unfold Lib.cut
  split
  · simp only [List.length_take, List.length_drop]; omega
  · simp
theorem cut_miss {l sep : List UInt8} (h : (Lib.cut l sep).2.2 = false) : (Lib.cut l sep).1 = l := by
  unfold Lib.cut at h ⊢
  split at h
  · simp at h
  · rename_i hh; rw [if_neg hh]
theorem cut_any (s sep : ByteArray) (w : World) (hE : Env w) (hs : s.size < 4294967281) :
    Calls Tryz.prog 71 #[.string s, .string sep] w fun e w' => e = .returned (.tuple #[.string (mk8 (Lib.cut (bs s) (bs sep)).1), .string (mk8 (Lib.cut (bs s) (bs sep)).2.1), .bool (Lib.cut (bs s) (bs sep)).2.2]) ∧ Below w.heap.size w w' := by
  obtain ⟨m, hm, _⟩ := hE
  refine (Tryz.strings_Cut s sep m w hs hm).mono ?_
  rintro e w' ⟨rfl, n, rfl⟩
  exact ⟨rfl, below_drewN _ _ _⟩
theorem range_any (s : ByteArray) (w : World) (hE : Env w) (hs : s.size ≤ 1073741824) :
    Calls Tryz.prog 47 #[.string s] w fun e w' => e = .returned (.tuple #[.int .i32 (rangeS (bs s)).1, .int .i32 (rangeS (bs s)).2.1, .int .i64 (rangeS (bs s)).2.2]) ∧ Below w.heap.size w w' := by
  have HC := cut_any s ⟨#[46, 46]⟩ w hE (by omega)
  have hl := cut_le (bs s) [46, 46]
  have hmiss := cut_miss (l := bs s) (sep := [46, 46])
  have hx : ∃ x, x = Lib.cut (bs s) [46, 46] := ⟨_, rfl⟩
  obtain ⟨⟨a, b, is⟩, hx⟩ := hx
  have hR : rangeS (bs s) = if is = true then rangeT (bareL a) (bareL b) else rangeT (bs s) (bs s) := by unfold rangeS; rw [← hx]
  rw [show bs ⟨#[46, 46]⟩ = [46, 46] from rfl, ← hx] at HC
  rw [← hx] at hl hmiss
  rw [hR, bs_length] at *
  simp only [] at hl hmiss HC
  clear hx hR
  obtain ⟨hla, hlb⟩ := hl
  have hsa : (mk8 a).size ≤ 1073741824 := by rw [mk8_size]; omega
  have hsb : (mk8 b).size ≤ 1073741824 := by rw [mk8_size]; omega
  cases is with
  | true =>
    rw [if_pos rfl]
    clear hmiss
    have hsa2 : (mk8 (bareL a)).size ≤ 1073741824 := by have := bareL_len a; rw [mk8_size]; omega
    have hsb2 : (mk8 (bareL b)).size ≤ 1073741824 := by have := bareL_len b; rw [mk8_size]; omega
    by_cases h1 : (hexS (bareL a)).2 = 0
    · by_cases h2 : (hexS (bareL b)).2 = 0
      · have g1 : ((hexS (bareL a)).2 != 0) = false := by simp [h1]
        have g2 : ((hexS (bareL b)).2 != 0) = false := by simp [h2]
        by_cases h3 : (hexS (bareL b)).1 < (hexS (bareL a)).1
        · have hr : rangeT (bareL a) (bareL b) = (0, 0, 11) := by unfold rangeT; rw [if_neg (by simp [h1]), if_neg (by simp [h2]), if_pos h3]
          have HR := Lib.hid hr
          clear hr h1 h2
          go_enter Tryz.func47, Tryz.ntmps47
          go_wp2_with fail
          refine HC.mono ?_
          rintro e w1 ⟨rfl, hb1⟩
          go_wp2_with fail
          refine (bareM _ _ (by omega)).mono ?_
          rintro e w2 ⟨rfl, hb2⟩
          have hb2' := below_then hb1 hb2
          go_wp2_with fail
          refine (bareM _ _ (by omega)).mono ?_
          rintro e w3 ⟨rfl, hb3⟩
          have hb3' := below_then hb2' hb3
          go_wp2_with fail
          refine (hexM _ _ (by omega)).mono ?_
          rintro e w4 ⟨rfl, hb4⟩
          have hb4' := below_then hb3' hb4
          go_wp2_with fail
          refine (hexM _ _ (by omega)).mono ?_
          rintro e w5 ⟨rfl, hb5⟩
          have hb5' := below_then hb4' hb5
          go_wp2
          go_returns
          exact ⟨ret_rre (by rw [HR.out]) (by rw [HR.out]) (by rw [HR.out]), hb5'⟩
        · have hr : rangeT (bareL a) (bareL b) = ((hexS (bareL a)).1, (hexS (bareL b)).1, 0) := by unfold rangeT; rw [if_neg (by simp [h1]), if_neg (by simp [h2]), if_neg h3]
          have HR := Lib.hid hr
          have g3 : (hexS (bareL a)).1 ≤ (hexS (bareL b)).1 := by omega
          clear hr h1 h2 h3
          go_enter Tryz.func47, Tryz.ntmps47
          go_wp2_with fail
          refine HC.mono ?_
          rintro e w1 ⟨rfl, hb1⟩
          go_wp2_with fail
          refine (bareM _ _ (by omega)).mono ?_
          rintro e w2 ⟨rfl, hb2⟩
          have hb2' := below_then hb1 hb2
          go_wp2_with fail
          refine (bareM _ _ (by omega)).mono ?_
          rintro e w3 ⟨rfl, hb3⟩
          have hb3' := below_then hb2' hb3
          go_wp2_with fail
          refine (hexM _ _ (by omega)).mono ?_
          rintro e w4 ⟨rfl, hb4⟩
          have hb4' := below_then hb3' hb4
          go_wp2_with fail
          refine (hexM _ _ (by omega)).mono ?_
          rintro e w5 ⟨rfl, hb5⟩
          have hb5' := below_then hb4' hb5
          go_wp2
          go_returns
          exact ⟨ret_rre (by rw [HR.out]) (by rw [HR.out]) (by rw [HR.out]), hb5'⟩
      · have hr : rangeT (bareL a) (bareL b) = (0, 0, (hexS (bareL b)).2) := by unfold rangeT; rw [if_neg (by simp [h1]), if_pos h2]
        have HR := Lib.hid hr
        have g1 : ((hexS (bareL a)).2 != 0) = false := by simp [h1]
        have g2 : ((hexS (bareL b)).2 != 0) = true := by simp [h2]
        clear hr h1 h2
        go_enter Tryz.func47, Tryz.ntmps47
        go_wp2_with fail
        refine HC.mono ?_
        rintro e w1 ⟨rfl, hb1⟩
        go_wp2_with fail
        refine (bareM _ _ (by omega)).mono ?_
        rintro e w2 ⟨rfl, hb2⟩
        have hb2' := below_then hb1 hb2
        go_wp2_with fail
        refine (bareM _ _ (by omega)).mono ?_
        rintro e w3 ⟨rfl, hb3⟩
        have hb3' := below_then hb2' hb3
        go_wp2_with fail
        refine (hexM _ _ (by omega)).mono ?_
        rintro e w4 ⟨rfl, hb4⟩
        have hb4' := below_then hb3' hb4
        go_wp2_with fail
        refine (hexM _ _ (by omega)).mono ?_
        rintro e w5 ⟨rfl, hb5⟩
        have hb5' := below_then hb4' hb5
        go_wp2
        go_returns
        exact ⟨ret_rre (by rw [HR.out]) (by rw [HR.out]) (by rw [HR.out]), hb5'⟩
    · have hr : rangeT (bareL a) (bareL b) = (0, 0, (hexS (bareL a)).2) := by unfold rangeT; rw [if_pos h1]
      have HR := Lib.hid hr
      have g1 : ((hexS (bareL a)).2 != 0) = true := by simp [h1]
      clear hr h1
      go_enter Tryz.func47, Tryz.ntmps47
      go_wp2_with fail
      refine HC.mono ?_
      rintro e w1 ⟨rfl, hb1⟩
      go_wp2_with fail
      refine (bareM _ _ (by omega)).mono ?_
      rintro e w2 ⟨rfl, hb2⟩
      have hb2' := below_then hb1 hb2
      go_wp2_with fail
      refine (bareM _ _ (by omega)).mono ?_
      rintro e w3 ⟨rfl, hb3⟩
      have hb3' := below_then hb2' hb3
      go_wp2_with fail
      refine (hexM _ _ (by omega)).mono ?_
      rintro e w4 ⟨rfl, hb4⟩
      have hb4' := below_then hb3' hb4
      go_wp2
      go_returns
      exact ⟨ret_rre (by rw [HR.out]) (by rw [HR.out]) (by rw [HR.out]), hb4'⟩
  | false =>
    rw [if_neg (by simp), ← hmiss rfl]
    clear hmiss
    by_cases h1 : (hexS a).2 = 0
    · have hr : rangeT a a = ((hexS a).1, (hexS a).1, 0) := by unfold rangeT; rw [if_neg (by simp [h1]), if_neg (by simp [h1]), if_neg (by omega)]
      have HR := Lib.hid hr
      have g1 : ((hexS a).2 != 0) = false := by simp [h1]
      clear hr h1
      go_enter Tryz.func47, Tryz.ntmps47
      go_wp2_with fail
      refine HC.mono ?_
      rintro e w1 ⟨rfl, hb1⟩
      go_wp2_with fail
      refine (hexM _ _ (by omega)).mono ?_
      rintro e w4 ⟨rfl, hb4⟩
      have hb4' := below_then hb1 hb4
      go_wp2_with fail
      refine (hexM _ _ (by omega)).mono ?_
      rintro e w5 ⟨rfl, hb5⟩
      have hb5' := below_then hb4' hb5
      go_wp2
      go_returns
      exact ⟨ret_rre (by rw [HR.out]) (by rw [HR.out]) (by rw [HR.out]), hb5'⟩
    · have hr : rangeT a a = (0, 0, (hexS a).2) := by unfold rangeT; rw [if_pos h1]
      have HR := Lib.hid hr
      have g1 : ((hexS a).2 != 0) = true := by simp [h1]
      clear hr h1
      go_enter Tryz.func47, Tryz.ntmps47
      go_wp2_with fail
      refine HC.mono ?_
      rintro e w1 ⟨rfl, hb1⟩
      go_wp2_with fail
      refine (hexM _ _ (by omega)).mono ?_
      rintro e w4 ⟨rfl, hb4⟩
      have hb4' := below_then hb1 hb4
      go_wp2
      go_returns
      exact ⟨ret_rre (by rw [HR.out]) (by rw [HR.out]) (by rw [HR.out]), hb4'⟩
end Go.Proofs.YtggichcfklbjiaaGreatDoor
end

section
set_option linter.unusedSimpArgs false
set_option linter.unusedVariables false
namespace Go.Proofs.YtggichcfklbjiaaGreatDoor
open Go.RowKit

theorem own_new (w : World) (e : TypeId) (l : List Value) (hl : l.length ≤ maxLen) : (w.alloc (.cells l.toArray e)).ownsRow w.heap.size e 1 (.slice (some ⟨w.heap.size, 0, none⟩) l.length l.length) l.length l := by
  refine ⟨by omega, .inr ⟨w.heap.size, l.length, l.toArray, rfl, Nat.le_refl _, by simp only [World.alloc, Array.getElem?_push_size], Nat.le_refl _, hl, by simp, by simp⟩⟩
theorem Env.alloc {w : World} (h : Env w) (o : Obj) : Env (w.alloc o) := h.below ((Below.refl _ _).alloc (Nat.le_refl _) o)
theorem fsplit_any (s : ByteArray) (c : UInt8) (w : World) (hE : Env w) (hs : s.size ≤ 1073741824) :
    Calls Tryz.prog 69 #[.string s, .string ⟨#[c]⟩] w (FreshS w (cutL c (bs s))) := by
  obtain ⟨m, hm, _⟩ := hE
  have hlen := cutL_len c (bs s)
  rw [bs_length] at hlen
  refine (Tryz.strings_Split s ⟨#[c]⟩ m w (by omega) hm (Nat.le_refl 1)).mono ?_
  rintro e w' ⟨rfl, rfl⟩
  rw [split_cut, split_len, List.map_map]
  refine ⟨some ⟨w.heap.size, 0, none⟩, (cutL c (bs s)).length, rfl, ?_, (Below.refl _ _).alloc (Nat.le_refl _) _⟩
  have := own_new w 9 (Ss (cutL c (bs s))) (by simp [maxLen]; omega)
  rw [show (Ss (cutL c (bs s))).length = (cutL c (bs s)).length from List.length_map _] at this
  exact this
theorem split04_any (s : ByteArray) (sep : UInt8) (w : World) (hE : Env w) (hs : s.size ≤ 1073741824) :
    Calls Tryz.prog 48 #[.string s, .int .u8 sep.toNat] w (FreshS w ((cutL sep (bs s)).map bareL)) := by
  have hlen := cutL_len sep (bs s)
  have hpart := cutL_part sep (bs s)
  have HF := fsplit_any s sep (w.alloc (.cells #[.int .u8 sep.toNat] 5)) (hE.alloc _) hs
  rw [bs_length] at hlen hpart
  obtain ⟨ls, hls⟩ : ∃ ls, ls = cutL sep (bs s) := ⟨_, rfl⟩
  rw [← hls] at hlen hpart HF ⊢
  have HPT := Lib.hid hpart
  clear hpart hls
  have hcv : (convert 135 9 (.slice (some ⟨w.heap.size, 0, none⟩) 1 1)).run Tryz.prog (w.alloc (.cells #[.int .u8 sep.toNat] 5)) = .ok (.string ⟨#[sep]⟩) (w.alloc (.cells #[.int .u8 sep.toNat] 5)) :=
    run_convert_bytes_back (w.alloc (.cells #[.int .u8 sep.toNat] 5)) 135 9 5 ⟨w.heap.size, 0, none⟩ 1 [sep] Tryz.underlying135 Tryz.underlying5 Tryz.underlying9 (by
      intro j hj
      have : j = 0 := by simp at hj; exact hj
      subst this
      exact World.cell?_alloc_at _ _ _ _ (by simp))
  go_enter Tryz.func48, Tryz.ntmps48
  go_wp2_with fail
  refine HF.mono ?_
  rintro e w1 ⟨A, c, rfl, hown, hb⟩
  have hb := ((Below.refl w.heap.size w).alloc (Nat.le_refl _) (.cells #[.int .u8 sep.toNat] 5)).trans (hb.mono (by simp))
  have hown := own_base hown (show w.heap.size ≤ _ by simp)
  go_wp2
  go_loopw [14] (fun i wr => ∃ (k : Nat), k ≤ ls.length ∧ i = .int .i64 k ∧ wr.ownsRow w.heap.size 9 1 (.slice A ls.length c) ls.length (Ss ((ls.take k).map bareL ++ ls.drop k)) ∧ Below w.heap.size w wr) (fun i _ => ls.length - (intOf i).toNat)
  case atStart => exact ⟨0, Nat.zero_le _, rfl, by simpa using hown, hb⟩
  case round =>
    obtain ⟨k, hk, rfl, hownr, hbr⟩ := hrel
    by_cases hlt : k < ls.length
    · obtain ⟨l, hl⟩ : ∃ l, ls[k]? = some l := ⟨_, List.getElem?_eq_getElem hlt⟩
      have hll := HPT.out l (List.mem_of_getElem? hl)
      obtain ⟨g, cap, hform, hg0, hgl⟩ := hownr.form (by omega)
      injection hform with hA _ hc
      subst hA hc
      have hget : ((ls.take k).map bareL ++ ls.drop k)[k]? = some l := by
        rw [List.getElem?_append_right (by simp; omega)]
        simp [hl]
        rw [Nat.min_eq_left (by omega), Nat.sub_self, Nat.add_zero, hl]
      have hci : wr.cell? ⟨g, k, none⟩ = some (.string (mk8 l)) := by rw [hownr.cellAt k (by omega)]; exact Ss_get hget
      have hset : (Ss ((ls.take k).map bareL ++ ls.drop k)).set k (.string (mk8 (bareL l))) = Ss ((ls.take (k + 1)).map bareL ++ ls.drop (k + 1)) := by
        rw [take_snoc' hl, List.drop_eq_getElem_cons hlt]
        simp only [Ss, List.map_append, List.map_cons, List.map_nil]
        rw [List.set_append_right _ _ (by simp; omega)]
        simp
        rw [Nat.min_eq_left (by omega), Nat.sub_self]
        simp
      have HSET := Lib.hid hset
      have hsz : (mk8 l).size ≤ 1073741824 := by rw [mk8_size]; omega
      have HL := Lib.hid hl
      clear hset hget hl hown hb
      have hi : (k : Int) < (ls.length : Int) := by omega
      go_wp2_with fail
      refine (bareM l _ hsz).mono ?_
      rintro e w2 ⟨rfl, hb2⟩
      have hown2 := own_below hownr hb2
      have hbr2 := below_then hbr hb2
      clear hownr hbr hci
      have hfi : w2.frozen? ⟨g, k, none⟩ = false := hown2.frozenAt k
      have hci2 : ∃ u, w2.cell? ⟨g, k, none⟩ = some u := ⟨_, by rw [hown2.cellAt k (by omega)]; exact List.getElem?_eq_getElem (by simp; omega)⟩
      obtain ⟨u, hci2⟩ := hci2
      have hst := hown2.stored k (.string (mk8 (bareL l)))
      rw [HSET.out] at hst
      have HST := Lib.hid hst.1
      have hbs := hbr2.setCell (p := ⟨g, k, none⟩) hg0 (.string (mk8 (bareL l)))
      have HBS := Lib.hid hbs
      clear hst hown2 hbs hb2
      go_wp2
      go_roundw
      case rel => exact ⟨k + 1, by omega, by go_num, HST.out, HBS.out⟩
      case measure => simp [intOf]; omega
    · have hkn : k = ls.length := by omega
      subst hkn
      go_wp2
      go_returns
      refine ⟨A, c, by simp, ?_, hbr⟩
      simpa using hownr
end Go.Proofs.YtggichcfklbjiaaGreatDoor
end
