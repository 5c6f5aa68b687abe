/- The contracts of the code's words: characters told one by one, a range of characters, what stands between bytes. -/
import Derived.Test.YtagncjnbabdbmaaGreatDoorFldB
import Derived.Test.YtagncjnbabdbmaaGreatDoorFldR3
set_option linter.unusedSimpArgs false
set_option linter.unusedVariables false
namespace Go.Proofs.YtagncjnbabdbmaaGreatDoor
open Go.RowKit

/-- What the library's search needs of the world: one of its variables is a number. -/
def Env (w : World) : Prop := ∃ m, w.cell? ⟨0, 0, none⟩ = some (.int .i64 m) ∧ 0 < w.heap.size
theorem Env.below {w w' : World} (h : Env w) (hb : Below w.heap.size w w') : Env w' := by
  obtain ⟨m, hm, hl⟩ := h
  exact ⟨m, by rw [hb.cell hl]; exact hm, by have := hb.size; omega⟩
theorem own_base {w : World} {B B' : Nat} {e : TypeId} {v : Value} {n : Nat} {xs : List Value} (h : w.ownsRow B e 1 v n xs) (hb : B' ≤ B) : w.ownsRow B' e 1 v n xs := by
  obtain ⟨h1, h2⟩ := h
  refine ⟨h1, ?_⟩
  rcases h2 with h2 | ⟨g, cap, cur, h2, h3, h4⟩
  · exact .inl h2
  · exact .inr ⟨g, cap, cur, h2, by omega, h4⟩
theorem words_part (s : ByteArray) : ∀ (k : Nat) (l : List UInt8), (wordsL (bs s))[k]? = some l → l.length ≤ s.size := by
  intro k l h
  have := (words_len (bs s) []).2 l (List.mem_of_getElem? h)
  rw [bs_length] at this
  simpa using this
theorem drop_get {α : Type} {l : List α} {k : Nat} {x : α} (h : l[k]? = some x) : l.drop k = x :: l.drop (k + 1) := by
  obtain ⟨hk, hx⟩ := List.getElem?_eq_some_iff.1 h
  rw [List.drop_eq_getElem_cons hk, hx]
theorem hexM (l : List UInt8) (w : World) (hs : (mk8 l).size ≤ 1073741824) :
    Calls Tryz.prog 49 #[.string (mk8 l)] w fun e w' => e = .returned (.tuple #[.int .i32 (hexS l).1, .int .i64 (hexS l).2]) ∧ Below w.heap.size w w' := hex_any (mk8 l) w (by omega)
theorem bareM (l : List UInt8) (w : World) (hs : (mk8 l).size ≤ 1073741824) :
    Calls Tryz.prog 47 #[.string (mk8 l)] w fun e w' => e = .returned (.string (mk8 (bareL l))) ∧ Below w.heap.size w w' := bare_any (mk8 l) w (by omega)
theorem runes04_any (s : ByteArray) (w : World) (hs : s.size ≤ 1073741824) :
    Calls Tryz.prog 70 #[.string s] w (FreshRE w (runesS (bs s))) := by
  have hwl := (words_len (bs s) []).1
  rw [bs_length] at hwl
  have hwp := words_part s
  obtain ⟨ws, hws⟩ : ∃ ws, ws = wordsL (bs s) := ⟨_, rfl⟩
  have HF := ffields_any s w (by omega)
  have hS : runesS (bs s) = runesW [] ws := by rw [hws]; rfl
  have hwl2 : ws.length ≤ s.size + 1 := by rw [hws]; exact hwl
  rw [← hws] at HF hwp
  rw [hS]
  clear hwl hws hS
  go_enter Tryz.func70, Tryz.ntmps70
  go_wp2_with fail
  refine HF.mono ?_
  rintro e w1 hF1
  obtain ⟨A, c, rfl, hr, hb1⟩ := hF1.rd
  clear hF1 HF
  go_wp2
  go_loopw [4, 12] (fun v i wr => ∃ (k : Nat) (os : List Int) (A' : Option Addr) (c' : Nat), k ≤ ws.length ∧ i = .int .i64 k ∧ os.length ≤ k ∧ Hid (runesW [] ws = runesW os (ws.drop k)) ∧ v = .slice A' os.length c' ∧ wr.ownsRow w1.heap.size 21 1 (.slice A' os.length c') os.length (Rs os) ∧ Below w1.heap.size w1 wr) (fun _ i _ => ws.length - (intOf i).toNat)
  case atStart => exact ⟨0, [], none, 0, Nat.zero_le _, rfl, Nat.zero_le _, rfl, rfl, World.ownsRow_nil _ _ _ _, Below.refl _ _⟩
  case round =>
    obtain ⟨k, os, A', c', hk, rfl, hol, HR, rfl, hown, hb⟩ := hrel
    have hz := hb.size
    by_cases hin : k < ws.length
    · have hi : (k : Int) < (ws.length : Int) := by omega
      obtain ⟨l, hl⟩ : ∃ l, ws[k]? = some l := ⟨_, List.getElem?_eq_getElem hin⟩
      have hll := hwp k l hl
      have hd := drop_get hl
      obtain ⟨b, off, rfl, hbl, hcx⟩ := (hr.below hb).at_ (by omega)
      have hc0 := hcx k _ (Ss_get hl)
      clear hcx
      have hll2 : (mk8 l).size ≤ 1073741824 := by rw [mk8_size]; omega
      by_cases hg : (hexS l).2 = 0
      · have HR2 : Hid (runesW [] ws = runesW (os ++ [(hexS l).1]) (ws.drop (k + 1))) := by show _ = _; rw [HR.out, hd, runesW_good hg]
        have hgb : ((hexS l).2 != 0) = false := by simp [hg]
        clear hg hd
        go_wp2_with fail
        refine (hexM _ _ (by omega)).mono ?_
        rintro e w2 ⟨rfl, hb2⟩
        have hown2 := own_below hown hb2
        have hb3 := below_then hb hb2
        have hz2 := hb2.size
        go_wp2_with (at_builtin; refine wpList_app runeElem _ rfl _ _ rfl w1.heap.size rfl (hown2.alloc _) rfl (Rd.new1 _ _ _) (one_of rfl) (by omega) (by omega) (by simp; omega) ?_)
        intro A2 c2 w3 hown3 hg3 hat3
        have hb4 := below_app (hb3.alloc (by omega) _) (by simp; omega) (hown2.alloc _) hg3
        go_wp2
        go_roundw
        case rel => exact ⟨k + 1, os ++ [(hexS l).1], A2, c2, by omega, by go_num, by simp; omega, HR2, by simp, by simpa using hown3, hb4⟩
        case measure => simp [intOf]; omega
      · have hres : runesW [] ws = ([], (hexS l).2) := by rw [HR.out, hd, runesW_bad hg]
        have hgb : ((hexS l).2 != 0) = true := by simp [hg]
        have HRES := Lib.hid hres
        clear hg hd hres
        go_wp2_with fail
        refine (hexM _ _ (by omega)).mono ?_
        rintro e w2 ⟨rfl, hb2⟩
        go_wp2
        go_returns
        rw [HRES.out]
        exact ⟨none, 0, rfl, World.ownsRow_nil _ _ _ _, below_then hb1 (below_then hb hb2)⟩
    · have hi : (ws.length : Int) ≤ (k : Int) := by omega
      have hres : runesW [] ws = (os, 0) := by rw [HR.out, List.drop_of_length_le (by omega)]; rfl
      have HRES := Lib.hid hres
      clear hres
      go_wp2
      go_returns
      rw [HRES.out]
      exact ⟨A', c', rfl, own_base hown hb1.size, below_then hb1 hb⟩

def rangeT (a b : List UInt8) : Int × Int × Int :=
  if (hexS a).2 ≠ 0 then (0, 0, (hexS a).2) else if (hexS b).2 ≠ 0 then (0, 0, (hexS b).2) else if (hexS b).1 < (hexS a).1 then (0, 0, 11) else ((hexS a).1, (hexS b).1, 0)
def rangeS (l : List UInt8) : Int × Int × Int :=
  if (Lib.cut l [46, 46]).2.2 = true then rangeT (bareL (Lib.cut l [46, 46]).1) (bareL (Lib.cut l [46, 46]).2.1) else rangeT l l
theorem ret_rre {a b c a' b' c' : Int} (h1 : a = a') (h2 : b = b') (h3 : c = c') : Ending.returned (.tuple #[.int .i32 a, .int .i32 b, .int .i64 c]) = .returned (.tuple #[.int .i32 a', .int .i32 b', .int .i64 c']) := by rw [h1, h2, h3]
theorem cut_le (l sep : List UInt8) : (Lib.cut l sep).1.length ≤ l.length ∧ (Lib.cut l sep).2.1.length ≤ l.length := by
  unfold Lib.cut
  split
  · simp only [List.length_take, List.length_drop]; omega
  · simp
theorem cut_miss {l sep : List UInt8} (h : (Lib.cut l sep).2.2 = false) : (Lib.cut l sep).1 = l := by
  unfold Lib.cut at h ⊢
  split at h
  · simp at h
  · rename_i hh; rw [if_neg hh]
theorem cut_any (s sep : ByteArray) (w : World) (hE : Env w) (hs : s.size < 4294967281) :
    Calls Tryz.prog 46 #[.string s, .string sep] w fun e w' => e = .returned (.tuple #[.string (mk8 (Lib.cut (bs s) (bs sep)).1), .string (mk8 (Lib.cut (bs s) (bs sep)).2.1), .bool (Lib.cut (bs s) (bs sep)).2.2]) ∧ Below w.heap.size w w' := by
  obtain ⟨m, hm, _⟩ := hE
  refine (Tryz.strings_Cut s sep m w hs hm).mono ?_
  rintro e w' ⟨rfl, n, rfl⟩
  exact ⟨rfl, below_drewN _ _ _⟩
end Go.Proofs.YtagncjnbabdbmaaGreatDoor
