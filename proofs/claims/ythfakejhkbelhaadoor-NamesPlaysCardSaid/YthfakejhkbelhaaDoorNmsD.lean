/- Lists of names copied, and what else a thing is called: the code. -/
import Derived.Test.YthfakejhkbelhaaDoorNmsC
import Derived.Lib.SliceRun
import Derived.Laws.OwnMore
set_option linter.unusedSimpArgs false
set_option linter.unusedVariables false
namespace Go.Proofs.YthfakejhkbelhaaDoor
open Go.RowKit

theorem own_new (w : World) (e : TypeId) (l : List Value) (hl : l.length ≤ maxLen) : (w.alloc (.cells l.toArray e)).ownsRow w.heap.size e 1 (.slice (some ⟨w.heap.size, 0, none⟩) l.length l.length) l.length l := by
  refine ⟨by omega, .inr ⟨w.heap.size, l.length, l.toArray, rfl, Nat.le_refl _, by simp only [World.alloc, Array.getElem?_push_size], Nat.le_refl _, hl, by simp, by simp⟩⟩
theorem own_base {w : World} {B B' : Nat} {e : TypeId} {v : Value} {n : Nat} {xs : List Value} (h : w.ownsRow B e 1 v n xs) (hb : B' ≤ B) : w.ownsRow B' e 1 v n xs := by
  obtain ⟨h1, h2⟩ := h
  refine ⟨h1, ?_⟩
  rcases h2 with h2 | ⟨g, cap, cur, h2, h3, h4⟩
  · exact .inl h2
  · exact .inr ⟨g, cap, cur, h2, by omega, h4⟩
set_option maxRecDepth 20000 in
theorem sclone_any (A : Option Addr) (n c : Nat) (ls : List (List UInt8)) (w : World) (hr : Rd w A n (Ss ls)) (hnil : A = none → n = 0 ∧ c = 0) (hn : n ≤ 1000000) :
    Calls Tryd.prog 39 #[.slice A n c] w fun e w' => ∃ A' c', e = .returned (.slice A' n c') ∧ w'.ownsRow w.heap.size 9 1 (.slice A' n c') n (Ss ls) ∧ Below w.heap.size w w' := by
  have hll : ls.length = n := by have := hr.1; simpa [Ss] using this
  cases A with
  | none =>
    obtain ⟨rfl, rfl⟩ := hnil rfl
    have : ls = [] := List.eq_nil_of_length_eq_zero hll
    subst this
    have hcmp := fun w => Lib.run_eql_slice_nil (P := Tryd.prog) w 28 9 none 0 0 0 0 Tryd.underlying28
    simp only [Option.isNone] at hcmp
    go_enter Tryd.func39, Tryd.ntmps39
    go_wp2
    go_returns
    exact ⟨none, 0, rfl, World.ownsRow_nil _ _ _ _, Below.refl _ _⟩
  | some a =>
    have hbn : Below w.heap.size w (w.alloc (.cells #[] 9)) := (Below.refl _ _).alloc (Nat.le_refl _) _
    have hown0 := own_new w 9 [] (by decide)
    have hrb := hr.below hbn
    have hone := Ss_one ls
    clear hnil hr
    have hcmp := fun w => Lib.run_eql_slice_nil (P := Tryd.prog) w 28 9 (some a) n c 0 0 Tryd.underlying28
    simp only [Option.isNone] at hcmp
    go_enter Tryd.func39, Tryd.ntmps39
    go_wp2_with (at_builtin; refine wpList_app strElem _ rfl _ _ rfl w.heap.size rfl hown0 rfl hrb hone (by simp; omega) (by omega) (by simp) ?_)
    intro A2 c2 w4 hown4 hg4 hat4
    have hb4 := below_app hbn (by simp) hown0 hg4
    have hown5 : w4.ownsRow w.heap.size 9 1 (.slice A2 n c2) n (Ss ls) := by simpa using hown4
    clear hown4 hg4 hat4 hown0 hrb hone
    go_wp2
    go_returns
    exact ⟨A2, c2, by simp, hown5, hb4⟩
section
variable {B r : Nat} {w : World} {os : List TA} {A : Option Addr} {c : Nat}
theorem otV_nil (h : RegAt B r w os A c) {x : TA} (hx : x ∈ os) : x.2.1 = none → x.1.ot.length = 0 ∧ x.2.2 = 0 := by
  intro hn
  rcases (h.ot x hx).2 with ⟨hv, h0⟩ | ⟨g, cap, cur, hv, _⟩
  · unfold otV at hv
    injection hv with _ h1 h2
    exact ⟨h1, h2⟩
  · unfold otV at hv
    injection hv with h1 _ _
    rw [hn] at h1
    cases h1
/-- What Others answers. -/
def OthersP (w : World) (o : Option Nat) (L : List Thg) (e : Ending) (w' : World) : Prop :=
  match o with
  | some i => ∃ t A' c', L[i]? = some t ∧ e = .returned (.tuple #[.slice A' t.ot.length c', .int .i64 0]) ∧ w'.ownsRow w.heap.size 9 1 (.slice A' t.ot.length c') t.ot.length (Ss t.ot)
  | none => e = .returned (.tuple #[.slice none 0 0, .int .i64 13])
set_option maxRecDepth 20000 in
theorem Others_any (h : RegAt B r w os A c) (s : List UInt8) (hE : EnvN w) : Calls Tryd.prog 18 #[.pointer (some ⟨r, 0, none⟩), .string (mk8 s)] w fun e w' => OthersP w (atF s (os.map (·.1))) (os.map (·.1)) e w' ∧ Below w.heap.size w w' := by
  have FD := find_any h s hE
  have hlt := fun i h => atF_lt (s := s) (l := os.map (·.1)) (i := i) h
  obtain ⟨o, ho⟩ : ∃ o, o = atF s (os.map (·.1)) := ⟨_, rfl⟩
  rw [← ho] at FD hlt
  rw [← ho]
  clear ho
  cases o with
  | none =>
    simp only [findP] at FD
    go_enter Tryd.func18, Tryd.ntmps18
    go_wp2_with fail
    refine FD.mono ?_
    rintro e w1 ⟨rfl, hb⟩
    go_wp2
    go_returns
    exact ⟨rfl, hb⟩
  | some i =>
    simp only [findP] at FD
    have hil := hlt i rfl
    rw [List.length_map] at hil
    obtain ⟨⟨t, At, ct⟩, hx⟩ : ∃ x, os[i]? = some x := ⟨_, List.getElem?_eq_getElem hil⟩
    have hLi : (os.map (·.1))[i]? = some t := by rw [List.getElem?_map, hx]; rfl
    have hnil := otV_nil h (List.mem_of_getElem? hx)
    have hfew := h.few _ (List.mem_of_getElem? hx)
    have hi : (0 : Int) ≤ (i : Int) := by omega
    have hi2 : (i : Int) < (os.length : Int) := by omega
    have HLI := Lib.hid hLi
    clear hlt hLi
    go_enter Tryd.func18, Tryd.ntmps18
    go_wp2_with fail
    refine FD.mono ?_
    rintro e w1 ⟨rfl, hb⟩
    have h1 := h.below hb
    have hc := box_cell h1.cell 0 rfl
    have hot := h1.rd.ot _ (List.mem_of_getElem? hx)
    have CL := sclone_any At t.ot.length ct t.ot w1 hot hnil hfew
    obtain ⟨b, off, rfl, hbl, hcx⟩ := h1.rd.at_ (by omega)
    obtain ⟨c0, c1, c2⟩ := th_cells hx hcx
    generalize os.length = n at *
    have hsz := hb.size
    clear hcx hx h1 h FD c0 c1 hot hnil
    go_wp2_with fail
    refine CL.mono ?_
    rintro e w2 ⟨A2, c3, rfl, hown, hb2⟩
    have hown2 := own_base hown hsz
    have hb3 := below_then hb hb2
    clear CL hown
    go_wp2
    go_returns
    exact ⟨⟨t, A2, c3, HLI.out, rfl, hown2⟩, hb3⟩
end
end Go.Proofs.YthfakejhkbelhaaDoor
