/- A registry in memory, and what only reads it: the code. -/
import Derived.Test.YthfakejhkbelhaaDoorNmsA
import Derived.Deep.RegionHeld3
set_option linter.unusedSimpArgs false
set_option linter.unusedVariables false
namespace Go.Proofs.YthfakejhkbelhaaDoor
open Go.RowKit

/-- Two values stand in two rows. -/
def ApartN (u v : Value) : Prop := ∀ b, v.ownBlock = some b → u.ownBlock ≠ some b
def otV (x : TA) : Value := .slice x.2.1 x.1.ot.length x.2.2
/-- A registry at r, of its own blocks from B on. -/
structure RegAt (B r : Nat) (w : World) (os : List TA) (A : Option Addr) (c : Nat) : Prop where
  rb : B ≤ r
  cell : w.heap[r]? = some (.cells #[.slice A os.length c] 62 (0, 0))
  own : w.ownsRow B 71 3 (.slice A os.length c) os.length (Ts os)
  ot : ∀ x ∈ os, w.ownsRow B 9 1 (otV x) x.1.ot.length (Ss x.1.ot)
  apart : ∀ (i j : Nat) (x y : TA), os[i]? = some x → os[j]? = some y → i ≠ j → ApartN (otV x) (otV y)
  len : os.length ≤ 256
  few : ∀ x ∈ os, x.1.ot.length ≤ 1000000
section
variable {B r : Nat} {w w' : World} {os : List TA} {A : Option Addr} {c : Nat}
theorem own_sameN {k n : Nat} {e : TypeId} {v : Value} {xs : List Value} (h : w.ownsRow B e k v n xs) (hk : ∀ g, v.ownBlock = some g → w'.heap[g]? = w.heap[g]?) : w'.ownsRow B e k v n xs := by
  refine ⟨h.1, ?_⟩
  rcases h.2 with hn | ⟨g, cap, cur, hv, hg, hh, rest⟩
  · exact .inl hn
  · exact .inr ⟨g, cap, cur, hv, hg, (hk g (by rw [hv]; rfl)).trans hh, rest⟩
theorem own_ltN {k n : Nat} {e : TypeId} {v : Value} {xs : List Value} (h : w.ownsRow B e k v n xs) : ∀ g, v.ownBlock = some g → g < w.heap.size := by
  intro g hg
  rcases h.2 with ⟨hn, _⟩ | ⟨g', cap, cur, hv, hgb, hh, rest⟩
  · rw [hn] at hg; cases hg
  · rw [hv] at hg
    injection hg with hg
    subst hg
    exact (Array.getElem?_eq_some_iff.1 hh).1
/-- The blocks of a registry. -/
def RegB (r : Nat) (os : List TA) (A : Option Addr) (c : Nat) (g : Nat) : Prop := g = r ∨ (Value.slice A os.length c).ownBlock = some g ∨ ∃ x ∈ os, (otV x).ownBlock = some g
theorem RegAt.same (h : RegAt B r w os A c) (hk : ∀ g, RegB r os A c g → w'.heap[g]? = w.heap[g]?) : RegAt B r w' os A c :=
  ⟨h.rb, (hk r (.inl rfl)).trans h.cell, own_sameN h.own (fun g hg => hk g (.inr (.inl hg))), fun x hx => own_sameN (h.ot x hx) (fun g hg => hk g (.inr (.inr ⟨x, hx, hg⟩))), h.apart, h.len, h.few⟩
theorem RegAt.lt (h : RegAt B r w os A c) {g : Nat} (hg : RegB r os A c g) : g < w.heap.size := by
  rcases hg with rfl | hg | ⟨x, hx, hg⟩
  · exact box_lt h.cell
  · exact own_ltN h.own g hg
  · exact own_ltN (h.ot x hx) g hg
theorem RegAt.below (h : RegAt B r w os A c) (hb : Below w.heap.size w w') : RegAt B r w' os A c := h.same fun g hg => hb.block g (h.lt hg)
theorem RegAt.rd (h : RegAt B r w os A c) : ThRd w A os := by
  refine ⟨?_, fun x hx => ?_⟩
  · obtain ⟨A', c', hv, _, _, hr⟩ := RdK.of_own h.own
    injection hv with h1 _ _
    subst h1
    exact hr
  · obtain ⟨A', c', hv, _, _, hr⟩ := Rd.of_own (h.ot x hx)
    unfold otV at hv
    injection hv with h1 _ _
    subst h1
    exact hr
end
theorem new_any (w : World) : Calls Tryd.prog 14 #[] w fun e w' => e = .returned (.pointer (some ⟨w.heap.size, 0, none⟩)) ∧ w' = w.alloc (.cells #[.slice none 0 0] 62) := by
  go_enter Tryd.func14, Tryd.ntmps14
  go_wp2
  go_returns
  exact ⟨rfl, rfl⟩
theorem reg_new (w : World) : RegAt w.heap.size w.heap.size (w.alloc (.cells #[.slice none 0 0] 62)) [] none 0 :=
  ⟨Nat.le_refl _, box_new _ _ _, World.ownsRow_nil _ _ _ _, fun x hx => by simp at hx, fun i j x y h => by simp at h, by simp, fun x hx => by simp at hx⟩
section
variable {B r : Nat} {w : World} {os : List TA} {A : Option Addr} {c : Nat}
theorem reg_at (h : RegAt B r w os A c) (s : List UInt8) (hE : EnvN w) : Calls Tryd.prog 57 #[.pointer (some ⟨r, 0, none⟩), .string (mk8 s)] w fun e w' => e = .returned (.int .i64 (atI (atF s (os.map (·.1))))) ∧ Below w.heap.size w w' :=
  at_any r s A os.length c os w hE (box_cell h.cell 0 rfl) h.rd rfl (by have := h.len; omega) (fun x hx => by have := h.few x hx; omega)
/-- What a search answers: the place, or that it is not there. -/
def findP (o : Option Nat) : Int × Int := match o with | some i => (i, 0) | none => (0, 13)
theorem find_any (h : RegAt B r w os A c) (s : List UInt8) (hE : EnvN w) : Calls Tryd.prog 38 #[.pointer (some ⟨r, 0, none⟩), .string (mk8 s)] w fun e w' => e = .returned (.tuple #[.int .i64 (findP (atF s (os.map (·.1)))).1, .int .i64 (findP (atF s (os.map (·.1)))).2]) ∧ Below w.heap.size w w' := by
  have AT := reg_at h s hE
  obtain ⟨o, ho⟩ : ∃ o, o = atF s (os.map (·.1)) := ⟨_, rfl⟩
  rw [← ho] at AT
  rw [← ho]
  clear ho
  cases o with
  | none =>
    simp only [atI] at AT
    go_enter Tryd.func38, Tryd.ntmps38
    go_wp2_with fail
    refine AT.mono ?_
    rintro e w1 ⟨rfl, hb⟩
    go_wp2
    go_returns
    exact ⟨rfl, hb⟩
  | some i =>
    simp only [atI] at AT
    have hi : (0 : Int) ≤ (i : Int) := by omega
    go_enter Tryd.func38, Tryd.ntmps38
    go_wp2_with fail
    refine AT.mono ?_
    rintro e w1 ⟨rfl, hb⟩
    go_wp2
    go_returns
    exact ⟨rfl, hb⟩
theorem len_any (h : RegAt B r w os A c) : Calls Tryd.prog 21 #[.pointer (some ⟨r, 0, none⟩)] w fun e w' => e = .returned (.int .i64 os.length) ∧ w = w' := by
  have hc := box_cell h.cell 0 rfl
  go_enter Tryd.func21, Tryd.ntmps21
  go_wp2
  go_returns
  exact ⟨rfl, rfl⟩
/-- What Find answers. -/
def FindT (o : Option Nat) (L : List Thg) : Value := match o with | some i => (match L[i]? with | some t => .tuple #[.int .i64 t.x, .string (mk8 t.nm), .int .i64 0] | none => undef) | none => .tuple #[.int .i64 0, .string ⟨#[]⟩, .int .i64 13]
set_option maxRecDepth 20000 in
theorem Find_any (h : RegAt B r w os A c) (s : List UInt8) (hE : EnvN w) : Calls Tryd.prog 19 #[.pointer (some ⟨r, 0, none⟩), .string (mk8 s)] w fun e w' => e = .returned (FindT (atF s (os.map (·.1))) (os.map (·.1))) ∧ Below w.heap.size w w' := by
  have FD := find_any h s hE
  have hlt := fun i h => atF_lt (s := s) (l := os.map (·.1)) (i := i) h
  obtain ⟨o, ho⟩ : ∃ o, o = atF s (os.map (·.1)) := ⟨_, rfl⟩
  rw [← ho] at FD hlt
  rw [← ho]
  clear ho
  cases o with
  | none =>
    simp only [findP] at FD
    go_enter Tryd.func19, Tryd.ntmps19
    go_wp2_with fail
    refine FD.mono ?_
    rintro e w1 ⟨rfl, hb⟩
    go_wp2
    go_returns
    exact ⟨rfl, hb⟩
  | some i =>
    simp only [findP] at FD
    have hil := hlt i rfl
    rw [List.length_map] at hil
    obtain ⟨⟨t, At, ct⟩, hx⟩ : ∃ x, os[i]? = some x := ⟨_, List.getElem?_eq_getElem hil⟩
    have hft : FindT (some i) (os.map (·.1)) = .tuple #[.int .i64 t.x, .string (mk8 t.nm), .int .i64 0] := by simp [FindT, hx]
    rw [hft]
    have hi : (0 : Int) ≤ (i : Int) := by omega
    have hi2 : (i : Int) < (os.length : Int) := by omega
    clear hlt hft
    go_enter Tryd.func19, Tryd.ntmps19
    go_wp2_with fail
    refine FD.mono ?_
    rintro e w1 ⟨rfl, hb⟩
    have h1 := h.below hb
    have hc := box_cell h1.cell 0 rfl
    obtain ⟨b, off, rfl, hbl, hcx⟩ := h1.rd.at_ (by omega)
    obtain ⟨c0, c1, c2⟩ := th_cells hx hcx
    generalize os.length = n at *
    clear hcx hx h1 h FD c2
    go_wp2
    go_quiet (fail)
    go_wp2
    go_returns
    exact ⟨rfl, below_drew' hb _⟩
end
end Go.Proofs.YthfakejhkbelhaaDoor
