/- A registry behind calls; contracts in the form that the laws want. -/
import Derived.Test.YthfakejhkbelhaaDoorNmsP
set_option linter.unusedSimpArgs false
set_option linter.unusedVariables false
namespace Go.Proofs.YthfakejhkbelhaaDoor
open Go.RowKit

abbrev oV (y : OA) : Value := .agg #[.int .i64 y.1.k, .int .i64 y.1.x, .string (mk8 y.1.nm), .slice y.2.1 y.1.ot.length y.2.2]
/-- Behind k calls: a registry; what stood ahead of it stands. -/
def LInv (W1 : World) (k : Nat) (wr : World) : Prop := ∃ (os : List TA) (A : Option Addr) (c : Nat), RegAt W1.heap.size W1.heap.size wr os A c ∧ Reg1 (os.map (·.1)) ∧ FewR k (os.map (·.1)) ∧ Below W1.heap.size W1 wr
theorem LInv.bel {W1 wr : World} {k : Nat} (h : LInv W1 k wr) : Below W1.heap.size W1 wr := by
  obtain ⟨_, _, _, _, _, _, h⟩ := h
  exact h
theorem LInv.below {W1 wr w' : World} {k : Nat} (h : LInv W1 k wr) (hb : Below wr.heap.size wr w') : LInv W1 k w' := by
  obtain ⟨os, A, c, h1, h2, h3, h4⟩ := h
  exact ⟨os, A, c, h1.below hb, h2, h3, below_then h4 hb⟩
theorem newL_any (W : World) : Calls Tryd.prog 14 #[] W fun e w' => e = .returned (.pointer (some ⟨W.heap.size, 0, none⟩)) ∧ LInv W 0 w' :=
  (new_any W).mono fun e w' ⟨h1, h2⟩ => by
    subst h2
    exact ⟨h1, [], none, 0, reg_new W, reg1_nil, fewR_nil, (Below.refl _ _).alloc (Nat.le_refl _) _⟩
theorem linv_round {W1 wr : World} {k : Nat} (h : LInv W1 k wr) (hE : EnvN wr) (hk : k ≤ 100) (y : OA) (hy : OpRd wr y) (hf : fewO y.1 = true) :
    Calls Tryd.prog 16 #[.pointer (some ⟨W1.heap.size, 0, none⟩), oV y] wr fun e w' => (∃ v, e = .returned (.int .i64 v)) ∧ LInv W1 (k + 1) w' := by
  obtain ⟨os, A, c, h1, h2, h3, h4⟩ := h
  have hfo := fewO_is hf
  refine (calls_any h1 hE y.1.k y.1.x y.1.nm y.2.1 y.1.ot.length y.2.2 y.1.ot hy.ot hy.nil (by omega) hy.cap (fun x hx => ?_)).mono ?_
  · have := h3.2 x.1 (List.mem_map_of_mem hx)
    omega
  · rintro e w' ⟨rfl, os', A', c', h5, h6, h7, _, _⟩
    refine ⟨⟨_, rfl⟩, os', A', c', h6, ?_, ?_, h4.trans h7⟩
    · rw [h5]; exact reg1_op h2 y.1
    · rw [h5]; exact fewR_op h3 y.1 hfo.2.1
theorem few1_any (y : OA) (W : World) (hy : OpRd W y) (hyo : y.1.ot.length ≤ 9223372036854775807) :
    Calls Tryd.prog 15 #[.slice (some ⟨W.heap.size, 0, none⟩) 1 1] (W.alloc (.cells #[.int .i64 y.1.k, .int .i64 y.1.x, .string (mk8 y.1.nm), .slice y.2.1 y.1.ot.length y.2.2] 30)) fun e w' => e = .returned (.bool (fewB [y.1])) ∧ Below W.heap.size W w' := by
  have hb : Below W.heap.size W (W.alloc (.cells #[.int .i64 y.1.k, .int .i64 y.1.x, .string (mk8 y.1.nm), .slice y.2.1 y.1.ot.length y.2.2] 30)) := (Below.refl _ _).alloc (Nat.le_refl _) _
  have hr : OpsRd (W.alloc (.cells #[.int .i64 y.1.k, .int .i64 y.1.x, .string (mk8 y.1.nm), .slice y.2.1 y.1.ot.length y.2.2] 30)) (some ⟨W.heap.size, 0, none⟩) [y] :=
    ⟨RdK.new W 30 1 (oC y) rfl, fun x hx => by rw [List.mem_singleton] at hx; subst hx; exact hy.below hb⟩
  refine (few_any (some ⟨W.heap.size, 0, none⟩) 1 1 [y] _ hr rfl (by omega) (fun x hx => by rw [List.mem_singleton] at hx; subst hx; exact hyo)).mono ?_
  rintro e w' ⟨rfl, rfl⟩
  exact ⟨rfl, hb⟩
/-- What Others, and Find, answer, whichever way. -/
def OthersQ (w : World) (o : Option Nat) (L : List Thg) (e : Ending) (w' : World) : Prop :=
  ∃ (A' : Option Addr) (ls : List (List UInt8)) (c' : Nat) (f : Int), e = .returned (.tuple #[.slice A' ls.length c', .int .i64 f]) ∧ w'.ownsRow w.heap.size 9 1 (.slice A' ls.length c') ls.length (Ss ls) ∧
    Hid (∀ i, o = some i → ∃ t, L[i]? = some t ∧ ls = t.ot ∧ f = 0) ∧ Hid (o = none → ls = [] ∧ f = 13) ∧ Below w.heap.size w w'
def FindQ (w : World) (o : Option Nat) (L : List Thg) (e : Ending) (w' : World) : Prop :=
  ∃ (x : Int) (nm : List UInt8) (f : Int), e = .returned (.tuple #[.int .i64 x, .string (mk8 nm), .int .i64 f]) ∧ Hid (∀ i, o = some i → ∃ t, L[i]? = some t ∧ x = t.x ∧ nm = t.nm ∧ f = 0) ∧ Hid (o = none → x = 0 ∧ nm = [] ∧ f = 13) ∧ Below w.heap.size w w'
section
variable {B r : Nat} {w : World} {os : List TA} {A : Option Addr} {c : Nat}
theorem OthersQ_any (h : RegAt B r w os A c) (s : List UInt8) (hE : EnvN w) : Calls Tryd.prog 18 #[.pointer (some ⟨r, 0, none⟩), .string (mk8 s)] w (OthersQ w (atF s (os.map (·.1))) (os.map (·.1))) :=
  (Others_any h s hE).mono fun e w' ⟨h1, h2⟩ => by
    cases ho : atF s (os.map (·.1)) with
    | none =>
      rw [ho] at h1
      exact ⟨none, [], 0, 13, h1, World.ownsRow_nil _ _ _ _, Lib.hid fun i hi => (by cases hi), Lib.hid fun _ => ⟨rfl, rfl⟩, h2⟩
    | some i =>
      rw [ho] at h1
      obtain ⟨t, A', c', h3, h4, h5⟩ := h1
      exact ⟨A', t.ot, c', 0, h4, h5, Lib.hid fun j hj => (by injection hj with hj; subst hj; exact ⟨t, h3, rfl, rfl⟩), Lib.hid fun hn => (by cases hn), h2⟩
theorem FindQ_any (h : RegAt B r w os A c) (s : List UInt8) (hE : EnvN w) : Calls Tryd.prog 19 #[.pointer (some ⟨r, 0, none⟩), .string (mk8 s)] w (FindQ w (atF s (os.map (·.1))) (os.map (·.1))) :=
  (Find_any h s hE).mono fun e w' ⟨h1, h2⟩ => by
    cases ho : atF s (os.map (·.1)) with
    | none =>
      rw [ho] at h1
      exact ⟨0, [], 13, h1, Lib.hid fun i hi => (by cases hi), Lib.hid fun _ => ⟨rfl, rfl, rfl⟩, h2⟩
    | some i =>
      rw [ho] at h1
      obtain ⟨t, ht⟩ : ∃ t, (os.map (·.1))[i]? = some t := ⟨_, List.getElem?_eq_getElem (atF_lt ho)⟩
      have hft : FindT (some i) (os.map (·.1)) = .tuple #[.int .i64 t.x, .string (mk8 t.nm), .int .i64 0] := by
        unfold FindT
        simp only [ht]
      rw [hft] at h1
      exact ⟨t.x, t.nm, 0, h1, Lib.hid fun j hj => (by injection hj with hj; subst hj; exact ⟨t, ht, rfl, rfl, rfl⟩), Lib.hid fun hn => (by cases hn), h2⟩
end
end Go.Proofs.YthfakejhkbelhaaDoor
