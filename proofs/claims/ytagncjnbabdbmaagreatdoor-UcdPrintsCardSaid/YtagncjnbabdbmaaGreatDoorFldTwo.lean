/- Two lists that grow side by side. -/
import Derived.Test.YtagncjnbabdbmaaGreatDoorFldL2
import Derived.Test.YtagncjnbabdbmaaGreatDoorFldY
import Derived.Test.YtagncjnbabdbmaaGreatDoorFldLaw2
set_option linter.unusedSimpArgs false
set_option linter.unusedVariables false
namespace Go.Proofs.YtagncjnbabdbmaaGreatDoor
open Go.RowKit

theorem own_grown {w w' : World} {base : Nat} {e : TypeId} {v : Value} {n : Nat} {xs : List Value} {row : Option Nat} (h : w.ownsRow base e 1 v n xs) (hg : w.grownBy w' row) (hne : ∀ b, v.ownBlock = some b → row ≠ some b) : w'.ownsRow base e 1 v n xs := by
  refine ⟨h.1, ?_⟩
  rcases h.2 with hn | ⟨g, cap, cur, hv, hgb, hh, rest⟩
  · exact .inl hn
  · refine .inr ⟨g, cap, cur, hv, hgb, (hg.block g (Array.getElem?_eq_some_iff.1 hh).1 ?_).trans hh, rest⟩
    have := hne g (by rw [hv]; rfl)
    exact fun h => this h.symm
/-- 'append' at a step of a region that draws its order. -/
theorem step_app {P : Program} {t e : TypeId} {z : Value} {bytes : Nat} (E : Elem P t e z bytes) (w : World) {ops : Array Oper} {o : Oper} {a : Act} {K : Act → World → Prop} {Q : Exit → Act → World → Prop} {R : Prop} (hgd : o.guard = none) (s x : Operand)
    (ho : o.op = .call { callee := .builtin .append, args := #[s, x], argTypes := #[t, t] }) (base : Nat)
    {v : Value} {n : Nat} {xs : List Value} (hs : a.eval s = v) (hown : w.ownsRow base e 1 v n xs) {A : Option Addr} {m c : Nat} {news : List Value} (hx : a.eval x = .slice A m c) (hr : Rd w A m news) (h1 : ∀ u ∈ news, u.oneCell' = true)
    (h63 : n + m ≤ 1099511627776) (hby : bytes ≤ 64) (hbase : base ≤ w.heap.size)
    (h : ∀ A' c' w', w'.ownsRow base e 1 (.slice A' (n + m) c') (n + m) (xs ++ news) → w.grownBy w' v.ownBlock →
      ((Value.slice A' (n + m) c').ownBlock = v.ownBlock ∨ (Value.slice A' (n + m) c').ownBlock = some w.heap.size) → K (a.put o.dst (.slice A' (n + m) c')) w') :
    if Region.wanted o (yielded ops a.tmps) = true then Oper.wp P o a w K Q else R := by
  rw [if_pos (by simp [Region.wanted, hgd])]
  obtain ⟨A', c', w', hrun, h2, h3, h4⟩ := run_app E w o.type base hown (c := c) hr h1 h63 hby hbase
  unfold Oper.wp execOp
  simp only [ho, resolve, invoke, builtin, Sem.run_bind, Sem.run_pure, Result.andThen_ok, List.map_toArray, List.map_cons, List.map_nil, hs, hx, hrun]
  exact h A' c' w' h2 h3 h4
/-- A quiet call at a step of a region that draws its order. -/
theorem step_call {P : Program} {w : World} {ops : Array Oper} {o : Oper} {a : Act} {K : Act → World → Prop} {Q : Exit → Act → World → Prop} {R : Prop} {f : FuncId} {vs : Array Value} {v : Value} (hgd : o.guard = none)
    (h : Calls P f vs w (fun e w' => e = .returned v ∧ w' = w)) (hrun : (execOp a.eval o).run P w = .ok (.enter f vs) w) (hk : K (a.put o.dst v) w) :
    if Region.wanted o (yielded ops a.tmps) = true then Oper.wp P o a w K Q else R := by
  rw [if_pos (by simp [Region.wanted, hgd])]
  unfold Oper.wp
  rw [hrun, Oper.upon_enter]
  refine h.mono ?_
  rintro e w' ⟨rfl, rfl⟩
  exact hk
/-- Two values stand in two rows. -/
def Apart (u v : Value) : Prop := ∀ b, v.ownBlock = some b → u.ownBlock ≠ some b
theorem Apart.symm {u v : Value} (h : Apart u v) : Apart v u := fun b hb hv => h b hv hb
theorem own_block_lt {w : World} {base : Nat} {e : TypeId} {v : Value} {n : Nat} {xs : List Value} (h : w.ownsRow base e 1 v n xs) : ∀ b, v.ownBlock = some b → b < w.heap.size := by
  intro b hb
  rcases h.2 with ⟨rfl, _⟩ | ⟨g, cap, cur, rfl, _, hh, _⟩
  · cases hb
  · injection hb with hb
    subst hb
    exact (Array.getElem?_eq_some_iff.1 hh).1
theorem Apart.step {u u' v : Value} {H : Nat} (h : Apart u v) (hu : u'.ownBlock = u.ownBlock ∨ u'.ownBlock = some H) (hv : ∀ b, v.ownBlock = some b → b < H) : Apart u' v := by
  intro b hb hc
  rcases hu with hu | hu
  · exact h b hb (hu ▸ hc)
  · rw [hu] at hc
    injection hc with hc
    have := hv b hb
    omega
theorem own_addr {w : World} {base : Nat} {e : TypeId} {A : Option Addr} {c n : Nat} {xs : List Value} (h : w.ownsRow base e 1 (.slice A n c) n xs) (hA : A ≠ none) : ∃ g, A = some ⟨g, 0, none⟩ := by
  rcases h.2 with ⟨hh, _⟩ | ⟨g, cap, cur, hv, _⟩
  · injection hh with hh _ _
    exact absurd hh hA
  · injection hv with h1 _ _
    exact ⟨g, h1⟩
/-- A list's bytes as a string, if the list is none, too. -/
theorem bytes_str0 {w : World} {base : Nat} {A : Option Addr} {c n : Nat} {l : List UInt8} (h : w.ownsRow base 5 1 (.slice A n c) n (Bs l)) (hn : l.length = n) (hA : A ≠ none) :
    (convert 47 9 (.slice A n c)).run Tryz.prog w = .ok (.string (mk8 l)) w := by
  subst hn
  by_cases hl : l = []
  · subst hl
    obtain ⟨g, h1⟩ := own_addr h hA
    · subst h1
      refine run_convert_bytes_back w 47 9 5 ⟨g, 0, none⟩ c [] Tryz.underlying47 Tryz.underlying5 Tryz.underlying9 (fun j hj => ?_)
      simp at hj
  · exact bytes_str h hl
theorem own_some {w : World} {base : Nat} {e : TypeId} {A : Option Addr} {c n m : Nat} {xs : List Value} (h : w.ownsRow base e 1 (.slice A n c) n xs) (hn : n = m + 1) : A ≠ none := by
  obtain ⟨g, hg, _⟩ := own_at h (by omega)
  rw [hg]
  simp
end Go.Proofs.YtagncjnbabdbmaaGreatDoor
