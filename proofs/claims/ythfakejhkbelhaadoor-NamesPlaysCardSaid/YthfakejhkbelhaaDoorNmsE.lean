/- A thing is added: memory, and the code. -/
import Derived.Test.YthfakejhkbelhaaDoorNmsD
set_option linter.unusedSimpArgs false
set_option linter.unusedVariables false
namespace Go.Proofs.YthfakejhkbelhaaDoor
open Go.RowKit

theorem entElem : ElemK Tryd.prog 58 71 (.agg #[.int .i64 0, .string ByteArray.empty, .slice none 0 0]) 3 48 := ⟨Tryd.underlying58, by kernel_rfl, rfl, by omega⟩
section
variable {P : Program}
/-- 'append' of structs at a step of a region that draws its order. -/
theorem step_appK {t e : TypeId} {z : Value} {k bytes : Nat} (E : ElemK P t e z k bytes) (w : World) {ops : Array Oper} {o : Oper} {a : Act} {K : Act → World → Prop} {Q : Exit → Act → World → Prop} {R : Prop} (hgd : o.guard = none) (s x : Operand)
    (ho : o.op = .call { callee := .builtin .append, args := #[s, x], argTypes := #[t, t] }) (base : Nat)
    {v : Value} {n : Nat} {xs : List Value} (hs : a.eval s = v) (hown : w.ownsRow base e k v n xs) {A : Option Addr} {m c : Nat} {news : List Value} (hx : a.eval x = .slice A m c) (hr : RdK w A m k news) (h1 : ∀ u ∈ news, u.oneCell' = true)
    (h63 : n + m ≤ 1099511627776) (hby : bytes ≤ 64) (hbase : base ≤ w.heap.size)
    (h : ∀ A' c' w', w'.ownsRow base e k (.slice A' (n + m) c') (n + m) (xs ++ news) → w.grownBy w' v.ownBlock →
      ((Value.slice A' (n + m) c').ownBlock = v.ownBlock ∨ (Value.slice A' (n + m) c').ownBlock = some w.heap.size) → K (a.put o.dst (.slice A' (n + m) c')) w') :
    if Region.wanted o (yielded ops a.tmps) = true then Oper.wp P o a w K Q else R := by
  rw [if_pos (by simp [Region.wanted, hgd])]
  obtain ⟨A', c', w', hrun, h2, h3, h4⟩ := run_appK E w o.type base hown (c := c) hr h1 h63 hby hbase
  unfold Oper.wp execOp
  simp only [ho, resolve, invoke, builtin, Sem.run_bind, Sem.run_pure, Result.andThen_ok, List.map_toArray, List.map_cons, List.map_nil, hs, hx, hrun]
  exact h A' c' w' h2 h3 h4
end
/-- A row of its own is no block of another type. -/
theorem own_ne {w : World} {B k n g : Nat} {e t : TypeId} {v : Value} {xs : List Value} {cur : Array Value} (h : w.ownsRow B e k v n xs) (hg : w.heap[g]? = some (.cells cur t (0, 0))) (hne : e ≠ t) : v.ownBlock ≠ some g := by
  intro hv
  rcases h.2 with ⟨rfl, _⟩ | ⟨g', cap, cur', rfl, _, hh, _⟩
  · cases hv
  · injection hv with hv
    simp only [] at hv
    subst hv
    rw [hh] at hg
    injection hg with hg
    injection hg with _ hg _
    exact hne hg
theorem own_blk {w : World} {B k n g : Nat} {e : TypeId} {v : Value} {xs : List Value} (h : w.ownsRow B e k v n xs) (hv : v.ownBlock = some g) : B ≤ g ∧ ∃ cur, w.heap[g]? = some (.cells cur e (0, 0)) := by
  rcases h.2 with ⟨rfl, _⟩ | ⟨g', cap, cur', rfl, hB, hh, _⟩
  · cases hv
  · injection hv with hv
    simp only [] at hv
    subst hv
    exact ⟨hB, _, hh⟩
/-- What a call leaves of a registry, and of what is not its own. -/
def RegPost (B r : Nat) (w : World) (os : List TA) (A : Option Addr) (c : Nat) (L : List Thg) (w' : World) : Prop :=
  ∃ os' A' c', os'.map (·.1) = L ∧ RegAt B r w' os' A' c' ∧ Below B w w' ∧ (∀ g, g < w.heap.size → ¬ RegB r os A c g → w'.heap[g]? = w.heap[g]?) ∧ (∀ g, RegB r os' A' c' g → RegB r os A c g ∨ w.heap.size ≤ g)
section
variable {B r : Nat} {w w' : World} {os : List TA} {A : Option Addr} {c : Nat}
theorem RegAt.base (h : RegAt B r w os A c) : B ≤ w.heap.size := Nat.le_trans h.rb (Nat.le_of_lt (box_lt h.cell))
theorem RegPost.same (h : RegAt B r w os A c) (hb : Below w.heap.size w w') : RegPost B r w os A c (os.map (·.1)) w' :=
  ⟨os, A, c, rfl, h.below hb, hb.mono h.base, fun g hg _ => hb.block g hg, fun g hg => .inl hg⟩
theorem st_ne : (71 : TypeId) ≠ 9 := by decide
theorem sr_ne : (9 : TypeId) ≠ 62 := by decide
theorem er_ne : (71 : TypeId) ≠ 62 := by decide
/-- Behind an append onto the things, and the store. -/
theorem reg_app {W w7 : World} {A' : Option Addr} {c' H : Nat} (h : RegAt B r W os A c) (x : TA) (hx : W.ownsRow B 9 1 (otV x) x.1.ot.length (Ss x.1.ot)) (hxH : ∀ g, (otV x).ownBlock = some g → H ≤ g) (hoH : ∀ y ∈ os, ∀ g, (otV y).ownBlock = some g → g < H)
    (hlen : os.length < 256) (hfew : x.1.ot.length ≤ 1000000) (hown : w7.ownsRow B 71 3 (.slice A' (os.length + 1) c') (os.length + 1) (Ts os ++ tC x)) (hg : W.grownBy w7 (Value.slice A os.length c).ownBlock) :
    RegAt B r (w7.setCell ⟨r, 0, none⟩ (.slice A' (os.length + 1) c')) (os ++ [x]) A' c' := by
  have hr7 : w7.heap[r]? = some (.cells #[.slice A os.length c] 62 (0, 0)) := (hg.block r (box_lt h.cell) (fun e => own_ne h.own h.cell er_ne e.symm)).trans h.cell
  have hot : ∀ y, W.ownsRow B 9 1 (otV y) y.1.ot.length (Ss y.1.ot) → (w7.setCell ⟨r, 0, none⟩ (.slice A' (os.length + 1) c')).ownsRow B 9 1 (otV y) y.1.ot.length (Ss y.1.ot) := by
    intro y hy
    refine own_sameN hy (fun g hgy => ?_)
    obtain ⟨_, cur, hcur⟩ := own_blk hy hgy
    have h1 : g ≠ r := fun e => own_ne hy h.cell sr_ne (by rw [hgy, e])
    rw [Below.heap_setCell w7 ⟨r, 0, none⟩ _ g h1]
    exact hg.block g (box_lt hcur) (fun e => own_ne h.own hcur st_ne e.symm)
  refine ⟨h.rb, ?_, ?_, ?_, ?_, by rw [List.length_append, List.length_singleton]; omega, ?_⟩
  · have := box_set hr7 0 (.slice A' (os.length + 1) c')
    rw [this, List.length_append, List.length_singleton]
    rfl
  · rw [Ts_snoc, List.length_append, List.length_singleton]
    refine own_sameN hown (fun g hgv => ?_)
    have h1 : g ≠ r := fun e => own_ne hown hr7 er_ne (by rw [hgv, e])
    exact Below.heap_setCell w7 ⟨r, 0, none⟩ _ g h1
  · intro y hy
    rcases List.mem_append.1 hy with hy | hy
    · exact hot y (h.ot y hy)
    · rw [List.mem_singleton] at hy
      subst hy
      exact hot _ hx
  · intro i j y z hi hj hij b hb hc
    have ci : ∀ (i : Nat) (y : TA), (os ++ [x])[i]? = some y → (i < os.length ∧ os[i]? = some y) ∨ (i = os.length ∧ y = x) := by
      intro i y hi
      by_cases hlt : i < os.length
      · rw [List.getElem?_append_left hlt] at hi
        exact .inl ⟨hlt, hi⟩
      · rw [List.getElem?_append_right (by omega)] at hi
        have : i - os.length = 0 := by
          have := (List.getElem?_eq_some_iff.1 hi).1
          simp at this; omega
        rw [this] at hi
        simp at hi
        exact .inr ⟨by omega, hi.symm⟩
    rcases ci i y hi with ⟨hi1, hi2⟩ | ⟨hi1, rfl⟩ <;> rcases ci j z hj with ⟨hj1, hj2⟩ | ⟨hj1, rfl⟩
    · exact h.apart i j y z hi2 hj2 hij b hb hc
    · have h1 := hoH y (List.mem_of_getElem? hi2) b hc
      have h2 := hxH b hb
      omega
    · have h1 := hoH z (List.mem_of_getElem? hj2) b hb
      have h2 := hxH b hc
      omega
    · omega
  · intro y hy
    rcases List.mem_append.1 hy with hy | hy
    · exact h.few y hy
    · rw [List.mem_singleton] at hy
      subst hy
      exact hfew
end
end Go.Proofs.YthfakejhkbelhaaDoor
