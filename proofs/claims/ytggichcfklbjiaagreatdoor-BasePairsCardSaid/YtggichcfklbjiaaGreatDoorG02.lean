/- Keys that are characters, and pairs of them. Slices of one-cell elements: what one reads as, what a call owns, and append, in one form each. Over any program. -/
import Derived.Test.YtggichcfklbjiaaGreatDoorG01
import Derived.WideKeyArr
import Derived.Maps.AppendAt
import Derived.Deep.AppendLies
import Derived.Deep.QuietTactic
import Derived.BigQuiet
section
set_option linter.unusedSimpArgs false
set_option linter.unusedVariables false
namespace Go.Proofs.YtggichcfklbjiaaGreatDoor
open Go.RowKit Go.Lib Go.Maps
abbrev runeV (x : Int) : Value := .int .i32 x
abbrev runeLit (x : Int) : Lit := .int .i32 x
/-- A number that a rune may be. -/
def R32 (x : Int) : Prop := -2147483648 ≤ x ∧ x < 2147483648
theorem R32.wf {x : Int} (h : R32 x) : (Lit.int .i32 x).wf = true := by
  obtain ⟨h1, h2⟩ := h
  exact WalkArith.wf_i32 ⟨h1, by omega⟩
theorem R32.of_wf {x : Int} (h : (Lit.int .i32 x).wf = true) : R32 x := by
  have := bounds_i32 h
  unfold R32
  omega
theorem runeB {P : Program} {K : TypeId} (hk : P.underlying K = some (.int .i32)) : KeyB P K runeV runeLit R32 where
  keyed := int_keyed hk
  of := fun ha => keyOf_int_mk hk ha.wf
  inv := fun h => by
    obtain ⟨x, rfl, rfl, hw⟩ := Maps.keyOf_int_inv hk h
    exact ⟨x, .of_wf hw, rfl, rfl⟩
  mkinj := fun h => by cases h; rfl
abbrev pairV (x : Int × Int) : Value := .agg #[.int .i32 x.1, .int .i32 x.2]
def pairLit (x : Int × Int) : Lit := .string (keyBytes [.int .i32 x.1, .int .i32 x.2])
def R32P (x : Int × Int) : Prop := R32 x.1 ∧ R32 x.2
theorem keyOf_pair {P : Program} {K e : TypeId} {m : Nat} (A : WideMaps.ArrKey P K e 2) (he : P.underlying e = some (.int .i32)) (hsz : P.types.size = m + 1) (x : Int × Int) (hx : R32P x) : keyOf P K (pairV x) = some (pairLit x) := by
  obtain ⟨h1, h2⟩ := hx
  have hkt : P.keyType K = true := A.keyType ⟨m, hsz⟩
  have hf : (pairV x).formed P K = true := by simp [Value.formed, A.hu, A.size]
  have hk : P.keyLits (P.types.size + 1) K (pairV x).cells.toList = some [.int .i32 x.1, .int .i32 x.2] := by
    rw [hsz]
    simp [Program.keyLits, A.hu, A.size, A.one, he, Value.cells, List.range_succ, h1.wf, h2.wf]
  unfold keyOf
  rw [A.hu]
  simp only [hkt, hf, Bool.and_self, if_true]
  rw [hk]
  rfl
theorem keyOf_pair_inv {P : Program} {K e : TypeId} {m : Nat} (A : WideMaps.ArrKey P K e 2) (he : P.underlying e = some (.int .i32)) (hsz : P.types.size = m + 1) {v : Value} {l : Lit} (h : keyOf P K v = some l) : ∃ x, R32P x ∧ v = pairV x ∧ l = pairLit x := by
  have h0 := h
  unfold keyOf at h
  rw [A.hu] at h
  simp only [] at h
  split at h
  · rename_i hc
    simp only [Bool.and_eq_true] at hc
    cases v <;> simp [Value.formed, A.hu] at hc
    rename_i cs
    have hs : cs.size = 2 := by rw [hc.2, A.size]
    obtain ⟨a, b, rfl⟩ : ∃ a b, cs = #[a, b] := by
      rcases cs with ⟨l⟩
      match l, hs with
      | [a, b], _ => exact ⟨a, b, rfl⟩
    rw [hsz] at h
    simp [Program.keyLits, A.hu, A.size, A.one, he, Value.cells, List.range_succ] at h
    obtain ⟨q1, n1, rfl⟩ : ∃ q n, a = .int q n := by cases a <;> simp at h; exact ⟨_, _, rfl⟩
    obtain ⟨q2, n2, rfl⟩ : ∃ q n, b = .int q n := by
      cases b <;> first | exact ⟨_, _, rfl⟩ | (exfalso; by_cases c1 : q1 = .i32 ∧ (Lit.int .i32 n1).wf = true <;> simp [c1] at h)
    simp only [] at h
    by_cases c1 : q1 = .i32 ∧ (Lit.int .i32 n1).wf = true
    · by_cases c2 : q2 = .i32 ∧ (Lit.int .i32 n2).wf = true
      · obtain ⟨rfl, w1⟩ := c1
        obtain ⟨rfl, w2⟩ := c2
        refine ⟨(n1, n2), ⟨.of_wf w1, .of_wf w2⟩, rfl, ?_⟩
        have := keyOf_pair A he hsz (n1, n2) ⟨.of_wf w1, .of_wf w2⟩
        rw [h0] at this
        exact Option.some.inj this
      · simp [c1, c2] at h
    · simp [c1] at h
  · cases h
theorem pairB {P : Program} {K e : TypeId} {m : Nat} (A : WideMaps.ArrKey P K e 2) (he : P.underlying e = some (.int .i32)) (hsz : P.types.size = m + 1) : KeyB P K pairV pairLit R32P where
  keyed := Keyed.of_law A.law
  of := fun ha => keyOf_pair A he hsz _ ha
  inv := fun h => keyOf_pair_inv A he hsz h
  mkinj := fun {a b} h => by
    obtain ⟨a1, a2⟩ := a
    obtain ⟨b1, b2⟩ := b
    simp at h
    simp [h]
end Go.Proofs.YtggichcfklbjiaaGreatDoor
end

section
namespace Go.Proofs.YtggichcfklbjiaaGreatDoor
open Go.RowKit

/-- The slice of n elements at A reads as the cells xs. -/
def Rd (w : World) (A : Option Addr) (n : Nat) (xs : List Value) : Prop :=
  xs.length = n ∧ (0 < n → ∃ b off, A = some ⟨b, off, none⟩ ∧ ∀ j u, xs[j]? = some u → w.cell? ⟨b, off + j, none⟩ = some u)

section
variable {w w' : World} {A : Option Addr} {n : Nat} {xs : List Value}
theorem Rd.nil (w : World) (A : Option Addr) : Rd w A 0 [] := ⟨rfl, fun h => absurd h (by omega)⟩
theorem Rd.at_ (h : Rd w A n xs) (hn : 0 < n) : ∃ b off, A = some ⟨b, off, none⟩ ∧ b < w.heap.size ∧ ∀ j u, xs[j]? = some u → w.cell? ⟨b, off + j, none⟩ = some u := by
  obtain ⟨b, off, hA, hc⟩ := h.2 hn
  refine ⟨b, off, hA, ?_, hc⟩
  have hl := h.1
  have h0 := hc 0 _ (List.getElem?_eq_getElem (by omega))
  exact World.block_lt_of_cell? w _ h0
theorem Rd.keep (h : Rd w A n xs) (hk : ∀ p : Addr, p.block < w.heap.size → (∀ a, A = some a → p.block = a.block) → w'.cell? p = w.cell? p) : Rd w' A n xs := by
  refine ⟨h.1, fun hn => ?_⟩
  obtain ⟨b, off, rfl, hb, hc⟩ := h.at_ hn
  exact ⟨b, off, rfl, fun j u hu => (hk _ hb (fun a ha => by injection ha with ha; rw [← ha])).trans (hc j u hu)⟩
theorem Rd.below (h : Rd w A n xs) (hb : Below w.heap.size w w') : Rd w' A n xs := h.keep fun _ hp _ => hb.cell hp
/-- Behind a write to one row, if that is not its own. -/
theorem Rd.grown (h : Rd w A n xs) {row : Option Nat} (hg : w.grownBy w' row) (hne : ∀ a, A = some a → row ≠ some a.block) : Rd w' A n xs := by
  refine ⟨h.1, fun hn => ?_⟩
  obtain ⟨b, off, rfl, hb, hc⟩ := h.at_ hn
  refine ⟨b, off, rfl, fun j u hu => (World.cell?_of_block (hg.block b hb ?_)).trans (hc j u hu)⟩
  intro hh
  exact hne _ rfl hh.symm
theorem Rd.alloc (h : Rd w A n xs) (o : Obj) : Rd (w.alloc o) A n xs := h.below ((Below.refl _ _).alloc (Nat.le_refl _) o)
theorem Rd.drewN (h : Rd w A n xs) (k : Nat) : Rd (w.drewN k) A n xs := h.keep fun _ _ _ => rfl
theorem Rd.drew (h : Rd w A n xs) : Rd w.drew A n xs := h.keep fun _ _ _ => rfl
theorem Rd.drewTo (h : Rd w A n xs) (hd : Drew w w') : Rd w' A n xs := by
  obtain ⟨k, rfl⟩ := hd
  exact h.drewN k
theorem Rd.new (w : World) (e : TypeId) (l : List Value) : Rd (w.alloc (.cells l.toArray e)) (some ⟨w.heap.size, 0, none⟩) l.length l := by
  refine ⟨rfl, fun _ => ⟨_, _, rfl, fun j u hu => ?_⟩⟩
  rw [World.cell?_alloc_at _ _ _ _ rfl]
  simpa using hu
theorem Rd.new1 (w : World) (e : TypeId) (u : Value) : Rd (w.alloc (.cells #[u] e)) (some ⟨w.heap.size, 0, none⟩) 1 [u] := Rd.new w e [u]
theorem Rd.newAt (w : World) (e : TypeId) (u : Value) {H : Nat} (h : w.heap.size = H) : Rd (w.alloc (.cells #[u] e)) (some ⟨H, 0, none⟩) 1 [u] := by
  subst h
  exact Rd.new w e [u]
theorem one_of {u : Value} (h : u.oneCell' = true) : ∀ x ∈ [u], x.oneCell' = true := fun x hx => by
  rw [List.mem_singleton] at hx
  rw [hx]
  exact h
theorem Rd.of_own {base : Nat} {e : TypeId} {v : Value} (h : w.ownsRow base e 1 v n xs) : ∃ A c, v = .slice A n c ∧ n ≤ c ∧ c ≤ maxLen ∧ Rd w A n xs := by
  have hl : xs.length = n := by have := h.1; omega
  rcases h.2 with ⟨rfl, rfl⟩ | ⟨g, cap, cur, rfl, _, hh, hn, hm, _, htake⟩
  · exact ⟨none, 0, rfl, Nat.le_refl _, by unfold maxLen; omega, hl, fun hh => absurd hh (by omega)⟩
  · refine ⟨_, cap, rfl, hn, hm, hl, fun _ => ⟨g, 0, rfl, fun j u hu => ?_⟩⟩
    rw [Nat.zero_add, cell_of_row w g j cur e (0, 0) hh]
    rw [← htake, List.getElem?_take] at hu
    split at hu
    · simpa using hu
    · cases hu
end

/-- What a row of the program's tables says of a slice type t of one-cell elements e. -/
structure Elem (P : Program) (t e : TypeId) (z : Value) (bytes : Nat) : Prop where
  ht : P.underlying t = some (.slice e)
  hi : (P.info? e).map (fun i => (i.zero, i.size, i.bytes)) = some (some z, 1, bytes)
  hz : z.cells.size = 1

section
variable {P : Program}
theorem run_append_nil (w : World) (base : Nat) (t ty e : TypeId) (i : TypeInfo) (size : Nat) (ht : P.underlying t = some (.slice e)) (hi : P.info? e = some i)
    (v : Value) (n : Nat) (xs : List Value) (hown : w.ownsRow base e size v n xs) (c : Nat) : (Builtin.append_ #[t, t] ty #[v, .slice none 0 c]).run P w = .ok v w := by
  rcases hown.2 with ⟨rfl, rfl⟩ | ⟨g, cap, cur, rfl, _, _, hnc, _⟩
  · simp [Builtin.append_, run_underlying ht, sizeOf, typeInfo, hi, Builtin.lenOf, Builtin.firstCells]
  · simp [Builtin.append_, run_underlying ht, sizeOf, typeInfo, hi, Builtin.lenOf, Builtin.firstCells, hnc, storeCells]

theorem own_shape {w : World} {base : Nat} {e : TypeId} {v : Value} {n : Nat} {xs : List Value} (h : w.ownsRow base e 1 v n xs) : ∃ A c, v = .slice A n c := by
  obtain ⟨A, c, rfl, _⟩ := Rd.of_own h
  exact ⟨A, c, rfl⟩

theorem run_app {t e : TypeId} {z : Value} {bytes : Nat} (E : Elem P t e z bytes) (w : World) (ty : TypeId) (base : Nat)
    {v : Value} {n : Nat} {xs : List Value} (hown : w.ownsRow base e 1 v n xs) {A : Option Addr} {m c : Nat} {news : List Value} (hr : Rd w A m news) (h1 : ∀ u ∈ news, u.oneCell' = true)
    (h63 : n + m ≤ 1099511627776) (hby : bytes ≤ 64) (hbase : base ≤ w.heap.size) :
    ∃ A' c' w', (Builtin.append_ #[t, t] ty #[v, .slice A m c]).run P w = .ok (.slice A' (n + m) c') w' ∧ w'.ownsRow base e 1 (.slice A' (n + m) c') (n + m) (xs ++ news) ∧ w.grownBy w' v.ownBlock ∧
      ((Value.slice A' (n + m) c').ownBlock = v.ownBlock ∨ (Value.slice A' (n + m) c').ownBlock = some w.heap.size) := by
  obtain ⟨i, hi, hz0, hz1, hz2⟩ := info_parts E.hi
  have hb : (n + m) * bytes ≤ 140737488355328 := Nat.le_trans (Nat.mul_le_mul h63 hby) (by omega)
  have hml : n + m ≤ maxLen := by unfold maxLen; omega
  have fin : ∀ (ad : Addr), (∀ j u, news[j]? = some u → w.cell? (ad.add j) = some u) → ∃ A' c' w', (Builtin.append_ #[t, t] ty #[v, .slice (some ad) m c]).run P w = .ok (.slice A' (n + m) c') w' ∧ w'.ownsRow base e 1 (.slice A' (n + m) c') (n + m) (xs ++ news) ∧ w.grownBy w' v.ownBlock ∧
      ((Value.slice A' (n + m) c').ownBlock = v.ownBlock ∨ (Value.slice A' (n + m) c').ownBlock = some w.heap.size) := by
    intro ad had
    obtain ⟨v', w', hrun, h2, h3, _, h5⟩ := run_append_own_at (P := P) w base t ty e i z 1 bytes E.ht hi hz0 hz1 hz2 E.hz (by omega) v n xs hown ad m c news (by rw [hr.1, Nat.mul_one]) had h1 hml hb hbase
    obtain ⟨A', c', rfl⟩ := own_shape h2
    exact ⟨A', c', w', hrun, h2, h3, h5⟩
  rcases Nat.eq_zero_or_pos m with h0 | h0
  · subst h0
    have hn : news = [] := List.eq_nil_of_length_eq_zero hr.1
    subst hn
    cases A with
    | none =>
      obtain ⟨A', c', rfl⟩ := own_shape hown
      exact ⟨A', c', w, run_append_nil w base t ty e i 1 E.ht hi _ n xs hown c, by simpa using hown, World.grownBy.refl w _, .inl rfl⟩
    | some ad => exact fin ad (fun j u hu => by simp at hu)
  · obtain ⟨b, off, rfl, hcell⟩ := hr.2 h0
    exact fin ⟨b, off, none⟩ (fun j u hu => by rw [Addr.add_lit]; exact hcell j u hu)

/-- 'out = append(out, ..)': out nil or the call's own; what is appended nil, empty or not. -/
theorem wpList_app {t e : TypeId} {z : Value} {bytes : Nat} (E : Elem P t e z bytes) (w : World) {ops : Array Oper} {rest : List Oper} {o : Oper} {a : Act} {Q : Exit → Act → World → Prop} (hgd : o.guard = none) (s x : Operand)
    (ho : o.op = .call { callee := .builtin .append, args := #[s, x], argTypes := #[t, t] }) (base : Nat)
    {v : Value} {n : Nat} {xs : List Value} (hs : a.eval s = v) (hown : w.ownsRow base e 1 v n xs) {A : Option Addr} {m c : Nat} {news : List Value} (hx : a.eval x = .slice A m c) (hr : Rd w A m news) (h1 : ∀ u ∈ news, u.oneCell' = true)
    (h63 : n + m ≤ 1099511627776) (hby : bytes ≤ 64) (hbase : base ≤ w.heap.size)
    (h : ∀ A' c' w', w'.ownsRow base e 1 (.slice A' (n + m) c') (n + m) (xs ++ news) → w.grownBy w' v.ownBlock →
      ((Value.slice A' (n + m) c').ownBlock = v.ownBlock ∨ (Value.slice A' (n + m) c').ownBlock = some w.heap.size) → wpList P ops Q rest (a.put o.dst (.slice A' (n + m) c')) w') : wpList P ops Q (o :: rest) a w := by
  refine wpList_plain hgd fun K hK => ?_
  obtain ⟨A', c', w', hrun, h2, h3, h4⟩ := run_app E w o.type base hown (c := c) hr h1 h63 hby hbase
  unfold Oper.wp execOp
  simp only [ho, resolve, invoke, builtin, Sem.run_bind, Sem.run_pure, Result.andThen_ok, List.map_toArray, List.map_cons, List.map_nil, hs, hx, hrun]
  exact hK _ _ (h A' c' w' h2 h3 h4)
end

theorem own_below {w w' : World} {base : Nat} {e : TypeId} {v : Value} {n : Nat} {xs : List Value} (h : w.ownsRow base e 1 v n xs) (hb : Below w.heap.size w w') : w'.ownsRow base e 1 v n xs := by
  refine ⟨h.1, ?_⟩
  rcases h.2 with hn | ⟨g, cap, cur, hv, hg, hh, rest⟩
  · exact .inl hn
  · exact .inr ⟨g, cap, cur, hv, hg, (hb.block g (Array.getElem?_eq_some_iff.1 hh).1).trans hh, rest⟩
/-- Behind an append onto a row of the call's own all that was there ahead of the call is as it was. -/
theorem below_app {base : Nat} {w0 w w' : World} {e : TypeId} {v : Value} {n : Nat} {xs : List Value} (hb : Below base w0 w) (hB : base ≤ w.heap.size) (hown : w.ownsRow base e 1 v n xs) (hg : w.grownBy w' v.ownBlock) : Below base w0 w' :=
  hb.grown hg hB (fun k hk => (hown.lt k hk).1)
theorem runes_one (k : IntKind) (zs : List Int) : ∀ u ∈ zs.map (Value.int k), u.oneCell' = true := ints_oneCell k zs
end Go.Proofs.YtggichcfklbjiaaGreatDoor
end
