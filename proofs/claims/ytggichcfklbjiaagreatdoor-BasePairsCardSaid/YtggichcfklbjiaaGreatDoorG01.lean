/- Small words that all walks of this seat share: worlds after draws, endings, slices that read as lists. No program stands here. Maps as functions from keys to what stands at them: one word for maps of whatever elements. -/
import Derived.WalkKit
import Derived.Handy
import Derived.Deep.Draws
import Derived.Lib.Hide
import Derived.Maps.OwnSet
import Derived.Maps.RangeWalk
import Derived.Maps.OwnIn
import Derived.Sort.MapsRangeIn
section
namespace Go.Proofs.YtggichcfklbjiaaGreatDoor
open Go.RowKit

/-- The world after some draws. -/
def Drew (w w' : World) : Prop := ∃ n, w' = w.drewN n
theorem Drew.refl (w : World) : Drew w w := ⟨0, rfl⟩
theorem Drew.trans {a b c : World} (h : Drew a b) (k : Drew b c) : Drew a c := by
  obtain ⟨n, rfl⟩ := h
  obtain ⟨m, rfl⟩ := k
  exact ⟨n + m, by simp⟩
theorem Drew.to {w w' : World} (h : Drew w w') : Below w.heap.size w w' := by
  obtain ⟨n, rfl⟩ := h
  exact ⟨rfl, rfl, rfl, Nat.le_refl _, fun _ _ => rfl⟩
theorem Drew.below {w w' : World} (h : Drew w w') (B : Nat) : Below B w w' := by
  obtain ⟨n, rfl⟩ := h
  exact ⟨rfl, rfl, rfl, Nat.le_refl _, fun _ _ => rfl⟩
theorem below_drewN (w : World) (B n : Nat) : Below B w (w.drewN n) := ⟨rfl, rfl, rfl, Nat.le_refl _, fun _ _ => rfl⟩
theorem below_drew' {B : Nat} {a w : World} (h : Below B a w) (n : Nat) : Below B a (w.drewN n) := h.trans (below_drewN w B n)
/-- One call more behind what is known. -/
theorem below_then {a b c : World} (h : Below a.heap.size a b) (k : Below b.heap.size b c) : Below a.heap.size a c := h.trans (k.mono h.size)

/-- A quiet call inside a region that draws. -/
theorem quiet_left {P : Program} {f : FuncId} {args : Array Value} {w : World} {n : Nat} {v : Value}
    (h : Calls P f args (w.drewN n) fun e w' => e = .returned v ∧ w.drewN n = w') : Calls P f args (w.drewN n) fun e w'' => e = .returned v ∧ ∃ m, w'' = w.drewN m :=
  h.mono fun _ _ ⟨he, hm⟩ => ⟨he, n, hm.symm⟩
theorem quiet_right {P : Program} {f : FuncId} {args : Array Value} {w : World} {n : Nat} {v : Value}
    (h : Calls P f args (w.drewN n) fun e w' => e = .returned v ∧ w' = w.drewN n) : Calls P f args (w.drewN n) fun e w'' => e = .returned v ∧ ∃ m, w'' = w.drewN m :=
  h.mono fun _ _ ⟨he, hm⟩ => ⟨he, n, hm⟩
theorem quiet_drew {P : Program} {f : FuncId} {args : Array Value} {w : World} {n : Nat} {v : Value}
    (h : Calls P f args (w.drewN n) fun e w' => e = .returned v ∧ Drew (w.drewN n) w') : Calls P f args (w.drewN n) fun e w'' => e = .returned v ∧ ∃ m, w'' = w.drewN m :=
  h.mono fun _ _ ⟨he, m, hm⟩ => ⟨he, n + m, by rw [hm, World.drewN_drewN]⟩

theorem ret_i32_bool {a b : Int} {p q : Bool} (h : a = b) (h' : p = q) : Ending.returned (.tuple #[.int .i32 a, .bool p]) = .returned (.tuple #[.int .i32 b, .bool q]) := by rw [h, h']
theorem ret_rrb {a b a' b' : Int} {p q : Bool} (h1 : a = a') (h2 : b = b') (h3 : p = q) : Ending.returned (.tuple #[.int .i32 a, .int .i32 b, .bool p]) = .returned (.tuple #[.int .i32 a', .int .i32 b', .bool q]) := by rw [h1, h2, h3]
theorem ret_bool {p q : Bool} (h : p = q) : Ending.returned (.bool p) = .returned (.bool q) := by rw [h]
theorem ret_i32 {a b : Int} (h : a = b) : Ending.returned (.int .i32 a) = .returned (.int .i32 b) := by rw [h]
theorem ret_i64 {a b : Int} (h : a = b) : Ending.returned (.int .i64 a) = .returned (.int .i64 b) := by rw [h]
end Go.Proofs.YtggichcfklbjiaaGreatDoor
end

section
set_option linter.unusedSimpArgs false
set_option linter.unusedVariables false
namespace Go.Proofs.YtggichcfklbjiaaGreatDoor
open Go.RowKit Go.Lib Go.Maps Go.ChangeMaps Go.MapKept
/-- What a key type's values are: written by 'mk', read as 'lit'. -/
structure KeyB (P : Program) (K : TypeId) {α : Type} (mk : α → Value) (lit : α → Lit) (ok : α → Prop) : Prop where
  keyed : Keyed P K
  of : ∀ {a}, ok a → keyOf P K (mk a) = some (lit a)
  inv : ∀ {v l}, keyOf P K v = some l → ∃ a, ok a ∧ v = mk a ∧ l = lit a
  mkinj : ∀ {a b}, mk a = mk b → a = b
theorem KeyB.inj {P : Program} {K : TypeId} {α : Type} {mk : α → Value} {lit : α → Lit} {ok : α → Prop} (B : KeyB P K mk lit ok) {a b : α} (ha : ok a) (hb : ok b) (h : lit a = lit b) : a = b := by
  have h1 := B.of ha
  rw [h] at h1
  exact B.mkinj (B.keyed.inj h1 (B.of hb))
open Classical in
/-- An element reads as itself, if it has the shape. -/
noncomputable def shapeV {β : Type} (mkV : β → Value) (v : Value) : Option (DataW Value × List MemPlace) := if ∃ c, v = mkV c then some (.held v, []) else none
theorem shapeV_mk {β : Type} (mkV : β → Value) (c : β) : shapeV mkV (mkV c) = some (.held (mkV c), []) := by
  unfold shapeV
  rw [if_pos ⟨c, rfl⟩]
theorem shapeV_inv {β : Type} {mkV : β → Value} {v : Value} {y : DataW Value × List MemPlace} (h : shapeV mkV v = some y) : ∃ c, v = mkV c ∧ y = (.held (mkV c), []) := by
  unfold shapeV at h
  split at h
  · rename_i hc
    obtain ⟨c, rfl⟩ := hc
    cases h
    exact ⟨c, rfl, rfl⟩
  · cases h
/-- What a datum says of keys. -/
def Says {α β : Type} (lit : α → Lit) (ok : α → Prop) (mkV : β → Value) (f : α → Option β) (D : DataW Value) : Prop :=
  ∀ a, ok a → Maps.has D (lit a) = (f a).isSome ∧ ∀ c, f a = some c → ∀ z, D.atKey (lit a) z = .held (mkV c)
/-- BLOCK b IS A MAP OF AT MOST n ENTRIES IN WHICH AT EACH KEY STANDS WHAT f SAYS. -/
def MapF {α β : Type} (w : World) (P : Program) (K : TypeId) (lit : α → Lit) (ok : α → Prop) (mkV : β → Value) (b n : Nat) (f : α → Option β) : Prop :=
  ∃ D, w.ownsMap P K (shapeV mkV) b n D ∧ Says lit ok mkV f D
/-- The same map while one goes through it: 'left': which keys are still to come. -/
def MapR {α β : Type} (w : World) (P : Program) (K : TypeId) (lit : α → Lit) (ok : α → Prop) (mkV : β → Value) (b r n : Nat) (f : α → Option β) (left : α → Bool) (cnt : Nat) : Prop :=
  ∃ D L, w.ranges P K (shapeV mkV) b r n D L cnt ∧ Says lit ok mkV f D ∧ ∀ a, ok a → L (lit a) = left a
section
variable {α β : Type} {P : Program} {K : TypeId} {mk : α → Value} {lit : α → Lit} {ok : α → Prop} {mkV : β → Value} {w : World} {b n : Nat} {f : α → Option β}
theorem MapF.made (w : World) (P : Program) (K : TypeId) (lit : α → Lit) (ok : α → Prop) (mkV : β → Value) : MapF (w.alloc (.map #[] 0)) P K lit ok mkV w.heap.size 0 (fun _ => none) :=
  ⟨.map [], World.ownsMap_made w P K _, fun a _ => ⟨rfl, fun c h => by cases h⟩⟩
theorem MapF.lt (h : MapF w P K lit ok mkV b n f) : b < w.heap.size := by obtain ⟨D, h, _⟩ := h; exact h.lt
theorem MapF.kept {w' : World} {row : Option Nat} (h : MapF w P K lit ok mkV b n f) (hg : w.grownBy w' row) (hne : some b ≠ row) : MapF w' P K lit ok mkV b n f := by
  obtain ⟨D, h, s⟩ := h; exact ⟨D, h.kept hg hne, s⟩
theorem MapF.at {w' : World} (h : MapF w P K lit ok mkV b n f) (hb : w'.heap[b]? = w.heap[b]?) : MapF w' P K lit ok mkV b n f := by
  obtain ⟨D, ⟨es, clock, h1, r⟩, s⟩ := h; exact ⟨D, ⟨es, clock, hb.trans h1, r⟩, s⟩
theorem MapF.below {w' : World} {m : Nat} (h : MapF w P K lit ok mkV b n f) (hb : Below m w w') (hlt : b < m) : MapF w' P K lit ok mkV b n f := h.at (hb.block b hlt)
theorem MapF.alloc (h : MapF w P K lit ok mkV b n f) (o : Obj) : MapF (w.alloc o) P K lit ok mkV b n f := h.kept (World.grownBy_alloc w o none) (by simp)
theorem MapF.mono (h : MapF w P K lit ok mkV b n f) {n' : Nat} (hn : n ≤ n') : MapF w P K lit ok mkV b n' f := by
  obtain ⟨D, h, s⟩ := h; exact ⟨D, h.mono hn, s⟩
theorem MapF.congr {g : α → Option β} (h : MapF w P K lit ok mkV b n f) (hg : ∀ a, ok a → g a = f a) : MapF w P K lit ok mkV b n g := by
  obtain ⟨D, h, s⟩ := h
  exact ⟨D, h, fun a ha => by rw [hg a ha]; exact s a ha⟩
theorem MapF.setCell (h : MapF w P K lit ok mkV b n f) {a : Addr} (ha : b ≠ a.block) (u : Value) : MapF (w.setCell a u) P K lit ok mkV b n f := by
  obtain ⟨D, h, s⟩ := h; exact ⟨D, h.setCell ha u, s⟩
theorem MapF.ne_cells (h : MapF w P K lit ok mkV b n f) {j : Nat} {cs : Array Value} {t : TypeId} {fr : Nat × Nat} (hj : w.heap[j]? = some (.cells cs t fr)) : b ≠ j := by
  obtain ⟨D, ⟨es, clock, h1, _⟩, _⟩ := h
  intro e
  rw [e, hj] at h1
  cases h1
/-- What stands at a key that was laid, and at the others. -/
def upd [DecidableEq α] (f : α → Option β) (k : α) (v : Option β) : α → Option β := fun a => if a = k then v else f a
theorem Says.put [DecidableEq α] {D : DataW Value} (B : KeyB P K mk lit ok) (hD : Maps.IsMap D) (s : Says lit ok mkV f D) {k : α} (hk : ok k) (c : β) : Says lit ok mkV (upd f k (some c)) (D.put (lit k) (.held (mkV c))) := fun a ha => by
  unfold upd
  by_cases e : a = k
  · subst e
    rw [if_pos rfl]
    refine ⟨?_, fun c' h' z => ?_⟩
    · rw [Maps.has_put_same hD (B.keyed.key (B.of ha))]; rfl
    · cases h'
      exact Maps.atKey_put_same hD (B.keyed.key (B.of ha)) _ _
  · have hne : lit a ≠ lit k := fun h => e (B.inj ha hk h)
    rw [if_neg e]
    obtain ⟨h1, h2⟩ := s a ha
    exact ⟨by rw [Maps.has_put_other hne]; exact h1, fun c' h' z => by rw [Maps.atKey_put_other hne]; exact h2 c' h' z⟩
theorem Says.del [DecidableEq α] {D : DataW Value} (B : KeyB P K mk lit ok) (s : Says lit ok mkV f D) {k : α} (hk : ok k) : Says lit ok mkV (upd f k none) (D.del (lit k)) := fun a ha => by
  unfold upd
  by_cases e : a = k
  · subst e
    rw [if_pos rfl]
    exact ⟨Maps.has_del_same, fun c' h' => by cases h'⟩
  · have hne : lit a ≠ lit k := fun h => e (B.inj ha hk h)
    rw [if_neg e]
    obtain ⟨h1, h2⟩ := s a ha
    exact ⟨by rw [Maps.has_del_other hne]; exact h1, fun c' h' z => by rw [Maps.atKey_del_other hne]; exact h2 c' h' z⟩
/-- 'm[k]'. -/
theorem MapF.look {t e : TypeId} {zv : β} (h : MapF w P K lit ok mkV b n f) (B : KeyB P K mk lit ok) (ht : P.underlying t = some (.map K e)) (hz : (zeroValue e).run P w = .ok (mkV zv) w) {k : α} (hk : ok k) (both : Bool) :
    (Instr.lookup t (.map (some b)) (mk k) both).run P w = .ok (if both then .tuple #[mkV ((f k).getD zv), .bool (f k).isSome] else mkV ((f k).getD zv)) w := by
  obtain ⟨D, h, s⟩ := h
  obtain ⟨h1, h2⟩ := s k hk
  have key : ∀ v ps, shapeV mkV v = some (D.atKey (lit k) (.held (mkV zv)), ps) → v = mkV ((f k).getD zv) := fun v ps hv => by
    obtain ⟨c, rfl, hc⟩ := shapeV_inv hv
    have hc1 := congrArg Prod.fst hc
    cases hf : f k with
    | none =>
      rw [hf] at h1
      rw [Maps.atKey_of_not_has h1] at hc1
      injection hc1 with e1
      exact e1.symm
    | some c' =>
      rw [h2 c' hf] at hc1
      injection hc1 with e1
      exact e1.symm
  cases both with
  | false =>
    obtain ⟨v, ps, hrun, hv⟩ := h.lookup B.keyed ht hz (shapeV_mk mkV zv) (B.of hk)
    rw [hrun, key v ps hv]
    rfl
  | true =>
    obtain ⟨v, ps, hrun, hv⟩ := h.look_ok B.keyed ht hz (shapeV_mk mkV zv) (B.of hk)
    rw [hrun, key v ps hv, h1]
    rfl
/-- 'm[k] = v'. -/
theorem MapF.put [DecidableEq α] {t e : TypeId} (h : MapF w P K lit ok mkV b n f) (B : KeyB P K mk lit ok) (ht : P.underlying t = some (.map K e)) (hn : n < maxLen) {k : α} (hk : ok k) (c : β) :
    ∃ w', (Instr.mapUpdate t (.map (some b)) (mk k) (mkV c)).run P w = .ok () w' ∧ MapF w' P K lit ok mkV b (n + 1) (upd f k (some c)) ∧ w.grownBy w' (some b) ∧ w'.heap.size = w.heap.size := by
  obtain ⟨D, h, s⟩ := h
  obtain ⟨w', hrun, h', hg⟩ := h.store B.keyed ht hn (B.of hk) (shapeV_mk mkV c)
  refine ⟨w', hrun, ⟨_, h', s.put B h.isMap hk c⟩, hg.grown, ?_⟩
  obtain ⟨_, _, _, _, _, rfl⟩ := hg
  simp [setBlock]
/-- 'delete(m, k)'. -/
theorem MapF.del [DecidableEq α] {t e : TypeId} (h : MapF w P K lit ok mkV b n f) (B : KeyB P K mk lit ok) (ht : P.underlying t = some (.map K e)) {k : α} (hk : ok k) (ty : TypeId) :
    ∃ w', (Builtin.delete_ #[t, K] ty #[.map (some b), mk k]).run P w = .ok (.tuple #[]) w' ∧ MapF w' P K lit ok mkV b n (upd f k none) ∧ w.grownBy w' (some b) ∧ w'.heap.size = w.heap.size := by
  obtain ⟨D, h, s⟩ := h
  obtain ⟨w', hrun, h', hg⟩ := h.drop B.keyed ht (B.of hk) ty
  refine ⟨w', hrun, ⟨_, h', s.del B hk⟩, hg.grown, ?_⟩
  obtain ⟨_, _, _, _, _, rfl⟩ := hg
  simp [setBlock]
/-! ### at the operation -/
variable {ops : Array Oper} {rest : List Oper} {o : Oper} {a : Act} {Q : Exit → Act → World → Prop}
theorem wpList_lookF {t e : TypeId} {zv : β} {both : Bool} (hg : o.guard = none) (m x : Operand) (hop : o.op = Op.lookup t m x both) (B : KeyB P K mk lit ok) (ht : P.underlying t = some (.map K e)) (hz : (zeroValue e).run P w = .ok (mkV zv) w)
    (h : MapF w P K lit ok mkV b n f) {k : α} (hk : ok k) (hm : a.eval m = .map (some b)) (hx : a.eval x = mk k)
    (hK : wpList P ops Q rest (a.put o.dst (if both then .tuple #[mkV ((f k).getD zv), .bool (f k).isSome] else mkV ((f k).getD zv))) w) : wpList P ops Q (o :: rest) a w := by
  refine wpList_plain hg fun K' hK' => ?_
  have hrun := h.look B ht hz hk both
  unfold Oper.wp
  simp [execOp, hop, hm, hx, hrun, Result.andThen]
  exact hK' _ _ hK
/-- The same at an operation behind a guard that lets it run. -/
theorem wpList_lookG {t e : TypeId} {zv : β} {both : Bool} (hg : Region.wanted o (yielded ops a.tmps) = true) (m x : Operand) (hop : o.op = Op.lookup t m x both) (B : KeyB P K mk lit ok) (ht : P.underlying t = some (.map K e)) (hz : (zeroValue e).run P w = .ok (mkV zv) w)
    (h : MapF w P K lit ok mkV b n f) {k : α} (hk : ok k) (hm : a.eval m = .map (some b)) (hx : a.eval x = mk k)
    (hK : wpList P ops Q rest (a.put o.dst (if both then .tuple #[mkV ((f k).getD zv), .bool (f k).isSome] else mkV ((f k).getD zv))) w) : wpList P ops Q (o :: rest) a w := by
  refine wpList_step fun K' hK' => ?_
  rw [if_pos hg]
  have hrun := h.look B ht hz hk both
  unfold Oper.wp
  simp [execOp, hop, hm, hx, hrun, Result.andThen]
  exact hK' _ _ hK
theorem wpList_putF [DecidableEq α] {t e : TypeId} (hg : o.guard = none) (m x v : Operand) (hop : o.op = Op.mapUpdate t m x v) (B : KeyB P K mk lit ok) (ht : P.underlying t = some (.map K e)) (hn : n < maxLen)
    (h : MapF w P K lit ok mkV b n f) {k : α} (hk : ok k) (c : β) (hm : a.eval m = .map (some b)) (hx : a.eval x = mk k) (hv : a.eval v = mkV c)
    (hK : ∀ w', MapF w' P K lit ok mkV b (n + 1) (upd f k (some c)) → w.grownBy w' (some b) → w'.heap.size = w.heap.size → wpList P ops Q rest (a.put o.dst undef) w') : wpList P ops Q (o :: rest) a w := by
  refine wpList_plain hg fun K' hK' => ?_
  obtain ⟨w', hrun, r1, r2, r3⟩ := h.put B ht hn hk c
  unfold Oper.wp
  simp [execOp, hop, hm, hx, hv, hrun, Result.andThen]
  exact hK' _ _ (hK w' r1 r2 r3)
theorem wpList_delF [DecidableEq α] {t e : TypeId} (hg : o.guard = none) (m x : Operand) (hop : o.op = Op.call { callee := Callee.builtin Builtin.delete, args := #[m, x], argTypes := #[t, K] }) (B : KeyB P K mk lit ok) (ht : P.underlying t = some (.map K e))
    (h : MapF w P K lit ok mkV b n f) {k : α} (hk : ok k) (hm : a.eval m = .map (some b)) (hx : a.eval x = mk k)
    (hK : ∀ w', MapF w' P K lit ok mkV b n (upd f k none) → w.grownBy w' (some b) → w'.heap.size = w.heap.size → wpList P ops Q rest (a.put o.dst (.tuple #[])) w') : wpList P ops Q (o :: rest) a w := by
  refine wpList_plain hg fun K' hK' => ?_
  obtain ⟨w', hrun, r1, r2, r3⟩ := h.del B ht hk o.type
  unfold Oper.wp
  simp [execOp, hop, resolve, invoke, builtin, hm, hx, hrun, Result.andThen]
  exact hK' _ _ (hK w' r1 r2 r3)
theorem step_putF [DecidableEq α] {K' : Act → World → Prop} {R : Prop} {t e : TypeId} (hg : o.guard = none) (m x v : Operand) (hop : o.op = Op.mapUpdate t m x v) (B : KeyB P K mk lit ok) (ht : P.underlying t = some (.map K e)) (hn : n < maxLen)
    (h : MapF w P K lit ok mkV b n f) {k : α} (hk : ok k) (c : β) (hm : a.eval m = .map (some b)) (hx : a.eval x = mk k) (hv : a.eval v = mkV c)
    (hK : ∀ w', MapF w' P K lit ok mkV b (n + 1) (upd f k (some c)) → w.grownBy w' (some b) → w'.heap.size = w.heap.size → K' (a.put o.dst undef) w') : if Region.wanted o (yielded ops a.tmps) = true then Oper.wp P o a w K' Q else R := by
  rw [if_pos (by simp [Region.wanted, hg])]
  obtain ⟨w', hrun, r1, r2, r3⟩ := h.put B ht hn hk c
  unfold Oper.wp
  simp [execOp, hop, hm, hx, hv, hrun, Result.andThen]
  exact hK w' r1 r2 r3
/-! ### going through a map -/
theorem MapR.owns {r : Nat} {left : α → Bool} {cnt : Nat} (h : MapR w P K lit ok mkV b r n f left cnt) : MapF w P K lit ok mkV b n f := by
  obtain ⟨D, L, h, s, _⟩ := h; exact ⟨D, h.owns, s⟩
theorem MapR.left_eq {r : Nat} {left : α → Bool} {cnt : Nat} (h : MapR w P K lit ok mkV b r n f left cnt) : w.rangeLeft b r = cnt := by
  obtain ⟨D, L, h, s, _⟩ := h; exact h.left_eq
theorem MapR.lt {r : Nat} {left : α → Bool} {cnt : Nat} (h : MapR w P K lit ok mkV b r n f left cnt) : r < w.heap.size := by
  obtain ⟨D, L, h, s, _⟩ := h; exact h.lt
theorem MapR.kept {w' : World} {row : Option Nat} {r : Nat} {left : α → Bool} {cnt : Nat} (h : MapR w P K lit ok mkV b r n f left cnt) (hg : w.grownBy w' row) (hb' : some b ≠ row) (hr' : some r ≠ row) : MapR w' P K lit ok mkV b r n f left cnt := by
  obtain ⟨D, L, h, s, hl⟩ := h; exact ⟨D, L, h.kept hg hb' hr', s, hl⟩
theorem MapR.at {w' : World} {r : Nat} {left : α → Bool} {cnt : Nat} (h : MapR w P K lit ok mkV b r n f left cnt) (hb : w'.heap[b]? = w.heap[b]?) (hr : w'.heap[r]? = w.heap[r]?) : MapR w' P K lit ok mkV b r n f left cnt := by
  obtain ⟨D, L, ⟨es, clock, since, seen, c0, h1, h2, h3, h4, h5, h6⟩, s, hl⟩ := h
  exact ⟨D, L, ⟨es, clock, since, seen, c0, hb.trans h1, h2, h3, h4, hr.trans h5, h6⟩, s, hl⟩
theorem MapF.range {t e : TypeId} (h : MapF w P K lit ok mkV b n f) (B : KeyB P K mk lit ok) (ht : P.underlying t = some (.map K e)) :
    ∃ w' cnt, (Instr.range t (.map (some b))).run P w = .ok (.pointer (some ⟨w.heap.size, 0, none⟩)) w' ∧ MapR w' P K lit ok mkV b w.heap.size n f (fun a => (f a).isSome) cnt ∧ cnt ≤ n ∧ w.grownBy w' none ∧ w'.heap.size = w.heap.size + 1 := by
  obtain ⟨D, h, s⟩ := h
  obtain ⟨w', hrun, hr, hg, hs⟩ := h.range B.keyed ht
  exact ⟨w', _, hrun, ⟨D, _, hr, s, fun a ha => (s a ha).1⟩, h.size_le, hg, hs⟩
theorem MapR.next [DecidableEq α] {r : Nat} {left : α → Bool} {cnt : Nat} (h : MapR w P K lit ok mkV b r n f left cnt) (B : KeyB P K mk lit ok) (ty : TypeId) :
    ((∀ a, ok a → left a = false) ∧ (Instr.next (.pointer (some ⟨r, 0, none⟩)) false ty).run P w = .ok (.tuple #[.bool false]) w) ∨
    ∃ x c w' cnt', ok x ∧ left x = true ∧ f x = some c ∧ (Instr.next (.pointer (some ⟨r, 0, none⟩)) false ty).run P w = .ok (.tuple #[.bool true, mk x, mkV c]) w' ∧
      MapR w' P K lit ok mkV b r n f (fun a => left a && !decide (a = x)) cnt' ∧ cnt' < cnt ∧ w.grownBy w' (some r) ∧ w'.heap.size = w.heap.size ∧ (Instr.entry (.pointer (some ⟨r, 0, none⟩))).run P w' = .ok (.tuple #[mk x, mkV c]) w' := by
  obtain ⟨D, L, h, s, hl⟩ := h
  rcases h.next B.keyed ty with ⟨_, h0, hrun⟩ | ⟨key, v, kl, y, w', cnt', hkey, hlk, hv, hat, hrun, hrg, hlt, hgr, hsz, hen⟩
  · exact .inl ⟨fun a ha => by rw [← hl a ha]; exact h0 _, hrun⟩
  · obtain ⟨x, hx, rfl, rfl⟩ := B.inv hkey
    obtain ⟨c, rfl, rfl⟩ := shapeV_inv hv
    obtain ⟨s1, s2⟩ := s x hx
    obtain ⟨c', hf, e1⟩ : ∃ c', f x = some c' ∧ mkV c = mkV c' := by
      cases hf : f x with
      | none =>
        rw [hf] at s1
        have := hat .nil
        rw [Maps.atKey_of_not_has s1] at this
        cases this
      | some c' =>
        have := s2 c' hf .nil
        rw [hat] at this
        injection this with e1
        exact ⟨c', rfl, e1⟩
    rw [e1] at hrun hen
    refine .inr ⟨x, c', w', cnt', hx, by rw [← hl x hx]; exact hlk, hf, hrun, ⟨D, _, hrg, s, fun a ha => ?_⟩, hlt, hgr, hsz, hen⟩
    rw [hl a ha]
    congr 2
    by_cases e : a = x
    · subst e
      rw [decide_eq_true rfl]
      exact WideAt.sameKey_self (B.keyed.key (B.of ha))
    · rw [decide_eq_false e]
      exact Maps.sameKey_ne (fun h => e (B.inj ha hx h))
theorem wpList_rangeF {t e : TypeId} (hg : o.guard = none) (m : Operand) (hop : o.op = Op.range t m) (B : KeyB P K mk lit ok) (ht : P.underlying t = some (.map K e)) (h : MapF w P K lit ok mkV b n f) (hm : a.eval m = .map (some b))
    (hK : ∀ w' cnt, MapR w' P K lit ok mkV b w.heap.size n f (fun a => (f a).isSome) cnt → cnt ≤ n → w.grownBy w' none → w'.heap.size = w.heap.size + 1 → wpList P ops Q rest (a.put o.dst (.pointer (some ⟨w.heap.size, 0, none⟩))) w') : wpList P ops Q (o :: rest) a w := by
  refine wpList_plain hg fun K' hK' => ?_
  obtain ⟨w', cnt, hrun, r1, r2, r3, r4⟩ := h.range B ht
  unfold Oper.wp
  simp [execOp, hop, hm, hrun, Result.andThen]
  exact hK' _ _ (hK w' cnt r1 r2 r3 r4)
theorem wpList_nextF [DecidableEq α] {r : Nat} {left : α → Bool} {cnt : Nat} (hg : o.guard = none) (it : Operand) (hop : o.op = Op.next it false) (B : KeyB P K mk lit ok) (hit : a.eval it = .pointer (some ⟨r, 0, none⟩)) (h : MapR w P K lit ok mkV b r n f left cnt)
    (hDone : (∀ a, ok a → left a = false) → wpList P ops Q rest (a.put o.dst (.tuple #[.bool false])) w)
    (hMore : ∀ x c w' cnt', ok x → left x = true → f x = some c → MapR w' P K lit ok mkV b r n f (fun a => left a && !decide (a = x)) cnt' → cnt' < cnt → w.grownBy w' (some r) → w'.heap.size = w.heap.size →
      (Instr.entry (.pointer (some ⟨r, 0, none⟩))).run P w' = .ok (.tuple #[mk x, mkV c]) w' → wpList P ops Q rest (a.put o.dst (.tuple #[.bool true, mk x, mkV c])) w') : wpList P ops Q (o :: rest) a w := by
  refine wpList_plain hg fun K' hK' => ?_
  unfold Oper.wp
  rcases h.next B o.type with ⟨h0, hrun⟩ | ⟨x, c, w', cnt', h1, h2, h3, hrun, h4, h5, h6, h7, h8⟩
  · simp [execOp, hop, hit, hrun, Result.andThen]
    exact hK' _ _ (hDone h0)
  · simp [execOp, hop, hit, hrun, Result.andThen]
    exact hK' _ _ (hMore x c w' cnt' h1 h2 h3 h4 h5 h6 h7 h8)
end
end Go.Proofs.YtggichcfklbjiaaGreatDoor
end
