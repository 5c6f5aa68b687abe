/- append inside a fence: any list that is read, onto one of the call's own. Over any program. -/
import Derived.Test.YtfdelmodmadoaaaGreatDoorG02
set_option linter.unusedSimpArgs false
set_option linter.unusedVariables false
set_option maxRecDepth 20000
set_option maxHeartbeats 4000000
namespace Go.Proofs.YtfdelmodmadoaaaGreatDoor
section
open Go.RowKit
theorem zbg {F : Fence} {rm : Nat} {P : Program} {t e : TypeId} {z : Value} {bytes : Nat} (E : Elem P t e z bytes) (w : World) {ops : Array Oper} {rest : List Oper} {o : Oper} {a : Act} {Q : Exit -> Act -> World -> Prop} (hgd : o.guard = none) (s x : Operand)
  (ho : o.op = .call { callee := .builtin .append, args := #[s, x], argTypes := #[t, t] }) (base : Nat)
  {v : Value} {n : Nat} {xs : List Value} (hs : a.eval s = v) (hown : w.ownsRow base e 1 v n xs) {A : Option Addr} {m c : Nat} {news : List Value} (hx : a.eval x = .slice A m c) (hr : Rd w A m news) (h1 : ∀ u ∈ news, u.oneCell' = true)
  (h63 : n + m <= 1099511627776) (hby : bytes <= 64) (hbase : base <= w.heap.size)
  (h : ∀ A' c' w', w'.ownsRow base e 1 (.slice A' (n + m) c') (n + m) (xs ++ news) -> w.grownBy w' v.ownBlock ->
   ((Value.slice A' (n + m) c').ownBlock = v.ownBlock \/ (Value.slice A' (n + m) c').ownBlock = some w.heap.size) -> wpListIn F rm P ops Q rest (a.put o.dst (.slice A' (n + m) c')) w') : wpListIn F rm P ops Q (o :: rest) a w := by
 refine wpListIn_plain hgd fun K hK => ?_;obtain ⟨A', c', w', hrun, h2, h3, h4⟩ := zi7 E w o.type base hown (c := c) hr h1 h63 hby hbase;unfold Oper.wpIn;refine ⟨?_, ?_⟩
 ·simp [Oper.about, ho, resolve, Target.leads, Sem.run_pure]
 ·rw [Oper.semAt_plain F _ _ (by rw [ho]; intro c hc'; cases hc')];simp [execOp, ho, resolve, invoke, builtin, hs, hx, hrun, Result.andThen];exact hK _ _ (h A' c' w' h2 h3 h4)
end
end Go.Proofs.YtfdelmodmadoaaaGreatDoor
