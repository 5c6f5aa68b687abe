/- Pairs and Known: the iterators themselves; those of a nil base. -/
import Derived.Test.YtfdelmodmadoaaaGreatDoorG27
set_option linter.unusedSimpArgs false
set_option linter.unusedVariables false
set_option maxRecDepth 20000
set_option maxHeartbeats 4000000
namespace Go.Proofs.YtfdelmodmadoaaaGreatDoor
section
open Go.RowKit Go.Lib Go.Maps Go.Sort Go.Shelf
attribute [local go_sem] Oper.semAt_some
theorem zg3 (p : Option Addr) (w : World) : Calls Tryz.prog 14 #[.pointer p] w fun e w' => e = .returned (.func (.func 41) #[] #[.pointer (some ⟨w.heap.size, 0, none⟩)]) /\ w' = w.alloc (.cells #[.pointer p] 26) := by
 go_enter Tryz.func14, Tryz.ntmps14;go_wp2;go_returns;exact ⟨rfl, rfl⟩
section
variable {w : World} {bp n0 : Nat} {a : BAddr} {cls : Int -> Int} {prt : Int -> Option (List UInt8 × List Int)} {pr : Int × Int -> Option Int} {md : Int -> Option (Int × Int)} {sc : Int -> Option Int}
end
end
end Go.Proofs.YtfdelmodmadoaaaGreatDoor
