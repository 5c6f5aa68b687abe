/- What the rows' lists of variables give: Go's own tables. -/
import Derived.Test.YthfakejhkbelhaaDoorCards
import Derived.Test.YthfakejhkbelhaaDoorTie
import Derived.Test.YthfakejhkbelhaaDoorNamA
import Derived.ProofKit
import Derived.OpenShut
import Derived.Lay
import Derived.Lib.LaidCase
import Derived.Lib.LaidU8
import Derived.PinnedBridge
import Derived.Deep.DeepHandedRow
import Derived.Deep.DeepWitnessRowRef
namespace Go.Proofs.YthfakejhkbelhaaDoor
open Go.ChangeShapes Go.WideShapes Go.ChangeAt Go.RowKit Go.Lib

theorem own_ : ownKnob Tryd.prog.godebug = none := by kernel_rfl
theorem laidOut_ : laidOutB Tryd.prog = true := by kernel_rfl
theorem case_lays : Lays.n274 Tryd.prog Tryd.lays204_ren := {
  mixed := Tryd.lays274.mixed
  f274 := Tryd.lays274.f274
  t0 := Tryd.lays274.t0
  a0 := Tryd.lays274.a0
  z0 := Tryd.lays274.z0
  v0 := Tryd.lays274.v0
  t3 := Tryd.lays274.t3
  a3 := Tryd.lays274.a3
  z3 := Tryd.lays274.z3
  v3 := Tryd.lays274.v3
  t4 := Tryd.lays274.t4
  a4 := Tryd.lays274.a4
  z4 := Tryd.lays274.z4
  v4 := Tryd.lays274.v4
  t21 := Tryd.lays274.t21
  a21 := Tryd.lays274.a21
  z21 := Tryd.lays274.z21
  v21 := Tryd.lays274.v21
  t46 := Tryd.lays274.t46
  a46 := Tryd.lays274.a46
  z46 := Tryd.lays274.z46
  v46 := Tryd.lays274.v46
  t51 := Tryd.lays274.t51
  a51 := Tryd.lays274.a51
  z51 := Tryd.lays274.z51
  v51 := Tryd.lays274.v51
  t160 := Tryd.lays274.t160
  a160 := Tryd.lays274.a160
  z160 := Tryd.lays274.z160
  v160 := Tryd.lays274.v160
  t162 := Tryd.lays274.t162
  a162 := Tryd.lays274.a162
  z162 := Tryd.lays274.z162
  v162 := Tryd.lays274.v162
  t208 := Tryd.lays274.t208
  a208 := Tryd.lays274.a208
  z208 := Tryd.lays274.z208
  v208 := Tryd.lays274.v208 }
theorem case_extra : CaseExtra Tryd.prog Tryd.lays204_ren := ⟨by kernel_rfl, by kernel_rfl, by kernel_rfl, by kernel_rfl, by kernel_rfl, by kernel_rfl⟩
theorem u8_extra : U8Extra Tryd.prog Tryd.lays260_ren := ⟨by kernel_rfl, by kernel_rfl, by kernel_rfl, by kernel_rfl, by kernel_rfl, by kernel_rfl, by kernel_rfl⟩
theorem case_arr : Tryd.prog.underlying (Tryd.lays204_ren.t 206) = some (.array 3 (Tryd.lays204_ren.t 21)) := by kernel_rfl
theorem accept_eq : (Rows.laid_unicode_utf8_acceptRanges : DataW Unit) = Lib.acceptData := by kernel_rfl
theorem envN_of_laid {W : World} (h : laidMet Tryd.prog [("unicode/utf8.acceptRanges", Rows.laid_unicode_utf8_acceptRanges), ("unicode.CaseRanges", Rows.laid_unicode_CaseRanges), ("unicode/utf8.first", Rows.laid_unicode_utf8_first)] W) : EnvN W := by
  obtain ⟨ps, hv, _⟩ := h
  have r1 := Lib.LaidVars_reads hv "unicode/utf8.acceptRanges" Rows.laid_unicode_utf8_acceptRanges (by simp)
  have r2 := Lib.LaidVars_reads hv "unicode.CaseRanges" Rows.laid_unicode_CaseRanges (by simp)
  have r3 := Lib.LaidVars_reads hv "unicode/utf8.first" Rows.laid_unicode_utf8_first (by simp)
  rw [accept_eq] at r1
  rw [show Rows.laid_unicode_CaseRanges = Lib.caseData from Pinned.caseRanges_eq] at r2
  rw [show Rows.laid_unicode_utf8_first = Lib.firstData from Pinned.utf8First_eq] at r3
  exact ⟨caseVar_of_reads case_lays case_arr case_extra r2, utf8Tabs_of_reads Tryd.lays260 u8_extra r3 r1⟩
end Go.Proofs.YthfakejhkbelhaaDoor
