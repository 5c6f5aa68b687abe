/-
  DERIVED. GIVEN WITH THE SEED: THE CARDS: each row of YtggichcfklbjiaaGreatDoorRows.lean that lists a variable, with what it lists TIED to the program's text (the seventh form; the later family's looks); each row that meets fmt, with fmt's text TOLD by the authors' own Lean function (tested against real Go, not proved from fmt's source: count such statements apart). THE CARD IS WHAT COUNTS. Prove the row's statement (the work); the ties are given (YtggichcfklbjiaaGreatDoorTie.lean); close each card by the builder's one call (the guide's Derived/Test/ToyasCard.lean, 'card_holds'). Laid BY PROGRAM, IN A SANDBOX (cutbox-door.mjs). By AI agents, Wed Nov 11 2026. No macro, syntax, notation, axiom, sorry.
-/
import Derived.Test.YtggichcfklbjiaaGreatDoorRows
import GoSem.ClaimSeven
namespace Go.Proofs.YtggichcfklbjiaaGreatDoor
namespace Rows

/-- THE TIED CARD OF 'inkhornlaw08.BaseEnds'. -/
def baseEndsCard : Claim7 := { stood := { row := baseEndsRow, standIns := [], harness := (true, "233d4d8c8d82e5c6a948e0ac312966dccec61a4634a56e0fa8d0626eaa9d1350"), looks := false }, kinds := [], alts := [], laidByText := true, laidKinds := [.data, .data, .pinned], laidTests := true, laidLooks := .later }
def BaseEndsCardSaid : Prop := Claim7.holds Tryz.pinned (.plain (OpenSpec.ofChange baseEndsSpec)) baseEndsCard

/-- THE TIED CARD OF 'inkhornlaw08.BaseOut'. -/
def baseOutCard : Claim7 := { stood := { row := baseOutRow, standIns := [], harness := (true, "233d4d8c8d82e5c6a948e0ac312966dccec61a4634a56e0fa8d0626eaa9d1350"), looks := false }, kinds := [], alts := [], laidByText := true, laidKinds := [.data, .data, .pinned], laidTests := true, laidLooks := .later }
def BaseOutCardSaid : Prop := Claim7.holds Tryz.pinned (.plain (OpenSpec.ofChange baseOutSpec)) baseOutCard

/-- THE TIED CARD OF 'inkhornlaw08.BasePairs'. -/
def basePairsCard : Claim7 := { stood := { row := basePairsRow, standIns := [], harness := (true, "233d4d8c8d82e5c6a948e0ac312966dccec61a4634a56e0fa8d0626eaa9d1350"), looks := false }, kinds := [], alts := [], laidByText := true, laidKinds := [.data, .data, .pinned], laidTests := true, laidLooks := .later }
def BasePairsCardSaid : Prop := Claim7.holds Tryz.pinned (.plain (OpenSpec.ofChange basePairsSpec)) basePairsCard

/-- THE TIED CARD OF 'inkhornlaw08.BaseNil'. -/
def baseNilCard : Claim7 := { stood := { row := baseNilRow, standIns := [], harness := (true, "233d4d8c8d82e5c6a948e0ac312966dccec61a4634a56e0fa8d0626eaa9d1350"), looks := false }, kinds := [], alts := [], laidByText := true, laidKinds := [.data, .data, .pinned], laidTests := true, laidLooks := .later }
def BaseNilCardSaid : Prop := Claim7.holds Tryz.pinned (.plain (OpenSpec.ofChange baseNilSpec)) baseNilCard

/-- THE SECOND FORM's CARD OF 'inkhornlaw08.BaseEnds'. -/
def baseEndsUptoCard : Claim7 := { stood := { row := baseEndsUptoRow, standIns := [], harness := (true, "233d4d8c8d82e5c6a948e0ac312966dccec61a4634a56e0fa8d0626eaa9d1350"), looks := false }, kinds := [], alts := [], laidByText := true, laidKinds := [.data, .data, .pinned], laidTests := true, laidLooks := .later }
def BaseEndsUptoCardSaid : Prop := Claim7.holds Tryz.pinned (.plain (OpenSpec.upto baseEndsSpec)) baseEndsUptoCard

/-- THE SECOND FORM's CARD OF 'inkhornlaw08.BaseOut'. -/
def baseOutUptoCard : Claim7 := { stood := { row := baseOutUptoRow, standIns := [], harness := (true, "233d4d8c8d82e5c6a948e0ac312966dccec61a4634a56e0fa8d0626eaa9d1350"), looks := false }, kinds := [], alts := [], laidByText := true, laidKinds := [.data, .data, .pinned], laidTests := true, laidLooks := .later }
def BaseOutUptoCardSaid : Prop := Claim7.holds Tryz.pinned (.plain (OpenSpec.upto baseOutSpec)) baseOutUptoCard

/-- THE SECOND FORM's CARD OF 'inkhornlaw08.BasePairs'. -/
def basePairsUptoCard : Claim7 := { stood := { row := basePairsUptoRow, standIns := [], harness := (true, "233d4d8c8d82e5c6a948e0ac312966dccec61a4634a56e0fa8d0626eaa9d1350"), looks := false }, kinds := [], alts := [], laidByText := true, laidKinds := [.data, .data, .pinned], laidTests := true, laidLooks := .later }
def BasePairsUptoCardSaid : Prop := Claim7.holds Tryz.pinned (.plain (OpenSpec.upto basePairsSpec)) basePairsUptoCard

/-- THE SECOND FORM's CARD OF 'inkhornlaw08.BaseNil'. -/
def baseNilUptoCard : Claim7 := { stood := { row := baseNilUptoRow, standIns := [], harness := (true, "233d4d8c8d82e5c6a948e0ac312966dccec61a4634a56e0fa8d0626eaa9d1350"), looks := false }, kinds := [], alts := [], laidByText := true, laidKinds := [.data, .data, .pinned], laidTests := true, laidLooks := .later }
def BaseNilUptoCardSaid : Prop := Claim7.holds Tryz.pinned (.plain (OpenSpec.upto baseNilSpec)) baseNilUptoCard
end Rows
end Go.Proofs.YtggichcfklbjiaaGreatDoor
