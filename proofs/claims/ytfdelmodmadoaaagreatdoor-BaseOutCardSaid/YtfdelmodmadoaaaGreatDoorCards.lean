/-
  DERIVED. GIVEN WITH THE SEED: THE CARDS: each row of YtfdelmodmadoaaaGreatDoorRows.lean that lists a variable, with what it lists TIED to the program's text (the seventh form; the later family's looks); each row that meets fmt, with fmt's text TOLD by the authors' own Lean function (tested against real Go, not proved from fmt's source: count such statements apart). THE CARD IS WHAT COUNTS. Prove the row's statement (the work); the ties are given (YtfdelmodmadoaaaGreatDoorTie.lean); close each card by the builder's one call (the guide's Derived/Test/ToyasCard.lean, 'card_holds'). Laid BY PROGRAM, IN A SANDBOX (cutbox-door.mjs). By AI agents, Wed Nov 11 2026. No macro, syntax, notation, axiom, sorry.
-/
import Derived.Test.YtfdelmodmadoaaaGreatDoorRows
import GoSem.ClaimSeven
namespace Go.Proofs.YtfdelmodmadoaaaGreatDoor
namespace Rows

/-- THE TIED CARD OF 'inkhornlaw08.BaseEnds'. -/
def baseEndsCard : Claim7 := { stood := { row := baseEndsRow, standIns := [], harness := (true, "8f42a4c485e53f13aafef072c70e22042a270a0058e6d74411cfd3beb1248768"), looks := false }, kinds := [], alts := [], laidByText := true, laidKinds := [.data, .data, .pinned], laidTests := true, laidLooks := .later }
def BaseEndsCardSaid : Prop := Claim7.holds Tryz.pinned (.plain (OpenSpec.ofChange baseEndsSpec)) baseEndsCard

/-- THE TIED CARD OF 'inkhornlaw08.BaseOut'. -/
def baseOutCard : Claim7 := { stood := { row := baseOutRow, standIns := [], harness := (true, "8f42a4c485e53f13aafef072c70e22042a270a0058e6d74411cfd3beb1248768"), looks := false }, kinds := [], alts := [], laidByText := true, laidKinds := [.data, .data, .pinned], laidTests := true, laidLooks := .later }
def BaseOutCardSaid : Prop := Claim7.holds Tryz.pinned (.plain (OpenSpec.ofChange baseOutSpec)) baseOutCard

/-- THE TIED CARD OF 'inkhornlaw12.NormParts'. -/
def normPartsCard : Claim7 := { stood := { row := normPartsRow, standIns := [], harness := (true, "8f42a4c485e53f13aafef072c70e22042a270a0058e6d74411cfd3beb1248768"), looks := false }, kinds := [], alts := [], laidByText := true, laidKinds := [.data, .data, .pinned], laidTests := true, laidLooks := .later }
def NormPartsCardSaid : Prop := Claim7.holds Tryz.pinned (.plain (OpenSpec.ofChange normPartsSpec)) normPartsCard

/-- THE TIED CARD OF 'inkhornlaw12.NormFeeds'. -/
def normFeedsCard : Claim7 := { stood := { row := normFeedsRow, standIns := [], harness := (true, "8f42a4c485e53f13aafef072c70e22042a270a0058e6d74411cfd3beb1248768"), looks := false }, kinds := [], alts := [], laidByText := true, laidKinds := [.data, .data, .pinned], laidTests := true, laidLooks := .later }
def NormFeedsCardSaid : Prop := Claim7.holds Tryz.pinned (.plain (OpenSpec.ofChange normFeedsSpec)) normFeedsCard

/-- THE SECOND FORM's CARD OF 'inkhornlaw08.BaseEnds'. -/
def baseEndsUptoCard : Claim7 := { stood := { row := baseEndsUptoRow, standIns := [], harness := (true, "8f42a4c485e53f13aafef072c70e22042a270a0058e6d74411cfd3beb1248768"), looks := false }, kinds := [], alts := [], laidByText := true, laidKinds := [.data, .data, .pinned], laidTests := true, laidLooks := .later }
def BaseEndsUptoCardSaid : Prop := Claim7.holds Tryz.pinned (.plain (OpenSpec.upto baseEndsSpec)) baseEndsUptoCard

/-- THE SECOND FORM's CARD OF 'inkhornlaw08.BaseOut'. -/
def baseOutUptoCard : Claim7 := { stood := { row := baseOutUptoRow, standIns := [], harness := (true, "8f42a4c485e53f13aafef072c70e22042a270a0058e6d74411cfd3beb1248768"), looks := false }, kinds := [], alts := [], laidByText := true, laidKinds := [.data, .data, .pinned], laidTests := true, laidLooks := .later }
def BaseOutUptoCardSaid : Prop := Claim7.holds Tryz.pinned (.plain (OpenSpec.upto baseOutSpec)) baseOutUptoCard

/-- THE SECOND FORM's CARD OF 'inkhornlaw12.NormParts'. -/
def normPartsUptoCard : Claim7 := { stood := { row := normPartsUptoRow, standIns := [], harness := (true, "8f42a4c485e53f13aafef072c70e22042a270a0058e6d74411cfd3beb1248768"), looks := false }, kinds := [], alts := [], laidByText := true, laidKinds := [.data, .data, .pinned], laidTests := true, laidLooks := .later }
def NormPartsUptoCardSaid : Prop := Claim7.holds Tryz.pinned (.plain (OpenSpec.upto normPartsSpec)) normPartsUptoCard

/-- THE SECOND FORM's CARD OF 'inkhornlaw12.NormFeeds'. -/
def normFeedsUptoCard : Claim7 := { stood := { row := normFeedsUptoRow, standIns := [], harness := (true, "8f42a4c485e53f13aafef072c70e22042a270a0058e6d74411cfd3beb1248768"), looks := false }, kinds := [], alts := [], laidByText := true, laidKinds := [.data, .data, .pinned], laidTests := true, laidLooks := .later }
def NormFeedsUptoCardSaid : Prop := Claim7.holds Tryz.pinned (.plain (OpenSpec.upto normFeedsSpec)) normFeedsUptoCard
end Rows
end Go.Proofs.YtfdelmodmadoaaaGreatDoor
