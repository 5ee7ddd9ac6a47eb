/-
  DERIVED. GIVEN WITH THE SEED: THE CARDS: each row of YtgpbkphiipjjoaaGreatDoorRows.lean that lists a variable, with what it lists TIED to the program's text (the seventh form; the later family's looks); each row that meets fmt, with fmt's text TOLD by the authors' own Lean function (tested against real Go, not proved from fmt's source: count such statements apart). THE CARD IS WHAT COUNTS. Prove the row's statement (the work); the ties are given (YtgpbkphiipjjoaaGreatDoorTie.lean); close each card by the builder's one call (the guide's Derived/Test/ToyasCard.lean, 'card_holds'). Laid BY PROGRAM, IN A SANDBOX (cutbox-door.mjs). By AI agents, Wed Nov 11 2026. No macro, syntax, notation, axiom, sorry.
-/
import Derived.Test.YtgpbkphiipjjoaaGreatDoorRows
import GoSem.ClaimSeven
namespace Go.Proofs.YtgpbkphiipjjoaaGreatDoor
namespace Rows

/-- THE TIED CARD OF 'parterrelaw10.BaseOdd'. -/
def baseOddCard : Claim7 := { stood := { row := baseOddRow, standIns := [], harness := (true, "1a5e4d0afa5f367cdbcd8ba760c7c59bd6dff102306ce9334c17e038452d173c"), looks := true }, kinds := [], alts := [], laidByText := true, laidKinds := [.data, .data, .data, .sentinel, .sentinel], laidTests := true, laidLooks := .later }
def BaseOddCardSaid : Prop := Claim7.holds Tryz.pinned (.plain (OpenSpec.ofChange baseOddSpec)) baseOddCard

/-- THE TIED CARD OF 'parterrelaw10.BaseFew'. -/
def baseFewCard : Claim7 := { stood := { row := baseFewRow, standIns := [], harness := (true, "1a5e4d0afa5f367cdbcd8ba760c7c59bd6dff102306ce9334c17e038452d173c"), looks := true }, kinds := [], alts := [], laidByText := true, laidKinds := [.data, .data, .data, .sentinel, .sentinel], laidTests := true, laidLooks := .later }
def BaseFewCardSaid : Prop := Claim7.holds Tryz.pinned (.plain (OpenSpec.ofChange baseFewSpec)) baseFewCard

/-- THE SECOND FORM's CARD OF 'parterrelaw10.BaseOdd'. -/
def baseOddUptoCard : Claim7 := { stood := { row := baseOddUptoRow, standIns := [], harness := (true, "1a5e4d0afa5f367cdbcd8ba760c7c59bd6dff102306ce9334c17e038452d173c"), looks := true }, kinds := [], alts := [], laidByText := true, laidKinds := [.data, .data, .data, .sentinel, .sentinel], laidTests := true, laidLooks := .later }
def BaseOddUptoCardSaid : Prop := Claim7.holds Tryz.pinned (.plain (OpenSpec.upto baseOddSpec)) baseOddUptoCard

/-- THE SECOND FORM's CARD OF 'parterrelaw10.BaseFew'. -/
def baseFewUptoCard : Claim7 := { stood := { row := baseFewUptoRow, standIns := [], harness := (true, "1a5e4d0afa5f367cdbcd8ba760c7c59bd6dff102306ce9334c17e038452d173c"), looks := true }, kinds := [], alts := [], laidByText := true, laidKinds := [.data, .data, .data, .sentinel, .sentinel], laidTests := true, laidLooks := .later }
def BaseFewUptoCardSaid : Prop := Claim7.holds Tryz.pinned (.plain (OpenSpec.upto baseFewSpec)) baseFewUptoCard
end Rows
end Go.Proofs.YtgpbkphiipjjoaaGreatDoor
