/-
  DERIVED. GIVEN WITH THE SEED: THE CARDS: each row of YtdbopejpmpapnaaDoorRows.lean that lists a variable, with what it lists TIED to the program's text (the seventh form; the later family's looks); each row that meets fmt, with fmt's text TOLD by the authors' own Lean function (tested against real Go, not proved from fmt's source: count such statements apart). THE CARD IS WHAT COUNTS. Prove the row's statement (the work); the ties are given (YtdbopejpmpapnaaDoorTie.lean); close each card by the builder's one call (the guide's Derived/Test/ToyasCard.lean, 'card_holds'). Laid BY PROGRAM, IN A SANDBOX (cutbox-door.mjs). By AI agents, Wed Nov 11 2026. No macro, syntax, notation, axiom, sorry.
-/
import Derived.Test.YtdbopejpmpapnaaDoorRows
import GoSem.ClaimSeven
namespace Go.Proofs.YtdbopejpmpapnaaDoor
namespace Rows

/-- THE TIED CARD OF 'laws.FnExactFormatGate'. -/
def fnExactFormatGateCard : Claim7 := { stood := { row := fnExactFormatGateRow, standIns := [], harness := (true, "e5b56f851095fc83ddeb44ffc487add76083c57c36365ce0b6e803fd0043ed23"), looks := false }, kinds := [], alts := [], laidByText := true, laidKinds := [.data, .data, .data, .data], laidTests := true, laidLooks := .later }
def FnExactFormatGateCardSaid : Prop := Claim7.holds Tryd.pinned (.plain (OpenSpec.ofChange fnExactFormatGateSpec)) fnExactFormatGateCard

/-- THE TIED CARD OF 'laws.FnExactFormatCircuit'. -/
def fnExactFormatCircuitCard : Claim7 := { stood := { row := fnExactFormatCircuitRow, standIns := [], harness := (true, "e5b56f851095fc83ddeb44ffc487add76083c57c36365ce0b6e803fd0043ed23"), looks := false }, kinds := [], alts := [], laidByText := true, laidKinds := [.data, .data, .data, .data], laidTests := true, laidLooks := .later }
def FnExactFormatCircuitCardSaid : Prop := Claim7.holds Tryd.pinned (.plain (OpenSpec.ofChange fnExactFormatCircuitSpec)) fnExactFormatCircuitCard

/-- THE SECOND FORM's CARD OF 'laws.FnExactFormatGate'. -/
def fnExactFormatGateUptoCard : Claim7 := { stood := { row := fnExactFormatGateUptoRow, standIns := [], harness := (true, "e5b56f851095fc83ddeb44ffc487add76083c57c36365ce0b6e803fd0043ed23"), looks := false }, kinds := [], alts := [], laidByText := true, laidKinds := [.data, .data, .data, .data], laidTests := true, laidLooks := .later }
def FnExactFormatGateUptoCardSaid : Prop := Claim7.holds Tryd.pinned (.plain (OpenSpec.upto fnExactFormatGateSpec)) fnExactFormatGateUptoCard

/-- THE SECOND FORM's CARD OF 'laws.FnExactFormatCircuit'. -/
def fnExactFormatCircuitUptoCard : Claim7 := { stood := { row := fnExactFormatCircuitUptoRow, standIns := [], harness := (true, "e5b56f851095fc83ddeb44ffc487add76083c57c36365ce0b6e803fd0043ed23"), looks := false }, kinds := [], alts := [], laidByText := true, laidKinds := [.data, .data, .data, .data], laidTests := true, laidLooks := .later }
def FnExactFormatCircuitUptoCardSaid : Prop := Claim7.holds Tryd.pinned (.plain (OpenSpec.upto fnExactFormatCircuitSpec)) fnExactFormatCircuitUptoCard
end Rows
end Go.Proofs.YtdbopejpmpapnaaDoor
