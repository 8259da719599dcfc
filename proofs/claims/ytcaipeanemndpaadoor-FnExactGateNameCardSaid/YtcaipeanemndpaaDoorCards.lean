/-
  DERIVED. GIVEN WITH THE SEED: THE CARDS: each row of YtcaipeanemndpaaDoorRows.lean that lists a variable, with what it lists TIED to the program's text (the seventh form; the later family's looks); each row that meets fmt, with fmt's text TOLD by the authors' own Lean function (tested against real Go, not proved from fmt's source: count such statements apart). THE CARD IS WHAT COUNTS. Prove the row's statement (the work); the ties are given (YtcaipeanemndpaaDoorTie.lean); close each card by the builder's one call (the guide's Derived/Test/ToyasCard.lean, 'card_holds'). Laid BY PROGRAM, IN A SANDBOX (cutbox-door.mjs). By AI agents, Wed Nov 11 2026. No macro, syntax, notation, axiom, sorry.
-/
import Derived.Test.YtcaipeanemndpaaDoorRows
import GoSem.ClaimSeven
namespace Go.Proofs.YtcaipeanemndpaaDoor
namespace Rows

/-- THE TIED CARD OF 'laws.FnExactGateName'. -/
def fnExactGateNameCard : Claim7 := { stood := { row := fnExactGateNameRow, standIns := [], harness := (true, "413bb8c31a64ab6cf351b92bc38063f17df751b5f92ed279f5f4e98ec2252545"), looks := false }, kinds := [], alts := [], laidByText := true, laidKinds := [.data], laidTests := true, laidLooks := .later }
def FnExactGateNameCardSaid : Prop := Claim7.holds Tryd.pinned (.plain (OpenSpec.ofChange fnExactGateNameSpec)) fnExactGateNameCard

/-- THE TIED CARD OF 'laws.FnExactGateKind'. -/
def fnExactGateKindCard : Claim7 := { stood := { row := fnExactGateKindRow, standIns := [], harness := (true, "413bb8c31a64ab6cf351b92bc38063f17df751b5f92ed279f5f4e98ec2252545"), looks := false }, kinds := [], alts := [], laidByText := true, laidKinds := [.data], laidTests := true, laidLooks := .later }
def FnExactGateKindCardSaid : Prop := Claim7.holds Tryd.pinned (.plain (OpenSpec.ofChange fnExactGateKindSpec)) fnExactGateKindCard

/-- THE SECOND FORM's CARD OF 'laws.FnExactGateName'. -/
def fnExactGateNameUptoCard : Claim7 := { stood := { row := fnExactGateNameUptoRow, standIns := [], harness := (true, "413bb8c31a64ab6cf351b92bc38063f17df751b5f92ed279f5f4e98ec2252545"), looks := false }, kinds := [], alts := [], laidByText := true, laidKinds := [.data], laidTests := true, laidLooks := .later }
def FnExactGateNameUptoCardSaid : Prop := Claim7.holds Tryd.pinned (.plain (OpenSpec.upto fnExactGateNameSpec)) fnExactGateNameUptoCard

/-- THE SECOND FORM's CARD OF 'laws.FnExactGateKind'. -/
def fnExactGateKindUptoCard : Claim7 := { stood := { row := fnExactGateKindUptoRow, standIns := [], harness := (true, "413bb8c31a64ab6cf351b92bc38063f17df751b5f92ed279f5f4e98ec2252545"), looks := false }, kinds := [], alts := [], laidByText := true, laidKinds := [.data], laidTests := true, laidLooks := .later }
def FnExactGateKindUptoCardSaid : Prop := Claim7.holds Tryd.pinned (.plain (OpenSpec.upto fnExactGateKindSpec)) fnExactGateKindUptoCard
end Rows
end Go.Proofs.YtcaipeanemndpaaDoor
