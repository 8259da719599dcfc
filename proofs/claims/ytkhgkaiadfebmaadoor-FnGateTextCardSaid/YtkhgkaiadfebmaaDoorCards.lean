/-
  DERIVED. GIVEN WITH THE SEED: THE CARDS: each row of YtkhgkaiadfebmaaDoorRows.lean that lists a variable, with what it lists TIED to the program's text (the seventh form; the later family's looks); each row that meets fmt, with fmt's text TOLD by the authors' own Lean function (tested against real Go, not proved from fmt's source: count such statements apart). THE CARD IS WHAT COUNTS. Prove the row's statement (the work); the ties are given (YtkhgkaiadfebmaaDoorTie.lean); close each card by the builder's one call (the guide's Derived/Test/ToyasCard.lean, 'card_holds'). Laid BY PROGRAM, IN A SANDBOX (cutbox-door.mjs). By AI agents, Wed Nov 11 2026. No macro, syntax, notation, axiom, sorry.
-/
import Derived.Test.YtkhgkaiadfebmaaDoorRows
import GoSem.ClaimSeven
namespace Go.Proofs.YtkhgkaiadfebmaaDoor
namespace Rows

/-- THE TIED CARD OF 'laws.FnExactParseGate'. -/
def fnExactParseGateCard : Claim7 := { stood := { row := fnExactParseGateRow, standIns := [], harness := (true, "2ec2d1daff77e5e00500d3fc947a580eff72135890c5f34e05bed5f2ee37e00c"), looks := true }, kinds := [], alts := [], laidByText := true, laidKinds := [.data, .data, .data, .data, .sentinel, .sentinel, .data, .pinned], laidTests := true, laidLooks := .later }
def FnExactParseGateCardSaid : Prop := Claim7.holds Tryd.pinned (.plain (OpenSpec.ofChange fnExactParseGateSpec)) fnExactParseGateCard

/-- THE TIED CARD OF 'laws.FnExactParseCircuit'. -/
def fnExactParseCircuitCard : Claim7 := { stood := { row := fnExactParseCircuitRow, standIns := [], harness := (true, "2ec2d1daff77e5e00500d3fc947a580eff72135890c5f34e05bed5f2ee37e00c"), looks := true }, kinds := [], alts := [], laidByText := true, laidKinds := [.data, .data, .data, .data, .sentinel, .sentinel, .data, .pinned], laidTests := true, laidLooks := .later }
def FnExactParseCircuitCardSaid : Prop := Claim7.holds Tryd.pinned (.plain (OpenSpec.ofChange fnExactParseCircuitSpec)) fnExactParseCircuitCard

/-- THE TIED CARD OF 'laws.FnGateText'. -/
def fnGateTextCard : Claim7 := { stood := { row := fnGateTextRow, standIns := [], harness := (true, "2ec2d1daff77e5e00500d3fc947a580eff72135890c5f34e05bed5f2ee37e00c"), looks := true }, kinds := [], alts := [], laidByText := true, laidKinds := [.data, .data, .data, .data, .sentinel, .sentinel, .data, .pinned], laidTests := true, laidLooks := .later }
def FnGateTextCardSaid : Prop := Claim7.holds Tryd.pinned (.plain (OpenSpec.ofChange fnGateTextSpec)) fnGateTextCard

/-- THE TIED CARD OF 'laws.FnCircText'. -/
def fnCircTextCard : Claim7 := { stood := { row := fnCircTextRow, standIns := [], harness := (true, "2ec2d1daff77e5e00500d3fc947a580eff72135890c5f34e05bed5f2ee37e00c"), looks := true }, kinds := [], alts := [], laidByText := true, laidKinds := [.data, .data, .data, .data, .sentinel, .sentinel, .data, .pinned], laidTests := true, laidLooks := .later }
def FnCircTextCardSaid : Prop := Claim7.holds Tryd.pinned (.plain (OpenSpec.ofChange fnCircTextSpec)) fnCircTextCard

/-- THE SECOND FORM's CARD OF 'laws.FnExactParseGate'. -/
def fnExactParseGateUptoCard : Claim7 := { stood := { row := fnExactParseGateUptoRow, standIns := [], harness := (true, "2ec2d1daff77e5e00500d3fc947a580eff72135890c5f34e05bed5f2ee37e00c"), looks := true }, kinds := [], alts := [], laidByText := true, laidKinds := [.data, .data, .data, .data, .sentinel, .sentinel, .data, .pinned], laidTests := true, laidLooks := .later }
def FnExactParseGateUptoCardSaid : Prop := Claim7.holds Tryd.pinned (.plain (OpenSpec.upto fnExactParseGateSpec)) fnExactParseGateUptoCard

/-- THE SECOND FORM's CARD OF 'laws.FnExactParseCircuit'. -/
def fnExactParseCircuitUptoCard : Claim7 := { stood := { row := fnExactParseCircuitUptoRow, standIns := [], harness := (true, "2ec2d1daff77e5e00500d3fc947a580eff72135890c5f34e05bed5f2ee37e00c"), looks := true }, kinds := [], alts := [], laidByText := true, laidKinds := [.data, .data, .data, .data, .sentinel, .sentinel, .data, .pinned], laidTests := true, laidLooks := .later }
def FnExactParseCircuitUptoCardSaid : Prop := Claim7.holds Tryd.pinned (.plain (OpenSpec.upto fnExactParseCircuitSpec)) fnExactParseCircuitUptoCard

/-- THE SECOND FORM's CARD OF 'laws.FnGateText'. -/
def fnGateTextUptoCard : Claim7 := { stood := { row := fnGateTextUptoRow, standIns := [], harness := (true, "2ec2d1daff77e5e00500d3fc947a580eff72135890c5f34e05bed5f2ee37e00c"), looks := true }, kinds := [], alts := [], laidByText := true, laidKinds := [.data, .data, .data, .data, .sentinel, .sentinel, .data, .pinned], laidTests := true, laidLooks := .later }
def FnGateTextUptoCardSaid : Prop := Claim7.holds Tryd.pinned (.plain (OpenSpec.upto fnGateTextSpec)) fnGateTextUptoCard

/-- THE SECOND FORM's CARD OF 'laws.FnCircText'. -/
def fnCircTextUptoCard : Claim7 := { stood := { row := fnCircTextUptoRow, standIns := [], harness := (true, "2ec2d1daff77e5e00500d3fc947a580eff72135890c5f34e05bed5f2ee37e00c"), looks := true }, kinds := [], alts := [], laidByText := true, laidKinds := [.data, .data, .data, .data, .sentinel, .sentinel, .data, .pinned], laidTests := true, laidLooks := .later }
def FnCircTextUptoCardSaid : Prop := Claim7.holds Tryd.pinned (.plain (OpenSpec.upto fnCircTextSpec)) fnCircTextUptoCard
end Rows
end Go.Proofs.YtkhgkaiadfebmaaDoor
