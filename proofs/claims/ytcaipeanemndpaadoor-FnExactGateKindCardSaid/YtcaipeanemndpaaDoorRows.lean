/-
  NARROWER THAN 'FOR EVERY INPUT', by the rows' own cells (each row's printed sentence says how): FnExactGateName: laid · FnExactGateKind: laid.
  DERIVED. THE GIVEN ROWS OF THIS SEAT. 2 by the template 'for every input the law returns true; each argument reads behind the call as it read before'; 0 by the template 'total and deterministic' (their statements: YtcaipeanemndpaaDoorTotals.lean).
  GIVEN WITH THE SEED: the statements are not yours to turn. If you find one false, say at which input.
  Laid BY PROGRAM, IN A SANDBOX (cutbox-rows.mjs): the forced cells as the released guide's own fill.sh prints them over the translation 5efad740cfe06cb2… (all of the seat's roots in one cut). By AI agents, Wed Nov 11 2026. No macro, syntax, notation, axiom, sorry.
-/
import Derived.Test.YtcaipeanemndpaaDoorChecked
import GoSem.Claim
import GoSem.ClaimJoined
import GoSem.ClaimMapViews
import Derived.JoinedTies
import Derived.KernelRfl
namespace Go.Proofs.YtcaipeanemndpaaDoor
/- THE CELL 'sum', in the pinned program and in every row, IS THE sha256 OF THE DUMP (.gsa) THAT YtcaipeanemndpaaDoorProg.lean LOADS. Nothing in Lean hashes anything: it is a label: what it is worth is what the hold of that sum in a sandbox is worth. -/
noncomputable def Tryd.pinned : Pinned := { name := "ytcaipeanemndpaadoor", sum := "5efad740cfe06cb2c6d1245b733275446bbfe2a05f5cc100b10353dcf95faa5d", checked := Tryd.checked }
namespace Rows
def none {H : Type} : Left H := { results := [], args := [] }

/- WHAT THE LISTED PACKAGE-LEVEL VARIABLES READ AS WHEN THE CALL BEGINS. Each datum BY PROGRAM (the guide's laid-datum.mjs) off the statement by which the dump's own 'gosem.cut.vars' lays the variable. In a bare row this is a premise. The card (YtcaipeanemndpaaDoorCards.lean) ties it to the program's text. -/
def laid_loop_example_g00506_impl_gateNames {H : Type} : DataW H := .slice [.lit (.string []), .lit (.string [120]), .lit (.string [121]), .lit (.string [122]), .lit (.string [104]), .lit (.string [115]), .lit (.string [115, 100]), .lit (.string [116]), .lit (.string [116, 100]), .lit (.string [99, 120]), .lit (.string [99, 122]), .lit (.string [115, 119, 97, 112]), .lit (.string [99, 99, 120])] []

/-- 'laws.FnExactGateName': WHATEVER THE INPUT: true; the input reads as it did. -/
def fnExactGateNameSpec : ChangeSpec := { name := "fnExactGateName", vars := ["loop.example/g00506/impl.gateNames"], fn := fun _ => fun
  | [d, g1] => { results := [.lit (.bool true)], args := [d], vars := [g1] }
  | _ => none }
def fnExactGateNameRow : OpenClaim := { program := "ytcaipeanemndpaadoor", sum := "5efad740cfe06cb2c6d1245b733275446bbfe2a05f5cc100b10353dcf95faa5d", func := "loop.example/g00506/laws.FnExactGateName", spec := "fnExactGateName", named := ["loop.example/g00506/impl.gateNames"], apart := false, laid := [("loop.example/g00506/impl.gateNames", laid_loop_example_g00506_impl_gateNames)] }
def FnExactGateNameSaid : Prop := fnExactGateNameRow.holds Tryd.pinned (OpenSpec.ofChange fnExactGateNameSpec)

/-- ITS FALSE NEIGHBOUR: 'it returns false'. Refute it at one input. -/
def fnExactGateNameWrong : ChangeSpec := { name := "fnExactGateName", vars := ["loop.example/g00506/impl.gateNames"], fn := fun _ => fun
  | [d, g1] => { results := [.lit (.bool false)], args := [d], vars := [g1] }
  | _ => none }
def FnExactGateNameWrongFalsely : Prop := fnExactGateNameRow.holds Tryd.pinned (OpenSpec.ofChange fnExactGateNameWrong)

/-- 'laws.FnExactGateKind': WHATEVER THE INPUT: true; the input reads as it did. -/
def fnExactGateKindSpec : ChangeSpec := { name := "fnExactGateKind", vars := ["loop.example/g00506/impl.gateNames"], fn := fun _ => fun
  | [d, g1] => { results := [.lit (.bool true)], args := [d], vars := [g1] }
  | _ => none }
def fnExactGateKindRow : OpenClaim := { program := "ytcaipeanemndpaadoor", sum := "5efad740cfe06cb2c6d1245b733275446bbfe2a05f5cc100b10353dcf95faa5d", func := "loop.example/g00506/laws.FnExactGateKind", spec := "fnExactGateKind", named := ["loop.example/g00506/impl.gateNames"], apart := false, laid := [("loop.example/g00506/impl.gateNames", laid_loop_example_g00506_impl_gateNames)] }
def FnExactGateKindSaid : Prop := fnExactGateKindRow.holds Tryd.pinned (OpenSpec.ofChange fnExactGateKindSpec)

/-- ITS FALSE NEIGHBOUR: 'it returns false'. Refute it at one input. -/
def fnExactGateKindWrong : ChangeSpec := { name := "fnExactGateKind", vars := ["loop.example/g00506/impl.gateNames"], fn := fun _ => fun
  | [d, g1] => { results := [.lit (.bool false)], args := [d], vars := [g1] }
  | _ => none }
def FnExactGateKindWrongFalsely : Prop := fnExactGateKindRow.holds Tryd.pinned (OpenSpec.ofChange fnExactGateKindWrong)

/- THE SECOND FORM. 'bulk': how many values and letters a reading holds, each counted each time it is reached (what is shared counts as often as it is met; a slice's spare places count too). A statement '..UptoSaid' is the law's where the arguments, and the package variables that the reading takes, are together of bulk at most 1048576: NARROWER than '..Said'. Prove '..Said' where nothing that the law and all that it calls make is longer than what came in: it says more and counts as full. Else prove '..UptoSaid'. A law counts once. -/
mutual
def uptoBulk {H : Type} : DataW H → Nat
  | .lit (.string bytes) => bytes.length + 1
  | .lit _ => 1
  | .nil => 1
  | .ptr d => uptoBulk d + 1
  | .slice elems spare => uptoBulkAll elems + uptoBulkAll spare + 1
  | .agg parts => uptoBulkAll parts + 1
  | .iface _ d => uptoBulk d + 1
  | .map entries => uptoBulkEntries entries + 1
  | .held _ => 1
def uptoBulkAll {H : Type} : List (DataW H) → Nat
  | [] => 0
  | d :: r => uptoBulk d + uptoBulkAll r
def uptoBulkEntries {H : Type} : List (Lit × DataW H) → Nat
  | [] => 0
  | x :: r => uptoBulkEntry x + uptoBulkEntries r
def uptoBulkEntry {H : Type} : Lit × DataW H → Nat
  | (.string bytes, d) => bytes.length + uptoBulk d + 1
  | (_, d) => uptoBulk d + 1
 end
def uptoSmall : (H : Type) → List (DataW H) → Bool := fun _ ds => decide (uptoBulkAll ds ≤ 1048576)
def OpenSpec.upto (s : _root_.Go.ChangeSpec) : _root_.Go.OpenSpec := { _root_.Go.OpenSpec.ofChange s with cond := some uptoSmall }

/-- 'laws.FnExactGateName', WHERE WHAT IT READS IS OF BULK AT MOST 1048576: true; the input reads as it did. -/
def fnExactGateNameUptoRow : OpenClaim := { program := "ytcaipeanemndpaadoor", sum := "5efad740cfe06cb2c6d1245b733275446bbfe2a05f5cc100b10353dcf95faa5d", func := "loop.example/g00506/laws.FnExactGateName", spec := "fnExactGateName", named := ["loop.example/g00506/impl.gateNames"], apart := false, laid := [("loop.example/g00506/impl.gateNames", laid_loop_example_g00506_impl_gateNames)], narrowed := true }
def FnExactGateNameUptoSaid : Prop := fnExactGateNameUptoRow.holds Tryd.pinned (OpenSpec.upto fnExactGateNameSpec)

/-- 'laws.FnExactGateKind', WHERE WHAT IT READS IS OF BULK AT MOST 1048576: true; the input reads as it did. -/
def fnExactGateKindUptoRow : OpenClaim := { program := "ytcaipeanemndpaadoor", sum := "5efad740cfe06cb2c6d1245b733275446bbfe2a05f5cc100b10353dcf95faa5d", func := "loop.example/g00506/laws.FnExactGateKind", spec := "fnExactGateKind", named := ["loop.example/g00506/impl.gateNames"], apart := false, laid := [("loop.example/g00506/impl.gateNames", laid_loop_example_g00506_impl_gateNames)], narrowed := true }
def FnExactGateKindUptoSaid : Prop := fnExactGateKindUptoRow.holds Tryd.pinned (OpenSpec.upto fnExactGateKindSpec)

end Rows
end Go.Proofs.YtcaipeanemndpaaDoor
