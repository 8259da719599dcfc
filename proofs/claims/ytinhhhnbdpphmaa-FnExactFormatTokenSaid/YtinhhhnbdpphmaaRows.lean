/-
  No cell of these rows narrows 'for every input' (looked for: loops, veiled, ifaces, maps, wideKeys, modest, calm, conditions, laid).
  DERIVED. THE GIVEN ROWS OF THIS SEAT. 10 by the template 'for every input the law returns true; each argument reads behind the call as it read before'; 0 by the template 'total and deterministic' (their statements: YtinhhhnbdpphmaaTotals.lean).
  GIVEN WITH THE SEED: the statements are not yours to turn. If you find one false, say at which input.
  Laid BY PROGRAM, IN A SANDBOX (cutbox-rows.mjs): the forced cells as the released guide's own fill.sh prints them over the translation f78167c543f9a695… (all of the seat's roots in one cut). By AI agents, Wed Nov 11 2026. No macro, syntax, notation, axiom, sorry.
-/
import Derived.Test.YtinhhhnbdpphmaaChecked
import GoSem.Claim
import GoSem.ClaimJoined
import GoSem.ClaimMapViews
import Derived.JoinedTies
import Derived.KernelRfl
namespace Go.Proofs.Ytinhhhnbdpphmaa
/- THE CELL 'sum', in the pinned program and in every row, IS THE sha256 OF THE DUMP (.gsa) THAT YtinhhhnbdpphmaaProg.lean LOADS. Nothing in Lean hashes anything: it is a label: what it is worth is what the hold of that sum in a sandbox is worth. -/
noncomputable def Try.pinned : Pinned := { name := "ytinhhhnbdpphmaa", sum := "f78167c543f9a69567738c3817a1d540b440378ea012b0859cc7f8e46add706f", checked := Try.checked }
namespace Rows
def none {H : Type} : Left H := { results := [], args := [] }

/-- 'laws.FnExactIsValidWord': WHATEVER THE INPUT: true; the input reads as it did. -/
def fnExactIsValidWordSpec : ChangeSpec := { name := "fnExactIsValidWord", fn := fun _ => fun
  | [d] => { results := [.lit (.bool true)], args := [d] }
  | _ => none }
def fnExactIsValidWordRow : OpenClaim := { program := "ytinhhhnbdpphmaa", sum := "f78167c543f9a69567738c3817a1d540b440378ea012b0859cc7f8e46add706f", func := "loop.example/g00506/laws.FnExactIsValidWord", spec := "fnExactIsValidWord", apart := false }
def FnExactIsValidWordSaid : Prop := fnExactIsValidWordRow.holds Try.pinned (OpenSpec.ofChange fnExactIsValidWordSpec)

/-- ITS FALSE NEIGHBOUR: 'it returns false'. Refute it at one input. -/
def fnExactIsValidWordWrong : ChangeSpec := { name := "fnExactIsValidWord", fn := fun _ => fun
  | [d] => { results := [.lit (.bool false)], args := [d] }
  | _ => none }
def FnExactIsValidWordWrongFalsely : Prop := fnExactIsValidWordRow.holds Try.pinned (OpenSpec.ofChange fnExactIsValidWordWrong)

/-- 'laws.FnExactArity': WHATEVER THE INPUT: true; the input reads as it did. -/
def fnExactAritySpec : ChangeSpec := { name := "fnExactArity", fn := fun _ => fun
  | [d] => { results := [.lit (.bool true)], args := [d] }
  | _ => none }
def fnExactArityRow : OpenClaim := { program := "ytinhhhnbdpphmaa", sum := "f78167c543f9a69567738c3817a1d540b440378ea012b0859cc7f8e46add706f", func := "loop.example/g00506/laws.FnExactArity", spec := "fnExactArity", apart := false }
def FnExactAritySaid : Prop := fnExactArityRow.holds Try.pinned (OpenSpec.ofChange fnExactAritySpec)

/-- ITS FALSE NEIGHBOUR: 'it returns false'. Refute it at one input. -/
def fnExactArityWrong : ChangeSpec := { name := "fnExactArity", fn := fun _ => fun
  | [d] => { results := [.lit (.bool false)], args := [d] }
  | _ => none }
def FnExactArityWrongFalsely : Prop := fnExactArityRow.holds Try.pinned (OpenSpec.ofChange fnExactArityWrong)

/-- 'laws.FnExactIsBasicGate': WHATEVER THE INPUT: true; the input reads as it did. -/
def fnExactIsBasicGateSpec : ChangeSpec := { name := "fnExactIsBasicGate", fn := fun _ => fun
  | [d] => { results := [.lit (.bool true)], args := [d] }
  | _ => none }
def fnExactIsBasicGateRow : OpenClaim := { program := "ytinhhhnbdpphmaa", sum := "f78167c543f9a69567738c3817a1d540b440378ea012b0859cc7f8e46add706f", func := "loop.example/g00506/laws.FnExactIsBasicGate", spec := "fnExactIsBasicGate", apart := false }
def FnExactIsBasicGateSaid : Prop := fnExactIsBasicGateRow.holds Try.pinned (OpenSpec.ofChange fnExactIsBasicGateSpec)

/-- ITS FALSE NEIGHBOUR: 'it returns false'. Refute it at one input. -/
def fnExactIsBasicGateWrong : ChangeSpec := { name := "fnExactIsBasicGate", fn := fun _ => fun
  | [d] => { results := [.lit (.bool false)], args := [d] }
  | _ => none }
def FnExactIsBasicGateWrongFalsely : Prop := fnExactIsBasicGateRow.holds Try.pinned (OpenSpec.ofChange fnExactIsBasicGateWrong)

/-- 'laws.FnExactIsClifford': WHATEVER THE INPUT: true; the input reads as it did. -/
def fnExactIsCliffordSpec : ChangeSpec := { name := "fnExactIsClifford", fn := fun _ => fun
  | [d] => { results := [.lit (.bool true)], args := [d] }
  | _ => none }
def fnExactIsCliffordRow : OpenClaim := { program := "ytinhhhnbdpphmaa", sum := "f78167c543f9a69567738c3817a1d540b440378ea012b0859cc7f8e46add706f", func := "loop.example/g00506/laws.FnExactIsClifford", spec := "fnExactIsClifford", apart := false }
def FnExactIsCliffordSaid : Prop := fnExactIsCliffordRow.holds Try.pinned (OpenSpec.ofChange fnExactIsCliffordSpec)

/-- ITS FALSE NEIGHBOUR: 'it returns false'. Refute it at one input. -/
def fnExactIsCliffordWrong : ChangeSpec := { name := "fnExactIsClifford", fn := fun _ => fun
  | [d] => { results := [.lit (.bool false)], args := [d] }
  | _ => none }
def FnExactIsCliffordWrongFalsely : Prop := fnExactIsCliffordRow.holds Try.pinned (OpenSpec.ofChange fnExactIsCliffordWrong)

/-- 'laws.FnExactIdentityPermutation': WHATEVER THE INPUT: true; the input reads as it did. -/
def fnExactIdentityPermutationSpec : ChangeSpec := { name := "fnExactIdentityPermutation", fn := fun _ => fun
  | [d] => { results := [.lit (.bool true)], args := [d] }
  | _ => none }
def fnExactIdentityPermutationRow : OpenClaim := { program := "ytinhhhnbdpphmaa", sum := "f78167c543f9a69567738c3817a1d540b440378ea012b0859cc7f8e46add706f", func := "loop.example/g00506/laws.FnExactIdentityPermutation", spec := "fnExactIdentityPermutation", apart := false }
def FnExactIdentityPermutationSaid : Prop := fnExactIdentityPermutationRow.holds Try.pinned (OpenSpec.ofChange fnExactIdentityPermutationSpec)

/-- ITS FALSE NEIGHBOUR: 'it returns false'. Refute it at one input. -/
def fnExactIdentityPermutationWrong : ChangeSpec := { name := "fnExactIdentityPermutation", fn := fun _ => fun
  | [d] => { results := [.lit (.bool false)], args := [d] }
  | _ => none }
def FnExactIdentityPermutationWrongFalsely : Prop := fnExactIdentityPermutationRow.holds Try.pinned (OpenSpec.ofChange fnExactIdentityPermutationWrong)

/-- 'laws.FnExactInverseGate': WHATEVER THE INPUT: true; the input reads as it did. -/
def fnExactInverseGateSpec : ChangeSpec := { name := "fnExactInverseGate", fn := fun _ => fun
  | [d] => { results := [.lit (.bool true)], args := [d] }
  | _ => none }
def fnExactInverseGateRow : OpenClaim := { program := "ytinhhhnbdpphmaa", sum := "f78167c543f9a69567738c3817a1d540b440378ea012b0859cc7f8e46add706f", func := "loop.example/g00506/laws.FnExactInverseGate", spec := "fnExactInverseGate", apart := false }
def FnExactInverseGateSaid : Prop := fnExactInverseGateRow.holds Try.pinned (OpenSpec.ofChange fnExactInverseGateSpec)

/-- ITS FALSE NEIGHBOUR: 'it returns false'. Refute it at one input. -/
def fnExactInverseGateWrong : ChangeSpec := { name := "fnExactInverseGate", fn := fun _ => fun
  | [d] => { results := [.lit (.bool false)], args := [d] }
  | _ => none }
def FnExactInverseGateWrongFalsely : Prop := fnExactInverseGateRow.holds Try.pinned (OpenSpec.ofChange fnExactInverseGateWrong)

/-- 'laws.FnExactIsPermutation': WHATEVER THE INPUT: true; the input reads as it did. -/
def fnExactIsPermutationSpec : ChangeSpec := { name := "fnExactIsPermutation", fn := fun _ => fun
  | [d] => { results := [.lit (.bool true)], args := [d] }
  | _ => none }
def fnExactIsPermutationRow : OpenClaim := { program := "ytinhhhnbdpphmaa", sum := "f78167c543f9a69567738c3817a1d540b440378ea012b0859cc7f8e46add706f", func := "loop.example/g00506/laws.FnExactIsPermutation", spec := "fnExactIsPermutation", apart := false }
def FnExactIsPermutationSaid : Prop := fnExactIsPermutationRow.holds Try.pinned (OpenSpec.ofChange fnExactIsPermutationSpec)

/-- ITS FALSE NEIGHBOUR: 'it returns false'. Refute it at one input. -/
def fnExactIsPermutationWrong : ChangeSpec := { name := "fnExactIsPermutation", fn := fun _ => fun
  | [d] => { results := [.lit (.bool false)], args := [d] }
  | _ => none }
def FnExactIsPermutationWrongFalsely : Prop := fnExactIsPermutationRow.holds Try.pinned (OpenSpec.ofChange fnExactIsPermutationWrong)

/-- 'laws.FnExactActsOn': WHATEVER THE INPUT: true; the input reads as it did. -/
def fnExactActsOnSpec : ChangeSpec := { name := "fnExactActsOn", fn := fun _ => fun
  | [d1, d2] => { results := [.lit (.bool true)], args := [d1, d2] }
  | _ => none }
def fnExactActsOnRow : OpenClaim := { program := "ytinhhhnbdpphmaa", sum := "f78167c543f9a69567738c3817a1d540b440378ea012b0859cc7f8e46add706f", func := "loop.example/g00506/laws.FnExactActsOn", spec := "fnExactActsOn", apart := false }
def FnExactActsOnSaid : Prop := fnExactActsOnRow.holds Try.pinned (OpenSpec.ofChange fnExactActsOnSpec)

/-- ITS FALSE NEIGHBOUR: 'it returns false'. Refute it at one input. -/
def fnExactActsOnWrong : ChangeSpec := { name := "fnExactActsOn", fn := fun _ => fun
  | [d1, d2] => { results := [.lit (.bool false)], args := [d1, d2] }
  | _ => none }
def FnExactActsOnWrongFalsely : Prop := fnExactActsOnRow.holds Try.pinned (OpenSpec.ofChange fnExactActsOnWrong)

/-- 'laws.FnExactFormatToken': WHATEVER THE INPUT: true; the input reads as it did. -/
def fnExactFormatTokenSpec : ChangeSpec := { name := "fnExactFormatToken", fn := fun _ => fun
  | [d] => { results := [.lit (.bool true)], args := [d] }
  | _ => none }
def fnExactFormatTokenRow : OpenClaim := { program := "ytinhhhnbdpphmaa", sum := "f78167c543f9a69567738c3817a1d540b440378ea012b0859cc7f8e46add706f", func := "loop.example/g00506/laws.FnExactFormatToken", spec := "fnExactFormatToken", apart := false }
def FnExactFormatTokenSaid : Prop := fnExactFormatTokenRow.holds Try.pinned (OpenSpec.ofChange fnExactFormatTokenSpec)

/-- ITS FALSE NEIGHBOUR: 'it returns false'. Refute it at one input. -/
def fnExactFormatTokenWrong : ChangeSpec := { name := "fnExactFormatToken", fn := fun _ => fun
  | [d] => { results := [.lit (.bool false)], args := [d] }
  | _ => none }
def FnExactFormatTokenWrongFalsely : Prop := fnExactFormatTokenRow.holds Try.pinned (OpenSpec.ofChange fnExactFormatTokenWrong)

/-- 'laws.FnExactGateQubits': WHATEVER THE INPUT: true; the input reads as it did. -/
def fnExactGateQubitsSpec : ChangeSpec := { name := "fnExactGateQubits", fn := fun _ => fun
  | [d] => { results := [.lit (.bool true)], args := [d] }
  | _ => none }
def fnExactGateQubitsRow : OpenClaim := { program := "ytinhhhnbdpphmaa", sum := "f78167c543f9a69567738c3817a1d540b440378ea012b0859cc7f8e46add706f", func := "loop.example/g00506/laws.FnExactGateQubits", spec := "fnExactGateQubits", apart := false }
def FnExactGateQubitsSaid : Prop := fnExactGateQubitsRow.holds Try.pinned (OpenSpec.ofChange fnExactGateQubitsSpec)

/-- ITS FALSE NEIGHBOUR: 'it returns false'. Refute it at one input. -/
def fnExactGateQubitsWrong : ChangeSpec := { name := "fnExactGateQubits", fn := fun _ => fun
  | [d] => { results := [.lit (.bool false)], args := [d] }
  | _ => none }
def FnExactGateQubitsWrongFalsely : Prop := fnExactGateQubitsRow.holds Try.pinned (OpenSpec.ofChange fnExactGateQubitsWrong)

/- THE SECOND FORM. 'bulk': how many values and letters a reading holds, each counted each time it is reached (what is shared counts as often as it is met; a slice's spare places count too). A statement '..UptoSaid' is the law's where the arguments, and the package variables that the reading takes, are together of bulk at most 1048576: NARROWER than '..Said'. Prove '..Said' where nothing that the law and all that it calls make is longer than what came in: it says more and counts as full. Else prove '..UptoSaid'. A law counts once. -/
mutual
def uptoBulk {H : Type} : DataW H → Nat
  | .lit (.string bytes) => bytes.length + 1
  | .lit _ => 1
  | .nil => 1
  | .ptr d => uptoBulk d + 1
  | .slice elems spare => uptoBulkAll elems + uptoBulkAll spare + 1
  | .agg parts => uptoBulkAll parts + 1
  | .iface _ d => uptoBulk d + 1
  | .map entries => uptoBulkEntries entries + 1
  | .held _ => 1
def uptoBulkAll {H : Type} : List (DataW H) → Nat
  | [] => 0
  | d :: r => uptoBulk d + uptoBulkAll r
def uptoBulkEntries {H : Type} : List (Lit × DataW H) → Nat
  | [] => 0
  | x :: r => uptoBulkEntry x + uptoBulkEntries r
def uptoBulkEntry {H : Type} : Lit × DataW H → Nat
  | (.string bytes, d) => bytes.length + uptoBulk d + 1
  | (_, d) => uptoBulk d + 1
 end
def uptoSmall : (H : Type) → List (DataW H) → Bool := fun _ ds => decide (uptoBulkAll ds ≤ 1048576)
def OpenSpec.upto (s : _root_.Go.ChangeSpec) : _root_.Go.OpenSpec := { _root_.Go.OpenSpec.ofChange s with cond := some uptoSmall }

/-- 'laws.FnExactIsValidWord', WHERE WHAT IT READS IS OF BULK AT MOST 1048576: true; the input reads as it did. -/
def fnExactIsValidWordUptoRow : OpenClaim := { program := "ytinhhhnbdpphmaa", sum := "f78167c543f9a69567738c3817a1d540b440378ea012b0859cc7f8e46add706f", func := "loop.example/g00506/laws.FnExactIsValidWord", spec := "fnExactIsValidWord", apart := false, narrowed := true }
def FnExactIsValidWordUptoSaid : Prop := fnExactIsValidWordUptoRow.holds Try.pinned (OpenSpec.upto fnExactIsValidWordSpec)

/-- 'laws.FnExactArity', WHERE WHAT IT READS IS OF BULK AT MOST 1048576: true; the input reads as it did. -/
def fnExactArityUptoRow : OpenClaim := { program := "ytinhhhnbdpphmaa", sum := "f78167c543f9a69567738c3817a1d540b440378ea012b0859cc7f8e46add706f", func := "loop.example/g00506/laws.FnExactArity", spec := "fnExactArity", apart := false, narrowed := true }
def FnExactArityUptoSaid : Prop := fnExactArityUptoRow.holds Try.pinned (OpenSpec.upto fnExactAritySpec)

/-- 'laws.FnExactIsBasicGate', WHERE WHAT IT READS IS OF BULK AT MOST 1048576: true; the input reads as it did. -/
def fnExactIsBasicGateUptoRow : OpenClaim := { program := "ytinhhhnbdpphmaa", sum := "f78167c543f9a69567738c3817a1d540b440378ea012b0859cc7f8e46add706f", func := "loop.example/g00506/laws.FnExactIsBasicGate", spec := "fnExactIsBasicGate", apart := false, narrowed := true }
def FnExactIsBasicGateUptoSaid : Prop := fnExactIsBasicGateUptoRow.holds Try.pinned (OpenSpec.upto fnExactIsBasicGateSpec)

/-- 'laws.FnExactIsClifford', WHERE WHAT IT READS IS OF BULK AT MOST 1048576: true; the input reads as it did. -/
def fnExactIsCliffordUptoRow : OpenClaim := { program := "ytinhhhnbdpphmaa", sum := "f78167c543f9a69567738c3817a1d540b440378ea012b0859cc7f8e46add706f", func := "loop.example/g00506/laws.FnExactIsClifford", spec := "fnExactIsClifford", apart := false, narrowed := true }
def FnExactIsCliffordUptoSaid : Prop := fnExactIsCliffordUptoRow.holds Try.pinned (OpenSpec.upto fnExactIsCliffordSpec)

/-- 'laws.FnExactIdentityPermutation', WHERE WHAT IT READS IS OF BULK AT MOST 1048576: true; the input reads as it did. -/
def fnExactIdentityPermutationUptoRow : OpenClaim := { program := "ytinhhhnbdpphmaa", sum := "f78167c543f9a69567738c3817a1d540b440378ea012b0859cc7f8e46add706f", func := "loop.example/g00506/laws.FnExactIdentityPermutation", spec := "fnExactIdentityPermutation", apart := false, narrowed := true }
def FnExactIdentityPermutationUptoSaid : Prop := fnExactIdentityPermutationUptoRow.holds Try.pinned (OpenSpec.upto fnExactIdentityPermutationSpec)

/-- 'laws.FnExactInverseGate', WHERE WHAT IT READS IS OF BULK AT MOST 1048576: true; the input reads as it did. -/
def fnExactInverseGateUptoRow : OpenClaim := { program := "ytinhhhnbdpphmaa", sum := "f78167c543f9a69567738c3817a1d540b440378ea012b0859cc7f8e46add706f", func := "loop.example/g00506/laws.FnExactInverseGate", spec := "fnExactInverseGate", apart := false, narrowed := true }
def FnExactInverseGateUptoSaid : Prop := fnExactInverseGateUptoRow.holds Try.pinned (OpenSpec.upto fnExactInverseGateSpec)

/-- 'laws.FnExactIsPermutation', WHERE WHAT IT READS IS OF BULK AT MOST 1048576: true; the input reads as it did. -/
def fnExactIsPermutationUptoRow : OpenClaim := { program := "ytinhhhnbdpphmaa", sum := "f78167c543f9a69567738c3817a1d540b440378ea012b0859cc7f8e46add706f", func := "loop.example/g00506/laws.FnExactIsPermutation", spec := "fnExactIsPermutation", apart := false, narrowed := true }
def FnExactIsPermutationUptoSaid : Prop := fnExactIsPermutationUptoRow.holds Try.pinned (OpenSpec.upto fnExactIsPermutationSpec)

/-- 'laws.FnExactActsOn', WHERE WHAT IT READS IS OF BULK AT MOST 1048576: true; the input reads as it did. -/
def fnExactActsOnUptoRow : OpenClaim := { program := "ytinhhhnbdpphmaa", sum := "f78167c543f9a69567738c3817a1d540b440378ea012b0859cc7f8e46add706f", func := "loop.example/g00506/laws.FnExactActsOn", spec := "fnExactActsOn", apart := false, narrowed := true }
def FnExactActsOnUptoSaid : Prop := fnExactActsOnUptoRow.holds Try.pinned (OpenSpec.upto fnExactActsOnSpec)

/-- 'laws.FnExactFormatToken', WHERE WHAT IT READS IS OF BULK AT MOST 1048576: true; the input reads as it did. -/
def fnExactFormatTokenUptoRow : OpenClaim := { program := "ytinhhhnbdpphmaa", sum := "f78167c543f9a69567738c3817a1d540b440378ea012b0859cc7f8e46add706f", func := "loop.example/g00506/laws.FnExactFormatToken", spec := "fnExactFormatToken", apart := false, narrowed := true }
def FnExactFormatTokenUptoSaid : Prop := fnExactFormatTokenUptoRow.holds Try.pinned (OpenSpec.upto fnExactFormatTokenSpec)

/-- 'laws.FnExactGateQubits', WHERE WHAT IT READS IS OF BULK AT MOST 1048576: true; the input reads as it did. -/
def fnExactGateQubitsUptoRow : OpenClaim := { program := "ytinhhhnbdpphmaa", sum := "f78167c543f9a69567738c3817a1d540b440378ea012b0859cc7f8e46add706f", func := "loop.example/g00506/laws.FnExactGateQubits", spec := "fnExactGateQubits", apart := false, narrowed := true }
def FnExactGateQubitsUptoSaid : Prop := fnExactGateQubitsUptoRow.holds Try.pinned (OpenSpec.upto fnExactGateQubitsSpec)

end Rows
end Go.Proofs.Ytinhhhnbdpphmaa
