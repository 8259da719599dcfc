/-
  No cell of these rows narrows 'for every input' (looked for: loops, veiled, ifaces, maps, wideKeys, modest, calm, conditions, laid).
  DERIVED. THE GIVEN ROWS OF THIS SEAT. 12 by the template 'for every input the law returns true; each argument reads behind the call as it read before'; 0 by the template 'total and deterministic' (their statements: YtjhnhmjnhnighaaTotals.lean).
  GIVEN WITH THE SEED: the statements are not yours to turn. If you find one false, say at which input.
  Laid BY PROGRAM, IN A SANDBOX (cutbox-rows.mjs): the forced cells as the released guide's own fill.sh prints them over the translation b8df69d29ea95aba… (all of the seat's roots in one cut). By AI agents, Wed Nov 11 2026. No macro, syntax, notation, axiom, sorry.
-/
import Derived.Test.YtjhnhmjnhnighaaChecked
import GoSem.Claim
import GoSem.ClaimJoined
import GoSem.ClaimMapViews
import Derived.JoinedTies
import Derived.KernelRfl
namespace Go.Proofs.Ytjhnhmjnhnighaa
/- THE CELL 'sum', in the pinned program and in every row, IS THE sha256 OF THE DUMP (.gsa) THAT YtjhnhmjnhnighaaProg.lean LOADS. Nothing in Lean hashes anything: it is a label: what it is worth is what the hold of that sum in a sandbox is worth. -/
noncomputable def Try.pinned : Pinned := { name := "ytjhnhmjnhnighaa", sum := "b8df69d29ea95aba5644c02304926e12dd685d0376884ad76d072869b19ef4f3", checked := Try.checked }
namespace Rows
def none {H : Type} : Left H := { results := [], args := [] }

/-- 'laws.FnExactPermuteIndex': WHATEVER THE INPUT: true; the input reads as it did. -/
def fnExactPermuteIndexSpec : ChangeSpec := { name := "fnExactPermuteIndex", fn := fun _ => fun
  | [d1, d2] => { results := [.lit (.bool true)], args := [d1, d2] }
  | _ => none }
def fnExactPermuteIndexRow : OpenClaim := { program := "ytjhnhmjnhnighaa", sum := "b8df69d29ea95aba5644c02304926e12dd685d0376884ad76d072869b19ef4f3", func := "loop.example/g00506/laws.FnExactPermuteIndex", spec := "fnExactPermuteIndex", apart := false }
def FnExactPermuteIndexSaid : Prop := fnExactPermuteIndexRow.holds Try.pinned (OpenSpec.ofChange fnExactPermuteIndexSpec)

/-- ITS FALSE NEIGHBOUR: 'it returns false'. Refute it at one input. -/
def fnExactPermuteIndexWrong : ChangeSpec := { name := "fnExactPermuteIndex", fn := fun _ => fun
  | [d1, d2] => { results := [.lit (.bool false)], args := [d1, d2] }
  | _ => none }
def FnExactPermuteIndexWrongFalsely : Prop := fnExactPermuteIndexRow.holds Try.pinned (OpenSpec.ofChange fnExactPermuteIndexWrong)

/-- 'laws.FnExactIsValidGate': WHATEVER THE INPUT: true; the input reads as it did. -/
def fnExactIsValidGateSpec : ChangeSpec := { name := "fnExactIsValidGate", fn := fun _ => fun
  | [d1, d2] => { results := [.lit (.bool true)], args := [d1, d2] }
  | _ => none }
def fnExactIsValidGateRow : OpenClaim := { program := "ytjhnhmjnhnighaa", sum := "b8df69d29ea95aba5644c02304926e12dd685d0376884ad76d072869b19ef4f3", func := "loop.example/g00506/laws.FnExactIsValidGate", spec := "fnExactIsValidGate", apart := false }
def FnExactIsValidGateSaid : Prop := fnExactIsValidGateRow.holds Try.pinned (OpenSpec.ofChange fnExactIsValidGateSpec)

/-- ITS FALSE NEIGHBOUR: 'it returns false'. Refute it at one input. -/
def fnExactIsValidGateWrong : ChangeSpec := { name := "fnExactIsValidGate", fn := fun _ => fun
  | [d1, d2] => { results := [.lit (.bool false)], args := [d1, d2] }
  | _ => none }
def FnExactIsValidGateWrongFalsely : Prop := fnExactIsValidGateRow.holds Try.pinned (OpenSpec.ofChange fnExactIsValidGateWrong)

/-- 'laws.FnExactComposePermutations': WHATEVER THE INPUT: true; the input reads as it did. -/
def fnExactComposePermutationsSpec : ChangeSpec := { name := "fnExactComposePermutations", fn := fun _ => fun
  | [d1, d2] => { results := [.lit (.bool true)], args := [d1, d2] }
  | _ => none }
def fnExactComposePermutationsRow : OpenClaim := { program := "ytjhnhmjnhnighaa", sum := "b8df69d29ea95aba5644c02304926e12dd685d0376884ad76d072869b19ef4f3", func := "loop.example/g00506/laws.FnExactComposePermutations", spec := "fnExactComposePermutations", apart := false }
def FnExactComposePermutationsSaid : Prop := fnExactComposePermutationsRow.holds Try.pinned (OpenSpec.ofChange fnExactComposePermutationsSpec)

/-- ITS FALSE NEIGHBOUR: 'it returns false'. Refute it at one input. -/
def fnExactComposePermutationsWrong : ChangeSpec := { name := "fnExactComposePermutations", fn := fun _ => fun
  | [d1, d2] => { results := [.lit (.bool false)], args := [d1, d2] }
  | _ => none }
def FnExactComposePermutationsWrongFalsely : Prop := fnExactComposePermutationsRow.holds Try.pinned (OpenSpec.ofChange fnExactComposePermutationsWrong)

/-- 'laws.FnExactInversePermutation': WHATEVER THE INPUT: true; the input reads as it did. -/
def fnExactInversePermutationSpec : ChangeSpec := { name := "fnExactInversePermutation", fn := fun _ => fun
  | [d] => { results := [.lit (.bool true)], args := [d] }
  | _ => none }
def fnExactInversePermutationRow : OpenClaim := { program := "ytjhnhmjnhnighaa", sum := "b8df69d29ea95aba5644c02304926e12dd685d0376884ad76d072869b19ef4f3", func := "loop.example/g00506/laws.FnExactInversePermutation", spec := "fnExactInversePermutation", apart := false }
def FnExactInversePermutationSaid : Prop := fnExactInversePermutationRow.holds Try.pinned (OpenSpec.ofChange fnExactInversePermutationSpec)

/-- ITS FALSE NEIGHBOUR: 'it returns false'. Refute it at one input. -/
def fnExactInversePermutationWrong : ChangeSpec := { name := "fnExactInversePermutation", fn := fun _ => fun
  | [d] => { results := [.lit (.bool false)], args := [d] }
  | _ => none }
def FnExactInversePermutationWrongFalsely : Prop := fnExactInversePermutationRow.holds Try.pinned (OpenSpec.ofChange fnExactInversePermutationWrong)

/-- 'laws.FnExactCountGates': WHATEVER THE INPUT: true; the input reads as it did. -/
def fnExactCountGatesSpec : ChangeSpec := { name := "fnExactCountGates", fn := fun _ => fun
  | [d1, d2] => { results := [.lit (.bool true)], args := [d1, d2] }
  | _ => none }
def fnExactCountGatesRow : OpenClaim := { program := "ytjhnhmjnhnighaa", sum := "b8df69d29ea95aba5644c02304926e12dd685d0376884ad76d072869b19ef4f3", func := "loop.example/g00506/laws.FnExactCountGates", spec := "fnExactCountGates", apart := false }
def FnExactCountGatesSaid : Prop := fnExactCountGatesRow.holds Try.pinned (OpenSpec.ofChange fnExactCountGatesSpec)

/-- ITS FALSE NEIGHBOUR: 'it returns false'. Refute it at one input. -/
def fnExactCountGatesWrong : ChangeSpec := { name := "fnExactCountGates", fn := fun _ => fun
  | [d1, d2] => { results := [.lit (.bool false)], args := [d1, d2] }
  | _ => none }
def FnExactCountGatesWrongFalsely : Prop := fnExactCountGatesRow.holds Try.pinned (OpenSpec.ofChange fnExactCountGatesWrong)

/-- 'laws.FnExactTCount': WHATEVER THE INPUT: true; the input reads as it did. -/
def fnExactTCountSpec : ChangeSpec := { name := "fnExactTCount", fn := fun _ => fun
  | [d] => { results := [.lit (.bool true)], args := [d] }
  | _ => none }
def fnExactTCountRow : OpenClaim := { program := "ytjhnhmjnhnighaa", sum := "b8df69d29ea95aba5644c02304926e12dd685d0376884ad76d072869b19ef4f3", func := "loop.example/g00506/laws.FnExactTCount", spec := "fnExactTCount", apart := false }
def FnExactTCountSaid : Prop := fnExactTCountRow.holds Try.pinned (OpenSpec.ofChange fnExactTCountSpec)

/-- ITS FALSE NEIGHBOUR: 'it returns false'. Refute it at one input. -/
def fnExactTCountWrong : ChangeSpec := { name := "fnExactTCount", fn := fun _ => fun
  | [d] => { results := [.lit (.bool false)], args := [d] }
  | _ => none }
def FnExactTCountWrongFalsely : Prop := fnExactTCountRow.holds Try.pinned (OpenSpec.ofChange fnExactTCountWrong)

/-- 'laws.FnExactEqualCircuit': WHATEVER THE INPUT: true; the input reads as it did. -/
def fnExactEqualCircuitSpec : ChangeSpec := { name := "fnExactEqualCircuit", fn := fun _ => fun
  | [d1, d2] => { results := [.lit (.bool true)], args := [d1, d2] }
  | _ => none }
def fnExactEqualCircuitRow : OpenClaim := { program := "ytjhnhmjnhnighaa", sum := "b8df69d29ea95aba5644c02304926e12dd685d0376884ad76d072869b19ef4f3", func := "loop.example/g00506/laws.FnExactEqualCircuit", spec := "fnExactEqualCircuit", apart := false }
def FnExactEqualCircuitSaid : Prop := fnExactEqualCircuitRow.holds Try.pinned (OpenSpec.ofChange fnExactEqualCircuitSpec)

/-- ITS FALSE NEIGHBOUR: 'it returns false'. Refute it at one input. -/
def fnExactEqualCircuitWrong : ChangeSpec := { name := "fnExactEqualCircuit", fn := fun _ => fun
  | [d1, d2] => { results := [.lit (.bool false)], args := [d1, d2] }
  | _ => none }
def FnExactEqualCircuitWrongFalsely : Prop := fnExactEqualCircuitRow.holds Try.pinned (OpenSpec.ofChange fnExactEqualCircuitWrong)

/-- 'laws.FnExactTwoQubitCount': WHATEVER THE INPUT: true; the input reads as it did. -/
def fnExactTwoQubitCountSpec : ChangeSpec := { name := "fnExactTwoQubitCount", fn := fun _ => fun
  | [d] => { results := [.lit (.bool true)], args := [d] }
  | _ => none }
def fnExactTwoQubitCountRow : OpenClaim := { program := "ytjhnhmjnhnighaa", sum := "b8df69d29ea95aba5644c02304926e12dd685d0376884ad76d072869b19ef4f3", func := "loop.example/g00506/laws.FnExactTwoQubitCount", spec := "fnExactTwoQubitCount", apart := false }
def FnExactTwoQubitCountSaid : Prop := fnExactTwoQubitCountRow.holds Try.pinned (OpenSpec.ofChange fnExactTwoQubitCountSpec)

/-- ITS FALSE NEIGHBOUR: 'it returns false'. Refute it at one input. -/
def fnExactTwoQubitCountWrong : ChangeSpec := { name := "fnExactTwoQubitCount", fn := fun _ => fun
  | [d] => { results := [.lit (.bool false)], args := [d] }
  | _ => none }
def FnExactTwoQubitCountWrongFalsely : Prop := fnExactTwoQubitCountRow.holds Try.pinned (OpenSpec.ofChange fnExactTwoQubitCountWrong)

/-- 'laws.FnMoved': WHATEVER THE INPUT: true; the input reads as it did. -/
def fnMovedSpec : ChangeSpec := { name := "fnMoved", fn := fun _ => fun
  | [d] => { results := [.lit (.bool true)], args := [d] }
  | _ => none }
def fnMovedRow : OpenClaim := { program := "ytjhnhmjnhnighaa", sum := "b8df69d29ea95aba5644c02304926e12dd685d0376884ad76d072869b19ef4f3", func := "loop.example/g00506/laws.FnMoved", spec := "fnMoved", apart := false }
def FnMovedSaid : Prop := fnMovedRow.holds Try.pinned (OpenSpec.ofChange fnMovedSpec)

/-- ITS FALSE NEIGHBOUR: 'it returns false'. Refute it at one input. -/
def fnMovedWrong : ChangeSpec := { name := "fnMoved", fn := fun _ => fun
  | [d] => { results := [.lit (.bool false)], args := [d] }
  | _ => none }
def FnMovedWrongFalsely : Prop := fnMovedRow.holds Try.pinned (OpenSpec.ofChange fnMovedWrong)

/-- 'laws.FnPerm': WHATEVER THE INPUT: true; the input reads as it did. -/
def fnPermSpec : ChangeSpec := { name := "fnPerm", fn := fun _ => fun
  | [d] => { results := [.lit (.bool true)], args := [d] }
  | _ => none }
def fnPermRow : OpenClaim := { program := "ytjhnhmjnhnighaa", sum := "b8df69d29ea95aba5644c02304926e12dd685d0376884ad76d072869b19ef4f3", func := "loop.example/g00506/laws.FnPerm", spec := "fnPerm", apart := false }
def FnPermSaid : Prop := fnPermRow.holds Try.pinned (OpenSpec.ofChange fnPermSpec)

/-- ITS FALSE NEIGHBOUR: 'it returns false'. Refute it at one input. -/
def fnPermWrong : ChangeSpec := { name := "fnPerm", fn := fun _ => fun
  | [d] => { results := [.lit (.bool false)], args := [d] }
  | _ => none }
def FnPermWrongFalsely : Prop := fnPermRow.holds Try.pinned (OpenSpec.ofChange fnPermWrong)

/-- 'laws.FnExactIsValidCircuit': WHATEVER THE INPUT: true; the input reads as it did. -/
def fnExactIsValidCircuitSpec : ChangeSpec := { name := "fnExactIsValidCircuit", fn := fun _ => fun
  | [d] => { results := [.lit (.bool true)], args := [d] }
  | _ => none }
def fnExactIsValidCircuitRow : OpenClaim := { program := "ytjhnhmjnhnighaa", sum := "b8df69d29ea95aba5644c02304926e12dd685d0376884ad76d072869b19ef4f3", func := "loop.example/g00506/laws.FnExactIsValidCircuit", spec := "fnExactIsValidCircuit", apart := false }
def FnExactIsValidCircuitSaid : Prop := fnExactIsValidCircuitRow.holds Try.pinned (OpenSpec.ofChange fnExactIsValidCircuitSpec)

/-- ITS FALSE NEIGHBOUR: 'it returns false'. Refute it at one input. -/
def fnExactIsValidCircuitWrong : ChangeSpec := { name := "fnExactIsValidCircuit", fn := fun _ => fun
  | [d] => { results := [.lit (.bool false)], args := [d] }
  | _ => none }
def FnExactIsValidCircuitWrongFalsely : Prop := fnExactIsValidCircuitRow.holds Try.pinned (OpenSpec.ofChange fnExactIsValidCircuitWrong)

/-- 'laws.FnGate': WHATEVER THE INPUT: true; the input reads as it did. -/
def fnGateSpec : ChangeSpec := { name := "fnGate", fn := fun _ => fun
  | [d] => { results := [.lit (.bool true)], args := [d] }
  | _ => none }
def fnGateRow : OpenClaim := { program := "ytjhnhmjnhnighaa", sum := "b8df69d29ea95aba5644c02304926e12dd685d0376884ad76d072869b19ef4f3", func := "loop.example/g00506/laws.FnGate", spec := "fnGate", apart := false }
def FnGateSaid : Prop := fnGateRow.holds Try.pinned (OpenSpec.ofChange fnGateSpec)

/-- ITS FALSE NEIGHBOUR: 'it returns false'. Refute it at one input. -/
def fnGateWrong : ChangeSpec := { name := "fnGate", fn := fun _ => fun
  | [d] => { results := [.lit (.bool false)], args := [d] }
  | _ => none }
def FnGateWrongFalsely : Prop := fnGateRow.holds Try.pinned (OpenSpec.ofChange fnGateWrong)

/- THE SECOND FORM. 'bulk': how many values and letters a reading holds, each counted each time it is reached (what is shared counts as often as it is met; a slice's spare places count too). A statement '..UptoSaid' is the law's where the arguments, and the package variables that the reading takes, are together of bulk at most 1048576: NARROWER than '..Said'. Prove '..Said' where nothing that the law and all that it calls make is longer than what came in: it says more and counts as full. Else prove '..UptoSaid'. A law counts once. -/
mutual
def uptoBulk {H : Type} : DataW H → Nat
  | .lit (.string bytes) => bytes.length + 1
  | .lit _ => 1
  | .nil => 1
  | .ptr d => uptoBulk d + 1
  | .slice elems spare => uptoBulkAll elems + uptoBulkAll spare + 1
  | .agg parts => uptoBulkAll parts + 1
  | .iface _ d => uptoBulk d + 1
  | .map entries => uptoBulkEntries entries + 1
  | .held _ => 1
def uptoBulkAll {H : Type} : List (DataW H) → Nat
  | [] => 0
  | d :: r => uptoBulk d + uptoBulkAll r
def uptoBulkEntries {H : Type} : List (Lit × DataW H) → Nat
  | [] => 0
  | x :: r => uptoBulkEntry x + uptoBulkEntries r
def uptoBulkEntry {H : Type} : Lit × DataW H → Nat
  | (.string bytes, d) => bytes.length + uptoBulk d + 1
  | (_, d) => uptoBulk d + 1
 end
def uptoSmall : (H : Type) → List (DataW H) → Bool := fun _ ds => decide (uptoBulkAll ds ≤ 1048576)
def OpenSpec.upto (s : _root_.Go.ChangeSpec) : _root_.Go.OpenSpec := { _root_.Go.OpenSpec.ofChange s with cond := some uptoSmall }

/-- 'laws.FnExactPermuteIndex', WHERE WHAT IT READS IS OF BULK AT MOST 1048576: true; the input reads as it did. -/
def fnExactPermuteIndexUptoRow : OpenClaim := { program := "ytjhnhmjnhnighaa", sum := "b8df69d29ea95aba5644c02304926e12dd685d0376884ad76d072869b19ef4f3", func := "loop.example/g00506/laws.FnExactPermuteIndex", spec := "fnExactPermuteIndex", apart := false, narrowed := true }
def FnExactPermuteIndexUptoSaid : Prop := fnExactPermuteIndexUptoRow.holds Try.pinned (OpenSpec.upto fnExactPermuteIndexSpec)

/-- 'laws.FnExactIsValidGate', WHERE WHAT IT READS IS OF BULK AT MOST 1048576: true; the input reads as it did. -/
def fnExactIsValidGateUptoRow : OpenClaim := { program := "ytjhnhmjnhnighaa", sum := "b8df69d29ea95aba5644c02304926e12dd685d0376884ad76d072869b19ef4f3", func := "loop.example/g00506/laws.FnExactIsValidGate", spec := "fnExactIsValidGate", apart := false, narrowed := true }
def FnExactIsValidGateUptoSaid : Prop := fnExactIsValidGateUptoRow.holds Try.pinned (OpenSpec.upto fnExactIsValidGateSpec)

/-- 'laws.FnExactComposePermutations', WHERE WHAT IT READS IS OF BULK AT MOST 1048576: true; the input reads as it did. -/
def fnExactComposePermutationsUptoRow : OpenClaim := { program := "ytjhnhmjnhnighaa", sum := "b8df69d29ea95aba5644c02304926e12dd685d0376884ad76d072869b19ef4f3", func := "loop.example/g00506/laws.FnExactComposePermutations", spec := "fnExactComposePermutations", apart := false, narrowed := true }
def FnExactComposePermutationsUptoSaid : Prop := fnExactComposePermutationsUptoRow.holds Try.pinned (OpenSpec.upto fnExactComposePermutationsSpec)

/-- 'laws.FnExactInversePermutation', WHERE WHAT IT READS IS OF BULK AT MOST 1048576: true; the input reads as it did. -/
def fnExactInversePermutationUptoRow : OpenClaim := { program := "ytjhnhmjnhnighaa", sum := "b8df69d29ea95aba5644c02304926e12dd685d0376884ad76d072869b19ef4f3", func := "loop.example/g00506/laws.FnExactInversePermutation", spec := "fnExactInversePermutation", apart := false, narrowed := true }
def FnExactInversePermutationUptoSaid : Prop := fnExactInversePermutationUptoRow.holds Try.pinned (OpenSpec.upto fnExactInversePermutationSpec)

/-- 'laws.FnExactCountGates', WHERE WHAT IT READS IS OF BULK AT MOST 1048576: true; the input reads as it did. -/
def fnExactCountGatesUptoRow : OpenClaim := { program := "ytjhnhmjnhnighaa", sum := "b8df69d29ea95aba5644c02304926e12dd685d0376884ad76d072869b19ef4f3", func := "loop.example/g00506/laws.FnExactCountGates", spec := "fnExactCountGates", apart := false, narrowed := true }
def FnExactCountGatesUptoSaid : Prop := fnExactCountGatesUptoRow.holds Try.pinned (OpenSpec.upto fnExactCountGatesSpec)

/-- 'laws.FnExactTCount', WHERE WHAT IT READS IS OF BULK AT MOST 1048576: true; the input reads as it did. -/
def fnExactTCountUptoRow : OpenClaim := { program := "ytjhnhmjnhnighaa", sum := "b8df69d29ea95aba5644c02304926e12dd685d0376884ad76d072869b19ef4f3", func := "loop.example/g00506/laws.FnExactTCount", spec := "fnExactTCount", apart := false, narrowed := true }
def FnExactTCountUptoSaid : Prop := fnExactTCountUptoRow.holds Try.pinned (OpenSpec.upto fnExactTCountSpec)

/-- 'laws.FnExactEqualCircuit', WHERE WHAT IT READS IS OF BULK AT MOST 1048576: true; the input reads as it did. -/
def fnExactEqualCircuitUptoRow : OpenClaim := { program := "ytjhnhmjnhnighaa", sum := "b8df69d29ea95aba5644c02304926e12dd685d0376884ad76d072869b19ef4f3", func := "loop.example/g00506/laws.FnExactEqualCircuit", spec := "fnExactEqualCircuit", apart := false, narrowed := true }
def FnExactEqualCircuitUptoSaid : Prop := fnExactEqualCircuitUptoRow.holds Try.pinned (OpenSpec.upto fnExactEqualCircuitSpec)

/-- 'laws.FnExactTwoQubitCount', WHERE WHAT IT READS IS OF BULK AT MOST 1048576: true; the input reads as it did. -/
def fnExactTwoQubitCountUptoRow : OpenClaim := { program := "ytjhnhmjnhnighaa", sum := "b8df69d29ea95aba5644c02304926e12dd685d0376884ad76d072869b19ef4f3", func := "loop.example/g00506/laws.FnExactTwoQubitCount", spec := "fnExactTwoQubitCount", apart := false, narrowed := true }
def FnExactTwoQubitCountUptoSaid : Prop := fnExactTwoQubitCountUptoRow.holds Try.pinned (OpenSpec.upto fnExactTwoQubitCountSpec)

/-- 'laws.FnMoved', WHERE WHAT IT READS IS OF BULK AT MOST 1048576: true; the input reads as it did. -/
def fnMovedUptoRow : OpenClaim := { program := "ytjhnhmjnhnighaa", sum := "b8df69d29ea95aba5644c02304926e12dd685d0376884ad76d072869b19ef4f3", func := "loop.example/g00506/laws.FnMoved", spec := "fnMoved", apart := false, narrowed := true }
def FnMovedUptoSaid : Prop := fnMovedUptoRow.holds Try.pinned (OpenSpec.upto fnMovedSpec)

/-- 'laws.FnPerm', WHERE WHAT IT READS IS OF BULK AT MOST 1048576: true; the input reads as it did. -/
def fnPermUptoRow : OpenClaim := { program := "ytjhnhmjnhnighaa", sum := "b8df69d29ea95aba5644c02304926e12dd685d0376884ad76d072869b19ef4f3", func := "loop.example/g00506/laws.FnPerm", spec := "fnPerm", apart := false, narrowed := true }
def FnPermUptoSaid : Prop := fnPermUptoRow.holds Try.pinned (OpenSpec.upto fnPermSpec)

/-- 'laws.FnExactIsValidCircuit', WHERE WHAT IT READS IS OF BULK AT MOST 1048576: true; the input reads as it did. -/
def fnExactIsValidCircuitUptoRow : OpenClaim := { program := "ytjhnhmjnhnighaa", sum := "b8df69d29ea95aba5644c02304926e12dd685d0376884ad76d072869b19ef4f3", func := "loop.example/g00506/laws.FnExactIsValidCircuit", spec := "fnExactIsValidCircuit", apart := false, narrowed := true }
def FnExactIsValidCircuitUptoSaid : Prop := fnExactIsValidCircuitUptoRow.holds Try.pinned (OpenSpec.upto fnExactIsValidCircuitSpec)

/-- 'laws.FnGate', WHERE WHAT IT READS IS OF BULK AT MOST 1048576: true; the input reads as it did. -/
def fnGateUptoRow : OpenClaim := { program := "ytjhnhmjnhnighaa", sum := "b8df69d29ea95aba5644c02304926e12dd685d0376884ad76d072869b19ef4f3", func := "loop.example/g00506/laws.FnGate", spec := "fnGate", apart := false, narrowed := true }
def FnGateUptoSaid : Prop := fnGateUptoRow.holds Try.pinned (OpenSpec.upto fnGateSpec)

end Rows
end Go.Proofs.Ytjhnhmjnhnighaa
