/-
  No cell of these rows narrows 'for every input' (looked for: loops, veiled, ifaces, maps, wideKeys, modest, calm, conditions, laid).
  DERIVED. THE GIVEN ROWS OF THIS SEAT. 10 by the template 'for every input the law returns true; each argument reads behind the call as it read before'; 0 by the template 'total and deterministic' (their statements: YtilkbccpcbelgaaTotals.lean).
  GIVEN WITH THE SEED: the statements are not yours to turn. If you find one false, say at which input.
  Laid BY PROGRAM, IN A SANDBOX (cutbox-rows.mjs): the forced cells as the released guide's own fill.sh prints them over the translation 36fc7dfe0a13f106… (all of the seat's roots in one cut). By AI agents, Wed Nov 11 2026. No macro, syntax, notation, axiom, sorry.
-/
import Derived.Test.YtilkbccpcbelgaaChecked
import GoSem.Claim
import GoSem.ClaimJoined
import GoSem.ClaimMapViews
import Derived.JoinedTies
import Derived.KernelRfl
namespace Go.Proofs.Ytilkbccpcbelgaa
/- THE CELL 'sum', in the pinned program and in every row, IS THE sha256 OF THE DUMP (.gsa) THAT YtilkbccpcbelgaaProg.lean LOADS. Nothing in Lean hashes anything: it is a label: what it is worth is what the hold of that sum in a sandbox is worth. -/
noncomputable def Try.pinned : Pinned := { name := "ytilkbccpcbelgaa", sum := "36fc7dfe0a13f106558fa6dfdd210c0cfb42807f0da0057998aa54f7cd4d69e0", checked := Try.checked }
namespace Rows
def none {H : Type} : Left H := { results := [], args := [] }

/-- 'laws.FnExactConcatCircuits': WHATEVER THE INPUT: true; the input reads as it did. -/
def fnExactConcatCircuitsSpec : ChangeSpec := { name := "fnExactConcatCircuits", fn := fun _ => fun
  | [d1, d2] => { results := [.lit (.bool true)], args := [d1, d2] }
  | _ => none }
def fnExactConcatCircuitsRow : OpenClaim := { program := "ytilkbccpcbelgaa", sum := "36fc7dfe0a13f106558fa6dfdd210c0cfb42807f0da0057998aa54f7cd4d69e0", func := "loop.example/g00506/laws.FnExactConcatCircuits", spec := "fnExactConcatCircuits", apart := false }
def FnExactConcatCircuitsSaid : Prop := fnExactConcatCircuitsRow.holds Try.pinned (OpenSpec.ofChange fnExactConcatCircuitsSpec)

/-- ITS FALSE NEIGHBOUR: 'it returns false'. Refute it at one input. -/
def fnExactConcatCircuitsWrong : ChangeSpec := { name := "fnExactConcatCircuits", fn := fun _ => fun
  | [d1, d2] => { results := [.lit (.bool false)], args := [d1, d2] }
  | _ => none }
def FnExactConcatCircuitsWrongFalsely : Prop := fnExactConcatCircuitsRow.holds Try.pinned (OpenSpec.ofChange fnExactConcatCircuitsWrong)

/-- 'laws.FnExactCircuitDepth': WHATEVER THE INPUT: true; the input reads as it did. -/
def fnExactCircuitDepthSpec : ChangeSpec := { name := "fnExactCircuitDepth", fn := fun _ => fun
  | [d] => { results := [.lit (.bool true)], args := [d] }
  | _ => none }
def fnExactCircuitDepthRow : OpenClaim := { program := "ytilkbccpcbelgaa", sum := "36fc7dfe0a13f106558fa6dfdd210c0cfb42807f0da0057998aa54f7cd4d69e0", func := "loop.example/g00506/laws.FnExactCircuitDepth", spec := "fnExactCircuitDepth", apart := false }
def FnExactCircuitDepthSaid : Prop := fnExactCircuitDepthRow.holds Try.pinned (OpenSpec.ofChange fnExactCircuitDepthSpec)

/-- ITS FALSE NEIGHBOUR: 'it returns false'. Refute it at one input. -/
def fnExactCircuitDepthWrong : ChangeSpec := { name := "fnExactCircuitDepth", fn := fun _ => fun
  | [d] => { results := [.lit (.bool false)], args := [d] }
  | _ => none }
def FnExactCircuitDepthWrongFalsely : Prop := fnExactCircuitDepthRow.holds Try.pinned (OpenSpec.ofChange fnExactCircuitDepthWrong)

/-- 'laws.FnExactInverseCircuit': WHATEVER THE INPUT: true; the input reads as it did. -/
def fnExactInverseCircuitSpec : ChangeSpec := { name := "fnExactInverseCircuit", fn := fun _ => fun
  | [d] => { results := [.lit (.bool true)], args := [d] }
  | _ => none }
def fnExactInverseCircuitRow : OpenClaim := { program := "ytilkbccpcbelgaa", sum := "36fc7dfe0a13f106558fa6dfdd210c0cfb42807f0da0057998aa54f7cd4d69e0", func := "loop.example/g00506/laws.FnExactInverseCircuit", spec := "fnExactInverseCircuit", apart := false }
def FnExactInverseCircuitSaid : Prop := fnExactInverseCircuitRow.holds Try.pinned (OpenSpec.ofChange fnExactInverseCircuitSpec)

/-- ITS FALSE NEIGHBOUR: 'it returns false'. Refute it at one input. -/
def fnExactInverseCircuitWrong : ChangeSpec := { name := "fnExactInverseCircuit", fn := fun _ => fun
  | [d] => { results := [.lit (.bool false)], args := [d] }
  | _ => none }
def FnExactInverseCircuitWrongFalsely : Prop := fnExactInverseCircuitRow.holds Try.pinned (OpenSpec.ofChange fnExactInverseCircuitWrong)

/-- 'laws.FnExactRelabelCircuit': WHATEVER THE INPUT: true; the input reads as it did. -/
def fnExactRelabelCircuitSpec : ChangeSpec := { name := "fnExactRelabelCircuit", fn := fun _ => fun
  | [d1, d2] => { results := [.lit (.bool true)], args := [d1, d2] }
  | _ => none }
def fnExactRelabelCircuitRow : OpenClaim := { program := "ytilkbccpcbelgaa", sum := "36fc7dfe0a13f106558fa6dfdd210c0cfb42807f0da0057998aa54f7cd4d69e0", func := "loop.example/g00506/laws.FnExactRelabelCircuit", spec := "fnExactRelabelCircuit", apart := false }
def FnExactRelabelCircuitSaid : Prop := fnExactRelabelCircuitRow.holds Try.pinned (OpenSpec.ofChange fnExactRelabelCircuitSpec)

/-- ITS FALSE NEIGHBOUR: 'it returns false'. Refute it at one input. -/
def fnExactRelabelCircuitWrong : ChangeSpec := { name := "fnExactRelabelCircuit", fn := fun _ => fun
  | [d1, d2] => { results := [.lit (.bool false)], args := [d1, d2] }
  | _ => none }
def FnExactRelabelCircuitWrongFalsely : Prop := fnExactRelabelCircuitRow.holds Try.pinned (OpenSpec.ofChange fnExactRelabelCircuitWrong)

/-- 'laws.FnExactCircuitFromLayers': WHATEVER THE INPUT: true; the input reads as it did. -/
def fnExactCircuitFromLayersSpec : ChangeSpec := { name := "fnExactCircuitFromLayers", fn := fun _ => fun
  | [d1, d2] => { results := [.lit (.bool true)], args := [d1, d2] }
  | _ => none }
def fnExactCircuitFromLayersRow : OpenClaim := { program := "ytilkbccpcbelgaa", sum := "36fc7dfe0a13f106558fa6dfdd210c0cfb42807f0da0057998aa54f7cd4d69e0", func := "loop.example/g00506/laws.FnExactCircuitFromLayers", spec := "fnExactCircuitFromLayers", apart := false }
def FnExactCircuitFromLayersSaid : Prop := fnExactCircuitFromLayersRow.holds Try.pinned (OpenSpec.ofChange fnExactCircuitFromLayersSpec)

/-- ITS FALSE NEIGHBOUR: 'it returns false'. Refute it at one input. -/
def fnExactCircuitFromLayersWrong : ChangeSpec := { name := "fnExactCircuitFromLayers", fn := fun _ => fun
  | [d1, d2] => { results := [.lit (.bool false)], args := [d1, d2] }
  | _ => none }
def FnExactCircuitFromLayersWrongFalsely : Prop := fnExactCircuitFromLayersRow.holds Try.pinned (OpenSpec.ofChange fnExactCircuitFromLayersWrong)

/-- 'laws.FnExactCircuitLayers': WHATEVER THE INPUT: true; the input reads as it did. -/
def fnExactCircuitLayersSpec : ChangeSpec := { name := "fnExactCircuitLayers", fn := fun _ => fun
  | [d] => { results := [.lit (.bool true)], args := [d] }
  | _ => none }
def fnExactCircuitLayersRow : OpenClaim := { program := "ytilkbccpcbelgaa", sum := "36fc7dfe0a13f106558fa6dfdd210c0cfb42807f0da0057998aa54f7cd4d69e0", func := "loop.example/g00506/laws.FnExactCircuitLayers", spec := "fnExactCircuitLayers", apart := false }
def FnExactCircuitLayersSaid : Prop := fnExactCircuitLayersRow.holds Try.pinned (OpenSpec.ofChange fnExactCircuitLayersSpec)

/-- ITS FALSE NEIGHBOUR: 'it returns false'. Refute it at one input. -/
def fnExactCircuitLayersWrong : ChangeSpec := { name := "fnExactCircuitLayers", fn := fun _ => fun
  | [d] => { results := [.lit (.bool false)], args := [d] }
  | _ => none }
def FnExactCircuitLayersWrongFalsely : Prop := fnExactCircuitLayersRow.holds Try.pinned (OpenSpec.ofChange fnExactCircuitLayersWrong)

/-- 'laws.FnDepth': WHATEVER THE INPUT: true; the input reads as it did. -/
def fnDepthSpec : ChangeSpec := { name := "fnDepth", fn := fun _ => fun
  | [d] => { results := [.lit (.bool true)], args := [d] }
  | _ => none }
def fnDepthRow : OpenClaim := { program := "ytilkbccpcbelgaa", sum := "36fc7dfe0a13f106558fa6dfdd210c0cfb42807f0da0057998aa54f7cd4d69e0", func := "loop.example/g00506/laws.FnDepth", spec := "fnDepth", apart := false }
def FnDepthSaid : Prop := fnDepthRow.holds Try.pinned (OpenSpec.ofChange fnDepthSpec)

/-- ITS FALSE NEIGHBOUR: 'it returns false'. Refute it at one input. -/
def fnDepthWrong : ChangeSpec := { name := "fnDepth", fn := fun _ => fun
  | [d] => { results := [.lit (.bool false)], args := [d] }
  | _ => none }
def FnDepthWrongFalsely : Prop := fnDepthRow.holds Try.pinned (OpenSpec.ofChange fnDepthWrong)

/-- 'laws.FnExactFormatTokens': WHATEVER THE INPUT: true; the input reads as it did. -/
def fnExactFormatTokensSpec : ChangeSpec := { name := "fnExactFormatTokens", fn := fun _ => fun
  | [d] => { results := [.lit (.bool true)], args := [d] }
  | _ => none }
def fnExactFormatTokensRow : OpenClaim := { program := "ytilkbccpcbelgaa", sum := "36fc7dfe0a13f106558fa6dfdd210c0cfb42807f0da0057998aa54f7cd4d69e0", func := "loop.example/g00506/laws.FnExactFormatTokens", spec := "fnExactFormatTokens", apart := false }
def FnExactFormatTokensSaid : Prop := fnExactFormatTokensRow.holds Try.pinned (OpenSpec.ofChange fnExactFormatTokensSpec)

/-- ITS FALSE NEIGHBOUR: 'it returns false'. Refute it at one input. -/
def fnExactFormatTokensWrong : ChangeSpec := { name := "fnExactFormatTokens", fn := fun _ => fun
  | [d] => { results := [.lit (.bool false)], args := [d] }
  | _ => none }
def FnExactFormatTokensWrongFalsely : Prop := fnExactFormatTokensRow.holds Try.pinned (OpenSpec.ofChange fnExactFormatTokensWrong)

/-- 'laws.FnExactTokenize': WHATEVER THE INPUT: true; the input reads as it did. -/
def fnExactTokenizeSpec : ChangeSpec := { name := "fnExactTokenize", fn := fun _ => fun
  | [d] => { results := [.lit (.bool true)], args := [d] }
  | _ => none }
def fnExactTokenizeRow : OpenClaim := { program := "ytilkbccpcbelgaa", sum := "36fc7dfe0a13f106558fa6dfdd210c0cfb42807f0da0057998aa54f7cd4d69e0", func := "loop.example/g00506/laws.FnExactTokenize", spec := "fnExactTokenize", apart := false }
def FnExactTokenizeSaid : Prop := fnExactTokenizeRow.holds Try.pinned (OpenSpec.ofChange fnExactTokenizeSpec)

/-- ITS FALSE NEIGHBOUR: 'it returns false'. Refute it at one input. -/
def fnExactTokenizeWrong : ChangeSpec := { name := "fnExactTokenize", fn := fun _ => fun
  | [d] => { results := [.lit (.bool false)], args := [d] }
  | _ => none }
def FnExactTokenizeWrongFalsely : Prop := fnExactTokenizeRow.holds Try.pinned (OpenSpec.ofChange fnExactTokenizeWrong)

/-- 'laws.FnTokens': WHATEVER THE INPUT: true; the input reads as it did. -/
def fnTokensSpec : ChangeSpec := { name := "fnTokens", fn := fun _ => fun
  | [d] => { results := [.lit (.bool true)], args := [d] }
  | _ => none }
def fnTokensRow : OpenClaim := { program := "ytilkbccpcbelgaa", sum := "36fc7dfe0a13f106558fa6dfdd210c0cfb42807f0da0057998aa54f7cd4d69e0", func := "loop.example/g00506/laws.FnTokens", spec := "fnTokens", apart := false }
def FnTokensSaid : Prop := fnTokensRow.holds Try.pinned (OpenSpec.ofChange fnTokensSpec)

/-- ITS FALSE NEIGHBOUR: 'it returns false'. Refute it at one input. -/
def fnTokensWrong : ChangeSpec := { name := "fnTokens", fn := fun _ => fun
  | [d] => { results := [.lit (.bool false)], args := [d] }
  | _ => none }
def FnTokensWrongFalsely : Prop := fnTokensRow.holds Try.pinned (OpenSpec.ofChange fnTokensWrong)

/- THE SECOND FORM. 'bulk': how many values and letters a reading holds, each counted each time it is reached (what is shared counts as often as it is met; a slice's spare places count too). A statement '..UptoSaid' is the law's where the arguments, and the package variables that the reading takes, are together of bulk at most 1048576: NARROWER than '..Said'. Prove '..Said' where nothing that the law and all that it calls make is longer than what came in: it says more and counts as full. Else prove '..UptoSaid'. A law counts once. -/
mutual
def uptoBulk {H : Type} : DataW H → Nat
  | .lit (.string bytes) => bytes.length + 1
  | .lit _ => 1
  | .nil => 1
  | .ptr d => uptoBulk d + 1
  | .slice elems spare => uptoBulkAll elems + uptoBulkAll spare + 1
  | .agg parts => uptoBulkAll parts + 1
  | .iface _ d => uptoBulk d + 1
  | .map entries => uptoBulkEntries entries + 1
  | .held _ => 1
def uptoBulkAll {H : Type} : List (DataW H) → Nat
  | [] => 0
  | d :: r => uptoBulk d + uptoBulkAll r
def uptoBulkEntries {H : Type} : List (Lit × DataW H) → Nat
  | [] => 0
  | x :: r => uptoBulkEntry x + uptoBulkEntries r
def uptoBulkEntry {H : Type} : Lit × DataW H → Nat
  | (.string bytes, d) => bytes.length + uptoBulk d + 1
  | (_, d) => uptoBulk d + 1
 end
def uptoSmall : (H : Type) → List (DataW H) → Bool := fun _ ds => decide (uptoBulkAll ds ≤ 1048576)
def OpenSpec.upto (s : _root_.Go.ChangeSpec) : _root_.Go.OpenSpec := { _root_.Go.OpenSpec.ofChange s with cond := some uptoSmall }

/-- 'laws.FnExactConcatCircuits', WHERE WHAT IT READS IS OF BULK AT MOST 1048576: true; the input reads as it did. -/
def fnExactConcatCircuitsUptoRow : OpenClaim := { program := "ytilkbccpcbelgaa", sum := "36fc7dfe0a13f106558fa6dfdd210c0cfb42807f0da0057998aa54f7cd4d69e0", func := "loop.example/g00506/laws.FnExactConcatCircuits", spec := "fnExactConcatCircuits", apart := false, narrowed := true }
def FnExactConcatCircuitsUptoSaid : Prop := fnExactConcatCircuitsUptoRow.holds Try.pinned (OpenSpec.upto fnExactConcatCircuitsSpec)

/-- 'laws.FnExactCircuitDepth', WHERE WHAT IT READS IS OF BULK AT MOST 1048576: true; the input reads as it did. -/
def fnExactCircuitDepthUptoRow : OpenClaim := { program := "ytilkbccpcbelgaa", sum := "36fc7dfe0a13f106558fa6dfdd210c0cfb42807f0da0057998aa54f7cd4d69e0", func := "loop.example/g00506/laws.FnExactCircuitDepth", spec := "fnExactCircuitDepth", apart := false, narrowed := true }
def FnExactCircuitDepthUptoSaid : Prop := fnExactCircuitDepthUptoRow.holds Try.pinned (OpenSpec.upto fnExactCircuitDepthSpec)

/-- 'laws.FnExactInverseCircuit', WHERE WHAT IT READS IS OF BULK AT MOST 1048576: true; the input reads as it did. -/
def fnExactInverseCircuitUptoRow : OpenClaim := { program := "ytilkbccpcbelgaa", sum := "36fc7dfe0a13f106558fa6dfdd210c0cfb42807f0da0057998aa54f7cd4d69e0", func := "loop.example/g00506/laws.FnExactInverseCircuit", spec := "fnExactInverseCircuit", apart := false, narrowed := true }
def FnExactInverseCircuitUptoSaid : Prop := fnExactInverseCircuitUptoRow.holds Try.pinned (OpenSpec.upto fnExactInverseCircuitSpec)

/-- 'laws.FnExactRelabelCircuit', WHERE WHAT IT READS IS OF BULK AT MOST 1048576: true; the input reads as it did. -/
def fnExactRelabelCircuitUptoRow : OpenClaim := { program := "ytilkbccpcbelgaa", sum := "36fc7dfe0a13f106558fa6dfdd210c0cfb42807f0da0057998aa54f7cd4d69e0", func := "loop.example/g00506/laws.FnExactRelabelCircuit", spec := "fnExactRelabelCircuit", apart := false, narrowed := true }
def FnExactRelabelCircuitUptoSaid : Prop := fnExactRelabelCircuitUptoRow.holds Try.pinned (OpenSpec.upto fnExactRelabelCircuitSpec)

/-- 'laws.FnExactCircuitFromLayers', WHERE WHAT IT READS IS OF BULK AT MOST 1048576: true; the input reads as it did. -/
def fnExactCircuitFromLayersUptoRow : OpenClaim := { program := "ytilkbccpcbelgaa", sum := "36fc7dfe0a13f106558fa6dfdd210c0cfb42807f0da0057998aa54f7cd4d69e0", func := "loop.example/g00506/laws.FnExactCircuitFromLayers", spec := "fnExactCircuitFromLayers", apart := false, narrowed := true }
def FnExactCircuitFromLayersUptoSaid : Prop := fnExactCircuitFromLayersUptoRow.holds Try.pinned (OpenSpec.upto fnExactCircuitFromLayersSpec)

/-- 'laws.FnExactCircuitLayers', WHERE WHAT IT READS IS OF BULK AT MOST 1048576: true; the input reads as it did. -/
def fnExactCircuitLayersUptoRow : OpenClaim := { program := "ytilkbccpcbelgaa", sum := "36fc7dfe0a13f106558fa6dfdd210c0cfb42807f0da0057998aa54f7cd4d69e0", func := "loop.example/g00506/laws.FnExactCircuitLayers", spec := "fnExactCircuitLayers", apart := false, narrowed := true }
def FnExactCircuitLayersUptoSaid : Prop := fnExactCircuitLayersUptoRow.holds Try.pinned (OpenSpec.upto fnExactCircuitLayersSpec)

/-- 'laws.FnDepth', WHERE WHAT IT READS IS OF BULK AT MOST 1048576: true; the input reads as it did. -/
def fnDepthUptoRow : OpenClaim := { program := "ytilkbccpcbelgaa", sum := "36fc7dfe0a13f106558fa6dfdd210c0cfb42807f0da0057998aa54f7cd4d69e0", func := "loop.example/g00506/laws.FnDepth", spec := "fnDepth", apart := false, narrowed := true }
def FnDepthUptoSaid : Prop := fnDepthUptoRow.holds Try.pinned (OpenSpec.upto fnDepthSpec)

/-- 'laws.FnExactFormatTokens', WHERE WHAT IT READS IS OF BULK AT MOST 1048576: true; the input reads as it did. -/
def fnExactFormatTokensUptoRow : OpenClaim := { program := "ytilkbccpcbelgaa", sum := "36fc7dfe0a13f106558fa6dfdd210c0cfb42807f0da0057998aa54f7cd4d69e0", func := "loop.example/g00506/laws.FnExactFormatTokens", spec := "fnExactFormatTokens", apart := false, narrowed := true }
def FnExactFormatTokensUptoSaid : Prop := fnExactFormatTokensUptoRow.holds Try.pinned (OpenSpec.upto fnExactFormatTokensSpec)

/-- 'laws.FnExactTokenize', WHERE WHAT IT READS IS OF BULK AT MOST 1048576: true; the input reads as it did. -/
def fnExactTokenizeUptoRow : OpenClaim := { program := "ytilkbccpcbelgaa", sum := "36fc7dfe0a13f106558fa6dfdd210c0cfb42807f0da0057998aa54f7cd4d69e0", func := "loop.example/g00506/laws.FnExactTokenize", spec := "fnExactTokenize", apart := false, narrowed := true }
def FnExactTokenizeUptoSaid : Prop := fnExactTokenizeUptoRow.holds Try.pinned (OpenSpec.upto fnExactTokenizeSpec)

/-- 'laws.FnTokens', WHERE WHAT IT READS IS OF BULK AT MOST 1048576: true; the input reads as it did. -/
def fnTokensUptoRow : OpenClaim := { program := "ytilkbccpcbelgaa", sum := "36fc7dfe0a13f106558fa6dfdd210c0cfb42807f0da0057998aa54f7cd4d69e0", func := "loop.example/g00506/laws.FnTokens", spec := "fnTokens", apart := false, narrowed := true }
def FnTokensUptoSaid : Prop := fnTokensUptoRow.holds Try.pinned (OpenSpec.upto fnTokensSpec)

end Rows
end Go.Proofs.Ytilkbccpcbelgaa
