/-
  No cell of these rows narrows 'for every input' (looked for: loops, veiled, ifaces, maps, wideKeys, modest, calm, conditions, laid).
  DERIVED. THE GIVEN ROWS OF THIS SEAT. 9 by the template 'for every input the law returns true; each argument reads behind the call as it read before'; 0 by the template 'total and deterministic' (their statements: YticmlgnolbccjaaTotals.lean).
  GIVEN WITH THE SEED: the statements are not yours to turn. If you find one false, say at which input.
  Laid BY PROGRAM, IN A SANDBOX (cutbox-rows.mjs): the forced cells as the released guide's own fill.sh prints them over the translation b9294c905962c67c… (all of the seat's roots in one cut). By AI agents, Wed Nov 11 2026. No macro, syntax, notation, axiom, sorry.
-/
import Derived.Test.YticmlgnolbccjaaChecked
import GoSem.Claim
import GoSem.ClaimJoined
import GoSem.ClaimMapViews
import Derived.JoinedTies
import Derived.KernelRfl
namespace Go.Proofs.Yticmlgnolbccjaa
/- THE CELL 'sum', in the pinned program and in every row, IS THE sha256 OF THE DUMP (.gsa) THAT YticmlgnolbccjaaProg.lean LOADS. Nothing in Lean hashes anything: it is a label: what it is worth is what the hold of that sum in a sandbox is worth. -/
noncomputable def Try.pinned : Pinned := { name := "yticmlgnolbccjaa", sum := "b9294c905962c67c59769e7aedfd485f8515dcf4fa495dca34e579feed2d0fad", checked := Try.checked }
namespace Rows
def none {H : Type} : Left H := { results := [], args := [] }

/-- 'laws.FnExactIsCentralElement': WHATEVER THE INPUT: true; the input reads as it did. -/
def fnExactIsCentralElementSpec : ChangeSpec := { name := "fnExactIsCentralElement", fn := fun _ => fun
  | [d] => { results := [.lit (.bool true)], args := [d] }
  | _ => none }
def fnExactIsCentralElementRow : OpenClaim := { program := "yticmlgnolbccjaa", sum := "b9294c905962c67c59769e7aedfd485f8515dcf4fa495dca34e579feed2d0fad", func := "loop.example/g01251/laws.FnExactIsCentralElement", spec := "fnExactIsCentralElement", inPlace := ["internal/bytealg.abigen_runtime_cmpstring"], unfollowed := true, recurses := true, plainKeys := false, apart := false }
def FnExactIsCentralElementSaid : Prop := fnExactIsCentralElementRow.holds Try.pinned (OpenSpec.ofChange fnExactIsCentralElementSpec)

/-- ITS FALSE NEIGHBOUR: 'it returns false'. Refute it at one input. -/
def fnExactIsCentralElementWrong : ChangeSpec := { name := "fnExactIsCentralElement", fn := fun _ => fun
  | [d] => { results := [.lit (.bool false)], args := [d] }
  | _ => none }
def FnExactIsCentralElementWrongFalsely : Prop := fnExactIsCentralElementRow.holds Try.pinned (OpenSpec.ofChange fnExactIsCentralElementWrong)

/-- 'laws.FnExactMultiplyElements': WHATEVER THE INPUT: true; the input reads as it did. -/
def fnExactMultiplyElementsSpec : ChangeSpec := { name := "fnExactMultiplyElements", fn := fun _ => fun
  | [d1, d2] => { results := [.lit (.bool true)], args := [d1, d2] }
  | _ => none }
def fnExactMultiplyElementsRow : OpenClaim := { program := "yticmlgnolbccjaa", sum := "b9294c905962c67c59769e7aedfd485f8515dcf4fa495dca34e579feed2d0fad", func := "loop.example/g01251/laws.FnExactMultiplyElements", spec := "fnExactMultiplyElements", inPlace := ["internal/bytealg.abigen_runtime_cmpstring"], unfollowed := true, recurses := true, plainKeys := false, apart := false }
def FnExactMultiplyElementsSaid : Prop := fnExactMultiplyElementsRow.holds Try.pinned (OpenSpec.ofChange fnExactMultiplyElementsSpec)

/-- ITS FALSE NEIGHBOUR: 'it returns false'. Refute it at one input. -/
def fnExactMultiplyElementsWrong : ChangeSpec := { name := "fnExactMultiplyElements", fn := fun _ => fun
  | [d1, d2] => { results := [.lit (.bool false)], args := [d1, d2] }
  | _ => none }
def FnExactMultiplyElementsWrongFalsely : Prop := fnExactMultiplyElementsRow.holds Try.pinned (OpenSpec.ofChange fnExactMultiplyElementsWrong)

/-- 'laws.FnExactPowerElement': WHATEVER THE INPUT: true; the input reads as it did. -/
def fnExactPowerElementSpec : ChangeSpec := { name := "fnExactPowerElement", fn := fun _ => fun
  | [d1, d2] => { results := [.lit (.bool true)], args := [d1, d2] }
  | _ => none }
def fnExactPowerElementRow : OpenClaim := { program := "yticmlgnolbccjaa", sum := "b9294c905962c67c59769e7aedfd485f8515dcf4fa495dca34e579feed2d0fad", func := "loop.example/g01251/laws.FnExactPowerElement", spec := "fnExactPowerElement", inPlace := ["internal/bytealg.abigen_runtime_cmpstring"], unfollowed := true, recurses := true, plainKeys := false, apart := false }
def FnExactPowerElementSaid : Prop := fnExactPowerElementRow.holds Try.pinned (OpenSpec.ofChange fnExactPowerElementSpec)

/-- ITS FALSE NEIGHBOUR: 'it returns false'. Refute it at one input. -/
def fnExactPowerElementWrong : ChangeSpec := { name := "fnExactPowerElement", fn := fun _ => fun
  | [d1, d2] => { results := [.lit (.bool false)], args := [d1, d2] }
  | _ => none }
def FnExactPowerElementWrongFalsely : Prop := fnExactPowerElementRow.holds Try.pinned (OpenSpec.ofChange fnExactPowerElementWrong)

/-- 'laws.FnExactTraceOfProjection': WHATEVER THE INPUT: true; the input reads as it did. -/
def fnExactTraceOfProjectionSpec : ChangeSpec := { name := "fnExactTraceOfProjection", fn := fun _ => fun
  | [d1, d2, d3] => { results := [.lit (.bool true)], args := [d1, d2, d3] }
  | _ => none }
def fnExactTraceOfProjectionRow : OpenClaim := { program := "yticmlgnolbccjaa", sum := "b9294c905962c67c59769e7aedfd485f8515dcf4fa495dca34e579feed2d0fad", func := "loop.example/g01251/laws.FnExactTraceOfProjection", spec := "fnExactTraceOfProjection", inPlace := ["internal/bytealg.abigen_runtime_cmpstring"], unfollowed := true, recurses := true, plainKeys := false, apart := false }
def FnExactTraceOfProjectionSaid : Prop := fnExactTraceOfProjectionRow.holds Try.pinned (OpenSpec.ofChange fnExactTraceOfProjectionSpec)

/-- ITS FALSE NEIGHBOUR: 'it returns false'. Refute it at one input. -/
def fnExactTraceOfProjectionWrong : ChangeSpec := { name := "fnExactTraceOfProjection", fn := fun _ => fun
  | [d1, d2, d3] => { results := [.lit (.bool false)], args := [d1, d2, d3] }
  | _ => none }
def FnExactTraceOfProjectionWrongFalsely : Prop := fnExactTraceOfProjectionRow.holds Try.pinned (OpenSpec.ofChange fnExactTraceOfProjectionWrong)

/-- 'laws.FnExactCommutatorElement': WHATEVER THE INPUT: true; the input reads as it did. -/
def fnExactCommutatorElementSpec : ChangeSpec := { name := "fnExactCommutatorElement", fn := fun _ => fun
  | [d1, d2] => { results := [.lit (.bool true)], args := [d1, d2] }
  | _ => none }
def fnExactCommutatorElementRow : OpenClaim := { program := "yticmlgnolbccjaa", sum := "b9294c905962c67c59769e7aedfd485f8515dcf4fa495dca34e579feed2d0fad", func := "loop.example/g01251/laws.FnExactCommutatorElement", spec := "fnExactCommutatorElement", inPlace := ["internal/bytealg.abigen_runtime_cmpstring"], unfollowed := true, recurses := true, plainKeys := false, apart := false }
def FnExactCommutatorElementSaid : Prop := fnExactCommutatorElementRow.holds Try.pinned (OpenSpec.ofChange fnExactCommutatorElementSpec)

/-- ITS FALSE NEIGHBOUR: 'it returns false'. Refute it at one input. -/
def fnExactCommutatorElementWrong : ChangeSpec := { name := "fnExactCommutatorElement", fn := fun _ => fun
  | [d1, d2] => { results := [.lit (.bool false)], args := [d1, d2] }
  | _ => none }
def FnExactCommutatorElementWrongFalsely : Prop := fnExactCommutatorElementRow.holds Try.pinned (OpenSpec.ofChange fnExactCommutatorElementWrong)

/-- 'laws.FnExactIsProjection': WHATEVER THE INPUT: true; the input reads as it did. -/
def fnExactIsProjectionSpec : ChangeSpec := { name := "fnExactIsProjection", fn := fun _ => fun
  | [d] => { results := [.lit (.bool true)], args := [d] }
  | _ => none }
def fnExactIsProjectionRow : OpenClaim := { program := "yticmlgnolbccjaa", sum := "b9294c905962c67c59769e7aedfd485f8515dcf4fa495dca34e579feed2d0fad", func := "loop.example/g01251/laws.FnExactIsProjection", spec := "fnExactIsProjection", inPlace := ["internal/bytealg.abigen_runtime_cmpstring"], unfollowed := true, recurses := true, plainKeys := false, apart := false }
def FnExactIsProjectionSaid : Prop := fnExactIsProjectionRow.holds Try.pinned (OpenSpec.ofChange fnExactIsProjectionSpec)

/-- ITS FALSE NEIGHBOUR: 'it returns false'. Refute it at one input. -/
def fnExactIsProjectionWrong : ChangeSpec := { name := "fnExactIsProjection", fn := fun _ => fun
  | [d] => { results := [.lit (.bool false)], args := [d] }
  | _ => none }
def FnExactIsProjectionWrongFalsely : Prop := fnExactIsProjectionRow.holds Try.pinned (OpenSpec.ofChange fnExactIsProjectionWrong)

/-- 'laws.FnExactCoefficientOf': WHATEVER THE INPUT: true; the input reads as it did. -/
def fnExactCoefficientOfSpec : ChangeSpec := { name := "fnExactCoefficientOf", fn := fun _ => fun
  | [d1, d2, d3] => { results := [.lit (.bool true)], args := [d1, d2, d3] }
  | _ => none }
def fnExactCoefficientOfRow : OpenClaim := { program := "yticmlgnolbccjaa", sum := "b9294c905962c67c59769e7aedfd485f8515dcf4fa495dca34e579feed2d0fad", func := "loop.example/g01251/laws.FnExactCoefficientOf", spec := "fnExactCoefficientOf", inPlace := ["internal/bytealg.abigen_runtime_cmpstring"], unfollowed := true, recurses := true, plainKeys := false, apart := false }
def FnExactCoefficientOfSaid : Prop := fnExactCoefficientOfRow.holds Try.pinned (OpenSpec.ofChange fnExactCoefficientOfSpec)

/-- ITS FALSE NEIGHBOUR: 'it returns false'. Refute it at one input. -/
def fnExactCoefficientOfWrong : ChangeSpec := { name := "fnExactCoefficientOf", fn := fun _ => fun
  | [d1, d2, d3] => { results := [.lit (.bool false)], args := [d1, d2, d3] }
  | _ => none }
def FnExactCoefficientOfWrongFalsely : Prop := fnExactCoefficientOfRow.holds Try.pinned (OpenSpec.ofChange fnExactCoefficientOfWrong)

/-- 'laws.FnExactProjectionOf': WHATEVER THE INPUT: true; the input reads as it did. -/
def fnExactProjectionOfSpec : ChangeSpec := { name := "fnExactProjectionOf", fn := fun _ => fun
  | [d1, d2, d3] => { results := [.lit (.bool true)], args := [d1, d2, d3] }
  | _ => none }
def fnExactProjectionOfRow : OpenClaim := { program := "yticmlgnolbccjaa", sum := "b9294c905962c67c59769e7aedfd485f8515dcf4fa495dca34e579feed2d0fad", func := "loop.example/g01251/laws.FnExactProjectionOf", spec := "fnExactProjectionOf", inPlace := ["internal/bytealg.abigen_runtime_cmpstring"], unfollowed := true, recurses := true, plainKeys := false, apart := false }
def FnExactProjectionOfSaid : Prop := fnExactProjectionOfRow.holds Try.pinned (OpenSpec.ofChange fnExactProjectionOfSpec)

/-- ITS FALSE NEIGHBOUR: 'it returns false'. Refute it at one input. -/
def fnExactProjectionOfWrong : ChangeSpec := { name := "fnExactProjectionOf", fn := fun _ => fun
  | [d1, d2, d3] => { results := [.lit (.bool false)], args := [d1, d2, d3] }
  | _ => none }
def FnExactProjectionOfWrongFalsely : Prop := fnExactProjectionOfRow.holds Try.pinned (OpenSpec.ofChange fnExactProjectionOfWrong)

/-- 'laws.FnExactInverseElement': WHATEVER THE INPUT: true; the input reads as it did. -/
def fnExactInverseElementSpec : ChangeSpec := { name := "fnExactInverseElement", fn := fun _ => fun
  | [d] => { results := [.lit (.bool true)], args := [d] }
  | _ => none }
def fnExactInverseElementRow : OpenClaim := { program := "yticmlgnolbccjaa", sum := "b9294c905962c67c59769e7aedfd485f8515dcf4fa495dca34e579feed2d0fad", func := "loop.example/g01251/laws.FnExactInverseElement", spec := "fnExactInverseElement", inPlace := ["internal/bytealg.abigen_runtime_cmpstring"], unfollowed := true, recurses := true, plainKeys := false, apart := false }
def FnExactInverseElementSaid : Prop := fnExactInverseElementRow.holds Try.pinned (OpenSpec.ofChange fnExactInverseElementSpec)

/-- ITS FALSE NEIGHBOUR: 'it returns false'. Refute it at one input. -/
def fnExactInverseElementWrong : ChangeSpec := { name := "fnExactInverseElement", fn := fun _ => fun
  | [d] => { results := [.lit (.bool false)], args := [d] }
  | _ => none }
def FnExactInverseElementWrongFalsely : Prop := fnExactInverseElementRow.holds Try.pinned (OpenSpec.ofChange fnExactInverseElementWrong)

/- THE SECOND FORM. 'bulk': how many values and letters a reading holds, each counted each time it is reached (what is shared counts as often as it is met; a slice's spare places count too). A statement '..UptoSaid' is the law's where the arguments, and the package variables that the reading takes, are together of bulk at most 1048576: NARROWER than '..Said'. Prove '..Said' where nothing that the law and all that it calls make is longer than what came in: it says more and counts as full. Else prove '..UptoSaid'. A law counts once. -/
mutual
def uptoBulk {H : Type} : DataW H → Nat
  | .lit (.string bytes) => bytes.length + 1
  | .lit _ => 1
  | .nil => 1
  | .ptr d => uptoBulk d + 1
  | .slice elems spare => uptoBulkAll elems + uptoBulkAll spare + 1
  | .agg parts => uptoBulkAll parts + 1
  | .iface _ d => uptoBulk d + 1
  | .map entries => uptoBulkEntries entries + 1
  | .held _ => 1
def uptoBulkAll {H : Type} : List (DataW H) → Nat
  | [] => 0
  | d :: r => uptoBulk d + uptoBulkAll r
def uptoBulkEntries {H : Type} : List (Lit × DataW H) → Nat
  | [] => 0
  | x :: r => uptoBulkEntry x + uptoBulkEntries r
def uptoBulkEntry {H : Type} : Lit × DataW H → Nat
  | (.string bytes, d) => bytes.length + uptoBulk d + 1
  | (_, d) => uptoBulk d + 1
 end
def uptoSmall : (H : Type) → List (DataW H) → Bool := fun _ ds => decide (uptoBulkAll ds ≤ 1048576)
def OpenSpec.upto (s : _root_.Go.ChangeSpec) : _root_.Go.OpenSpec := { _root_.Go.OpenSpec.ofChange s with cond := some uptoSmall }

/-- 'laws.FnExactIsCentralElement', WHERE WHAT IT READS IS OF BULK AT MOST 1048576: true; the input reads as it did. -/
def fnExactIsCentralElementUptoRow : OpenClaim := { program := "yticmlgnolbccjaa", sum := "b9294c905962c67c59769e7aedfd485f8515dcf4fa495dca34e579feed2d0fad", func := "loop.example/g01251/laws.FnExactIsCentralElement", spec := "fnExactIsCentralElement", inPlace := ["internal/bytealg.abigen_runtime_cmpstring"], unfollowed := true, recurses := true, plainKeys := false, apart := false, narrowed := true }
def FnExactIsCentralElementUptoSaid : Prop := fnExactIsCentralElementUptoRow.holds Try.pinned (OpenSpec.upto fnExactIsCentralElementSpec)

/-- 'laws.FnExactMultiplyElements', WHERE WHAT IT READS IS OF BULK AT MOST 1048576: true; the input reads as it did. -/
def fnExactMultiplyElementsUptoRow : OpenClaim := { program := "yticmlgnolbccjaa", sum := "b9294c905962c67c59769e7aedfd485f8515dcf4fa495dca34e579feed2d0fad", func := "loop.example/g01251/laws.FnExactMultiplyElements", spec := "fnExactMultiplyElements", inPlace := ["internal/bytealg.abigen_runtime_cmpstring"], unfollowed := true, recurses := true, plainKeys := false, apart := false, narrowed := true }
def FnExactMultiplyElementsUptoSaid : Prop := fnExactMultiplyElementsUptoRow.holds Try.pinned (OpenSpec.upto fnExactMultiplyElementsSpec)

/-- 'laws.FnExactPowerElement', WHERE WHAT IT READS IS OF BULK AT MOST 1048576: true; the input reads as it did. -/
def fnExactPowerElementUptoRow : OpenClaim := { program := "yticmlgnolbccjaa", sum := "b9294c905962c67c59769e7aedfd485f8515dcf4fa495dca34e579feed2d0fad", func := "loop.example/g01251/laws.FnExactPowerElement", spec := "fnExactPowerElement", inPlace := ["internal/bytealg.abigen_runtime_cmpstring"], unfollowed := true, recurses := true, plainKeys := false, apart := false, narrowed := true }
def FnExactPowerElementUptoSaid : Prop := fnExactPowerElementUptoRow.holds Try.pinned (OpenSpec.upto fnExactPowerElementSpec)

/-- 'laws.FnExactTraceOfProjection', WHERE WHAT IT READS IS OF BULK AT MOST 1048576: true; the input reads as it did. -/
def fnExactTraceOfProjectionUptoRow : OpenClaim := { program := "yticmlgnolbccjaa", sum := "b9294c905962c67c59769e7aedfd485f8515dcf4fa495dca34e579feed2d0fad", func := "loop.example/g01251/laws.FnExactTraceOfProjection", spec := "fnExactTraceOfProjection", inPlace := ["internal/bytealg.abigen_runtime_cmpstring"], unfollowed := true, recurses := true, plainKeys := false, apart := false, narrowed := true }
def FnExactTraceOfProjectionUptoSaid : Prop := fnExactTraceOfProjectionUptoRow.holds Try.pinned (OpenSpec.upto fnExactTraceOfProjectionSpec)

/-- 'laws.FnExactCommutatorElement', WHERE WHAT IT READS IS OF BULK AT MOST 1048576: true; the input reads as it did. -/
def fnExactCommutatorElementUptoRow : OpenClaim := { program := "yticmlgnolbccjaa", sum := "b9294c905962c67c59769e7aedfd485f8515dcf4fa495dca34e579feed2d0fad", func := "loop.example/g01251/laws.FnExactCommutatorElement", spec := "fnExactCommutatorElement", inPlace := ["internal/bytealg.abigen_runtime_cmpstring"], unfollowed := true, recurses := true, plainKeys := false, apart := false, narrowed := true }
def FnExactCommutatorElementUptoSaid : Prop := fnExactCommutatorElementUptoRow.holds Try.pinned (OpenSpec.upto fnExactCommutatorElementSpec)

/-- 'laws.FnExactIsProjection', WHERE WHAT IT READS IS OF BULK AT MOST 1048576: true; the input reads as it did. -/
def fnExactIsProjectionUptoRow : OpenClaim := { program := "yticmlgnolbccjaa", sum := "b9294c905962c67c59769e7aedfd485f8515dcf4fa495dca34e579feed2d0fad", func := "loop.example/g01251/laws.FnExactIsProjection", spec := "fnExactIsProjection", inPlace := ["internal/bytealg.abigen_runtime_cmpstring"], unfollowed := true, recurses := true, plainKeys := false, apart := false, narrowed := true }
def FnExactIsProjectionUptoSaid : Prop := fnExactIsProjectionUptoRow.holds Try.pinned (OpenSpec.upto fnExactIsProjectionSpec)

/-- 'laws.FnExactCoefficientOf', WHERE WHAT IT READS IS OF BULK AT MOST 1048576: true; the input reads as it did. -/
def fnExactCoefficientOfUptoRow : OpenClaim := { program := "yticmlgnolbccjaa", sum := "b9294c905962c67c59769e7aedfd485f8515dcf4fa495dca34e579feed2d0fad", func := "loop.example/g01251/laws.FnExactCoefficientOf", spec := "fnExactCoefficientOf", inPlace := ["internal/bytealg.abigen_runtime_cmpstring"], unfollowed := true, recurses := true, plainKeys := false, apart := false, narrowed := true }
def FnExactCoefficientOfUptoSaid : Prop := fnExactCoefficientOfUptoRow.holds Try.pinned (OpenSpec.upto fnExactCoefficientOfSpec)

/-- 'laws.FnExactProjectionOf', WHERE WHAT IT READS IS OF BULK AT MOST 1048576: true; the input reads as it did. -/
def fnExactProjectionOfUptoRow : OpenClaim := { program := "yticmlgnolbccjaa", sum := "b9294c905962c67c59769e7aedfd485f8515dcf4fa495dca34e579feed2d0fad", func := "loop.example/g01251/laws.FnExactProjectionOf", spec := "fnExactProjectionOf", inPlace := ["internal/bytealg.abigen_runtime_cmpstring"], unfollowed := true, recurses := true, plainKeys := false, apart := false, narrowed := true }
def FnExactProjectionOfUptoSaid : Prop := fnExactProjectionOfUptoRow.holds Try.pinned (OpenSpec.upto fnExactProjectionOfSpec)

/-- 'laws.FnExactInverseElement', WHERE WHAT IT READS IS OF BULK AT MOST 1048576: true; the input reads as it did. -/
def fnExactInverseElementUptoRow : OpenClaim := { program := "yticmlgnolbccjaa", sum := "b9294c905962c67c59769e7aedfd485f8515dcf4fa495dca34e579feed2d0fad", func := "loop.example/g01251/laws.FnExactInverseElement", spec := "fnExactInverseElement", inPlace := ["internal/bytealg.abigen_runtime_cmpstring"], unfollowed := true, recurses := true, plainKeys := false, apart := false, narrowed := true }
def FnExactInverseElementUptoSaid : Prop := fnExactInverseElementUptoRow.holds Try.pinned (OpenSpec.upto fnExactInverseElementSpec)

end Rows
end Go.Proofs.Yticmlgnolbccjaa
