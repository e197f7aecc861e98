/-
  No cell of these rows narrows 'for every input' (looked for: loops, veiled, ifaces, maps, wideKeys, modest, calm, conditions, laid).
  DERIVED. THE GIVEN ROWS OF THIS SEAT. 6 by the template 'for every input the law returns true; each argument reads behind the call as it read before'; 0 by the template 'total and deterministic' (their statements: YtfnoojdhnhecbaaTotals.lean).
  GIVEN WITH THE SEED: the statements are not yours to turn. If you find one false, say at which input.
  Laid BY PROGRAM, IN A SANDBOX (cutbox-rows.mjs): the forced cells as the released guide's own fill.sh prints them over the translation 3c72d69be1872c2b… (all of the seat's roots in one cut). By AI agents, Wed Nov 11 2026. No macro, syntax, notation, axiom, sorry.
-/
import Derived.Test.YtfnoojdhnhecbaaChecked
import GoSem.Claim
import GoSem.ClaimJoined
import GoSem.ClaimMapViews
import Derived.JoinedTies
import Derived.KernelRfl
namespace Go.Proofs.Ytfnoojdhnhecbaa
/- THE CELL 'sum', in the pinned program and in every row, IS THE sha256 OF THE DUMP (.gsa) THAT YtfnoojdhnhecbaaProg.lean LOADS. Nothing in Lean hashes anything: it is a label: what it is worth is what the hold of that sum in a sandbox is worth. -/
noncomputable def Try.pinned : Pinned := { name := "ytfnoojdhnhecbaa", sum := "3c72d69be1872c2b07de0a1d1a202f4b73d8268aa67144affc3334d5e52171c2", checked := Try.checked }
namespace Rows
def none {H : Type} : Left H := { results := [], args := [] }

/-- 'laws.FnExactConstants': WHATEVER THE INPUT: true; the input reads as it did. -/
def fnExactConstantsSpec : ChangeSpec := { name := "fnExactConstants", fn := fun _ => fun
  | [] => { results := [.lit (.bool true)], args := [] }
  | _ => none }
def fnExactConstantsRow : OpenClaim := { program := "ytfnoojdhnhecbaa", sum := "3c72d69be1872c2b07de0a1d1a202f4b73d8268aa67144affc3334d5e52171c2", func := "loop.example/shortspectra/laws.FnExactConstants", spec := "fnExactConstants", apart := false }
def FnExactConstantsSaid : Prop := fnExactConstantsRow.holds Try.pinned (OpenSpec.ofChange fnExactConstantsSpec)

/-- ITS FALSE NEIGHBOUR: 'it returns false'. Refute it at one input. -/
def fnExactConstantsWrong : ChangeSpec := { name := "fnExactConstants", fn := fun _ => fun
  | [] => { results := [.lit (.bool false)], args := [] }
  | _ => none }
def FnExactConstantsWrongFalsely : Prop := fnExactConstantsRow.holds Try.pinned (OpenSpec.ofChange fnExactConstantsWrong)

/-- 'laws.FnExactProductsOf': WHATEVER THE INPUT: true; the input reads as it did. -/
def fnExactProductsOfSpec : ChangeSpec := { name := "fnExactProductsOf", fn := fun _ => fun
  | [d] => { results := [.lit (.bool true)], args := [d] }
  | _ => none }
def fnExactProductsOfRow : OpenClaim := { program := "ytfnoojdhnhecbaa", sum := "3c72d69be1872c2b07de0a1d1a202f4b73d8268aa67144affc3334d5e52171c2", func := "loop.example/shortspectra/laws.FnExactProductsOf", spec := "fnExactProductsOf", apart := false }
def FnExactProductsOfSaid : Prop := fnExactProductsOfRow.holds Try.pinned (OpenSpec.ofChange fnExactProductsOfSpec)

/-- ITS FALSE NEIGHBOUR: 'it returns false'. Refute it at one input. -/
def fnExactProductsOfWrong : ChangeSpec := { name := "fnExactProductsOf", fn := fun _ => fun
  | [d] => { results := [.lit (.bool false)], args := [d] }
  | _ => none }
def FnExactProductsOfWrongFalsely : Prop := fnExactProductsOfRow.holds Try.pinned (OpenSpec.ofChange fnExactProductsOfWrong)

/-- 'laws.FnExactMilli': WHATEVER THE INPUT: true; the input reads as it did. -/
def fnExactMilliSpec : ChangeSpec := { name := "fnExactMilli", fn := fun _ => fun
  | [d1, d2] => { results := [.lit (.bool true)], args := [d1, d2] }
  | _ => none }
def fnExactMilliRow : OpenClaim := { program := "ytfnoojdhnhecbaa", sum := "3c72d69be1872c2b07de0a1d1a202f4b73d8268aa67144affc3334d5e52171c2", func := "loop.example/shortspectra/laws.FnExactMilli", spec := "fnExactMilli", apart := false }
def FnExactMilliSaid : Prop := fnExactMilliRow.holds Try.pinned (OpenSpec.ofChange fnExactMilliSpec)

/-- ITS FALSE NEIGHBOUR: 'it returns false'. Refute it at one input. -/
def fnExactMilliWrong : ChangeSpec := { name := "fnExactMilli", fn := fun _ => fun
  | [d1, d2] => { results := [.lit (.bool false)], args := [d1, d2] }
  | _ => none }
def FnExactMilliWrongFalsely : Prop := fnExactMilliRow.holds Try.pinned (OpenSpec.ofChange fnExactMilliWrong)

/-- 'laws.FnExactDigitsTurned': WHATEVER THE INPUT: true; the input reads as it did. -/
def fnExactDigitsTurnedSpec : ChangeSpec := { name := "fnExactDigitsTurned", fn := fun _ => fun
  | [d1, d2] => { results := [.lit (.bool true)], args := [d1, d2] }
  | _ => none }
def fnExactDigitsTurnedRow : OpenClaim := { program := "ytfnoojdhnhecbaa", sum := "3c72d69be1872c2b07de0a1d1a202f4b73d8268aa67144affc3334d5e52171c2", func := "loop.example/shortspectra/laws.FnExactDigitsTurned", spec := "fnExactDigitsTurned", apart := false }
def FnExactDigitsTurnedSaid : Prop := fnExactDigitsTurnedRow.holds Try.pinned (OpenSpec.ofChange fnExactDigitsTurnedSpec)

/-- ITS FALSE NEIGHBOUR: 'it returns false'. Refute it at one input. -/
def fnExactDigitsTurnedWrong : ChangeSpec := { name := "fnExactDigitsTurned", fn := fun _ => fun
  | [d1, d2] => { results := [.lit (.bool false)], args := [d1, d2] }
  | _ => none }
def FnExactDigitsTurnedWrongFalsely : Prop := fnExactDigitsTurnedRow.holds Try.pinned (OpenSpec.ofChange fnExactDigitsTurnedWrong)

/-- 'laws.FnExactTurnOf': WHATEVER THE INPUT: true; the input reads as it did. -/
def fnExactTurnOfSpec : ChangeSpec := { name := "fnExactTurnOf", fn := fun _ => fun
  | [d] => { results := [.lit (.bool true)], args := [d] }
  | _ => none }
def fnExactTurnOfRow : OpenClaim := { program := "ytfnoojdhnhecbaa", sum := "3c72d69be1872c2b07de0a1d1a202f4b73d8268aa67144affc3334d5e52171c2", func := "loop.example/shortspectra/laws.FnExactTurnOf", spec := "fnExactTurnOf", apart := false }
def FnExactTurnOfSaid : Prop := fnExactTurnOfRow.holds Try.pinned (OpenSpec.ofChange fnExactTurnOfSpec)

/-- ITS FALSE NEIGHBOUR: 'it returns false'. Refute it at one input. -/
def fnExactTurnOfWrong : ChangeSpec := { name := "fnExactTurnOf", fn := fun _ => fun
  | [d] => { results := [.lit (.bool false)], args := [d] }
  | _ => none }
def FnExactTurnOfWrongFalsely : Prop := fnExactTurnOfRow.holds Try.pinned (OpenSpec.ofChange fnExactTurnOfWrong)

/-- 'laws.FnExactPulseOf': WHATEVER THE INPUT: true; the input reads as it did. -/
def fnExactPulseOfSpec : ChangeSpec := { name := "fnExactPulseOf", fn := fun _ => fun
  | [d1, d2] => { results := [.lit (.bool true)], args := [d1, d2] }
  | _ => none }
def fnExactPulseOfRow : OpenClaim := { program := "ytfnoojdhnhecbaa", sum := "3c72d69be1872c2b07de0a1d1a202f4b73d8268aa67144affc3334d5e52171c2", func := "loop.example/shortspectra/laws.FnExactPulseOf", spec := "fnExactPulseOf", apart := false }
def FnExactPulseOfSaid : Prop := fnExactPulseOfRow.holds Try.pinned (OpenSpec.ofChange fnExactPulseOfSpec)

/-- ITS FALSE NEIGHBOUR: 'it returns false'. Refute it at one input. -/
def fnExactPulseOfWrong : ChangeSpec := { name := "fnExactPulseOf", fn := fun _ => fun
  | [d1, d2] => { results := [.lit (.bool false)], args := [d1, d2] }
  | _ => none }
def FnExactPulseOfWrongFalsely : Prop := fnExactPulseOfRow.holds Try.pinned (OpenSpec.ofChange fnExactPulseOfWrong)

/- THE SECOND FORM. 'bulk': how many values and letters a reading holds, each counted each time it is reached (what is shared counts as often as it is met; a slice's spare places count too). A statement '..UptoSaid' is the law's where the arguments, and the package variables that the reading takes, are together of bulk at most 1048576: NARROWER than '..Said'. Prove '..Said' where nothing that the law and all that it calls make is longer than what came in: it says more and counts as full. Else prove '..UptoSaid'. A law counts once. -/
mutual
def uptoBulk {H : Type} : DataW H → Nat
  | .lit (.string bytes) => bytes.length + 1
  | .lit _ => 1
  | .nil => 1
  | .ptr d => uptoBulk d + 1
  | .slice elems spare => uptoBulkAll elems + uptoBulkAll spare + 1
  | .agg parts => uptoBulkAll parts + 1
  | .iface _ d => uptoBulk d + 1
  | .map entries => uptoBulkEntries entries + 1
  | .held _ => 1
def uptoBulkAll {H : Type} : List (DataW H) → Nat
  | [] => 0
  | d :: r => uptoBulk d + uptoBulkAll r
def uptoBulkEntries {H : Type} : List (Lit × DataW H) → Nat
  | [] => 0
  | x :: r => uptoBulkEntry x + uptoBulkEntries r
def uptoBulkEntry {H : Type} : Lit × DataW H → Nat
  | (.string bytes, d) => bytes.length + uptoBulk d + 1
  | (_, d) => uptoBulk d + 1
 end
def uptoSmall : (H : Type) → List (DataW H) → Bool := fun _ ds => decide (uptoBulkAll ds ≤ 1048576)
def OpenSpec.upto (s : _root_.Go.ChangeSpec) : _root_.Go.OpenSpec := { _root_.Go.OpenSpec.ofChange s with cond := some uptoSmall }

/-- 'laws.FnExactConstants', WHERE WHAT IT READS IS OF BULK AT MOST 1048576: true; the input reads as it did. -/
def fnExactConstantsUptoRow : OpenClaim := { program := "ytfnoojdhnhecbaa", sum := "3c72d69be1872c2b07de0a1d1a202f4b73d8268aa67144affc3334d5e52171c2", func := "loop.example/shortspectra/laws.FnExactConstants", spec := "fnExactConstants", apart := false, narrowed := true }
def FnExactConstantsUptoSaid : Prop := fnExactConstantsUptoRow.holds Try.pinned (OpenSpec.upto fnExactConstantsSpec)

/-- 'laws.FnExactProductsOf', WHERE WHAT IT READS IS OF BULK AT MOST 1048576: true; the input reads as it did. -/
def fnExactProductsOfUptoRow : OpenClaim := { program := "ytfnoojdhnhecbaa", sum := "3c72d69be1872c2b07de0a1d1a202f4b73d8268aa67144affc3334d5e52171c2", func := "loop.example/shortspectra/laws.FnExactProductsOf", spec := "fnExactProductsOf", apart := false, narrowed := true }
def FnExactProductsOfUptoSaid : Prop := fnExactProductsOfUptoRow.holds Try.pinned (OpenSpec.upto fnExactProductsOfSpec)

/-- 'laws.FnExactMilli', WHERE WHAT IT READS IS OF BULK AT MOST 1048576: true; the input reads as it did. -/
def fnExactMilliUptoRow : OpenClaim := { program := "ytfnoojdhnhecbaa", sum := "3c72d69be1872c2b07de0a1d1a202f4b73d8268aa67144affc3334d5e52171c2", func := "loop.example/shortspectra/laws.FnExactMilli", spec := "fnExactMilli", apart := false, narrowed := true }
def FnExactMilliUptoSaid : Prop := fnExactMilliUptoRow.holds Try.pinned (OpenSpec.upto fnExactMilliSpec)

/-- 'laws.FnExactDigitsTurned', WHERE WHAT IT READS IS OF BULK AT MOST 1048576: true; the input reads as it did. -/
def fnExactDigitsTurnedUptoRow : OpenClaim := { program := "ytfnoojdhnhecbaa", sum := "3c72d69be1872c2b07de0a1d1a202f4b73d8268aa67144affc3334d5e52171c2", func := "loop.example/shortspectra/laws.FnExactDigitsTurned", spec := "fnExactDigitsTurned", apart := false, narrowed := true }
def FnExactDigitsTurnedUptoSaid : Prop := fnExactDigitsTurnedUptoRow.holds Try.pinned (OpenSpec.upto fnExactDigitsTurnedSpec)

/-- 'laws.FnExactTurnOf', WHERE WHAT IT READS IS OF BULK AT MOST 1048576: true; the input reads as it did. -/
def fnExactTurnOfUptoRow : OpenClaim := { program := "ytfnoojdhnhecbaa", sum := "3c72d69be1872c2b07de0a1d1a202f4b73d8268aa67144affc3334d5e52171c2", func := "loop.example/shortspectra/laws.FnExactTurnOf", spec := "fnExactTurnOf", apart := false, narrowed := true }
def FnExactTurnOfUptoSaid : Prop := fnExactTurnOfUptoRow.holds Try.pinned (OpenSpec.upto fnExactTurnOfSpec)

/-- 'laws.FnExactPulseOf', WHERE WHAT IT READS IS OF BULK AT MOST 1048576: true; the input reads as it did. -/
def fnExactPulseOfUptoRow : OpenClaim := { program := "ytfnoojdhnhecbaa", sum := "3c72d69be1872c2b07de0a1d1a202f4b73d8268aa67144affc3334d5e52171c2", func := "loop.example/shortspectra/laws.FnExactPulseOf", spec := "fnExactPulseOf", apart := false, narrowed := true }
def FnExactPulseOfUptoSaid : Prop := fnExactPulseOfUptoRow.holds Try.pinned (OpenSpec.upto fnExactPulseOfSpec)

end Rows
end Go.Proofs.Ytfnoojdhnhecbaa
