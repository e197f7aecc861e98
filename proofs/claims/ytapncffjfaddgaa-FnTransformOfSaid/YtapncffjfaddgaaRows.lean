/-
  No cell of these rows narrows 'for every input' (looked for: loops, veiled, ifaces, maps, wideKeys, modest, calm, conditions, laid).
  DERIVED. THE GIVEN ROWS OF THIS SEAT. 4 by the template 'for every input the law returns true; each argument reads behind the call as it read before'; 0 by the template 'total and deterministic' (their statements: YtapncffjfaddgaaTotals.lean).
  GIVEN WITH THE SEED: the statements are not yours to turn. If you find one false, say at which input.
  Laid BY PROGRAM, IN A SANDBOX (cutbox-rows.mjs): the forced cells as the released guide's own fill.sh prints them over the translation 80564d1309ccdd4e… (all of the seat's roots in one cut). By AI agents, Wed Nov 11 2026. No macro, syntax, notation, axiom, sorry.
-/
import Derived.Test.YtapncffjfaddgaaChecked
import GoSem.Claim
import GoSem.ClaimJoined
import GoSem.ClaimMapViews
import Derived.JoinedTies
import Derived.KernelRfl
namespace Go.Proofs.Ytapncffjfaddgaa
/- THE CELL 'sum', in the pinned program and in every row, IS THE sha256 OF THE DUMP (.gsa) THAT YtapncffjfaddgaaProg.lean LOADS. Nothing in Lean hashes anything: it is a label: what it is worth is what the hold of that sum in a sandbox is worth. -/
noncomputable def Try.pinned : Pinned := { name := "ytapncffjfaddgaa", sum := "80564d1309ccdd4e433c67defd0b4d8c25b37e91caa5fb82327474966af3e6f4", checked := Try.checked }
namespace Rows
def none {H : Type} : Left H := { results := [], args := [] }

/-- 'laws.FnOneNumberOf': WHATEVER THE INPUT: true; the input reads as it did. -/
def fnOneNumberOfSpec : ChangeSpec := { name := "fnOneNumberOf", fn := fun _ => fun
  | [d] => { results := [.lit (.bool true)], args := [d] }
  | _ => none }
def fnOneNumberOfRow : OpenClaim := { program := "ytapncffjfaddgaa", sum := "80564d1309ccdd4e433c67defd0b4d8c25b37e91caa5fb82327474966af3e6f4", func := "loop.example/shortspectra/laws.FnOneNumberOf", spec := "fnOneNumberOf", apart := false }
def FnOneNumberOfSaid : Prop := fnOneNumberOfRow.holds Try.pinned (OpenSpec.ofChange fnOneNumberOfSpec)

/-- ITS FALSE NEIGHBOUR: 'it returns false'. Refute it at one input. -/
def fnOneNumberOfWrong : ChangeSpec := { name := "fnOneNumberOf", fn := fun _ => fun
  | [d] => { results := [.lit (.bool false)], args := [d] }
  | _ => none }
def FnOneNumberOfWrongFalsely : Prop := fnOneNumberOfRow.holds Try.pinned (OpenSpec.ofChange fnOneNumberOfWrong)

/-- 'laws.FnBackOf': WHATEVER THE INPUT: true; the input reads as it did. -/
def fnBackOfSpec : ChangeSpec := { name := "fnBackOf", fn := fun _ => fun
  | [d] => { results := [.lit (.bool true)], args := [d] }
  | _ => none }
def fnBackOfRow : OpenClaim := { program := "ytapncffjfaddgaa", sum := "80564d1309ccdd4e433c67defd0b4d8c25b37e91caa5fb82327474966af3e6f4", func := "loop.example/shortspectra/laws.FnBackOf", spec := "fnBackOf", apart := false }
def FnBackOfSaid : Prop := fnBackOfRow.holds Try.pinned (OpenSpec.ofChange fnBackOfSpec)

/-- ITS FALSE NEIGHBOUR: 'it returns false'. Refute it at one input. -/
def fnBackOfWrong : ChangeSpec := { name := "fnBackOf", fn := fun _ => fun
  | [d] => { results := [.lit (.bool false)], args := [d] }
  | _ => none }
def FnBackOfWrongFalsely : Prop := fnBackOfRow.holds Try.pinned (OpenSpec.ofChange fnBackOfWrong)

/-- 'laws.FnTransformOf': WHATEVER THE INPUT: true; the input reads as it did. -/
def fnTransformOfSpec : ChangeSpec := { name := "fnTransformOf", fn := fun _ => fun
  | [d] => { results := [.lit (.bool true)], args := [d] }
  | _ => none }
def fnTransformOfRow : OpenClaim := { program := "ytapncffjfaddgaa", sum := "80564d1309ccdd4e433c67defd0b4d8c25b37e91caa5fb82327474966af3e6f4", func := "loop.example/shortspectra/laws.FnTransformOf", spec := "fnTransformOf", apart := false }
def FnTransformOfSaid : Prop := fnTransformOfRow.holds Try.pinned (OpenSpec.ofChange fnTransformOfSpec)

/-- ITS FALSE NEIGHBOUR: 'it returns false'. Refute it at one input. -/
def fnTransformOfWrong : ChangeSpec := { name := "fnTransformOf", fn := fun _ => fun
  | [d] => { results := [.lit (.bool false)], args := [d] }
  | _ => none }
def FnTransformOfWrongFalsely : Prop := fnTransformOfRow.holds Try.pinned (OpenSpec.ofChange fnTransformOfWrong)

/-- 'laws.FnPulseOf': WHATEVER THE INPUT: true; the input reads as it did. -/
def fnPulseOfSpec : ChangeSpec := { name := "fnPulseOf", fn := fun _ => fun
  | [d] => { results := [.lit (.bool true)], args := [d] }
  | _ => none }
def fnPulseOfRow : OpenClaim := { program := "ytapncffjfaddgaa", sum := "80564d1309ccdd4e433c67defd0b4d8c25b37e91caa5fb82327474966af3e6f4", func := "loop.example/shortspectra/laws.FnPulseOf", spec := "fnPulseOf", apart := false }
def FnPulseOfSaid : Prop := fnPulseOfRow.holds Try.pinned (OpenSpec.ofChange fnPulseOfSpec)

/-- ITS FALSE NEIGHBOUR: 'it returns false'. Refute it at one input. -/
def fnPulseOfWrong : ChangeSpec := { name := "fnPulseOf", fn := fun _ => fun
  | [d] => { results := [.lit (.bool false)], args := [d] }
  | _ => none }
def FnPulseOfWrongFalsely : Prop := fnPulseOfRow.holds Try.pinned (OpenSpec.ofChange fnPulseOfWrong)

/- THE SECOND FORM. 'bulk': how many values and letters a reading holds, each counted each time it is reached (what is shared counts as often as it is met; a slice's spare places count too). A statement '..UptoSaid' is the law's where the arguments, and the package variables that the reading takes, are together of bulk at most 1048576: NARROWER than '..Said'. Prove '..Said' where nothing that the law and all that it calls make is longer than what came in: it says more and counts as full. Else prove '..UptoSaid'. A law counts once. -/
mutual
def uptoBulk {H : Type} : DataW H → Nat
  | .lit (.string bytes) => bytes.length + 1
  | .lit _ => 1
  | .nil => 1
  | .ptr d => uptoBulk d + 1
  | .slice elems spare => uptoBulkAll elems + uptoBulkAll spare + 1
  | .agg parts => uptoBulkAll parts + 1
  | .iface _ d => uptoBulk d + 1
  | .map entries => uptoBulkEntries entries + 1
  | .held _ => 1
def uptoBulkAll {H : Type} : List (DataW H) → Nat
  | [] => 0
  | d :: r => uptoBulk d + uptoBulkAll r
def uptoBulkEntries {H : Type} : List (Lit × DataW H) → Nat
  | [] => 0
  | x :: r => uptoBulkEntry x + uptoBulkEntries r
def uptoBulkEntry {H : Type} : Lit × DataW H → Nat
  | (.string bytes, d) => bytes.length + uptoBulk d + 1
  | (_, d) => uptoBulk d + 1
 end
def uptoSmall : (H : Type) → List (DataW H) → Bool := fun _ ds => decide (uptoBulkAll ds ≤ 1048576)
def OpenSpec.upto (s : _root_.Go.ChangeSpec) : _root_.Go.OpenSpec := { _root_.Go.OpenSpec.ofChange s with cond := some uptoSmall }

/-- 'laws.FnOneNumberOf', WHERE WHAT IT READS IS OF BULK AT MOST 1048576: true; the input reads as it did. -/
def fnOneNumberOfUptoRow : OpenClaim := { program := "ytapncffjfaddgaa", sum := "80564d1309ccdd4e433c67defd0b4d8c25b37e91caa5fb82327474966af3e6f4", func := "loop.example/shortspectra/laws.FnOneNumberOf", spec := "fnOneNumberOf", apart := false, narrowed := true }
def FnOneNumberOfUptoSaid : Prop := fnOneNumberOfUptoRow.holds Try.pinned (OpenSpec.upto fnOneNumberOfSpec)

/-- 'laws.FnBackOf', WHERE WHAT IT READS IS OF BULK AT MOST 1048576: true; the input reads as it did. -/
def fnBackOfUptoRow : OpenClaim := { program := "ytapncffjfaddgaa", sum := "80564d1309ccdd4e433c67defd0b4d8c25b37e91caa5fb82327474966af3e6f4", func := "loop.example/shortspectra/laws.FnBackOf", spec := "fnBackOf", apart := false, narrowed := true }
def FnBackOfUptoSaid : Prop := fnBackOfUptoRow.holds Try.pinned (OpenSpec.upto fnBackOfSpec)

/-- 'laws.FnTransformOf', WHERE WHAT IT READS IS OF BULK AT MOST 1048576: true; the input reads as it did. -/
def fnTransformOfUptoRow : OpenClaim := { program := "ytapncffjfaddgaa", sum := "80564d1309ccdd4e433c67defd0b4d8c25b37e91caa5fb82327474966af3e6f4", func := "loop.example/shortspectra/laws.FnTransformOf", spec := "fnTransformOf", apart := false, narrowed := true }
def FnTransformOfUptoSaid : Prop := fnTransformOfUptoRow.holds Try.pinned (OpenSpec.upto fnTransformOfSpec)

/-- 'laws.FnPulseOf', WHERE WHAT IT READS IS OF BULK AT MOST 1048576: true; the input reads as it did. -/
def fnPulseOfUptoRow : OpenClaim := { program := "ytapncffjfaddgaa", sum := "80564d1309ccdd4e433c67defd0b4d8c25b37e91caa5fb82327474966af3e6f4", func := "loop.example/shortspectra/laws.FnPulseOf", spec := "fnPulseOf", apart := false, narrowed := true }
def FnPulseOfUptoSaid : Prop := fnPulseOfUptoRow.holds Try.pinned (OpenSpec.upto fnPulseOfSpec)

end Rows
end Go.Proofs.Ytapncffjfaddgaa
