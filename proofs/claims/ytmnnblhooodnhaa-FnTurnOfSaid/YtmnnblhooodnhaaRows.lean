/-
  No cell of these rows narrows 'for every input' (looked for: loops, veiled, ifaces, maps, wideKeys, modest, calm, conditions, laid).
  DERIVED. THE GIVEN ROWS OF THIS SEAT. 7 by the template 'for every input the law returns true; each argument reads behind the call as it read before'; 0 by the template 'total and deterministic' (their statements: YtmnnblhooodnhaaTotals.lean).
  GIVEN WITH THE SEED: the statements are not yours to turn. If you find one false, say at which input.
  Laid BY PROGRAM, IN A SANDBOX (cutbox-rows.mjs): the forced cells as the released guide's own fill.sh prints them over the translation 4a91c15bae8dd508… (all of the seat's roots in one cut). By AI agents, Wed Nov 11 2026. No macro, syntax, notation, axiom, sorry.
-/
import Derived.Test.YtmnnblhooodnhaaChecked
import GoSem.Claim
import GoSem.ClaimJoined
import GoSem.ClaimMapViews
import Derived.JoinedTies
import Derived.KernelRfl
namespace Go.Proofs.Ytmnnblhooodnhaa
/- THE CELL 'sum', in the pinned program and in every row, IS THE sha256 OF THE DUMP (.gsa) THAT YtmnnblhooodnhaaProg.lean LOADS. Nothing in Lean hashes anything: it is a label: what it is worth is what the hold of that sum in a sandbox is worth. -/
noncomputable def Try.pinned : Pinned := { name := "ytmnnblhooodnhaa", sum := "4a91c15bae8dd508ad96e85f08c11fab93ee0706d7f0429032ede3b2c0acf4d5", checked := Try.checked }
namespace Rows
def none {H : Type} : Left H := { results := [], args := [] }

/-- 'laws.FnFinite': WHATEVER THE INPUT: true; the input reads as it did. -/
def fnFiniteSpec : ChangeSpec := { name := "fnFinite", fn := fun _ => fun
  | [d] => { results := [.lit (.bool true)], args := [d] }
  | _ => none }
def fnFiniteRow : OpenClaim := { program := "ytmnnblhooodnhaa", sum := "4a91c15bae8dd508ad96e85f08c11fab93ee0706d7f0429032ede3b2c0acf4d5", func := "loop.example/shortspectra/laws.FnFinite", spec := "fnFinite", apart := false }
def FnFiniteSaid : Prop := fnFiniteRow.holds Try.pinned (OpenSpec.ofChange fnFiniteSpec)

/-- ITS FALSE NEIGHBOUR: 'it returns false'. Refute it at one input. -/
def fnFiniteWrong : ChangeSpec := { name := "fnFinite", fn := fun _ => fun
  | [d] => { results := [.lit (.bool false)], args := [d] }
  | _ => none }
def FnFiniteWrongFalsely : Prop := fnFiniteRow.holds Try.pinned (OpenSpec.ofChange fnFiniteWrong)

/-- 'laws.FnMilli': WHATEVER THE INPUT: true; the input reads as it did. -/
def fnMilliSpec : ChangeSpec := { name := "fnMilli", fn := fun _ => fun
  | [d] => { results := [.lit (.bool true)], args := [d] }
  | _ => none }
def fnMilliRow : OpenClaim := { program := "ytmnnblhooodnhaa", sum := "4a91c15bae8dd508ad96e85f08c11fab93ee0706d7f0429032ede3b2c0acf4d5", func := "loop.example/shortspectra/laws.FnMilli", spec := "fnMilli", apart := false }
def FnMilliSaid : Prop := fnMilliRow.holds Try.pinned (OpenSpec.ofChange fnMilliSpec)

/-- ITS FALSE NEIGHBOUR: 'it returns false'. Refute it at one input. -/
def fnMilliWrong : ChangeSpec := { name := "fnMilli", fn := fun _ => fun
  | [d] => { results := [.lit (.bool false)], args := [d] }
  | _ => none }
def FnMilliWrongFalsely : Prop := fnMilliRow.holds Try.pinned (OpenSpec.ofChange fnMilliWrong)

/-- 'laws.FnMilliOf': WHATEVER THE INPUT: true; the input reads as it did. -/
def fnMilliOfSpec : ChangeSpec := { name := "fnMilliOf", fn := fun _ => fun
  | [d] => { results := [.lit (.bool true)], args := [d] }
  | _ => none }
def fnMilliOfRow : OpenClaim := { program := "ytmnnblhooodnhaa", sum := "4a91c15bae8dd508ad96e85f08c11fab93ee0706d7f0429032ede3b2c0acf4d5", func := "loop.example/shortspectra/laws.FnMilliOf", spec := "fnMilliOf", apart := false }
def FnMilliOfSaid : Prop := fnMilliOfRow.holds Try.pinned (OpenSpec.ofChange fnMilliOfSpec)

/-- ITS FALSE NEIGHBOUR: 'it returns false'. Refute it at one input. -/
def fnMilliOfWrong : ChangeSpec := { name := "fnMilliOf", fn := fun _ => fun
  | [d] => { results := [.lit (.bool false)], args := [d] }
  | _ => none }
def FnMilliOfWrongFalsely : Prop := fnMilliOfRow.holds Try.pinned (OpenSpec.ofChange fnMilliOfWrong)

/-- 'laws.FnNear': WHATEVER THE INPUT: true; the input reads as it did. -/
def fnNearSpec : ChangeSpec := { name := "fnNear", fn := fun _ => fun
  | [d] => { results := [.lit (.bool true)], args := [d] }
  | _ => none }
def fnNearRow : OpenClaim := { program := "ytmnnblhooodnhaa", sum := "4a91c15bae8dd508ad96e85f08c11fab93ee0706d7f0429032ede3b2c0acf4d5", func := "loop.example/shortspectra/laws.FnNear", spec := "fnNear", apart := false }
def FnNearSaid : Prop := fnNearRow.holds Try.pinned (OpenSpec.ofChange fnNearSpec)

/-- ITS FALSE NEIGHBOUR: 'it returns false'. Refute it at one input. -/
def fnNearWrong : ChangeSpec := { name := "fnNear", fn := fun _ => fun
  | [d] => { results := [.lit (.bool false)], args := [d] }
  | _ => none }
def FnNearWrongFalsely : Prop := fnNearRow.holds Try.pinned (OpenSpec.ofChange fnNearWrong)

/-- 'laws.FnTurnOf': WHATEVER THE INPUT: true; the input reads as it did. -/
def fnTurnOfSpec : ChangeSpec := { name := "fnTurnOf", fn := fun _ => fun
  | [d] => { results := [.lit (.bool true)], args := [d] }
  | _ => none }
def fnTurnOfRow : OpenClaim := { program := "ytmnnblhooodnhaa", sum := "4a91c15bae8dd508ad96e85f08c11fab93ee0706d7f0429032ede3b2c0acf4d5", func := "loop.example/shortspectra/laws.FnTurnOf", spec := "fnTurnOf", apart := false }
def FnTurnOfSaid : Prop := fnTurnOfRow.holds Try.pinned (OpenSpec.ofChange fnTurnOfSpec)

/-- ITS FALSE NEIGHBOUR: 'it returns false'. Refute it at one input. -/
def fnTurnOfWrong : ChangeSpec := { name := "fnTurnOf", fn := fun _ => fun
  | [d] => { results := [.lit (.bool false)], args := [d] }
  | _ => none }
def FnTurnOfWrongFalsely : Prop := fnTurnOfRow.holds Try.pinned (OpenSpec.ofChange fnTurnOfWrong)

/-- 'laws.FnProductsOf': WHATEVER THE INPUT: true; the input reads as it did. -/
def fnProductsOfSpec : ChangeSpec := { name := "fnProductsOf", fn := fun _ => fun
  | [d] => { results := [.lit (.bool true)], args := [d] }
  | _ => none }
def fnProductsOfRow : OpenClaim := { program := "ytmnnblhooodnhaa", sum := "4a91c15bae8dd508ad96e85f08c11fab93ee0706d7f0429032ede3b2c0acf4d5", func := "loop.example/shortspectra/laws.FnProductsOf", spec := "fnProductsOf", apart := false }
def FnProductsOfSaid : Prop := fnProductsOfRow.holds Try.pinned (OpenSpec.ofChange fnProductsOfSpec)

/-- ITS FALSE NEIGHBOUR: 'it returns false'. Refute it at one input. -/
def fnProductsOfWrong : ChangeSpec := { name := "fnProductsOf", fn := fun _ => fun
  | [d] => { results := [.lit (.bool false)], args := [d] }
  | _ => none }
def FnProductsOfWrongFalsely : Prop := fnProductsOfRow.holds Try.pinned (OpenSpec.ofChange fnProductsOfWrong)

/-- 'laws.FnDigitsTurned': WHATEVER THE INPUT: true; the input reads as it did. -/
def fnDigitsTurnedSpec : ChangeSpec := { name := "fnDigitsTurned", fn := fun _ => fun
  | [d] => { results := [.lit (.bool true)], args := [d] }
  | _ => none }
def fnDigitsTurnedRow : OpenClaim := { program := "ytmnnblhooodnhaa", sum := "4a91c15bae8dd508ad96e85f08c11fab93ee0706d7f0429032ede3b2c0acf4d5", func := "loop.example/shortspectra/laws.FnDigitsTurned", spec := "fnDigitsTurned", apart := false }
def FnDigitsTurnedSaid : Prop := fnDigitsTurnedRow.holds Try.pinned (OpenSpec.ofChange fnDigitsTurnedSpec)

/-- ITS FALSE NEIGHBOUR: 'it returns false'. Refute it at one input. -/
def fnDigitsTurnedWrong : ChangeSpec := { name := "fnDigitsTurned", fn := fun _ => fun
  | [d] => { results := [.lit (.bool false)], args := [d] }
  | _ => none }
def FnDigitsTurnedWrongFalsely : Prop := fnDigitsTurnedRow.holds Try.pinned (OpenSpec.ofChange fnDigitsTurnedWrong)

/- THE SECOND FORM. 'bulk': how many values and letters a reading holds, each counted each time it is reached (what is shared counts as often as it is met; a slice's spare places count too). A statement '..UptoSaid' is the law's where the arguments, and the package variables that the reading takes, are together of bulk at most 1048576: NARROWER than '..Said'. Prove '..Said' where nothing that the law and all that it calls make is longer than what came in: it says more and counts as full. Else prove '..UptoSaid'. A law counts once. -/
mutual
def uptoBulk {H : Type} : DataW H → Nat
  | .lit (.string bytes) => bytes.length + 1
  | .lit _ => 1
  | .nil => 1
  | .ptr d => uptoBulk d + 1
  | .slice elems spare => uptoBulkAll elems + uptoBulkAll spare + 1
  | .agg parts => uptoBulkAll parts + 1
  | .iface _ d => uptoBulk d + 1
  | .map entries => uptoBulkEntries entries + 1
  | .held _ => 1
def uptoBulkAll {H : Type} : List (DataW H) → Nat
  | [] => 0
  | d :: r => uptoBulk d + uptoBulkAll r
def uptoBulkEntries {H : Type} : List (Lit × DataW H) → Nat
  | [] => 0
  | x :: r => uptoBulkEntry x + uptoBulkEntries r
def uptoBulkEntry {H : Type} : Lit × DataW H → Nat
  | (.string bytes, d) => bytes.length + uptoBulk d + 1
  | (_, d) => uptoBulk d + 1
 end
def uptoSmall : (H : Type) → List (DataW H) → Bool := fun _ ds => decide (uptoBulkAll ds ≤ 1048576)
def OpenSpec.upto (s : _root_.Go.ChangeSpec) : _root_.Go.OpenSpec := { _root_.Go.OpenSpec.ofChange s with cond := some uptoSmall }

/-- 'laws.FnFinite', WHERE WHAT IT READS IS OF BULK AT MOST 1048576: true; the input reads as it did. -/
def fnFiniteUptoRow : OpenClaim := { program := "ytmnnblhooodnhaa", sum := "4a91c15bae8dd508ad96e85f08c11fab93ee0706d7f0429032ede3b2c0acf4d5", func := "loop.example/shortspectra/laws.FnFinite", spec := "fnFinite", apart := false, narrowed := true }
def FnFiniteUptoSaid : Prop := fnFiniteUptoRow.holds Try.pinned (OpenSpec.upto fnFiniteSpec)

/-- 'laws.FnMilli', WHERE WHAT IT READS IS OF BULK AT MOST 1048576: true; the input reads as it did. -/
def fnMilliUptoRow : OpenClaim := { program := "ytmnnblhooodnhaa", sum := "4a91c15bae8dd508ad96e85f08c11fab93ee0706d7f0429032ede3b2c0acf4d5", func := "loop.example/shortspectra/laws.FnMilli", spec := "fnMilli", apart := false, narrowed := true }
def FnMilliUptoSaid : Prop := fnMilliUptoRow.holds Try.pinned (OpenSpec.upto fnMilliSpec)

/-- 'laws.FnMilliOf', WHERE WHAT IT READS IS OF BULK AT MOST 1048576: true; the input reads as it did. -/
def fnMilliOfUptoRow : OpenClaim := { program := "ytmnnblhooodnhaa", sum := "4a91c15bae8dd508ad96e85f08c11fab93ee0706d7f0429032ede3b2c0acf4d5", func := "loop.example/shortspectra/laws.FnMilliOf", spec := "fnMilliOf", apart := false, narrowed := true }
def FnMilliOfUptoSaid : Prop := fnMilliOfUptoRow.holds Try.pinned (OpenSpec.upto fnMilliOfSpec)

/-- 'laws.FnNear', WHERE WHAT IT READS IS OF BULK AT MOST 1048576: true; the input reads as it did. -/
def fnNearUptoRow : OpenClaim := { program := "ytmnnblhooodnhaa", sum := "4a91c15bae8dd508ad96e85f08c11fab93ee0706d7f0429032ede3b2c0acf4d5", func := "loop.example/shortspectra/laws.FnNear", spec := "fnNear", apart := false, narrowed := true }
def FnNearUptoSaid : Prop := fnNearUptoRow.holds Try.pinned (OpenSpec.upto fnNearSpec)

/-- 'laws.FnTurnOf', WHERE WHAT IT READS IS OF BULK AT MOST 1048576: true; the input reads as it did. -/
def fnTurnOfUptoRow : OpenClaim := { program := "ytmnnblhooodnhaa", sum := "4a91c15bae8dd508ad96e85f08c11fab93ee0706d7f0429032ede3b2c0acf4d5", func := "loop.example/shortspectra/laws.FnTurnOf", spec := "fnTurnOf", apart := false, narrowed := true }
def FnTurnOfUptoSaid : Prop := fnTurnOfUptoRow.holds Try.pinned (OpenSpec.upto fnTurnOfSpec)

/-- 'laws.FnProductsOf', WHERE WHAT IT READS IS OF BULK AT MOST 1048576: true; the input reads as it did. -/
def fnProductsOfUptoRow : OpenClaim := { program := "ytmnnblhooodnhaa", sum := "4a91c15bae8dd508ad96e85f08c11fab93ee0706d7f0429032ede3b2c0acf4d5", func := "loop.example/shortspectra/laws.FnProductsOf", spec := "fnProductsOf", apart := false, narrowed := true }
def FnProductsOfUptoSaid : Prop := fnProductsOfUptoRow.holds Try.pinned (OpenSpec.upto fnProductsOfSpec)

/-- 'laws.FnDigitsTurned', WHERE WHAT IT READS IS OF BULK AT MOST 1048576: true; the input reads as it did. -/
def fnDigitsTurnedUptoRow : OpenClaim := { program := "ytmnnblhooodnhaa", sum := "4a91c15bae8dd508ad96e85f08c11fab93ee0706d7f0429032ede3b2c0acf4d5", func := "loop.example/shortspectra/laws.FnDigitsTurned", spec := "fnDigitsTurned", apart := false, narrowed := true }
def FnDigitsTurnedUptoSaid : Prop := fnDigitsTurnedUptoRow.holds Try.pinned (OpenSpec.upto fnDigitsTurnedSpec)

end Rows
end Go.Proofs.Ytmnnblhooodnhaa
