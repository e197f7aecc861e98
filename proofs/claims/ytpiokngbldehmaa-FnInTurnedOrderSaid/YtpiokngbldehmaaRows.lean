/-
  No cell of these rows narrows 'for every input' (looked for: loops, veiled, ifaces, maps, wideKeys, modest, calm, conditions, laid).
  DERIVED. THE GIVEN ROWS OF THIS SEAT. 7 by the template 'for every input the law returns true; each argument reads behind the call as it read before'; 0 by the template 'total and deterministic' (their statements: YtpiokngbldehmaaTotals.lean).
  GIVEN WITH THE SEED: the statements are not yours to turn. If you find one false, say at which input.
  Laid BY PROGRAM, IN A SANDBOX (cutbox-rows.mjs): the forced cells as the released guide's own fill.sh prints them over the translation 9464386f94c8b878… (all of the seat's roots in one cut). By AI agents, Wed Nov 11 2026. No macro, syntax, notation, axiom, sorry.
-/
import Derived.Test.YtpiokngbldehmaaChecked
import GoSem.Claim
import GoSem.ClaimJoined
import GoSem.ClaimMapViews
import Derived.JoinedTies
import Derived.KernelRfl
namespace Go.Proofs.Ytpiokngbldehmaa
/- THE CELL 'sum', in the pinned program and in every row, IS THE sha256 OF THE DUMP (.gsa) THAT YtpiokngbldehmaaProg.lean LOADS. Nothing in Lean hashes anything: it is a label: what it is worth is what the hold of that sum in a sandbox is worth. -/
noncomputable def Try.pinned : Pinned := { name := "ytpiokngbldehmaa", sum := "9464386f94c8b8789cdab1b8f1de01b9bb45be20ea76b553852e2c6bf021ce7c", checked := Try.checked }
namespace Rows
def none {H : Type} : Left H := { results := [], args := [] }

/-- 'laws.FnSumOf': WHATEVER THE INPUT: true; the input reads as it did. -/
def fnSumOfSpec : ChangeSpec := { name := "fnSumOf", fn := fun _ => fun
  | [d] => { results := [.lit (.bool true)], args := [d] }
  | _ => none }
def fnSumOfRow : OpenClaim := { program := "ytpiokngbldehmaa", sum := "9464386f94c8b8789cdab1b8f1de01b9bb45be20ea76b553852e2c6bf021ce7c", func := "loop.example/shortspectra/laws.FnSumOf", spec := "fnSumOf", apart := false }
def FnSumOfSaid : Prop := fnSumOfRow.holds Try.pinned (OpenSpec.ofChange fnSumOfSpec)

/-- ITS FALSE NEIGHBOUR: 'it returns false'. Refute it at one input. -/
def fnSumOfWrong : ChangeSpec := { name := "fnSumOf", fn := fun _ => fun
  | [d] => { results := [.lit (.bool false)], args := [d] }
  | _ => none }
def FnSumOfWrongFalsely : Prop := fnSumOfRow.holds Try.pinned (OpenSpec.ofChange fnSumOfWrong)

/-- 'laws.FnMovedOf': WHATEVER THE INPUT: true; the input reads as it did. -/
def fnMovedOfSpec : ChangeSpec := { name := "fnMovedOf", fn := fun _ => fun
  | [d] => { results := [.lit (.bool true)], args := [d] }
  | _ => none }
def fnMovedOfRow : OpenClaim := { program := "ytpiokngbldehmaa", sum := "9464386f94c8b8789cdab1b8f1de01b9bb45be20ea76b553852e2c6bf021ce7c", func := "loop.example/shortspectra/laws.FnMovedOf", spec := "fnMovedOf", apart := false }
def FnMovedOfSaid : Prop := fnMovedOfRow.holds Try.pinned (OpenSpec.ofChange fnMovedOfSpec)

/-- ITS FALSE NEIGHBOUR: 'it returns false'. Refute it at one input. -/
def fnMovedOfWrong : ChangeSpec := { name := "fnMovedOf", fn := fun _ => fun
  | [d] => { results := [.lit (.bool false)], args := [d] }
  | _ => none }
def FnMovedOfWrongFalsely : Prop := fnMovedOfRow.holds Try.pinned (OpenSpec.ofChange fnMovedOfWrong)

/-- 'laws.FnTurnedOf': WHATEVER THE INPUT: true; the input reads as it did. -/
def fnTurnedOfSpec : ChangeSpec := { name := "fnTurnedOf", fn := fun _ => fun
  | [d] => { results := [.lit (.bool true)], args := [d] }
  | _ => none }
def fnTurnedOfRow : OpenClaim := { program := "ytpiokngbldehmaa", sum := "9464386f94c8b8789cdab1b8f1de01b9bb45be20ea76b553852e2c6bf021ce7c", func := "loop.example/shortspectra/laws.FnTurnedOf", spec := "fnTurnedOf", apart := false }
def FnTurnedOfSaid : Prop := fnTurnedOfRow.holds Try.pinned (OpenSpec.ofChange fnTurnedOfSpec)

/-- ITS FALSE NEIGHBOUR: 'it returns false'. Refute it at one input. -/
def fnTurnedOfWrong : ChangeSpec := { name := "fnTurnedOf", fn := fun _ => fun
  | [d] => { results := [.lit (.bool false)], args := [d] }
  | _ => none }
def FnTurnedOfWrongFalsely : Prop := fnTurnedOfRow.holds Try.pinned (OpenSpec.ofChange fnTurnedOfWrong)

/-- 'laws.FnEnergyOf': WHATEVER THE INPUT: true; the input reads as it did. -/
def fnEnergyOfSpec : ChangeSpec := { name := "fnEnergyOf", fn := fun _ => fun
  | [d] => { results := [.lit (.bool true)], args := [d] }
  | _ => none }
def fnEnergyOfRow : OpenClaim := { program := "ytpiokngbldehmaa", sum := "9464386f94c8b8789cdab1b8f1de01b9bb45be20ea76b553852e2c6bf021ce7c", func := "loop.example/shortspectra/laws.FnEnergyOf", spec := "fnEnergyOf", apart := false }
def FnEnergyOfSaid : Prop := fnEnergyOfRow.holds Try.pinned (OpenSpec.ofChange fnEnergyOfSpec)

/-- ITS FALSE NEIGHBOUR: 'it returns false'. Refute it at one input. -/
def fnEnergyOfWrong : ChangeSpec := { name := "fnEnergyOf", fn := fun _ => fun
  | [d] => { results := [.lit (.bool false)], args := [d] }
  | _ => none }
def FnEnergyOfWrongFalsely : Prop := fnEnergyOfRow.holds Try.pinned (OpenSpec.ofChange fnEnergyOfWrong)

/-- 'laws.FnSignalOk': WHATEVER THE INPUT: true; the input reads as it did. -/
def fnSignalOkSpec : ChangeSpec := { name := "fnSignalOk", fn := fun _ => fun
  | [d] => { results := [.lit (.bool true)], args := [d] }
  | _ => none }
def fnSignalOkRow : OpenClaim := { program := "ytpiokngbldehmaa", sum := "9464386f94c8b8789cdab1b8f1de01b9bb45be20ea76b553852e2c6bf021ce7c", func := "loop.example/shortspectra/laws.FnSignalOk", spec := "fnSignalOk", apart := false }
def FnSignalOkSaid : Prop := fnSignalOkRow.holds Try.pinned (OpenSpec.ofChange fnSignalOkSpec)

/-- ITS FALSE NEIGHBOUR: 'it returns false'. Refute it at one input. -/
def fnSignalOkWrong : ChangeSpec := { name := "fnSignalOk", fn := fun _ => fun
  | [d] => { results := [.lit (.bool false)], args := [d] }
  | _ => none }
def FnSignalOkWrongFalsely : Prop := fnSignalOkRow.holds Try.pinned (OpenSpec.ofChange fnSignalOkWrong)

/-- 'laws.FnSizeOk': WHATEVER THE INPUT: true; the input reads as it did. -/
def fnSizeOkSpec : ChangeSpec := { name := "fnSizeOk", fn := fun _ => fun
  | [d] => { results := [.lit (.bool true)], args := [d] }
  | _ => none }
def fnSizeOkRow : OpenClaim := { program := "ytpiokngbldehmaa", sum := "9464386f94c8b8789cdab1b8f1de01b9bb45be20ea76b553852e2c6bf021ce7c", func := "loop.example/shortspectra/laws.FnSizeOk", spec := "fnSizeOk", apart := false }
def FnSizeOkSaid : Prop := fnSizeOkRow.holds Try.pinned (OpenSpec.ofChange fnSizeOkSpec)

/-- ITS FALSE NEIGHBOUR: 'it returns false'. Refute it at one input. -/
def fnSizeOkWrong : ChangeSpec := { name := "fnSizeOk", fn := fun _ => fun
  | [d] => { results := [.lit (.bool false)], args := [d] }
  | _ => none }
def FnSizeOkWrongFalsely : Prop := fnSizeOkRow.holds Try.pinned (OpenSpec.ofChange fnSizeOkWrong)

/-- 'laws.FnInTurnedOrder': WHATEVER THE INPUT: true; the input reads as it did. -/
def fnInTurnedOrderSpec : ChangeSpec := { name := "fnInTurnedOrder", fn := fun _ => fun
  | [d] => { results := [.lit (.bool true)], args := [d] }
  | _ => none }
def fnInTurnedOrderRow : OpenClaim := { program := "ytpiokngbldehmaa", sum := "9464386f94c8b8789cdab1b8f1de01b9bb45be20ea76b553852e2c6bf021ce7c", func := "loop.example/shortspectra/laws.FnInTurnedOrder", spec := "fnInTurnedOrder", apart := false }
def FnInTurnedOrderSaid : Prop := fnInTurnedOrderRow.holds Try.pinned (OpenSpec.ofChange fnInTurnedOrderSpec)

/-- ITS FALSE NEIGHBOUR: 'it returns false'. Refute it at one input. -/
def fnInTurnedOrderWrong : ChangeSpec := { name := "fnInTurnedOrder", fn := fun _ => fun
  | [d] => { results := [.lit (.bool false)], args := [d] }
  | _ => none }
def FnInTurnedOrderWrongFalsely : Prop := fnInTurnedOrderRow.holds Try.pinned (OpenSpec.ofChange fnInTurnedOrderWrong)

/- THE SECOND FORM. 'bulk': how many values and letters a reading holds, each counted each time it is reached (what is shared counts as often as it is met; a slice's spare places count too). A statement '..UptoSaid' is the law's where the arguments, and the package variables that the reading takes, are together of bulk at most 1048576: NARROWER than '..Said'. Prove '..Said' where nothing that the law and all that it calls make is longer than what came in: it says more and counts as full. Else prove '..UptoSaid'. A law counts once. -/
mutual
def uptoBulk {H : Type} : DataW H → Nat
  | .lit (.string bytes) => bytes.length + 1
  | .lit _ => 1
  | .nil => 1
  | .ptr d => uptoBulk d + 1
  | .slice elems spare => uptoBulkAll elems + uptoBulkAll spare + 1
  | .agg parts => uptoBulkAll parts + 1
  | .iface _ d => uptoBulk d + 1
  | .map entries => uptoBulkEntries entries + 1
  | .held _ => 1
def uptoBulkAll {H : Type} : List (DataW H) → Nat
  | [] => 0
  | d :: r => uptoBulk d + uptoBulkAll r
def uptoBulkEntries {H : Type} : List (Lit × DataW H) → Nat
  | [] => 0
  | x :: r => uptoBulkEntry x + uptoBulkEntries r
def uptoBulkEntry {H : Type} : Lit × DataW H → Nat
  | (.string bytes, d) => bytes.length + uptoBulk d + 1
  | (_, d) => uptoBulk d + 1
 end
def uptoSmall : (H : Type) → List (DataW H) → Bool := fun _ ds => decide (uptoBulkAll ds ≤ 1048576)
def OpenSpec.upto (s : _root_.Go.ChangeSpec) : _root_.Go.OpenSpec := { _root_.Go.OpenSpec.ofChange s with cond := some uptoSmall }

/-- 'laws.FnSumOf', WHERE WHAT IT READS IS OF BULK AT MOST 1048576: true; the input reads as it did. -/
def fnSumOfUptoRow : OpenClaim := { program := "ytpiokngbldehmaa", sum := "9464386f94c8b8789cdab1b8f1de01b9bb45be20ea76b553852e2c6bf021ce7c", func := "loop.example/shortspectra/laws.FnSumOf", spec := "fnSumOf", apart := false, narrowed := true }
def FnSumOfUptoSaid : Prop := fnSumOfUptoRow.holds Try.pinned (OpenSpec.upto fnSumOfSpec)

/-- 'laws.FnMovedOf', WHERE WHAT IT READS IS OF BULK AT MOST 1048576: true; the input reads as it did. -/
def fnMovedOfUptoRow : OpenClaim := { program := "ytpiokngbldehmaa", sum := "9464386f94c8b8789cdab1b8f1de01b9bb45be20ea76b553852e2c6bf021ce7c", func := "loop.example/shortspectra/laws.FnMovedOf", spec := "fnMovedOf", apart := false, narrowed := true }
def FnMovedOfUptoSaid : Prop := fnMovedOfUptoRow.holds Try.pinned (OpenSpec.upto fnMovedOfSpec)

/-- 'laws.FnTurnedOf', WHERE WHAT IT READS IS OF BULK AT MOST 1048576: true; the input reads as it did. -/
def fnTurnedOfUptoRow : OpenClaim := { program := "ytpiokngbldehmaa", sum := "9464386f94c8b8789cdab1b8f1de01b9bb45be20ea76b553852e2c6bf021ce7c", func := "loop.example/shortspectra/laws.FnTurnedOf", spec := "fnTurnedOf", apart := false, narrowed := true }
def FnTurnedOfUptoSaid : Prop := fnTurnedOfUptoRow.holds Try.pinned (OpenSpec.upto fnTurnedOfSpec)

/-- 'laws.FnEnergyOf', WHERE WHAT IT READS IS OF BULK AT MOST 1048576: true; the input reads as it did. -/
def fnEnergyOfUptoRow : OpenClaim := { program := "ytpiokngbldehmaa", sum := "9464386f94c8b8789cdab1b8f1de01b9bb45be20ea76b553852e2c6bf021ce7c", func := "loop.example/shortspectra/laws.FnEnergyOf", spec := "fnEnergyOf", apart := false, narrowed := true }
def FnEnergyOfUptoSaid : Prop := fnEnergyOfUptoRow.holds Try.pinned (OpenSpec.upto fnEnergyOfSpec)

/-- 'laws.FnSignalOk', WHERE WHAT IT READS IS OF BULK AT MOST 1048576: true; the input reads as it did. -/
def fnSignalOkUptoRow : OpenClaim := { program := "ytpiokngbldehmaa", sum := "9464386f94c8b8789cdab1b8f1de01b9bb45be20ea76b553852e2c6bf021ce7c", func := "loop.example/shortspectra/laws.FnSignalOk", spec := "fnSignalOk", apart := false, narrowed := true }
def FnSignalOkUptoSaid : Prop := fnSignalOkUptoRow.holds Try.pinned (OpenSpec.upto fnSignalOkSpec)

/-- 'laws.FnSizeOk', WHERE WHAT IT READS IS OF BULK AT MOST 1048576: true; the input reads as it did. -/
def fnSizeOkUptoRow : OpenClaim := { program := "ytpiokngbldehmaa", sum := "9464386f94c8b8789cdab1b8f1de01b9bb45be20ea76b553852e2c6bf021ce7c", func := "loop.example/shortspectra/laws.FnSizeOk", spec := "fnSizeOk", apart := false, narrowed := true }
def FnSizeOkUptoSaid : Prop := fnSizeOkUptoRow.holds Try.pinned (OpenSpec.upto fnSizeOkSpec)

/-- 'laws.FnInTurnedOrder', WHERE WHAT IT READS IS OF BULK AT MOST 1048576: true; the input reads as it did. -/
def fnInTurnedOrderUptoRow : OpenClaim := { program := "ytpiokngbldehmaa", sum := "9464386f94c8b8789cdab1b8f1de01b9bb45be20ea76b553852e2c6bf021ce7c", func := "loop.example/shortspectra/laws.FnInTurnedOrder", spec := "fnInTurnedOrder", apart := false, narrowed := true }
def FnInTurnedOrderUptoSaid : Prop := fnInTurnedOrderUptoRow.holds Try.pinned (OpenSpec.upto fnInTurnedOrderSpec)

end Rows
end Go.Proofs.Ytpiokngbldehmaa
