/- The walk of the exact law of the constants. -/
import Derived.Test.YtfnoojdhnhecbaaChecked
import Derived.WalkKit
import Derived.Below
namespace Go.Proofs.Ytfnoojdhnhecbaa
open Go.RowKit

set_option maxHeartbeats 400000 in
theorem law_FnExactConstants (w : World) : Calls Try.prog 3 #[] w fun e w' => e = .returned (.bool true) ∧ Below w.heap.size w w' := by
  go_enter Try.func3, Try.ntmps3
  go_wp2
  go_ret
  exact ⟨rfl, Below.refl _ _⟩

end Go.Proofs.Ytfnoojdhnhecbaa
