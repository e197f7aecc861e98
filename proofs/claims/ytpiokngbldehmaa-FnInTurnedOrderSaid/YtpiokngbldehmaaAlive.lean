/- The laws' fixed answer. -/
import Derived.Test.YtpiokngbldehmaaMilli
namespace Go.Proofs.Ytpiokngbldehmaa
open Go.RowKit Go.FR Go.FV

theorem alive_word : milliF 1500 0 = (1069547520, 0) := by decide +kernel
set_option maxHeartbeats 400000 in
theorem alive_any (w : World) : Calls Try.prog 14 #[] w fun e w' => e = .returned (.bool true) ∧ ∃ n, w' = w.drewN n := by
  have e1 : (FloatKind.f32.format.order 1069547520 1069547520 == some .eq) = true := by decide +kernel
  have e2 : (FloatKind.f32.format.order 0 0 == some .eq) = true := by decide +kernel
  go_enter Try.func14, Try.ntmps14
  go_wp2_with (go_at_call 41; refine (milli_any _ _ _).mono ?_; rintro e w' ⟨rfl, n, rfl⟩; rw [alive_word]; unfold cx)
  go_ret
  exact ⟨rfl, _, rfl⟩
end Go.Proofs.Ytpiokngbldehmaa
