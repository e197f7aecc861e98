/- Finite, the program's and the reference's. -/
import Derived.Test.YtpiokngbldehmaaMem
import Derived.Test.YtpiokngbldehmaaFv
namespace Go.Proofs.Ytpiokngbldehmaa
open Go.RowKit Go.FR Go.FV

set_option maxHeartbeats 400000 in
theorem finite_any (a b : Nat) (w : World) :
    Calls Try.prog 38 #[.complex .f32 a b] w fun e w' => e = .returned (.bool (finB a && finB b)) ∧ ∃ n, w' = w.drewN n := by
  go_enter Try.func38, Try.ntmps38
  go_wp2
  all_goals (go_ret; refine ⟨ret_bool (by simp_all), _, rfl⟩)
set_option maxHeartbeats 400000 in
theorem sfinite_any (a b : Nat) (w : World) :
    Calls Try.prog 58 #[.complex .f32 a b] w fun e w' => e = .returned (.bool (finB a && finB b)) ∧ ∃ n, w' = w.drewN n := by
  go_enter Try.func58, Try.ntmps58
  go_wp2
  all_goals (go_ret; refine ⟨ret_bool (by simp_all), _, rfl⟩)
end Go.Proofs.Ytpiokngbldehmaa
