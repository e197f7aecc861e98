/- Sameness of numbers part by part: a finite number is the same as itself. -/
import Derived.Test.YtmnnblhooodnhaaMem
import Derived.Test.YtmnnblhooodnhaaUp
namespace Go.Proofs.Ytmnnblhooodnhaa
open Go.RowKit Go.FR Go.FV

theorem order_self {k : FloatKind} {x : Nat} (h : FV.Fin k.format x) : k.format.order x x = some .eq := (order_fin h h).1.2 rfl

set_option maxHeartbeats 400000 in
theorem samePart_self (x : Nat) (w : World) (hx : FV.Fin Ieee.double x) :
    Calls Try.prog 39 #[.float .f64 x, .float .f64 x] w fun e w' => e = .returned (.bool true) ∧ w = w' := by
  have e2 : (FloatKind.f64.format.order x x == some .eq) = true := by rw [order_self (k := .f64) hx]; rfl
  go_enter Try.func39, Try.ntmps39
  go_wp2
  go_ret
  exact ⟨rfl, rfl⟩

/-- A finite part, widened: in a walk. -/
theorem up_part (x : Nat) (hx : FV.Fin Ieee.single x) : ∃ d, FV.Fin Ieee.double d ∧ V Ieee.double d = V Ieee.single x ∧ ∀ w : World, (convert 26 36 (.float .f32 x)).run Try.prog w = .ok (.float .f64 d) w := by
  obtain ⟨d, h1, h2, h3⟩ := up_bits x hx
  exact ⟨d, h2, h3, fun w => run_convert_float_float w 26 36 .f32 .f64 x d (by rw [Try.underlying26]; rfl) Try.underlying36 h1⟩

set_option maxHeartbeats 400000 in
theorem sameBits_self (x y : Nat) (w : World) (hx : finB x = true) (hy : finB y = true) :
    Calls Try.prog 16 #[.complex .f32 x y, .complex .f32 x y] w fun e w' => e = .returned (.bool true) ∧ w = w' := by
  obtain ⟨d1, f1, _, c1⟩ := up_part x hx
  obtain ⟨d2, f2, _, c2⟩ := up_part y hy
  clear hx hy
  go_enter Try.func16, Try.ntmps16
  go_wp2_with (go_at_call 39; refine (samePart_self _ _ (by assumption)).mono ?_; rintro e w' ⟨rfl, rfl⟩)
  go_ret
  exact ⟨rfl, rfl⟩
end Go.Proofs.Ytmnnblhooodnhaa
