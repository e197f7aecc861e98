/- Sameness of numbers, zeros' signs told apart: a finite number is the same as itself. -/
import Derived.Test.YtfnoojdhnhecbaaMem
import Derived.Test.YtfnoojdhnhecbaaUp
namespace Go.Proofs.Ytfnoojdhnhecbaa
open Go.RowKit Go.FR Go.FV

theorem order_self {k : FloatKind} {x : Nat} (h : FV.Fin k.format x) : k.format.order x x = some .eq := (order_fin h h).1.2 rfl

theorem quo_one (x : Nat) (hx : FV.Fin Ieee.double x) : ∃ q, ∀ (P : Program) (w : World), fqR P w .f64 4607182418800017408 x = q := by
  have h1 : FV.Fin Ieee.double 4607182418800017408 := by unfold FV.Fin; decide +kernel
  have hs : ∃ v, floatBits .quo .f64 4607182418800017408 x = some v := by
    unfold FV.Fin at h1 hx
    have hm : (Ieee.double.read 4607182418800017408) = .number false 4503599627370496 (-52) := by decide +kernel
    show ∃ v, Ieee.double.div 4607182418800017408 x = some v
    unfold Ieee.Format.div
    rw [hm]
    generalize Ieee.double.read x = d at *
    cases d with
    | infinity s => simp [isNum] at hx
    | nan s t => simp [isNum] at hx
    | number s m e =>
      unfold Ieee.Datum.quotient
      dsimp only
      by_cases h0 : m = 0
      · rw [if_pos h0]; exact ⟨_, rfl⟩
      · rw [if_neg h0]; exact ⟨_, rfl⟩
  obtain ⟨v, hv⟩ := hs
  refine ⟨v, fun P w => ?_⟩
  have := fq_res (P := P) w .f64 4607182418800017408 x
  unfold FRes at this
  rw [hv] at this
  exact this

set_option maxHeartbeats 400000 in
theorem sameFloat_self (x : Nat) (w : World) (hx : FV.Fin Ieee.double x) :
    Calls Try.prog 25 #[.float .f64 x, .float .f64 x] w fun e w' => e = .returned (.bool true) ∧ ∃ n, w' = w.drewN n := by
  have e1 : (FloatKind.f64.format.order x x != some .eq) = false := by rw [order_self (k := .f64) hx]; rfl
  have e2 : (FloatKind.f64.format.order x x == some .eq) = true := by rw [order_self (k := .f64) hx]; rfl
  obtain ⟨q, hq⟩ := quo_one x hx
  have hq' := hq Try.prog
  clear hq
  cases hz : (FloatKind.f64.format.order x 0 == some .eq)
  · go_enter Try.func25, Try.ntmps25
    go_wp2
    go_ret
    exact ⟨rfl, 0, rfl⟩
  · go_enter Try.func25, Try.ntmps25
    go_wp2
    go_ret
    exact ⟨ret_bool (by simp), _, rfl⟩
set_option maxHeartbeats 400000 in
theorem sameComplex_self (x y : Nat) (w : World) (hx : FV.Fin Ieee.double x) (hy : FV.Fin Ieee.double y) :
    Calls Try.prog 13 #[.complex .f64 x y, .complex .f64 x y] w fun e w' => e = .returned (.bool true) ∧ ∃ n, w' = w.drewN n := by
  go_enter Try.func13, Try.ntmps13
  go_wp2_with (go_at_call 25; refine (sameFloat_self _ _ (by assumption)).mono ?_; rintro e w' ⟨rfl, n, rfl⟩)
  go_ret
  exact ⟨rfl, _, rfl⟩

end Go.Proofs.Ytfnoojdhnhecbaa
