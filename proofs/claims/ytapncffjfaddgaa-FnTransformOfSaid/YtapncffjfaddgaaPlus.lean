/- A product added to a sum. -/
import Derived.Test.YtapncffjfaddgaaTimes
import Derived.Test.YtapncffjfaddgaaTurn
namespace Go.Proofs.Ytapncffjfaddgaa
open Go.RowKit Go.FR Go.FV

/-- The sum of the first k products, by words. -/
def tsW (b : Int) (xs : List (Nat × Nat)) : Nat → Nat × Nat
  | 0 => (0, 0)
  | k + 1 => adW (tsW b xs k) (mlW (xs.getD k (0, 0)) (turnF (b * k)))
/-- All products and sums run and are finite. -/
def TsOk (b : Int) (xs : List (Nat × Nat)) : Prop := ∀ k, k < xs.length → MulOk (xs.getD k (0, 0)) (turnF (b * k)) ∧ FinP (tsW b xs (k + 1))
theorem TsOk.fin {b : Int} {xs : List (Nat × Nat)} (h : TsOk b xs) (k : Nat) (hk : k ≤ xs.length) : FinP (tsW b xs k) := by
  cases k with
  | zero => exact ⟨ZP.zero.f1, ZP.zero.f2⟩
  | succ k => exact (h k (by omega)).2

set_option maxHeartbeats 800000 in
theorem plus_any (s p t : Nat × Nat) (w : World) (hs : FinP s) (hm : MulOk p t) (hf : FinP (adW s (mlW p t))) :
    Calls Try.prog 50 #[.complex .f32 s.1 s.2, .complex .f32 p.1 p.2, .complex .f32 t.1 t.2] w fun e w' => e = .returned (.tuple #[.complex .f32 (adW s (mlW p t)).1 (adW s (mlW p t)).2, .bool true]) ∧ ∃ m, w' = w.drewN m := by
  have emul := fun w => hm.run (P := Try.prog) w 26
  have eadd := fun w => run_adW (P := Try.prog) w 26 hs hm.2
  have hf1 : (finB (mlW p t).1 && finB (mlW p t).2) = true := by rw [hm.2.1, hm.2.2]; rfl
  have hf2 : (finB (adW s (mlW p t)).1 && finB (adW s (mlW p t)).2) = true := by rw [hf.1, hf.2]; rfl
  clear hs hm hf
  generalize adW s (mlW p t) = r at *
  generalize mlW p t = q at *
  obtain ⟨s1, s2⟩ := s
  obtain ⟨p1, p2⟩ := p
  obtain ⟨t1, t2⟩ := t
  obtain ⟨q1, q2⟩ := q
  obtain ⟨r1, r2⟩ := r
  simp only at emul eadd hf1 hf2 ⊢
  go_enter Try.func50, Try.ntmps50
  go_wp2_with fail
  refine (finite_any q1 q2 _).mono ?_
  rintro e w' ⟨rfl, m1, rfl⟩
  rw [hf1]
  go_wp2_with fail
  refine (finite_any r1 r2 _).mono ?_
  rintro e w' ⟨rfl, m2, rfl⟩
  rw [hf2]
  go_wp2
  go_ret2
  exact ⟨rfl, _, rfl⟩
end Go.Proofs.Ytapncffjfaddgaa
