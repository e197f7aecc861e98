/- The sum of two complex64 numbers, by words. -/
import Derived.Test.YtapncffjfaddgaaCw
namespace Go.FV
open Ieee Go.FR
/-- The sum of two complex64 numbers, by words. -/
def adW (p q : Nat × Nat) : Nat × Nat := (cSumBits .add .f32 p.1 p.2 q.1 q.2).getD (0, 0)
theorem adW_some {p q : Nat × Nat} (h1 : finB p.1 = true ∧ finB p.2 = true) (h2 : finB q.1 = true ∧ finB q.2 = true) : cSumBits .add .f32 p.1 p.2 q.1 q.2 = some ((adW p q).1, (adW p q).2) := by
  obtain ⟨x, y, h, _⟩ := addC_spec h1.1 h1.2 h2.1 h2.2
  unfold adW; rw [h]; rfl
theorem run_adW {P : Program} (w : World) (t : TypeId) {p q : Nat × Nat} (h1 : finB p.1 = true ∧ finB p.2 = true) (h2 : finB q.1 = true ∧ finB q.2 = true) :
    (binOp .add t (.complex .f32 p.1 p.2) (.complex .f32 q.1 q.2)).run P w = .ok (.complex .f32 (adW p q).1 (adW p q).2) w :=
  run_complex_sum w .add (.inl rfl) t .f32 _ _ _ _ _ _ (adW_some h1 h2)
theorem sum_comm {a b : Datum} (ha : isNum a = true) (hb : isNum b = true) : a.sum b = b.sum a := by
  cases a <;> simp [isNum] at ha
  cases b <;> simp [isNum] at hb
  rename_i s m i t n j
  simp only [Datum.sum, Option.some.injEq]
  rw [Int.min_comm j i, Int.add_comm (signed t n _), Bool.and_comm t s]
theorem add_comm32 {x y : Nat} (hx : finB x = true) (hy : finB y = true) : floatBits .add .f32 x y = floatBits .add .f32 y x := by
  show single.add x y = single.add y x
  unfold Format.add
  rw [sum_comm hx hy]
theorem adW_comm {p q : Nat × Nat} (h1 : finB p.1 = true ∧ finB p.2 = true) (h2 : finB q.1 = true ∧ finB q.2 = true) : adW p q = adW q p := by
  unfold adW cSumBits
  rw [add_comm32 h1.1 h2.1, add_comm32 h1.2 h2.2]
end Go.FV
