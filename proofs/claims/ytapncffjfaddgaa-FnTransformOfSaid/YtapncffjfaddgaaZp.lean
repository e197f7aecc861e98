/- Complex64 numbers whose parts are whole: sums and products are exact. -/
import Derived.Test.YtapncffjfaddgaaSsig
import Derived.Test.YtapncffjfaddgaaAdw
namespace Go.FV
open Ieee Go.FR

/-- The product of two complex64 numbers, by words. -/
def mlW (p q : Nat × Nat) : Nat × Nat := (mulC p.1 p.2 q.1 q.2).getD (0, 0)
/-- The product runs, and is finite. -/
def MulOk (p q : Nat × Nat) : Prop := mulC p.1 p.2 q.1 q.2 = some ((mlW p q).1, (mlW p q).2) ∧ finB (mlW p q).1 = true ∧ finB (mlW p q).2 = true
theorem MulOk.run {p q : Nat × Nat} (h : MulOk p q) {P : Program} (w : World) (t : TypeId) :
    (binOp .mul t (.complex .f32 p.1 p.2) (.complex .f32 q.1 q.2)).run P w = .ok (.complex .f32 (mlW p q).1 (mlW p q).2) w := run_mulC w t h.1

/-- Both parts stand for whole numbers. -/
structure ZP (p : Nat × Nat) (a b : Int) : Prop where
  f1 : finB p.1 = true
  f2 : finB p.2 = true
  v1 : V single p.1 = (a : Rat)
  v2 : V single p.2 = (b : Rat)
theorem int_lim {n : Int} (h : n.natAbs ≤ 16777216) : Within (n : Rat) hugeQ := by
  refine within_mono (int_within (n := n) (b := 16777216) (by omega)) ?_
  unfold hugeQ
  have h2 : p2 (25 : Nat) ≤ p2 128 := p2_mono (by omega)
  rw [p2_nat] at h2
  have h3 : ((2 ^ 25 : Nat) : Rat) = 33554432 := by decide +kernel
  rw [h3] at h2
  have h5 : ((16777216 : Int) : Rat) = 16777216 := by decide +kernel
  rw [h5]
  grind
theorem rd_int {n : Int} {r : Nat} (h : Rd (n : Rat) r) (hn : n.natAbs ≤ 16777216) : V single r = (n : Rat) :=
  h.exact n 0 (by omega) (by rw [p2_zero]; grind) hn
theorem rnd_int {n : Int} {r : Nat} (h : Rnd single (n : Rat) r) (hn : n.natAbs ≤ 16777216) : V single r = (n : Rat) :=
  h.exact n 0 (by rw [lp32]; omega) (by rw [p2_zero]; grind) (by rw [b32]; omega)
theorem ZP.mul {p q : Nat × Nat} {a b c d : Int} (hp : ZP p a b) (hq : ZP q c d) (h1 : (a * c - b * d).natAbs ≤ 16777216) (h2 : (a * d + b * c).natAbs ≤ 16777216) :
    MulOk p q ∧ ZP (mlW p q) (a * c - b * d) (a * d + b * c) := by
  have e1 : V single p.1 * V single q.1 - V single p.2 * V single q.2 = ((a * c - b * d : Int) : Rat) := by
    rw [hp.v1, hp.v2, hq.v1, hq.v2, Rat.intCast_sub, Rat.intCast_mul, Rat.intCast_mul]
  have e2 : V single p.1 * V single q.2 + V single p.2 * V single q.1 = ((a * d + b * c : Int) : Rat) := by
    rw [hp.v1, hp.v2, hq.v1, hq.v2, Rat.intCast_add, Rat.intCast_mul, Rat.intCast_mul]
  obtain ⟨x, y, h3, r1, r2⟩ := mulC_spec hp.f1 hp.f2 hq.f1 hq.f2 (by rw [e1]; exact int_lim h1) (by rw [e2]; exact int_lim h2)
  rw [e1] at r1
  rw [e2] at r2
  have e : mlW p q = (x, y) := by unfold mlW; rw [h3]; rfl
  unfold MulOk
  rw [e]
  exact ⟨⟨h3, r1.fin, r2.fin⟩, r1.fin, r2.fin, rd_int r1 h1, rd_int r2 h2⟩
theorem ZP.add {p q : Nat × Nat} {a b c d : Int} (hp : ZP p a b) (hq : ZP q c d) (h1 : (a + c).natAbs ≤ 16777216) (h2 : (b + d).natAbs ≤ 16777216) :
    ZP (adW p q) (a + c) (b + d) := by
  obtain ⟨x, y, h3, r1, r2⟩ := addC_spec hp.f1 hp.f2 hq.f1 hq.f2
  have e1 : V single p.1 + V single q.1 = ((a + c : Int) : Rat) := by rw [hp.v1, hq.v1, Rat.intCast_add]
  have e2 : V single p.2 + V single q.2 = ((b + d : Int) : Rat) := by rw [hp.v2, hq.v2, Rat.intCast_add]
  have hL : hugeQ ≤ lim single := by have := lim32_big; have := hugeQ_one; grind
  rw [e1] at r1
  rw [e2] at r2
  have r1 := r1 (within_mono (int_lim h1) hL)
  have r2 := r2 (within_mono (int_lim h2) hL)
  have e : adW p q = (x, y) := by unfold adW; rw [h3]; rfl
  rw [e]
  exact ⟨r1.fin, r2.fin, rnd_int r1 h1, rnd_int r2 h2⟩
theorem ZP.zero : ZP (0, 0) 0 0 := by
  have z := zero_fin .f32
  rw [fmt32] at z
  exact ⟨z.1, z.1, z.2, z.2⟩
end Go.FV
namespace Go.Proofs.Ytapncffjfaddgaa
open Go.RowKit Go.FR Go.FV
theorem ZP.eqP {p q : Nat × Nat} {a b : Int} (hp : ZP p a b) (hq : ZP q a b) : FinP p ∧ FinP q ∧ EqP p q :=
  ⟨⟨hp.f1, hp.f2⟩, ⟨hq.f1, hq.f2⟩, by rw [hp.v1, hq.v1], by rw [hp.v2, hq.v2]⟩
theorem SmInt.zp {p : Nat × Nat} (h : ∃ m n : Int, m.natAbs ≤ 10 ∧ n.natAbs ≤ 10 ∧ Fin Ieee.single p.1 ∧ V Ieee.single p.1 = (m : Rat) ∧ Fin Ieee.single p.2 ∧ V Ieee.single p.2 = (n : Rat)) : ∃ m n : Int, m.natAbs ≤ 10 ∧ n.natAbs ≤ 10 ∧ ZP p m n := by
  obtain ⟨m, n, h1, h2, h3, h4, h5, h6⟩ := h
  exact ⟨m, n, h1, h2, h3, h5, h4, h6⟩
end Go.Proofs.Ytapncffjfaddgaa
