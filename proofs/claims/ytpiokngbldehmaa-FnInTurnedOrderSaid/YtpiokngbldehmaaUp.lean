/- Finite complex64 numbers widened to complex128. -/
import Derived.Test.YtpiokngbldehmaaFv
namespace Go.FV
open Go.FR

/-- A finite float32 word, widened: always to the same finite float64 word, and the world stays as it is. -/
theorem up_bits (c : Nat) (hc : Fin Ieee.single c) : ∃ v, floatToFloatBits .f32 c .f64 = some v ∧ Fin Ieee.double v ∧ V Ieee.double v = V Ieee.single c := by
  have hs : ∃ v, floatToFloatBits .f32 c .f64 = some v := by
    cases h : floatToFloatBits .f32 c .f64 with
    | some v => exact ⟨v, rfl⟩
    | none =>
      exfalso
      have hl : Within (V Ieee.single c) (lim Ieee.double) := within_mono (V_le32 c hc) (by
        have h1 := lim64_ge
        have h2 : p2 128 ≤ p2 512 := p2_mono (by omega)
        grind)
      have hfin := (rnd_write good64 (d := Ieee.single.read c) hc hl).fin
      unfold floatToFloatBits at h
      rw [if_neg (by decide)] at h
      unfold FloatKind.decode FloatKind.encode at h
      unfold Fin at hc hfin
      rw [fmt32, fmt64] at h
      generalize Ieee.single.read c = d at *
      cases d with
      | infinity s => simp [isNum] at hc
      | nan s t => simp [isNum] at hc
      | number sg m e => simp [isInfinity_of_num hfin] at h
  obtain ⟨v, hv⟩ := hs
  obtain ⟨h1, h2⟩ := up_val hc (r := v) (by unfold FCv; rw [hv])
  exact ⟨v, hv, h1, h2⟩
/-- A finite complex64 number, widened. -/
theorem up_pair (P : Program) (src dst : TypeId) (hs : (P.underlying src).isSome = true) (hd : P.underlying dst = some (.complex .f64)) (a b : Nat) (ha : Fin Ieee.single a) (hb : Fin Ieee.single b) :
    ∃ x y, Fin Ieee.double x ∧ Fin Ieee.double y ∧ V Ieee.double x = V Ieee.single a ∧ V Ieee.double y = V Ieee.single b ∧ ∀ w : World, (convert src dst (.complex .f32 a b)).run P w = .ok (.complex .f64 x y) w := by
  obtain ⟨x, hx, h1, h2⟩ := up_bits a ha
  obtain ⟨y, hy, h3, h4⟩ := up_bits b hb
  exact ⟨x, y, h1, h3, h2, h4, fun w => run_convert_complex w src dst .f32 .f64 a b x y hs hd (by unfold cConvBits; rw [hx, hy]; rfl)⟩
end Go.FV
