/- Complex products, sums and quotients of complex64 numbers: word by word, and by value. -/
import Derived.Test.YtapncffjfaddgaaWide
namespace Go.FR
open Ieee

/-- '*' of two complex64 numbers, as a function of their words. -/
def mulC (a b c d : Nat) : Option (Nat × Nat) :=
  (cConvBits .f32 a b .f64).bind fun p => (cConvBits .f32 c d .f64).bind fun q => (cMulBits p.1 p.2 q.1 q.2).bind fun r => cConvBits .f64 r.1 r.2 .f32

section
variable {P : Program} (w : World)
theorem run_cconv {s k : FloatKind} {b r : Nat} (h : floatToFloatBits s b k = some r) : (Op.Complex.conv s b k).run P w = .ok r w := by
  unfold Op.Complex.conv
  split
  · rename_i e
    unfold floatToFloatBits at h
    rw [if_pos e] at h
    injection h with h
    rw [h]; rfl
  · simp [run_floatToFloat w h]
theorem conv_parts {s k : FloatKind} {a b : Nat} {r : Nat × Nat} (h : cConvBits s a b k = some r) : floatToFloatBits s a k = some r.1 ∧ floatToFloatBits s b k = some r.2 := by
  unfold cConvBits at h
  obtain ⟨x, h1, h⟩ := bind_some h
  obtain ⟨y, h2, h⟩ := bind_some h
  cases h
  exact ⟨h1, h2⟩
theorem run_product {a b c d re im : Nat} (h : cMulBits a b c d = some (re, im)) : (Op.Complex.product a b c d).run P w = .ok (re, im) w := by
  unfold cMulBits at h
  obtain ⟨ac, h1, h⟩ := bind_some h
  obtain ⟨bd, h2, h⟩ := bind_some h
  obtain ⟨e, h3, h⟩ := bind_some h
  obtain ⟨ad, h4, h⟩ := bind_some h
  obtain ⟨bc, h5, h⟩ := bind_some h
  obtain ⟨f, h6, h⟩ := bind_some h
  cases h
  unfold Op.Complex.product
  simp only [Sem.run_bind, Op.Complex.mul, Op.Complex.sub, Op.Complex.add, run_carith w h1, run_carith w h2, run_carith w h3, run_carith w h4, run_carith w h5, run_carith w h6, Result.andThen_ok, Sem.run_pure]
theorem run_mulC (t : TypeId) {a b c d x y : Nat} (h : mulC a b c d = some (x, y)) :
    (binOp .mul t (.complex .f32 a b) (.complex .f32 c d)).run P w = .ok (.complex .f32 x y) w := by
  unfold mulC at h
  obtain ⟨p, h1, h⟩ := bind_some h
  obtain ⟨q, h2, h⟩ := bind_some h
  obtain ⟨r, h3, h⟩ := bind_some h
  obtain ⟨p1, p2⟩ := conv_parts h1
  obtain ⟨q1, q2⟩ := conv_parts h2
  obtain ⟨r1, r2⟩ := conv_parts h
  obtain ⟨re, im⟩ := r
  have e : binOp .mul t (.complex .f32 a b) (.complex .f32 c d) = Op.complexOp .mul .f32 a b c d := by simp [binOp]
  rw [e]
  unfold Op.complexOp
  simp only [Sem.run_bind, run_cconv w p1, run_cconv w p2, run_cconv w q1, run_cconv w q2, Result.andThen_ok]
  simp [run_product w h3, run_cconv w r1, run_cconv w r2]
end
end Go.FR
namespace Go.FV
open Ieee Go.FR

/-- A bound under which no product is too great. -/
def hugeQ : Rat := 29 / 32 * p2 128
/-- Rounded in float64, and then in float32. -/
def Rd (v : Rat) (r : Nat) : Prop := ∃ e, Rnd double v e ∧ Rnd single (V double e) r

theorem hugeQ_one : 1 ≤ hugeQ := by unfold hugeQ; decide +kernel
theorem lim32_big : hugeQ + hugeQ / 1000 ≤ lim single := by rw [lim32_eq]; unfold hugeQ; have := p2_pos 128; grind
theorem small64 : p2 double.leastPlace * (double.binade : Rat) ≤ 1 := by rw [lp64, b64]; decide +kernel
theorem small32 : p2 single.leastPlace * (single.binade : Rat) ≤ 1 := by rw [lp32, b32]; decide +kernel
theorem b64q : (double.binade : Rat) = 4503599627370496 := by rw [b64]; decide +kernel
theorem b32q : (single.binade : Rat) = 8388608 := by rw [b32]; decide +kernel

/-- The error of one rounding. -/
theorem err64 {v b : Rat} {r : Nat} (h : Rnd double v r) (hb : Within v b) (h1 : 1 ≤ b) : Within (9007199254740992 * (V double r - v)) b := by
  have := h.err_le hb (by have := small64; grind)
  rw [b64q] at this
  have e : (2 : Rat) * 4503599627370496 = 9007199254740992 := by decide +kernel
  rw [e] at this; exact this
theorem err32 {v b : Rat} {r : Nat} (h : Rnd single v r) (hb : Within v b) (h1 : 1 ≤ b) : Within (16777216 * (V single r - v)) b := by
  have := h.err_le hb (by have := small32; grind)
  rw [b32q] at this
  have e : (2 : Rat) * 8388608 = 16777216 := by decide +kernel
  rw [e] at this; exact this
theorem Rd.fin {v : Rat} {r : Nat} (h : Rd v r) : Fin single r := by obtain ⟨e, _, h2⟩ := h; exact h2.fin
/-- The error of both. -/
theorem Rd.err {v b : Rat} {r : Nat} (h : Rd v r) (hb : Within v b) (h1 : 1 ≤ b) : Within (8388608 * (V single r - v)) b := by
  obtain ⟨e, h2, h3⟩ := h
  have a := err64 h2 hb h1
  have hb2 : Within (V double e) (2 * b) := by unfold Within at *; constructor <;> grind
  have c := err32 h3 hb2 (by grind)
  have hb3 : Within (V double e) (b + b / 9007199254740992) := by unfold Within at *; constructor <;> grind
  have c := err32 h3 hb3 (by grind)
  unfold Within at *
  constructor <;> grind
theorem Rd.exact {v : Rat} {r : Nat} (h : Rd v r) (k q : Int) (hq : -149 ≤ q) (hv : v = (k : Rat) * p2 q) (hk : k.natAbs ≤ 16777216) : V single r = v := by
  obtain ⟨e, h2, h3⟩ := h
  have e1 := h2.exact k q (by rw [lp64]; omega) hv (by rw [b64]; omega)
  rw [e1] at h3
  exact h3.exact k q (by rw [lp32]; exact hq) hv (by rw [b32]; omega)

/-- A float64 that is not too great, narrowed. -/
theorem down_some {e : Nat} (he : Fin double e) (hl : Within (V double e) (lim single)) : ∃ r, floatToFloatBits .f64 e .f32 = some r ∧ Rnd single (V double e) r := by
  have hw := rnd_write good32 (d := double.read e) he hl
  refine ⟨single.write (double.read e), ?_, hw⟩
  unfold floatToFloatBits FloatKind.decode FloatKind.encode
  rw [if_neg (by decide), fmt32, fmt64]
  have hf : isNum (single.read (single.write (double.read e))) = true := hw.fin
  unfold Fin at he
  generalize double.read e = d at *
  cases d with
  | infinity s => simp [isNum] at he
  | nan s t => simp [isNum] at he
  | number sg m i => simp [isInfinity_of_num hf]
theorem rd_some {v : Rat} {e : Nat} (h : Rnd double v e) (hv : Within v hugeQ) : ∃ r, floatToFloatBits .f64 e .f32 = some r ∧ Rd v r := by
  have a := err64 h hv hugeQ_one
  have hl : Within (V double e) (lim single) := by
    have := lim32_big
    have := hugeQ_one
    unfold Within at *; constructor <;> grind
  obtain ⟨r, h1, h2⟩ := down_some h.fin hl
  exact ⟨r, h1, e, h, h2⟩

/-- The product of two finite float32 numbers, in float64: exact. -/
theorem mul_up {a c : Nat} (ha : Fin single a) (hc : Fin single c) : ∃ r, floatBits .mul .f64 (up64 a) (up64 c) = some r ∧ Fin double r ∧ V double r = V single a * V single c := by
  obtain ⟨h1, f1, v1⟩ := up64_val ha
  obtain ⟨h2, f2, v2⟩ := up64_val hc
  obtain ⟨r, h3, _⟩ := mul_rnd good64 f1 f2
  have b1 : floatBits .mul .f64 (up64 a) (up64 c) = some r := h3
  have k1 : FCv .f32 a .f64 (up64 a) := by unfold FCv; rw [h1]
  have k2 : FCv .f32 c .f64 (up64 c) := by unfold FCv; rw [h2]
  have hr : FRes .mul .f64 (up64 a) (up64 c) r := by unfold FRes; rw [b1]
  have := mul_up_val ha hc k1 k2 hr
  exact ⟨r, b1, this.1, this.2⟩

/-- '*' of two finite complex64 numbers whose product is not too great. -/
theorem mulC_spec {a b c d : Nat} (ha : Fin single a) (hb : Fin single b) (hc : Fin single c) (hd : Fin single d)
    (h1 : Within (V single a * V single c - V single b * V single d) hugeQ) (h2 : Within (V single a * V single d + V single b * V single c) hugeQ) :
    ∃ x y, mulC a b c d = some (x, y) ∧ Rd (V single a * V single c - V single b * V single d) x ∧ Rd (V single a * V single d + V single b * V single c) y := by
  obtain ⟨ac, e1, f1, v1⟩ := mul_up ha hc
  obtain ⟨bd, e2, f2, v2⟩ := mul_up hb hd
  obtain ⟨ad, e3, f3, v3⟩ := mul_up ha hd
  obtain ⟨bc, e4, f4, v4⟩ := mul_up hb hc
  have hlim : hugeQ ≤ lim double := by
    have h1 := lim64_ge
    have h2 : p2 128 ≤ p2 512 := p2_mono (by omega)
    unfold hugeQ
    have := p2_pos 128
    grind
  obtain ⟨e, e5, r5⟩ := sub_rnd good64 f1 f2
  obtain ⟨f, e6, r6⟩ := add_rnd good64 f3 f4
  rw [v1, v2] at r5
  rw [v3, v4] at r6
  have r5 := r5 (within_mono h1 hlim)
  have r6 := r6 (within_mono h2 hlim)
  obtain ⟨x, e7, r7⟩ := rd_some r5 h1
  obtain ⟨y, e8, r8⟩ := rd_some r6 h2
  refine ⟨x, y, ?_, r7, r8⟩
  have b5 : floatBits .sub .f64 ac bd = some e := e5
  have b6 : floatBits .add .f64 ad bc = some f := e6
  unfold mulC cConvBits cMulBits
  simp only [(up64_val ha).1, (up64_val hb).1, (up64_val hc).1, (up64_val hd).1, Option.bind_some, e1, e2, e3, e4, b5, b6, e7, e8]

/-- '+' of two finite complex64 numbers. -/
theorem addC_spec {a b c d : Nat} (ha : Fin single a) (hb : Fin single b) (hc : Fin single c) (hd : Fin single d) :
    ∃ x y, cSumBits .add .f32 a b c d = some (x, y) ∧ (Within (V single a + V single c) (lim single) → Rnd single (V single a + V single c) x) ∧ (Within (V single b + V single d) (lim single) → Rnd single (V single b + V single d) y) := by
  obtain ⟨x, e1, r1⟩ := add_rnd good32 ha hc
  obtain ⟨y, e2, r2⟩ := add_rnd good32 hb hd
  have b1 : floatBits .add .f32 a c = some x := e1
  have b2 : floatBits .add .f32 b d = some y := e2
  refine ⟨x, y, ?_, r1, r2⟩
  unfold cSumBits
  simp only [b1, b2, Option.bind_some]
end Go.FV
