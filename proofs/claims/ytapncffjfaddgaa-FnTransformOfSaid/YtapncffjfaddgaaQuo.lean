/- The quotient of a complex64 number and a whole number of points. -/
import Derived.Test.YtapncffjfaddgaaZts
namespace Go.FR
open Ieee
/-- '/' of two complex64 numbers, as a function of their words (its main road). -/
def quoC (a b c d : Nat) : Option (Nat × Nat) :=
  (cConvBits .f32 a b .f64).bind fun p => (cConvBits .f32 c d .f64).bind fun q => (cQuoBits p.1 p.2 q.1 q.2).bind fun r => cConvBits .f64 r.1 r.2 .f32
section
variable {P : Program} (w : World)
theorem run_quotient {a b c d e f : Nat} (hge : absGe c d = true) (h : cQuoBits a b c d = some (e, f)) : (Op.Complex.quotient a b c d).run P w = .ok (e, f) w := by
  unfold cQuoBits at h
  simp only at h
  rw [if_pos hge] at h
  obtain ⟨⟨e', f'⟩, hef, hfin⟩ := bind_some h
  obtain ⟨ratio, h1, hef⟩ := bind_some hef
  obtain ⟨rd, h2, hef⟩ := bind_some hef
  obtain ⟨denom, h3, hef⟩ := bind_some hef
  obtain ⟨br, h4, hef⟩ := bind_some hef
  obtain ⟨n1, h5, hef⟩ := bind_some hef
  obtain ⟨e1, h6, hef⟩ := bind_some hef
  obtain ⟨ar, h7, hef⟩ := bind_some hef
  obtain ⟨n2, h8, hef⟩ := bind_some hef
  obtain ⟨f1, h9, hef⟩ := bind_some hef
  cases hef
  split at hfin
  · rename_i hnn
    cases hfin
    exact run_quotient_ge w hge h1 h2 h3 h4 h5 h6 h7 h8 h9 hnn
  · cases hfin
theorem run_quoC (t : TypeId) {a b c d x y : Nat} (hge : ∀ p : Nat × Nat, cConvBits .f32 c d .f64 = some p → absGe p.1 p.2 = true) (h : quoC a b c d = some (x, y)) :
    (binOp .quo t (.complex .f32 a b) (.complex .f32 c d)).run P w = .ok (.complex .f32 x y) w := by
  unfold quoC at h
  obtain ⟨p, h1, h⟩ := bind_some h
  obtain ⟨q, h2, h⟩ := bind_some h
  obtain ⟨r, h3, h⟩ := bind_some h
  have hg := hge q h2
  obtain ⟨p1, p2⟩ := conv_parts h1
  obtain ⟨q1, q2⟩ := conv_parts h2
  obtain ⟨r1, r2⟩ := conv_parts h
  obtain ⟨re, im⟩ := r
  have e : binOp .quo t (.complex .f32 a b) (.complex .f32 c d) = Op.complexOp .quo .f32 a b c d := by simp [binOp]
  rw [e]
  unfold Op.complexOp
  simp only [Sem.run_bind, run_cconv w p1, run_cconv w p2, run_cconv w q1, run_cconv w q2, Result.andThen_ok]
  simp [run_quotient w hg h3, run_cconv w r1, run_cconv w r2]
end
end Go.FR
namespace Go.FV
open Ieee Go.FR

/-- The words of 1, 2, 4, 8, 16. -/
def ptW (n : Nat) : Nat := floatOfInt .f32 (n : Int)
theorem pt_facts : ∀ n ∈ [1, 2, 4, 8, 16], finB (ptW n) = true ∧ V single (ptW n) = ((n : Nat) : Rat) ∧ absGe (up64 (ptW n)) (up64 0) = true ∧ up64 0 = 0 ∧
    floatBits .quo .f64 0 (up64 (ptW n)) = some 0 ∧ floatBits .mul .f64 0 0 = some 0 ∧ floatBits .add .f64 (up64 (ptW n)) 0 = some (up64 (ptW n)) := by decide +kernel

/-- A finite float64 word times 0; added to it, it is as before, by value. -/
theorem zero_terms {x : Nat} (hx : Fin double x) : ∃ z, floatBits .mul .f64 x 0 = some z ∧ Fin double z ∧ V double z = 0 := by
  have z := zero_fin .f64
  rw [fmt64] at z
  obtain ⟨r, h1, h2⟩ := mul_rnd good64 hx z.1
  have hv : V double x * V double 0 = 0 := by rw [z.2, Rat.mul_zero]
  have hl : Within (V double x * V double 0) (lim double) := by
    rw [hv]; have := lim64_ge; have := p2_pos 512; unfold Within; constructor <;> grind
  have hr := h2 hl
  refine ⟨r, h1, hr.fin, ?_⟩
  have := hr.exact 0 0 (by rw [lp64]; omega) (by rw [hv]; simp) (by simp)
  rw [this, hv]
theorem add_zero_some {x z : Nat} (hx : Fin single x) (hz : Fin double z) (hv : V double z = 0) : (∃ r, floatBits .add .f64 (up64 x) z = some r ∧ Fin double r ∧ V double r = V single x) ∧ (∃ r, floatBits .sub .f64 (up64 x) z = some r ∧ Fin double r ∧ V double r = V single x) := by
  obtain ⟨_, f1, v1⟩ := up64_val hx
  obtain ⟨k, q, h1, h2, h3⟩ := V_short single x hx
  have hw : Within (V single x) (lim double) := within_mono (V_le32 x hx) (by
    have h1 := lim64_ge
    have h2 : p2 128 ≤ p2 512 := p2_mono (by omega)
    grind)
  constructor
  · obtain ⟨r, e1, e2⟩ := add_rnd good64 f1 hz
    rw [v1, hv, Rat.add_zero] at e2
    have hr := e2 hw
    exact ⟨r, e1, hr.fin, hr.exact k q (by rw [lp64]; rw [lp32] at h3; omega) h1 (by rw [b64]; rw [b32] at h2; omega)⟩
  · obtain ⟨r, e1, e2⟩ := sub_rnd good64 f1 hz
    have e0 : V single x - 0 = V single x := by grind
    rw [v1, hv, e0] at e2
    have hr := e2 hw
    exact ⟨r, e1, hr.fin, hr.exact k q (by rw [lp64]; rw [lp32] at h3; omega) h1 (by rw [b64]; rw [b32] at h2; omega)⟩
/-- What a quotient's part is: q exact, d cut, then rounded twice. -/
def Qd (q : Rat) (r : Nat) : Prop := ∃ d e, (Within (18014398509481984 * (d - q)) q ∨ Within (18014398509481984 * (d - q)) (-q)) ∧ (∀ k : Int, q = (k : Rat) → k.natAbs < 9007199254740992 → d = q) ∧ Rnd double d e ∧ Rnd single (V double e) r
theorem quo_part {m : Nat} {N : Nat} (hN : N ∈ [1, 2, 4, 8, 16]) (hm : Fin double m) {q b : Rat} (hq : q * (N : Rat) = V double m) (hb : Within q b) (hb1 : 1 ≤ b) (hbq : b + b / 1000 ≤ hugeQ) :
    ∃ e r, floatBits .quo .f64 m (up64 (ptW N)) = some e ∧ Fin double e ∧ floatToFloatBits .f64 e .f32 = some r ∧ Qd q r := by
  obtain ⟨g1, g2, _⟩ := pt_facts N hN
  obtain ⟨_, f2, v2⟩ := up64_val g1
  rw [g2] at v2
  have hN0 : (0 : Rat) < (N : Rat) := by
    have : 0 < N := by simp only [List.mem_cons, List.not_mem_nil, or_false] at hN; omega
    exact_mod_cast this
  obtain ⟨e, q', d, h1, h2, h3, h4, h5⟩ := div_rnd good64 hm f2 (by rw [v2]; grind)
  have hqq : q' = q := by
    rw [v2, ← hq] at h2
    have h0 : (N : Rat) ≠ 0 := by grind
    have := congrArg (fun x => x * (N : Rat)⁻¹) h2
    simp only [Rat.mul_assoc, Rat.mul_inv_cancel _ h0, Rat.mul_one] at this
    exact this
  subst hqq
  have ep : ((2 ^ (double.fractionBits + 2) : Nat) : Rat) = 18014398509481984 := by decide +kernel
  rw [ep] at h3
  have hlim : hugeQ ≤ lim double := by
    have h1 := lim64_ge
    have h2 : p2 128 ≤ p2 512 := p2_mono (by omega)
    unfold hugeQ
    have := p2_pos 128
    grind
  have hd : Within d hugeQ := by
    rcases h3 with h | h <;> unfold Within at * <;> constructor <;> grind
  have hr := h5 (within_mono hd hlim)
  obtain ⟨r, e1, e', e2, e3⟩ := rd_some hr hd
  have hl : Within (V double e) (lim single) := by
    have a := err64 hr hd hugeQ_one
    have := lim32_big
    have := hugeQ_one
    unfold Within at *; constructor <;> grind
  obtain ⟨r2, e4, e5⟩ := down_some hr.fin hl
  have ed2 : (2 ^ (double.fractionBits + 1) : Nat) = 9007199254740992 := by decide
  rw [ed2] at h4
  exact ⟨e, r2, h1, hr.fin, e4, d, e, h3, h4, hr, e5⟩

/-- The quotient of a complex64 number and a number of points, by words. -/
def quW (p : Nat × Nat) (N : Nat) : Nat × Nat := (quoC p.1 p.2 (ptW N) 0).getD (0, 0)
theorem quo_spec {p : Nat × Nat} {N : Nat} {q1 q2 b : Rat} (hN : N ∈ [1, 2, 4, 8, 16]) (f1 : Fin single p.1) (f2 : Fin single p.2) (h1 : q1 * (N : Rat) = V single p.1) (h2 : q2 * (N : Rat) = V single p.2)
    (b1 : Within q1 b) (b2 : Within q2 b) (hb1 : 1 ≤ b) (hbq : b + b / 1000 ≤ hugeQ) :
    quoC p.1 p.2 (ptW N) 0 = some ((quW p N).1, (quW p N).2) ∧ Qd q1 (quW p N).1 ∧ Qd q2 (quW p N).2 := by
  obtain ⟨g1, g2, g3, g4, g5, g6, g7⟩ := pt_facts N hN
  obtain ⟨c1, d1, v1⟩ := up64_val f1
  obtain ⟨c2, d2, v2⟩ := up64_val f2
  obtain ⟨br, m1, m2, m3⟩ := zero_terms d2
  obtain ⟨ar, l1, l2, l3⟩ := zero_terms d1
  obtain ⟨⟨n1, k1, k2, k3⟩, _⟩ := add_zero_some f1 m2 m3
  obtain ⟨_, ⟨n2, i1, i2, i3⟩⟩ := add_zero_some f2 l2 l3
  obtain ⟨e, x, o1, o2, o3, o4⟩ := quo_part hN k2 (q := q1) (by rw [k3]; exact h1) b1 hb1 hbq
  obtain ⟨f, y, p1, p2, p3, p4⟩ := quo_part hN i2 (q := q2) (by rw [i3]; exact h2) b2 hb1 hbq
  have z := zero_fin .f32
  rw [fmt32] at z
  have cz0 := (up64_val z.1).1
  rw [g4] at cz0
  have hnn : (!(Op.Complex.isNaN e && Op.Complex.isNaN f)) = true := by
    have : Op.Complex.isNaN e = false := by
      unfold Op.Complex.isNaN FloatKind.decode
      rw [fmt64]
      unfold Fin at o2
      generalize double.read e = d at *
      cases d <;> simp_all [isNum, Datum.isNaN]
    rw [this]; rfl
  have key : quoC p.1 p.2 (ptW N) 0 = some (x, y) := by
    unfold quoC cConvBits cQuoBits
    rw [g4] at g3
    simp only [c1, c2, (up64_val g1).1, cz0, Option.bind_some, g3, if_true, g5, g6, g7, m1, k1, o1, l1, i1, p1, hnn, o3, p3]
  have e' : quW p N = (x, y) := by unfold quW; rw [key]; rfl
  rw [e']
  exact ⟨key, o4, p4⟩
end Go.FV
