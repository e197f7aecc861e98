/- Milli, the program's and the reference's: the same number, for all arguments. -/
import Derived.Test.YtpiokngbldehmaaInts
import Derived.Test.YtpiokngbldehmaaFv
namespace Go.Proofs.Ytpiokngbldehmaa
open Go.RowKit Go.FR Go.FV

/-- The word of a number of thousandths, ahead of the conversion to float32, and behind it. -/
def milliD (n : Int) : Nat := (floatBits .quo .f64 (floatOfInt .f64 n) 4652007308841189376).getD 0
def milliW (n : Int) : Nat := (floatToFloatBits .f64 (milliD n) .f32).getD 0
def milliF (re im : Int) : Nat × Nat := if -9999999 ≤ re ∧ re ≤ 9999999 ∧ -9999999 ≤ im ∧ im ≤ 9999999 then (milliW re, milliW im) else (0, 0)

theorem thousand : Fin Ieee.double 4652007308841189376 ∧ V Ieee.double 4652007308841189376 = 1000 := by
  have h := ofInt_val 1000 (by decide)
  have e : floatOfInt .f64 1000 = 4652007308841189376 := by decide +kernel
  rw [e] at h
  exact h

/-- A quotient by 1000 of a number of at most 9999999 thousandths: a finite float64 of at most 20000. -/
theorem milli_mid (n : Int) (h : -9999999 ≤ n ∧ n ≤ 9999999) : (∀ r, FRes .quo .f64 (floatOfInt .f64 n) 4652007308841189376 r → r = milliD n) ∧ Fin Ieee.double (milliD n) ∧ Within (V Ieee.double (milliD n)) 30000 := by
  obtain ⟨f1, v1⟩ := ofInt_val n (by omega)
  obtain ⟨f2, v2⟩ := thousand
  have hs : ∃ v, floatBits .quo .f64 (floatOfInt .f64 n) 4652007308841189376 = some v := by
    obtain ⟨r, q, d, h1, _⟩ := div_rnd good64 f1 f2 (by rw [v2]; decide)
    exact ⟨r, h1⟩
  obtain ⟨v, hv⟩ := hs
  have hm : milliD n = v := by unfold milliD; rw [hv]; rfl
  have hr : FRes .quo .f64 (floatOfInt .f64 n) 4652007308841189376 v := by unfold FRes; rw [hv]
  refine ⟨fun r h => by unfold FRes at h; rw [hv] at h; rw [hm]; exact h, ?_⟩
  rw [hm]
  obtain ⟨q, d, hq, hd, _, hrnd⟩ := fres_quo (k := .f64) f1 f2 (by show V Ieee.double _ ≠ 0; rw [v2]; decide) hr
  have hq' : q * 1000 = (n : Rat) := by rw [← v2, ← v1]; exact hq
  have hn := int_within (n := n) (b := 9999999) h
  have hb : ((9999999 : Int) : Rat) = 9999999 := by decide +kernel
  rw [hb] at hn
  have hw : Within q 10000 := by unfold Within at *; constructor <;> grind
  have hd' := hd _ hw
  have hl : Within d (lim Ieee.double) := within_mono hd' (by
    have h1 := lim64_ge
    have h2 : p2 (15 : Nat) ≤ p2 512 := p2_mono (by omega)
    rw [p2_nat] at h2
    have h3 : ((2 ^ 15 : Nat) : Rat) = 32768 := by decide +kernel
    rw [h3] at h2
    grind)
  have hR := hrnd hl
  refine ⟨hR.fin, ?_⟩
  have he := hR.err_le (b := 20000) (within_mono hd' (by decide +kernel)) (by
    show p2 Ieee.double.leastPlace * (Ieee.double.binade : Rat) ≤ 20000
    rw [lp64, b64]
    have h1 : p2 (-1074) ≤ p2 (-52) := p2_mono (by omega)
    have h2 : p2 (-52 : Int) * ((2 ^ 52 : Nat) : Rat) = 1 := by rw [← p2_nat, ← p2_add]; exact p2_zero
    have h3 : ((2 ^ 52 : Nat) : Rat) = (4503599627370496 : Nat) := by decide +kernel
    rw [h3] at h2
    have h4 : (0 : Rat) ≤ ((4503599627370496 : Nat) : Rat) := by decide +kernel
    have := Rat.mul_le_mul_of_nonneg_right h1 h4
    grind)
  have he' : Within (2 * ((4503599627370496 : Nat) : Rat) * (V Ieee.double v - d)) 20000 := by rw [← b64]; exact he
  have hb2 : ((4503599627370496 : Nat) : Rat) = 4503599627370496 := by decide +kernel
  rw [hb2] at he'
  unfold Within at *
  constructor <;> grind

theorem milli_res (n : Int) (h : -9999999 ≤ n ∧ n ≤ 9999999) : (∀ x, FCv .f64 (milliD n) .f32 x → x = milliW n) ∧ Fin Ieee.single (milliW n) := by
  obtain ⟨_, hf, hw⟩ := milli_mid n h
  have hl : Within (V Ieee.double (milliD n)) (lim Ieee.single) := within_mono hw (by
    rw [lim32_eq]
    have h2 : p2 (16 : Nat) ≤ p2 128 := p2_mono (by omega)
    rw [p2_nat] at h2
    have h3 : ((2 ^ 16 : Nat) : Rat) = 65536 := by decide +kernel
    rw [h3] at h2
    grind)
  have hs : ∃ v, floatToFloatBits .f64 (milliD n) .f32 = some v := by
    cases hc : floatToFloatBits .f64 (milliD n) .f32 with
    | some v => exact ⟨v, rfl⟩
    | none =>
      exfalso
      have := rnd_write good32 (d := Ieee.double.read (milliD n)) hf hl
      have hfin := this.fin
      unfold floatToFloatBits at hc
      rw [if_neg (by decide)] at hc
      unfold FloatKind.decode FloatKind.encode at hc
      unfold FV.Fin at hf hfin
      rw [fmt32, fmt64] at hc
      generalize Ieee.double.read (milliD n) = d at *
      cases d with
      | infinity s => simp [isNum] at hf
      | nan s t => simp [isNum] at hf
      | number sg m e => simp [isInfinity_of_num hfin] at hc
  obtain ⟨v, hv⟩ := hs
  have hm : milliW n = v := by unfold milliW; rw [hv]; rfl
  refine ⟨fun x hx => by unfold FCv at hx; rw [hv] at hx; rw [hm]; exact hx, ?_⟩
  rw [hm]
  exact (fcv_rnd (s := .f64) (k := .f32) (by decide) hf hl (by unfold FCv; rw [hv])).fin

/-- What the walk leaves of the two parts. -/
theorem milli_out (P : Program) (w w1 w2 : World) (re im : Int) (h1 : -9999999 ≤ re ∧ re ≤ 9999999) (h2 : -9999999 ≤ im ∧ im ≤ 9999999) :
    Value.complex .f32 (cre (ccV P w .f64 (fqR P w1 .f64 (floatOfInt .f64 re) 4652007308841189376) (fqR P w2 .f64 (floatOfInt .f64 im) 4652007308841189376) .f32))
      (cim (ccV P w .f64 (fqR P w1 .f64 (floatOfInt .f64 re) 4652007308841189376) (fqR P w2 .f64 (floatOfInt .f64 im) 4652007308841189376) .f32)) = cx (milliW re, milliW im) := by
  have e1 := (milli_mid re h1).1 _ (fq_res (P := P) w1 .f64 _ _)
  have e2 := (milli_mid im h2).1 _ (fq_res (P := P) w2 .f64 _ _)
  rw [e1, e2]
  have hc := cc_res (P := P) w .f64 (milliD re) (milliD im) .f32
  rw [(milli_res re h1).1 _ hc.1, (milli_res im h2).1 _ hc.2]
  rfl

set_option maxHeartbeats 400000 in
theorem milli_yes (re im : Int) (w : World) (h1 : -9999999 ≤ re) (h2 : re ≤ 9999999) (h3 : -9999999 ≤ im) (h4 : im ≤ 9999999) :
    Calls Try.prog 41 #[.int .i64 re, .int .i64 im] w fun e w' => e = .returned (cx (milliW re, milliW im)) ∧ ∃ n, w' = w.drewN n := by
  go_enter Try.func41, Try.ntmps41
  go_wp2
  go_ret
  exact ⟨ret_eq (milli_out _ _ _ _ _ _ ⟨h1, h2⟩ ⟨h3, h4⟩), _, rfl⟩
set_option maxHeartbeats 400000 in
theorem milli_no (re im : Int) (w : World) (h : re < -9999999 ∨ 9999999 < re ∨ im < -9999999 ∨ 9999999 < im) :
    Calls Try.prog 41 #[.int .i64 re, .int .i64 im] w fun e w' => e = .returned (cx (0, 0)) ∧ ∃ n, w' = w.drewN n := by
  by_cases h1 : re < -9999999
  · go_enter Try.func41, Try.ntmps41
    go_wp2
    go_ret
    exact ⟨rfl, 0, rfl⟩
  · by_cases h2 : 9999999 < re
    · go_enter Try.func41, Try.ntmps41
      go_wp2
      go_ret
      exact ⟨rfl, 0, rfl⟩
    · by_cases h3 : im < -9999999
      · go_enter Try.func41, Try.ntmps41
        go_wp2
        go_ret
        exact ⟨rfl, 0, rfl⟩
      · have h4 : 9999999 < im := by omega
        clear h
        go_enter Try.func41, Try.ntmps41
        go_wp2
        go_ret
        exact ⟨rfl, 0, rfl⟩
theorem milli_any (re im : Int) (w : World) :
    Calls Try.prog 41 #[.int .i64 re, .int .i64 im] w fun e w' => e = .returned (cx (milliF re im)) ∧ ∃ n, w' = w.drewN n := by
  unfold milliF
  by_cases h : -9999999 ≤ re ∧ re ≤ 9999999 ∧ -9999999 ≤ im ∧ im ≤ 9999999
  · rw [if_pos h]; exact milli_yes re im w h.1 h.2.1 h.2.2.1 h.2.2.2
  · rw [if_neg h]; exact milli_no re im w (by omega)

set_option maxHeartbeats 400000 in
theorem smilli_any (re im : Int) (w : World) :
    Calls Try.prog 55 #[.int .i64 re, .int .i64 im] w fun e w' => e = .returned (cx (milliF re im)) ∧ ∃ n, w' = w.drewN n := by
  unfold milliF
  by_cases h : -9999999 ≤ re ∧ re ≤ 9999999 ∧ -9999999 ≤ im ∧ im ≤ 9999999
  · rw [if_pos h]
    have i1 : inB re (-9999999) 9999999 = true := by unfold inB; rw [decide_eq_true]; omega
    have i2 : inB im (-9999999) 9999999 = true := by unfold inB; rw [decide_eq_true]; omega
    obtain ⟨h1, h2, h3, h4⟩ := h
    go_enter Try.func55, Try.ntmps55
    go_wp2_with (go_at_call 47; refine (l1In_any _ _ _ _).mono ?_; rintro e w' ⟨rfl, rfl⟩)
    go_ret
    exact ⟨ret_eq (milli_out _ _ _ _ _ _ ⟨h1, h2⟩ ⟨h3, h4⟩), _, rfl⟩
  · rw [if_neg h]
    cases i1 : inB re (-9999999) 9999999
    · clear h
      go_enter Try.func55, Try.ntmps55
      go_wp2_with (go_at_call 47; refine (l1In_any _ _ _ _).mono ?_; rintro e w' ⟨rfl, rfl⟩)
      go_ret
      exact ⟨rfl, 0, rfl⟩
    · have i2 : inB im (-9999999) 9999999 = false := by
        unfold inB at *
        rw [decide_eq_true_eq] at i1
        rw [decide_eq_false]; omega
      clear h
      go_enter Try.func55, Try.ntmps55
      go_wp2_with (go_at_call 47; refine (l1In_any _ _ _ _).mono ?_; rintro e w' ⟨rfl, rfl⟩)
      go_ret
      exact ⟨rfl, 0, rfl⟩
end Go.Proofs.Ytpiokngbldehmaa
