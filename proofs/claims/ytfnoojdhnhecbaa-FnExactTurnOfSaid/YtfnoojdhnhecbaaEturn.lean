/- The walks of the exact laws of TurnOf and Milli. -/
import Derived.Test.YtfnoojdhnhecbaaTurn
import Derived.Test.YtfnoojdhnhecbaaMilli
import Derived.Test.YtfnoojdhnhecbaaSame
namespace Go.Proofs.Ytfnoojdhnhecbaa
open Go.RowKit Go.FR Go.FV

theorem turnL_fin : ∀ p ∈ turnL, FV.Fin Ieee.single p.1 ∧ FV.Fin Ieee.single p.2 := by
  unfold FV.Fin; decide +kernel
theorem turnF_fin (k : Int) : FV.Fin Ieee.single (turnF k).1 ∧ FV.Fin Ieee.single (turnF k).2 := by
  have h0 : FV.Fin Ieee.single 0 := (zero_fin .f32).1
  unfold turnF
  split
  · unfold turnT
    rw [List.getD_eq_getElem?_getD]
    cases h : turnL[(k % 16).toNat]? with
    | none => exact ⟨h0, h0⟩
    | some p => exact turnL_fin p (List.mem_of_getElem? h)
  · exact ⟨h0, h0⟩

set_option maxHeartbeats 400000 in
theorem law_FnExactTurnOf (a0 : Int) (_w0 : (Lit.int .i64 a0).wf = true) (w : World) :
    Calls Try.prog 7 #[.int .i64 a0] w fun e w' => e = .returned (.bool true) ∧ Below w.heap.size w w' := by
  obtain ⟨h1, h2⟩ := turnF_fin a0
  obtain ⟨x, y, hx, hy, hxy⟩ := widened_same Try.prog _ _ h1 h2
  have hX := fun w => (hxy w).1
  have hY := fun w => (hxy w).2
  clear hxy h1 h2
  go_enter Try.func7, Try.ntmps7
  go_wp2_with (first | (go_at_call 16; refine (sturn_any _ _).mono ?_; rintro e w1 ⟨rfl, hb1⟩; unfold cx) | (go_at_call 17; refine (turn_any _ _).mono ?_; rintro e w2 ⟨rfl, hb2⟩; unfold cx) | (go_at_call 13; refine (sameComplex_self _ _ _ (by assumption) (by assumption)).mono ?_; rintro e w' ⟨rfl, n, rfl⟩))
  go_ret
  exact ⟨rfl, below_drewN' (hb1.trans (hb2.mono hb1.size)) _⟩

theorem milliF_fin (re im : Int) : FV.Fin Ieee.single (milliF re im).1 ∧ FV.Fin Ieee.single (milliF re im).2 := by
  have h0 : FV.Fin Ieee.single 0 := (zero_fin .f32).1
  unfold milliF
  split
  · rename_i h
    exact ⟨(milli_res re ⟨h.1, h.2.1⟩).2, (milli_res im h.2.2).2⟩
  · exact ⟨h0, h0⟩

set_option maxHeartbeats 400000 in
theorem law_FnExactMilli (a0 : Int) (a1 : Int) (_w0 : (Lit.int .i64 a0).wf = true) (_w1 : (Lit.int .i64 a1).wf = true) (w : World) :
    Calls Try.prog 5 #[.int .i64 a0, .int .i64 a1] w fun e w' => e = .returned (.bool true) ∧ Below w.heap.size w w' := by
  obtain ⟨h1, h2⟩ := milliF_fin a0 a1
  obtain ⟨x, y, hx, hy, hxy⟩ := widened_same Try.prog _ _ h1 h2
  have hX := fun w => (hxy w).1
  have hY := fun w => (hxy w).2
  clear hxy h1 h2
  go_enter Try.func5, Try.ntmps5
  go_wp2_with (first | (go_at_call 11; refine (smilli_any _ _ _).mono ?_; rintro e w1 ⟨rfl, n1, rfl⟩; unfold cx) | (go_at_call 12; refine (milli_any _ _ _).mono ?_; rintro e w2 ⟨rfl, n2, rfl⟩; unfold cx) | (go_at_call 13; refine (sameComplex_self _ _ _ (by assumption) (by assumption)).mono ?_; rintro e w' ⟨rfl, n, rfl⟩))
  go_ret
  exact ⟨rfl, below_drewN' (Below.refl _ _) _⟩
end Go.Proofs.Ytfnoojdhnhecbaa
