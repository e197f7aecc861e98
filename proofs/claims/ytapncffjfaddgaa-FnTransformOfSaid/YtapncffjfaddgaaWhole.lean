/- Whole numbers among the drawn ones: the laws' own test. -/
import Derived.Test.YtapncffjfaddgaaMof
import Derived.Test.YtapncffjfaddgaaSsig
import Derived.Test.YtapncffjfaddgaaDraws
namespace Go.Proofs.Ytapncffjfaddgaa
open Go.RowKit Go.FR Go.FV

/-- The word of a whole number from -10 on and at most 10 (or of -0). -/
def wholeL : List Nat := 2147483648 :: (List.range 21).map fun (i : Nat) => milliW (((i : Int) - 10) * 1000)
/-- What 'whole' asks of a part. -/
def wholeW (x : Nat) : Bool := ((rd x).tmod 1000 == 0) && (FloatKind.f32.format.order x (milliW (rd x)) == some .eq)
theorem wholeW_in : ∀ x ∈ smallL, wholeW x = true → x ∈ wholeL := by decide +kernel
theorem rd_small : ∀ x ∈ smallL, -10000 ≤ rd x ∧ rd x ≤ 10000 := by decide +kernel
/-- It stands for a whole number from -10 on and at most 10. -/
def IntV (x : Nat) (n : Int) : Prop := finB x = true ∧ V Ieee.single x = (n : Rat)
theorem wholeL_V : ∀ x ∈ wholeL, ∃ n ∈ (List.range 21).map (fun (i : Nat) => (i : Int) - 10), finB x = true ∧ V Ieee.single x = (n : Rat) := by decide +kernel
theorem wholeL_int {x : Nat} (h : x ∈ wholeL) : ∃ n : Int, -10 ≤ n ∧ n ≤ 10 ∧ IntV x n := by
  obtain ⟨n, hn, h1⟩ := wholeL_V x h
  obtain ⟨i, hi, rfl⟩ := List.mem_map.1 hn
  have := List.mem_range.1 hi
  exact ⟨_, by omega, by omega, h1⟩
/-- Both parts are whole numbers from -10 on and at most 10. -/
def WholeP (p : Nat × Nat) : Prop := p.1 ∈ wholeL ∧ p.2 ∈ wholeL

set_option maxHeartbeats 1600000 in
theorem whole_any (p : Nat × Nat) (most : Int) (w : World) (h : NumOk p) (hm : 10 ≤ most) (hm1 : most ≤ 1000) :
    Calls Try.prog 40 #[cx p, .int .i64 most] w fun e w' => ∃ b, e = .returned (.bool b) ∧ (b = true → WholeP p) ∧ ∃ m, w' = w.drewN m := by
  rcases h with hs | hh
  · have hmo := moV_small hs
    have HS := Lib.hid hs
    obtain ⟨x, y⟩ := p
    obtain ⟨hx, hy⟩ := hs
    simp only at hx hy hmo
    obtain ⟨x1, x2⟩ := rd_small x hx
    obtain ⟨y1, y2⟩ := rd_small y hy
    have hF : milliF (rd x) (rd y) = (milliW (rd x), milliW (rd y)) := by unfold milliF; rw [if_pos (by omega)]
    have hWx := wholeW_in x hx
    have hWy := wholeW_in y hy
    have HM := Lib.hid hmo
    have HF := Lib.hid hF
    unfold wholeW at hWx hWy
    have HWx := Lib.hid hWx
    have HWy := Lib.hid hWy
    clear hWx hWy hmo hF hx hy
    generalize rd x = rx at *
    generalize rd y = ry at *
    generalize milliW rx = X at *
    generalize milliW ry = Y at *
    unfold cx
    simp only
    cases b1 : (rx.tmod 1000 == 0)
    · go_enter Try.func40, Try.ntmps40
      go_wp2_with (go_at_call 52; refine (smof_small (x, y) _ HS.out).mono ?_; rintro e w' ⟨rfl, n, rfl⟩; rw [HM.out])
      go_ret
      exact ⟨false, rfl, fun h => (by cases h), _, rfl⟩
    cases b2 : (ry.tmod 1000 == 0)
    · go_enter Try.func40, Try.ntmps40
      go_wp2_with (go_at_call 52; refine (smof_small (x, y) _ HS.out).mono ?_; rintro e w' ⟨rfl, n, rfl⟩; rw [HM.out])
      go_ret
      exact ⟨false, rfl, fun h => (by cases h), _, rfl⟩
    cases b3 : (FloatKind.f32.format.order x X == some .eq)
    · go_enter Try.func40, Try.ntmps40
      go_wp2_with (first | (go_at_call 52; refine (smof_small (x, y) _ HS.out).mono ?_; rintro e w' ⟨rfl, n, rfl⟩; rw [HM.out]) | (go_at_call 53; refine (smilli_any _ _ _).mono ?_; rintro e w' ⟨rfl, n2, rfl⟩; rw [HF.out]; unfold cx; simp only))
      go_ret
      exact ⟨false, rfl, fun h => (by cases h), _, rfl⟩
    cases b4 : (FloatKind.f32.format.order y Y == some .eq)
    · go_enter Try.func40, Try.ntmps40
      go_wp2_with (first | (go_at_call 52; refine (smof_small (x, y) _ HS.out).mono ?_; rintro e w' ⟨rfl, n, rfl⟩; rw [HM.out]) | (go_at_call 53; refine (smilli_any _ _ _).mono ?_; rintro e w' ⟨rfl, n2, rfl⟩; rw [HF.out]; unfold cx; simp only))
      go_ret
      exact ⟨false, rfl, fun h => (by cases h), _, rfl⟩
    have hW : WholeP (x, y) := ⟨HWx.out (by rw [b1, b3]; rfl), HWy.out (by rw [b2, b4]; rfl)⟩
    have HW := Lib.hid hW
    clear hW HWx HWy
    go_enter Try.func40, Try.ntmps40
    go_wp2_with (first | (go_at_call 52; refine (smof_small (x, y) _ HS.out).mono ?_; rintro e w' ⟨rfl, n, rfl⟩; rw [HM.out]) | (go_at_call 53; refine (smilli_any _ _ _).mono ?_; rintro e w' ⟨rfl, n2, rfl⟩; rw [HF.out]; unfold cx; simp only))
    go_ret
    exact ⟨_, rfl, fun _ => HW.out, _, rfl⟩
  · have hmo := moV_huge hh
    have HH := Lib.hid hh
    have HM := Lib.hid hmo
    clear hh hmo
    obtain ⟨x, y⟩ := p
    unfold cx
    simp only
    go_enter Try.func40, Try.ntmps40
    go_wp2_with (go_at_call 52; refine (smof_huge (x, y) _ HH.out).mono ?_; rintro e w' ⟨rfl, n, rfl⟩; rw [HM.out])
    go_ret
    exact ⟨false, rfl, fun h => (by cases h), _, rfl⟩
end Go.Proofs.Ytapncffjfaddgaa
