/- The draw of FnMilli, and its law's walk. -/
import Derived.Test.YtmnnblhooodnhaaMof
import Derived.Test.YtmnnblhooodnhaaBits
import Derived.Test.YtmnnblhooodnhaaAlive
namespace Go.Proofs.Ytmnnblhooodnhaa
open Go.RowKit Go.FR Go.FV

/-- A drawn number of thousandths, or one that is too great. -/
def PartX (r : Int) : Prop := r ∈ partL ∨ 9990000 ≤ r ∧ r ≤ 10010000 ∧ 9999999 < r + 10000 ∨ r < -9980000 ∧ -10010000 ≤ r

set_option maxHeartbeats 800000 in
theorem drawMilli_any {a : Option Addr} {len cap : Nat} {z : List Int} (w : World) (h : CodeIs w a len cap z) :
    Calls Try.prog 14 #[.slice a len cap] w fun e w' => ∃ x y u v : Int, e = .returned (.tuple #[.int .i64 (x + u * 10000000), .int .i64 (y - v * 10000000)]) ∧ x ∈ partL ∧ y ∈ partL ∧ 0 ≤ u ∧ u ≤ 1 ∧ 0 ≤ v ∧ v ≤ 1 ∧ Below w.heap.size w w' := by
  have HC := Lib.hid h
  clear h
  go_enter Try.func14, Try.ntmps14
  go_wp2_with fail
  refine (open_any _ HC.out).mono ?_
  rintro e w1 ⟨s, rfl, hr, hB, hb⟩
  go_wp2_with fail
  refine (part_any _ hr (by omega)).mono ?_
  rintro e w2 ⟨x, rfl, hx, hr2, hu2⟩
  obtain ⟨x0, x1⟩ := partL_range x hx
  have HX := Lib.hid hx
  have hb2 := hu2.below hb hB hb.size
  clear hr hu2 hx
  go_wp2_with fail
  refine (pick_any _ _ hr2 (by omega)).mono ?_
  rintro e w3 ⟨u, rfl, u0, u1, hr3, ho3⟩
  have u2 := u1 (by omega)
  have hb3 := ho3.below hb2 hB
  clear hr2 ho3 u1
  go_wp2_with fail
  refine (part_any _ hr3 (by omega)).mono ?_
  rintro e w4 ⟨y, rfl, hy, hr4, hu4⟩
  obtain ⟨y0, y1⟩ := partL_range y hy
  have HY := Lib.hid hy
  have hb4 := hu4.below hb3 hB (Nat.le_trans hb3.size (Nat.le_refl _))
  clear hr3 hu4 hy hb hb2 hb3
  go_wp2_with fail
  refine (pick_any _ _ hr4 (by omega)).mono ?_
  rintro e w5 ⟨v, rfl, v0, v1, hr5, ho5⟩
  have v2 := v1 (by omega)
  have hb5 := ho5.below hb4 hB
  clear hr4 ho5 v1 hb4 hr5
  go_wp2
  go_ret2
  exact ⟨x, y, u / 19, v / 19, rfl, HX.out, HY.out, by omega, by omega, by omega, by omega, hb5⟩

/-- All numbers of thousandths that are drawn here. -/
def rangeL : List Int := partL ++ partL.map (· + 10000000) ++ partL.map (· - 10000000)
theorem rangeL_good : ∀ a ∈ rangeL, (-9999999 ≤ a ∧ a ≤ 9999999) → finB (milliW a) = true ∧ goodW (milliW a) = true ∧ rd (milliW a) = a := by decide +kernel
theorem rangeL_re {x u : Int} (hx : x ∈ partL) (h0 : 0 ≤ u) (h1 : u ≤ 1) : x + u * 10000000 ∈ rangeL ∧ x - u * 10000000 ∈ rangeL := by
  unfold rangeL
  simp only [List.mem_append, List.mem_map]
  rcases (by omega : u = 0 ∨ u = 1) with rfl | rfl
  · exact ⟨.inl (.inl (by simpa using hx)), .inl (.inl (by simpa using hx))⟩
  · exact ⟨.inl (.inr ⟨x, hx, by omega⟩), .inr ⟨x, hx, by omega⟩⟩

theorem milliF_in {re im : Int} (h : -9999999 ≤ re ∧ re ≤ 9999999 ∧ -9999999 ≤ im ∧ im ≤ 9999999) : milliF re im = (milliW re, milliW im) := by unfold milliF; rw [if_pos (by omega)]
theorem milliF_out {re im : Int} (h : re < -9999999 ∨ 9999999 < re ∨ im < -9999999 ∨ 9999999 < im) : milliF re im = (0, 0) := by unfold milliF; rw [if_neg (by omega)]

set_option maxHeartbeats 3200000 in
theorem law_FnMilli (a : Option Addr) (len cap : Nat) (z : List Int) (w : World) (h : CodeIs w a len cap z) :
    Calls Try.prog 4 #[.slice a len cap] w fun e w' => e = .returned (.bool true) ∧ Below w.heap.size w w' := by
  have HC := Lib.hid h
  clear h
  by_cases hbig : 1048576 < len
  · go_enter Try.func4, Try.ntmps4
    go_wp2
    go_ret
    exact ⟨rfl, Below.refl _ _⟩
  go_enter Try.func4, Try.ntmps4
  go_wp2_with fail
  refine (drawMilli_any _ HC.out).mono ?_
  rintro e w1 ⟨x, y, u, v, rfl, hx, hy, u0, u1, v0, v1, hb⟩
  have hre := (rangeL_re hx u0 u1).1
  have him := (rangeL_re hy v0 v1).2
  clear hx hy HC
  generalize x + u * 10000000 = re at *
  generalize y - v * 10000000 = im at *
  have HB := Lib.hid hb
  clear u0 u1 v0 v1 hb u v x y
  have f0 : finB 0 = true := by decide +kernel
  have e2 : (FloatKind.f32.format.order 0 0 == some .eq) = true := by decide +kernel
  by_cases c1 : re < -9999999
  · have HM := Lib.hid (milliF_out (re := re) (im := im) (by omega))
    clear hre him
    go_wp2_with (first
    | (go_at_call 15; refine (milli_any _ _ _).mono ?_; rintro e w' ⟨rfl, n, rfl⟩; rw [HM.out]; unfold cx)
    | (go_at_call 17; refine (smilli_any _ _ _).mono ?_; rintro e w' ⟨rfl, n, rfl⟩; rw [HM.out]; unfold cx)
    | (go_at_call 16; refine (sameBits_self _ _ _ (by assumption) (by assumption)).mono ?_; rintro e w' ⟨rfl, rfl⟩)
    | (go_at_call 13; refine (alive_any _).mono ?_; rintro e w' ⟨rfl, n, rfl⟩))
    go_ret
    exact ⟨rfl, below_drewN' HB.out _⟩
  by_cases c2 : 9999999 < re
  · have HM := Lib.hid (milliF_out (re := re) (im := im) (by omega))
    clear hre him
    go_wp2_with (first
    | (go_at_call 15; refine (milli_any _ _ _).mono ?_; rintro e w' ⟨rfl, n, rfl⟩; rw [HM.out]; unfold cx)
    | (go_at_call 17; refine (smilli_any _ _ _).mono ?_; rintro e w' ⟨rfl, n, rfl⟩; rw [HM.out]; unfold cx)
    | (go_at_call 16; refine (sameBits_self _ _ _ (by assumption) (by assumption)).mono ?_; rintro e w' ⟨rfl, rfl⟩)
    | (go_at_call 13; refine (alive_any _).mono ?_; rintro e w' ⟨rfl, n, rfl⟩))
    go_ret
    exact ⟨rfl, below_drewN' HB.out _⟩
  by_cases c3 : im < -9999999
  · have HM := Lib.hid (milliF_out (re := re) (im := im) (by omega))
    clear hre him
    go_wp2_with (first
    | (go_at_call 15; refine (milli_any _ _ _).mono ?_; rintro e w' ⟨rfl, n, rfl⟩; rw [HM.out]; unfold cx)
    | (go_at_call 17; refine (smilli_any _ _ _).mono ?_; rintro e w' ⟨rfl, n, rfl⟩; rw [HM.out]; unfold cx)
    | (go_at_call 16; refine (sameBits_self _ _ _ (by assumption) (by assumption)).mono ?_; rintro e w' ⟨rfl, rfl⟩)
    | (go_at_call 13; refine (alive_any _).mono ?_; rintro e w' ⟨rfl, n, rfl⟩))
    go_ret
    exact ⟨rfl, below_drewN' HB.out _⟩
  by_cases c4 : 9999999 < im
  · have HM := Lib.hid (milliF_out (re := re) (im := im) (by omega))
    clear hre him
    go_wp2_with (first
    | (go_at_call 15; refine (milli_any _ _ _).mono ?_; rintro e w' ⟨rfl, n, rfl⟩; rw [HM.out]; unfold cx)
    | (go_at_call 17; refine (smilli_any _ _ _).mono ?_; rintro e w' ⟨rfl, n, rfl⟩; rw [HM.out]; unfold cx)
    | (go_at_call 16; refine (sameBits_self _ _ _ (by assumption) (by assumption)).mono ?_; rintro e w' ⟨rfl, rfl⟩)
    | (go_at_call 13; refine (alive_any _).mono ?_; rintro e w' ⟨rfl, n, rfl⟩))
    go_ret
    exact ⟨rfl, below_drewN' HB.out _⟩
  obtain ⟨f1, g1, r1⟩ := rangeL_good re hre ⟨by omega, by omega⟩
  obtain ⟨f2, g2, r2⟩ := rangeL_good im him ⟨by omega, by omega⟩
  have HM := Lib.hid (milliF_in (re := re) (im := im) (by omega))
  have R1 := Lib.hid r1
  have R2 := Lib.hid r2
  clear hre him r1 r2
  have exx : (re == re) = true := by simp
  have eyy : (im == im) = true := by simp
  generalize hxx : milliW re = xx at *
  generalize hyy : milliW im = yy at *
  clear hxx hyy
  go_wp2_with (first
    | (go_at_call 15; refine (milli_any _ _ _).mono ?_; rintro e w' ⟨rfl, n, rfl⟩; rw [HM.out]; unfold cx)
    | (go_at_call 17; refine (smilli_any _ _ _).mono ?_; rintro e w' ⟨rfl, n, rfl⟩; rw [HM.out]; unfold cx)
    | (go_at_call 16; refine (sameBits_self _ _ _ (by assumption) (by assumption)).mono ?_; rintro e w' ⟨rfl, rfl⟩)
    | (go_at_call 18; refine (mof_good xx yy _ f1 f2 g1 g2).mono ?_; rintro e w' ⟨rfl, n, rfl⟩; rw [R1.out, R2.out])
    | (go_at_call 11; refine (finite_any _ _ _).mono ?_; rintro e w' ⟨rfl, n, rfl⟩; rw [f1, f2, Bool.and_self]))
  go_ret
  exact ⟨rfl, below_drewN' HB.out _⟩
end Go.Proofs.Ytmnnblhooodnhaa
