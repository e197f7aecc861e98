/- The draw of FnNear, and its law's walk. -/
import Derived.Test.YtmnnblhooodnhaaNum
import Derived.Test.YtmnnblhooodnhaaNear
import Derived.Test.YtmnnblhooodnhaaAlive
import Derived.Deep.RegionWith
namespace Go.Proofs.Ytmnnblhooodnhaa
open Go.RowKit Go.FR Go.FV

/-- The bounds that are drawn. -/
def boundL : List Nat := [0, 4562254508917369340, 4572414629676717179, 4652007308841189376, 13830554455654793216]
theorem boundL_fin : ∀ x ∈ boundL, FV.Fin Ieee.double x := by unfold FV.Fin; decide +kernel
def boundA : Array Value := #[.float .f64 0, .float .f64 4562254508917369340, .float .f64 4572414629676717179, .float .f64 4652007308841189376, .float .f64 13830554455654793216]
theorem boundA_at (j : Nat) (h : j < 5) : ∃ x, boundA[j]? = some (.float .f64 x) ∧ x ∈ boundL := by
  rcases (by omega : j = 0 ∨ j = 1 ∨ j = 2 ∨ j = 3 ∨ j = 4) with rfl | rfl | rfl | rfl | rfl <;> exact ⟨_, rfl, by decide⟩

set_option maxHeartbeats 1600000 in
theorem drawNear_any {a : Option Addr} {len cap : Nat} {z : List Int} (w : World) (h : CodeIs w a len cap z) :
    Calls Try.prog 22 #[.slice a len cap] w fun e w' => ∃ p1 p2 q1 q2 β : Nat, e = .returned (.tuple #[.complex .f32 p1 p2, .complex .f32 q1 q2, .float .f64 β]) ∧ β ∈ boundL ∧ Below w.heap.size w w' := by
  have HC := Lib.hid h
  clear h
  go_enter Try.func22, Try.ntmps22
  go_wp2_with fail
  refine (open_any _ HC.out).mono ?_
  rintro e w1 ⟨s, rfl, hr, hB, hb⟩
  go_wp2_with fail
  refine (num_any _ _ hr (by omega) (by omega) (by omega)).mono ?_
  rintro e w2 ⟨⟨p1, p2⟩, rfl, _, hr2, hu⟩
  have hb2 := hu.below hb hB hb.size
  clear hr hu hb
  unfold cx
  simp only
  go_wp2_with fail
  refine (num_any _ _ hr2 (by omega) (by omega) (by omega)).mono ?_
  rintro e w3 ⟨⟨q1, q2⟩, rfl, _, hr3, hu⟩
  have hb3 := hu.below hb2 hB hb2.size
  clear hr2 hu hb2
  unfold cx
  simp only
  go_wp2_with fail
  refine (pick_any _ _ hr3 (by omega)).mono ?_
  rintro e w4 ⟨v, rfl, v0, v1, hr4, ho4⟩
  have v2 := v1 (by omega)
  have hb4 := ho4.below hb3 hB
  clear hr3 ho4 v1 hb3
  rcases (by omega : v = 0 ∨ v = 1) with rfl | rfl
  · go_wp2_with fail
    refine (pick_any _ _ hr4 (by omega)).mono ?_
    rintro e w5 ⟨u, rfl, u0, u1, hr5, ho5⟩
    have u2 := u1 (by omega)
    have hb5 := ho5.below hb4 hB
    clear hr4 ho5 u1 hb4
    go_wp2_with fail
    refine (pick_any _ _ (hr5.drewN _) (by omega)).mono ?_
    rintro e w6 ⟨u', rfl, u0', u1', hr6, ho6⟩
    have u2' := u1' (by omega)
    have hb6 := ho6.below (below_drewN' hb5 _) hB
    clear hr5 ho6 u1' hb5
    go_wp2_with fail
    generalize hN : fqN Try.prog w6 .f32 (floatOfInt .f32 u') 1148846080 + caN Try.prog (w6.drewN (fqN Try.prog w6 .f32 (floatOfInt .f32 u') 1148846080)) .f32 p1 p2 (fqR Try.prog w5 .f32 (floatOfInt .f32 u) 1148846080) (fqR Try.prog w6 .f32 (floatOfInt .f32 u') 1148846080) = N
    generalize h1 : cre (caV Try.prog (w6.drewN (fqN Try.prog w6 .f32 (floatOfInt .f32 u') 1148846080)) .f32 p1 p2 (fqR Try.prog w5 .f32 (floatOfInt .f32 u) 1148846080) (fqR Try.prog w6 .f32 (floatOfInt .f32 u') 1148846080)) = b1
    generalize h2 : cim (caV Try.prog (w6.drewN (fqN Try.prog w6 .f32 (floatOfInt .f32 u') 1148846080)) .f32 p1 p2 (fqR Try.prog w5 .f32 (floatOfInt .f32 u) 1148846080) (fqR Try.prog w6 .f32 (floatOfInt .f32 u') 1148846080)) = b2
    generalize h3 : fqR Try.prog w5 .f32 (floatOfInt .f32 u) 1148846080 = g1
    generalize h4 : fqR Try.prog w6 .f32 (floatOfInt .f32 u') 1148846080 = g2
    have hr7 := hr6.drewN N
    have hb7 := below_drewN' hb6 N
    clear hN h1 h2 h3 h4 hr6 hb6 u0' u2' u0 u2
    generalize w6.drewN N = w7 at *
    have hlt := hr7.lt
    have hblk : Blk (w7.alloc (.cells boundA 36)) w7.heap.size 36 boundA := Blk.new _ _ _
    have hrA := hr7.alloc (.cells boundA 36)
    have hbA := hb7.alloc hb7.size (.cells boundA 36)
    go_region_with (first
      | (go_at_call 38
         refine (pick_any _ _ (hrA.drewN 1) (by omega)).mono ?_
         rintro e w8 ⟨u9, rfl, u0, u1, hr8, ho5⟩
         have hblk2 := Blk.only (w := (w7.alloc (.cells boundA 36)).drewN 1) hblk ho5 (by omega)
         have hb5 := ho5.below (below_drewN' hbA 1) hB
         obtain ⟨j, rfl⟩ := Int.eq_ofNat_of_zero_le u0
         have hj := u1 (by omega)
         obtain ⟨x, hx, hxm⟩ := boundA_at j (by omega)
         have hcell : w8.cell? ⟨w7.heap.size, j, none⟩ = some (.float .f64 x) := by rw [hblk2.cell]; exact hx
         have HM := Lib.hid hxm
         have HB := Lib.hid hb5
         clear hblk hblk2 ho5 hx u1 hxm hrA hbA hb5)
      | (go_at_call 38
         refine (pick_any _ _ (hr7.drewN 1) (by omega)).mono ?_
         rintro e w8 ⟨u9, rfl, u0, u1, hr8, ho5⟩
         have hblk2 : Blk (w8.alloc (.cells boundA 36)) w8.heap.size 36 boundA := Blk.new _ _ _
         have hb4 := ho5.below (below_drewN' hb7 1) hB
         have hb5 := hb4.alloc hb4.size (.cells boundA 36)
         obtain ⟨j, rfl⟩ := Int.eq_ofNat_of_zero_le u0
         have hj := u1 (by omega)
         obtain ⟨x, hx, hxm⟩ := boundA_at j (by omega)
         have hcell : (w8.alloc (.cells boundA 36)).cell? ⟨w8.heap.size, j, none⟩ = some (.float .f64 x) := by rw [hblk2.cell]; exact hx
         unfold boundA at hcell
         have HM := Lib.hid hxm
         have HB := Lib.hid hb5
         clear hblk hblk2 ho5 hx u1 hxm hrA hbA hb5))
    all_goals
      go_wp2
      go_ret3
      exact ⟨_, _, _, _, x, rfl, HM.out, HB.out⟩
  · go_wp2_with fail
    have hlt := hr4.lt
    have hblk : Blk (w4.alloc (.cells boundA 36)) w4.heap.size 36 boundA := Blk.new _ _ _
    have hrA := hr4.alloc (.cells boundA 36)
    have hbA := hb4.alloc hb4.size (.cells boundA 36)
    go_region_with (first
      | (go_at_call 38
         refine (pick_any _ _ (hrA.drewN 1) (by omega)).mono ?_
         rintro e w5 ⟨u, rfl, u0, u1, hr5, ho5⟩
         have hblk2 := Blk.only (w := (w4.alloc (.cells boundA 36)).drewN 1) hblk ho5 (by omega)
         have hb5 := ho5.below (below_drewN' hbA 1) hB
         obtain ⟨j, rfl⟩ := Int.eq_ofNat_of_zero_le u0
         have hj := u1 (by omega)
         obtain ⟨x, hx, hxm⟩ := boundA_at j (by omega)
         have hcell : w5.cell? ⟨w4.heap.size, j, none⟩ = some (.float .f64 x) := by rw [hblk2.cell]; exact hx
         have HM := Lib.hid hxm
         have HB := Lib.hid hb5
         clear hblk hblk2 ho5 hx u1 hxm hrA hbA hb5)
      | (go_at_call 38
         refine (pick_any _ _ (hr4.drewN 1) (by omega)).mono ?_
         rintro e w5 ⟨u, rfl, u0, u1, hr5, ho5⟩
         have hblk2 : Blk (w5.alloc (.cells boundA 36)) w5.heap.size 36 boundA := Blk.new _ _ _
         have hb4 := ho5.below (below_drewN' hb4 1) hB
         have hb5 := hb4.alloc hb4.size (.cells boundA 36)
         obtain ⟨j, rfl⟩ := Int.eq_ofNat_of_zero_le u0
         have hj := u1 (by omega)
         obtain ⟨x, hx, hxm⟩ := boundA_at j (by omega)
         have hcell : (w5.alloc (.cells boundA 36)).cell? ⟨w5.heap.size, j, none⟩ = some (.float .f64 x) := by rw [hblk2.cell]; exact hx
         unfold boundA at hcell
         have HM := Lib.hid hxm
         have HB := Lib.hid hb5
         clear hblk hblk2 ho5 hx u1 hxm hrA hbA hb5))
    all_goals
      go_wp2
      go_ret3
      exact ⟨_, _, _, _, x, rfl, HM.out, HB.out⟩

set_option maxHeartbeats 1600000 in
theorem law_FnNear (a : Option Addr) (len cap : Nat) (z : List Int) (w : World) (h : CodeIs w a len cap z) :
    Calls Try.prog 6 #[.slice a len cap] w fun e w' => e = .returned (.bool true) ∧ Below w.heap.size w w' := by
  have HC := Lib.hid h
  clear h
  by_cases hbig : 1048576 < len
  · go_enter Try.func6, Try.ntmps6
    go_wp2
    go_ret
    exact ⟨rfl, Below.refl _ _⟩
  go_enter Try.func6, Try.ntmps6
  go_wp2_with fail
  refine (drawNear_any _ HC.out).mono ?_
  rintro e w1 ⟨p1, p2, q1, q2, β, rfl, hβ, hb⟩
  have hF := boundL_fin β hβ
  have HB := Lib.hid hb
  have HC1 := Lib.hid (nearF_comm p1 p2 q1 q2 β hF)
  have HS := Lib.hid (nearF_self p1 p2)
  have Z := Lib.hid (zero_fin .f64).1
  have HF := Lib.hid hF
  clear hb HC hβ hF
  generalize hk : nearF p1 p2 q1 q2 β = k at *
  have HK := Lib.hid hk
  clear hk
  generalize hf : (finB p1 && finB p2) = f at *
  have HN := Lib.hid hf
  clear hf
  go_wp2_with fail
  refine (near_any _ _ _ _ _ _ HF.out).mono ?_
  rintro e w2 ⟨rfl, n1, rfl⟩
  rw [HK.out]
  go_wp2_with fail
  refine (snear_any _ _ _ _ _ _).mono ?_
  rintro e w3 ⟨rfl, n2, rfl⟩
  rw [HK.out]
  cases k <;> cases f
  all_goals
    go_wp2_with fail
    refine (near_any _ _ _ _ _ _ HF.out).mono ?_
    rintro e w4 ⟨rfl, n3, rfl⟩
    rw [HC1.out]
    go_wp2_with fail
    refine (near_any _ _ _ _ _ _ Z.out).mono ?_
    rintro e w5 ⟨rfl, n4, rfl⟩
    rw [HS.out]
    go_wp2_with fail
    refine (finite_any _ _ _).mono ?_
    rintro e w6 ⟨rfl, n5, rfl⟩
    rw [HN.out]
    go_wp2_with fail
    refine (alive_any _).mono ?_
    rintro e w7 ⟨rfl, n6, rfl⟩
    go_wp2
    go_ret
    exact ⟨rfl, below_drewN' HB.out _⟩
end Go.Proofs.Ytmnnblhooodnhaa
