/- The law FnTurnOf. -/
import Derived.Test.YtmnnblhooodnhaaTurn
import Derived.Test.YtmnnblhooodnhaaPick
import Derived.Test.YtmnnblhooodnhaaSsig
import Derived.Test.YtmnnblhooodnhaaAlive
namespace Go.Proofs.Ytmnnblhooodnhaa
open Go.RowKit Go.FR Go.FV

set_option maxHeartbeats 800000 in
theorem drawTurnOf_any {a : Option Addr} {len cap : Nat} {z : List Int} (w : World) (h : CodeIs w a len cap z) :
    Calls Try.prog 24 #[.slice a len cap] w fun e w' => ∃ k : Int, e = .returned (.int .i64 k) ∧ -20 ≤ k ∧ k ≤ 10039 ∧ Below w.heap.size w w' := by
  have HC := Lib.hid h
  clear h
  go_enter Try.func24, Try.ntmps24
  go_wp2_with fail
  refine (open_any _ HC.out).mono ?_
  rintro e w1 ⟨s, rfl, hr, hB, hb⟩
  go_wp2_with fail
  refine (pick_any _ _ hr (by omega)).mono ?_
  rintro e w2 ⟨u, rfl, u0, u1, hr2, ho2⟩
  have u2 := u1 (by omega)
  have hb2 := ho2.below hb hB
  clear hr u1 ho2 hb
  go_wp2_with fail
  refine (pick_any _ _ hr2 (by omega)).mono ?_
  rintro e w3 ⟨y, rfl, y0, y1, hr3, ho3⟩
  have y2 := y1 (by omega)
  have hb3 := ho3.below hb2 hB
  clear hr2 hr3 y1 ho3 hb2
  go_wp2
  go_ret
  exact ⟨_, rfl, by omega, by omega, hb3⟩

/-- The sum of a turn and the opposite one; the turn back. -/
def tuSum (i j : Nat) : Nat × Nat := ((floatBits .add .f32 (turnT i).1 (turnT j).1).getD 1, (floatBits .add .f32 (turnT i).2 (turnT j).2).getD 1)
theorem turn_facts : ∀ i < 16, (finB (turnT i).1 = true ∧ finB (turnT i).2 = true) ∧
    (FloatKind.f64.format.order (enF [turnT i]) 4607182409792818153 == some .gt) = true ∧ (FloatKind.f64.format.order (enF [turnT i]) 4607182423303617035 == some .lt) = true ∧
    okB [turnT i] = true := by decide +kernel
theorem turn_opp : ∀ i < 16, ((floatBits .add .f32 (turnT i).1 (turnT ((i + 8) % 16)).1).isSome = true ∧ (floatBits .add .f32 (turnT i).2 (turnT ((i + 8) % 16)).2).isSome = true) ∧
    (FloatKind.f32.format.order (tuSum i ((i + 8) % 16)).1 0 == some .eq) = true ∧ (FloatKind.f32.format.order (tuSum i ((i + 8) % 16)).2 0 == some .eq) = true := by decide +kernel
theorem turn_back : ∀ i < 16, (FloatKind.f32.format.order (turnT ((16 - i) % 16)).1 (turnT i).1 == some .eq) = true ∧ (FloatKind.f32.format.order (turnT ((16 - i) % 16)).2 (Op.negFloat .f32 (turnT i).2) == some .eq) = true := by decide +kernel

set_option maxHeartbeats 1600000 in
theorem law_FnTurnOf (a : Option Addr) (len cap : Nat) (z : List Int) (w : World) (h : CodeIs w a len cap z) :
    Calls Try.prog 7 #[.slice a len cap] w fun e w' => e = .returned (.bool true) ∧ Below w.heap.size w w' := by
  have HC := Lib.hid h
  clear h
  by_cases hbig : 1048576 < len
  · go_enter Try.func7, Try.ntmps7
    go_wp2
    go_ret
    exact ⟨rfl, Below.refl _ _⟩
  go_enter Try.func7, Try.ntmps7
  go_wp2_with fail
  refine (drawTurnOf_any _ HC.out).mono ?_
  rintro e w1 ⟨k, rfl, k0, k1, hb⟩
  have HB := Lib.hid hb
  clear hb HC
  by_cases hk : 9999 < k
  · have hv : turnF k = (0, 0) := by unfold turnF; rw [if_neg (by omega)]
    have HV := Lib.hid hv
    have z0 := zero_fin .f32
    rw [fmt32] at z0
    have e0 := order_eq32 z0.1 z0.1 rfl
    clear hv
    go_wp2_with fail
    refine (turn_any k _).mono ?_
    rintro e w2 ⟨rfl, hb2⟩
    rw [HV.out]
    have HB2 := Lib.hid hb2
    clear hb2
    unfold cx
    simp only
    go_wp2_with fail
    refine (sturn_any k _).mono ?_
    rintro e w3 ⟨rfl, hb3⟩
    rw [HV.out]
    have HB3 := Lib.hid hb3
    clear hb3
    unfold cx
    simp only
    go_wp2_with fail
    refine (sameBits_any (0, 0) (0, 0) _ ⟨z0.1, z0.1⟩ ⟨z0.1, z0.1⟩ ⟨rfl, rfl⟩).mono ?_
    rintro e w' ⟨rfl, m3, rfl⟩
    clear z0
    go_wp2_with fail
    refine (alive_any _).mono ?_
    rintro e w' ⟨rfl, m4, rfl⟩
    go_wp2
    go_ret
    exact ⟨rfl, below_drewN' (HB.out.trans ((HB2.out.trans (HB3.out.mono HB2.out.size)).mono HB.out.size)) _⟩
  · obtain ⟨i, hi⟩ := Int.eq_ofNat_of_zero_le (Int.emod_nonneg k (by omega : (16 : Int) ≠ 0))
    have hlt : i < 16 := by have := Int.emod_lt_of_pos k (by omega : (0 : Int) < 16); omega
    have hv : turnF k = turnT i := by unfold turnF; rw [if_pos (by omega), hi]; rfl
    have hvb : turnF (-k) = turnT ((16 - i) % 16) := by
      have : ((-k) % 16).toNat = (16 - i) % 16 := by omega
      unfold turnF; rw [if_pos (by omega), this]
    have hvo : k + 8 ≤ 9999 → turnF (k + 8) = turnT ((i + 8) % 16) := fun hh => by
      have : ((k + 8) % 16).toNat = (i + 8) % 16 := by omega
      unfold turnF; rw [if_pos (by omega), this]
    obtain ⟨f1, f2, f3, f4⟩ := turn_facts i hlt
    obtain ⟨⟨s1, s2⟩, s3, s4⟩ := turn_opp i hlt
    obtain ⟨b1, b2⟩ := turn_back i hlt
    have eadd : ∀ w, (binOp .add 23 (.complex .f32 (turnT i).1 (turnT i).2) (.complex .f32 (turnT ((i + 8) % 16)).1 (turnT ((i + 8) % 16)).2)).run Try.prog w = .ok (.complex .f32 (tuSum i ((i + 8) % 16)).1 (tuSum i ((i + 8) % 16)).2) w := fun w => by
      obtain ⟨x, hx⟩ := Option.isSome_iff_exists.1 s1
      obtain ⟨y, hy⟩ := Option.isSome_iff_exists.1 s2
      refine run_complex_sum w .add (.inl rfl) 23 .f32 _ _ _ _ _ _ ?_
      unfold cSumBits tuSum
      rw [hx, hy]; rfl
    have hen : enV [turnT i] = enF [turnT i] := by unfold enV; rw [f4]; rfl
    have HV := Lib.hid hv
    have HVB := Lib.hid hvb
    have HVO := Lib.hid hvo
    have HF := Lib.hid f1
    have HEN := Lib.hid hen
    clear hv hvb hvo f1 hen s1 s2 f4 hi hlt
    generalize turnT ((i + 8) % 16) = to at *
    generalize turnT ((16 - i) % 16) = tb at *
    generalize tuSum i ((i + 8) % 16) = ts at *
    generalize enF [turnT i] = E at *
    generalize turnT i = t at *
    obtain ⟨t1, t2⟩ := t
    obtain ⟨o1, o2⟩ := to
    obtain ⟨r1, r2⟩ := tb
    obtain ⟨q1, q2⟩ := ts
    simp only at b1 b2 s3 s4 eadd
    go_wp2_with fail
    refine (turn_any k _).mono ?_
    rintro e w2 ⟨rfl, hb2⟩
    rw [HV.out]
    have HB2 := Lib.hid (HB.out.trans (hb2.mono HB.out.size))
    clear hb2
    unfold cx
    simp only
    go_wp2_with fail
    refine (sturn_any k _).mono ?_
    rintro e w3 ⟨rfl, hb3⟩
    rw [HV.out]
    have HB3 := Lib.hid (HB2.out.trans (hb3.mono HB2.out.size))
    clear hb3
    unfold cx
    simp only
    go_wp2_with fail
    refine (sameBits_any (t1, t2) (t1, t2) _ HF.out HF.out ⟨rfl, rfl⟩).mono ?_
    rintro e w4 ⟨rfl, m3, hw4⟩
    have HB4 := Lib.hid (by rw [hw4]; exact below_drewN' HB3.out m3 : Below w.heap.size w w4)
    clear hw4
    have hs : Sg (w4.alloc (.cells #[.complex .f32 t1 t2] 23)) (some ⟨w4.heap.size, 0, none⟩) 1 1 [(t1, t2)] := by
      refine ⟨rfl, by omega, fun _ => ⟨w4.heap.size, 0, rfl, by simp, fun i hi => ?_⟩⟩
      have : i = 0 := by simp at hi; omega
      subst this
      rw [World.cell?_alloc_at _ _ _ _ rfl]; rfl
    have HS := Lib.hid hs
    clear hs
    go_wp2_with fail
    refine (energy_any _ HS.out (by omega)).mono ?_
    rintro e w5 ⟨rfl, m5, hw5⟩
    rw [HEN.out]
    have HB5 := Lib.hid (by rw [hw5]; exact below_drewN' (HB4.out.alloc HB4.out.size _) m5 : Below w.heap.size w w5)
    clear hw5
    by_cases h8 : 9999 < k + 8
    · go_wp2_with fail
      refine (turn_any (-k) _).mono ?_
      rintro e w6 ⟨rfl, hb6⟩
      rw [HVB.out]
      have HB6 := Lib.hid (HB5.out.trans (hb6.mono HB5.out.size))
      clear hb6
      unfold cx
      simp only
      go_wp2
      go_ret
      exact ⟨rfl, HB6.out⟩
    · go_wp2_with fail
      refine (turn_any (k + 8) _).mono ?_
      rintro e w6 ⟨rfl, hb6⟩
      rw [HVO.out (by omega)]
      have HB6 := Lib.hid (HB5.out.trans (hb6.mono HB5.out.size))
      clear hb6
      unfold cx
      simp only
      go_wp2_with fail
      refine (turn_any (-k) _).mono ?_
      rintro e w7 ⟨rfl, hb7⟩
      rw [HVB.out]
      have HB7 := Lib.hid (HB6.out.trans (hb7.mono HB6.out.size))
      clear hb7
      unfold cx
      simp only
      go_wp2
      go_ret
      exact ⟨rfl, HB7.out⟩
end Go.Proofs.Ytmnnblhooodnhaa
