/- The law FnMovedOf. -/
import Derived.Test.YtpiokngbldehmaaMoved
import Derived.Test.YtpiokngbldehmaaEnp
import Derived.Test.YtpiokngbldehmaaDsig
import Derived.Test.YtpiokngbldehmaaLsok
namespace Go.Proofs.Ytpiokngbldehmaa
open Go.RowKit Go.FR Go.FV

set_option maxHeartbeats 800000 in
theorem drawMovedOf_any {a : Option Addr} {len cap : Nat} {z : List Int} (w : World) (h : CodeIs w a len cap z) :
    Calls Try.prog 18 #[.slice a len cap] w fun e w' => ∃ A k c xs b, e = .returned (.tuple #[.slice A k c, .int .i64 b]) ∧ Own w' w.heap.size A k c xs ∧ SigOk xs ∧ k ≤ 17 ∧ -20 ≤ b ∧ b ≤ 120 ∧ Below w.heap.size w w' := by
  have HC := Lib.hid h
  clear h
  go_enter Try.func18, Try.ntmps18
  go_wp2_with fail
  refine (open_any _ HC.out).mono ?_
  rintro e w1 ⟨s, rfl, hr, hB, hb⟩
  go_wp2_with fail
  refine (points_any _ hr (by omega)).mono ?_
  rintro e w2 ⟨v, rfl, hv, hr2, hu2⟩
  have hlt2 : s.B < w2.heap.size := hr2.lt
  go_wp2_with fail
  refine (signal_any v 9 _ hr2 (by omega) (by omega) (by omega) (by omega)).mono ?_
  rintro e w3 ⟨A, k, c, xs, rfl, ho, hs, hk, hr3, hu3⟩
  have hb3 : Below w.heap.size w w3 := (hu2.trans hu3).below hb hB hb.size
  have h1 := hb.size
  have h2 := hu2.size
  have H := Lib.hid (And.intro ho (And.intro hs hb3))
  clear hr hr2 hu2 hu3 hb ho hs hb3
  go_wp2_with fail
  refine (pick_any _ _ hr3 (by omega)).mono ?_
  rintro e w4 ⟨u, rfl, u0, u1, hr4, ho4⟩
  have u2 := u1 (by omega)
  have HO4 := Lib.hid ho4
  clear hr3 u1 ho4
  go_wp2_with fail
  refine (pick_any _ _ hr4 (by omega)).mono ?_
  rintro e w5 ⟨y, rfl, y0, y1, hr5, ho5⟩
  have y2 := y1 (by omega)
  have HO5 := Lib.hid ho5
  clear hr4 hr5 y1 ho5
  go_wp2
  go_ret2
  exact ⟨A, k, c, xs, _, rfl, ((H.out.1.upd HO4.out.upd hlt2).upd HO5.out.upd hlt2).mono (by omega), H.out.2.1, by omega, by omega, by omega, HO5.out.below (HO4.out.below H.out.2.2 hB) hB⟩

theorem mvM_mem {b : Int} {xs : List (Nat × Nat)} {p : Nat × Nat} (h : p ∈ mvM b xs) : p ∈ xs := by
  unfold mvM at h
  obtain ⟨i, hi, rfl⟩ := List.mem_map.1 h
  have hi' := List.mem_range.1 hi
  have hj := mvI_lt (-b) i (by omega : 0 < xs.length)
  rw [List.getD_eq_getElem?_getD, List.getElem?_eq_getElem hj]
  exact List.getElem_mem hj
theorem mvM_ok {b : Int} {xs : List (Nat × Nat)} (h : okB xs = true) : okB (mvM b xs) = true := by
  rw [okB_iff] at *
  exact ⟨by rw [mvM_len]; exact h.1, fun p hp => h.2 p (mvM_mem hp)⟩
theorem mvM_back (b : Int) (xs : List (Nat × Nat)) : mvM (-b) (mvM b xs) = xs := by
  apply List.ext_getElem?
  intro i
  by_cases hi : i < xs.length
  · rw [mvM_at _ _ i (by rw [mvM_len]; exact hi), mvM_len, Int.neg_neg]
    have hj := mvI_lt b i (by omega : 0 < xs.length)
    rw [List.getD_eq_getElem?_getD, mvM_at _ _ _ hj, mvI_back b i hi]
    simp [hi]
  · rw [List.getElem?_eq_none (by rw [mvM_len, mvM_len]; omega), List.getElem?_eq_none (by omega)]
theorem mvM_round (xs : List (Nat × Nat)) : mvM (xs.length : Int) xs = xs := by
  apply List.ext_getElem?
  intro i
  by_cases hi : i < xs.length
  · rw [mvM_at _ _ i hi]
    have e : mvI (-(xs.length : Int)) xs.length i = i := by
      unfold mvI
      have : ((i : Int) + -(xs.length : Int)) % (xs.length : Int) = (i : Int) := by
        rw [← Int.sub_eq_add_neg, Int.sub_emod_right]
        exact Int.emod_eq_of_lt (by omega) (by omega)
      rw [this]; rfl
    rw [e]; simp [hi]
  · rw [List.getElem?_eq_none (by rw [mvM_len]; omega), List.getElem?_eq_none (by omega)]
theorem mvM_cut (b : Int) (xs : List (Nat × Nat)) : ∃ m, mvM b xs = xs.drop m ++ xs.take m := by
  by_cases h0 : xs.length = 0
  · refine ⟨0, ?_⟩
    have : xs = [] := List.eq_nil_of_length_eq_zero h0
    subst this; rfl
  refine ⟨mvI (-b) xs.length 0, ?_⟩
  have hm := mvI_lt (-b) 0 (by omega : 0 < xs.length)
  have hc := mvI_cast (-b) 0 (by omega : 0 < xs.length)
  rw [Int.natCast_zero, Int.zero_add] at hc
  generalize mvI (-b) xs.length 0 = m at *
  apply List.ext_getElem?
  intro i
  by_cases hi : i < xs.length
  · rw [mvM_at _ _ i hi]
    have e := mvI_cast (-b) i (by omega : 0 < xs.length)
    have e2 : ((i : Int) + -b) % (xs.length : Int) = ((i : Int) + m) % (xs.length : Int) := by
      rw [hc, Int.add_emod_emod]
    rw [e2] at e
    have hj := mvI_lt (-b) i (by omega : 0 < xs.length)
    by_cases hlt : i + m < xs.length
    · rw [Int.emod_eq_of_lt (by omega) (by omega)] at e
      have e3 : mvI (-b) xs.length i = m + i := by omega
      rw [e3, List.getElem?_append_left (by simp; omega), List.getElem?_drop]
      simp [show m + i < xs.length by omega]
    · have e4 : ((i : Int) + m) % (xs.length : Int) = (i : Int) + m - xs.length := by
        rw [← Int.sub_emod_right]
        exact Int.emod_eq_of_lt (by omega) (by omega)
      rw [e4] at e
      have e3 : mvI (-b) xs.length i = i - (xs.length - m) := by omega
      rw [e3, List.getElem?_append_right (by simp; omega), List.length_drop, List.getElem?_take_of_lt (by omega)]
      simp [show i - (xs.length - m) < xs.length by omega]
  · rw [List.getElem?_eq_none (by rw [mvM_len]; omega), List.getElem?_eq_none (by simp; omega)]
theorem mvM_eN (b : Int) (xs : List (Nat × Nat)) : eN (mvM b xs) = eN xs := by
  obtain ⟨m, h⟩ := mvM_cut b xs
  rw [h, eN_append, Int.add_comm, ← eN_append, List.take_append_drop]
theorem mv_energy {b : Int} {xs : List (Nat × Nat)} (hl : xs.length ≤ 17) (h : ∀ p ∈ xs, WholeP p) : (FloatKind.f64.format.order (enF (mvM b xs)) (enF xs) == some .eq) = true := by
  obtain ⟨a1, a2⟩ := enF_int hl (fun p hp => (h p hp).int)
  obtain ⟨b1, b2⟩ := enF_int (xs := mvM b xs) (by rw [mvM_len]; exact hl) (fun p hp => (h p (mvM_mem hp)).int)
  refine order_eq64 b1 a1 ?_
  rw [a2, b2, mvM_eN]

set_option maxHeartbeats 3200000 in
theorem law_FnMovedOf (a : Option Addr) (len cap : Nat) (z : List Int) (w : World) (h : CodeIs w a len cap z) :
    Calls Try.prog 4 #[.slice a len cap] w fun e w' => e = .returned (.bool true) ∧ Below w.heap.size w w' := by
  have HC := Lib.hid h
  clear h
  by_cases hbig : 1048576 < len
  · go_enter Try.func4, Try.ntmps4
    go_wp2
    go_ret
    exact ⟨rfl, Below.refl _ _⟩
  go_enter Try.func4, Try.ntmps4
  go_wp2_with fail
  refine (drawMovedOf_any _ HC.out).mono ?_
  rintro e w1 ⟨A, k, c, xs, b, rfl, ho, hsg, hk, bb0, bb1, hb⟩
  have hl := ho.len
  have HB := Lib.hid hb
  have HS := Lib.hid ho.sg
  have HN := Lib.hid hsg.num
  clear ho hb HC hsg
  go_wp2_with fail
  refine (moved_any b _ HS.out (by omega) (by omega) (by omega)).mono ?_
  rintro e w2 ⟨A2, k2, c2, rfl, hk2, ho2, hb2⟩
  have HO2 := Lib.hid ho2
  have HB2 := Lib.hid hb2
  have hl2 := ho2.len
  clear ho2 hb2
  go_wp2_with fail
  refine (smoved_any b _ (HS.out.below HB2.out) (by omega) (by omega) (by omega)).mono ?_
  rintro e w3 ⟨A3, k3, c3, rfl, hk3, ho3, hb3⟩
  have HO3 := Lib.hid ho3
  have HB3 := Lib.hid hb3
  clear ho3 hb3
  have HS3 := Lib.hid ((HS.out.below HB2.out).below HB3.out)
  have HY3 := Lib.hid ((HO2.out.below HB3.out).sg)
  have HBB := Lib.hid (HB.out.trans ((HB2.out.trans (HB3.out.mono HB2.out.size)).mono HB.out.size) : Below w.heap.size w w3)
  by_cases hcond : okB xs = true ∧ -99 ≤ b ∧ b ≤ 99
  · have hv : mvL b xs = mvM b xs := by unfold mvL; rw [if_pos hcond]
    obtain ⟨hok, cc1, cc2⟩ := hcond
    have e2 := mvM_ok (b := b) hok
    have HV := Lib.hid hv
    have HK := Lib.hid hok
    have HE := Lib.hid e2
    have HL := Lib.hid hl
    have hl16 := (okB_iff.1 hok).1
    have hkk : k2 = k := by rw [← hl2, hv, mvM_len, hl]
    subst hkk
    clear hv hok e2 hl2
    by_cases h0 : k2 = 0
    · subst h0
      go_wp2_with fail
      refine (sameSignal_any _ HY3.out HO3.out.sg (by rw [HV.out]; exact EqS.refl_ok HE.out) (by omega)).mono ?_
      rintro e w' ⟨rfl, m1, rfl⟩
      go_wp2_with fail
      refine (alive_any _).mono ?_
      rintro e w' ⟨rfl, m2, rfl⟩
      go_wp2
      go_ret
      exact ⟨rfl, below_drewN' HBB.out _⟩
    · have hkne : ((k2 : Int) == 0) = false := by simpa using h0
      go_wp2_with fail
      refine (sameSignal_any _ HY3.out HO3.out.sg (by rw [HV.out]; exact EqS.refl_ok HE.out) (by omega)).mono ?_
      rintro e w4 ⟨rfl, m1, hw4⟩
      have HS4 := Lib.hid (by rw [hw4]; exact HS3.out.drewN m1 : Sg w4 A k2 c xs)
      have HY4 := Lib.hid (by rw [hw4, ← HV.out]; exact HY3.out.drewN m1 : Sg w4 A2 k2 c2 (mvM b xs))
      have HB4 := Lib.hid (by rw [hw4]; exact below_drewN' HBB.out m1 : Below w.heap.size w w4)
      clear hw4
      go_wp2_with fail
      refine (moved_any (-b) _ HY4.out (by omega) (by omega) (by omega)).mono ?_
      rintro e w5 ⟨A5, k5, c5, rfl, hk5, ho5, hb5⟩
      have HO5 := Lib.hid ho5
      have HB5 := Lib.hid hb5
      clear ho5 hb5
      have v5 : mvL (-b) (mvM b xs) = xs := by unfold mvL; rw [if_pos ⟨HE.out, by omega, by omega⟩, mvM_back]
      have V5 := Lib.hid v5
      clear v5
      go_wp2_with fail
      refine (sameSignal_any _ HO5.out.sg (HS4.out.below HB5.out) (by rw [V5.out]; exact EqS.refl_ok HK.out) (by omega)).mono ?_
      rintro e w6 ⟨rfl, m2, hw6⟩
      have HS6 := Lib.hid (by rw [hw6]; exact (HS4.out.below HB5.out).drewN m2 : Sg w6 A k2 c xs)
      have HY6 := Lib.hid (by rw [hw6]; exact (HY4.out.below HB5.out).drewN m2 : Sg w6 A2 k2 c2 (mvM b xs))
      have HB6 := Lib.hid (by rw [hw6]; exact below_drewN' (HB4.out.trans (HB5.out.mono HB4.out.size)) m2 : Below w.heap.size w w6)
      clear hw6
      go_wp2_with fail
      refine (moved_any (k2 : Int) _ HS6.out (by omega) (by omega) (by omega)).mono ?_
      rintro e w7 ⟨A7, k7, c7, rfl, hk7, ho7, hb7⟩
      have HO7 := Lib.hid ho7
      have HB7 := Lib.hid hb7
      clear ho7 hb7
      have v7 : mvL (k2 : Int) xs = xs := by unfold mvL; rw [if_pos ⟨HK.out, by omega, by omega⟩, ← HL.out, mvM_round]
      have V7 := Lib.hid v7
      clear v7
      go_wp2_with fail
      refine (sameSignal_any _ HO7.out.sg (HS6.out.below HB7.out) (by rw [V7.out]; exact EqS.refl_ok HK.out) (by omega)).mono ?_
      rintro e w8 ⟨rfl, m3, hw8⟩
      have HS8 := Lib.hid (by rw [hw8]; exact (HS6.out.below HB7.out).drewN m3 : Sg w8 A k2 c xs)
      have HY8 := Lib.hid (by rw [hw8]; exact (HY6.out.below HB7.out).drewN m3 : Sg w8 A2 k2 c2 (mvM b xs))
      have HB8 := Lib.hid (by rw [hw8]; exact below_drewN' (HB6.out.trans (HB7.out.mono HB6.out.size)) m3 : Below w.heap.size w w8)
      clear hw8
      go_wp2_with fail
      refine (wholeSignal_any 1000 _ HS8.out HN.out (by omega) (by omega) (by omega)).mono ?_
      rintro e w9 ⟨bw, rfl, hbw, m4, hw9⟩
      have HBW := Lib.hid hbw
      have HS9 := Lib.hid (by rw [hw9]; exact HS8.out.drewN m4 : Sg w9 A k2 c xs)
      have HY9 := Lib.hid (by rw [hw9]; exact HY8.out.drewN m4 : Sg w9 A2 k2 c2 (mvM b xs))
      have HB9 := Lib.hid (by rw [hw9]; exact below_drewN' HB8.out m4 : Below w.heap.size w w9)
      clear hbw hw9
      cases bw
      · go_wp2
        go_ret
        exact ⟨rfl, HB9.out⟩
      · have eo := mv_energy (b := b) (by rw [HL.out]; omega) (HBW.out (by simp))
        have E1 := Lib.hid (enV_ok HE.out)
        have E2 := Lib.hid (enV_ok HK.out)
        generalize enF xs = F1 at *
        generalize enF (mvM b xs) = F2 at *
        go_wp2_with fail
        refine (energy_any _ HY9.out (by omega)).mono ?_
        rintro e w' ⟨rfl, m5, rfl⟩
        rw [E1.out]
        go_wp2_with fail
        refine (energy_any _ (HS9.out.drewN _) (by omega)).mono ?_
        rintro e w' ⟨rfl, m6, rfl⟩
        rw [E2.out]
        go_wp2
        go_ret
        exact ⟨rfl, below_drewN' HB9.out _⟩
  · have hv : mvL b xs = [] := by unfold mvL; rw [if_neg hcond]
    have HV := Lib.hid hv
    rw [hv] at hl2
    simp only [List.length_nil] at hl2
    subst hl2
    clear hv hcond
    go_wp2_with fail
    refine (sameSignal_any _ HY3.out HO3.out.sg (by rw [HV.out]; exact EqS.nil) (by omega)).mono ?_
    rintro e w' ⟨rfl, m1, rfl⟩
    go_wp2_with fail
    refine (alive_any _).mono ?_
    rintro e w' ⟨rfl, m2, rfl⟩
    go_wp2
    go_ret
    exact ⟨rfl, below_drewN' HBB.out _⟩
end Go.Proofs.Ytpiokngbldehmaa
