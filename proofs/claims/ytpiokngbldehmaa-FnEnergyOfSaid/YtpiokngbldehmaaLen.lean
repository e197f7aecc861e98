/- The law FnEnergyOf. -/
import Derived.Test.YtpiokngbldehmaaEnp
import Derived.Test.YtpiokngbldehmaaDsig
import Derived.Test.YtpiokngbldehmaaLsok
namespace Go.Proofs.Ytpiokngbldehmaa
open Go.RowKit Go.FR Go.FV

theorem Sg.drop {w : World} {g off n c : Nat} {xs : List (Nat × Nat)} (h : Sg w (some ⟨g, off, none⟩) n c xs) (m : Nat) (hm : m ≤ n) : Sg w (some ⟨g, off + m, none⟩) (n - m) (c - m) (xs.drop m) := by
  have hl := h.len
  refine ⟨by simp; omega, by have := h.cap; omega, fun h0 => ?_⟩
  obtain ⟨g', off', hA, hg, hc⟩ := h.at_ (by omega)
  simp only [Option.some.injEq, Addr.mk.injEq, and_true] at hA
  obtain ⟨rfl, rfl⟩ := hA
  refine ⟨g, off + m, rfl, hg, fun i hi => ?_⟩
  have hi' : m + i < xs.length := by simp at hi; omega
  rw [Nat.add_assoc, hc (m + i) hi']; simp
theorem Sg.drop1 {w : World} {g n c : Nat} {xs : List (Nat × Nat)} (h : Sg w (some ⟨g, 0, none⟩) n c xs) (hm : 1 ≤ n) : Sg w (if c = 1 then some ⟨g, 0, none⟩ else some ⟨g, 1, none⟩) (n - 1) (c - 1) (xs.drop 1) := by
  have hl := h.len
  have hc := h.cap
  by_cases h1 : c = 1
  · rw [if_pos h1]
    have e : n - 1 = 0 := by omega
    have e2 : xs.drop 1 = [] := List.drop_of_length_le (by omega)
    rw [e, e2]; exact ⟨rfl, Nat.zero_le _, fun h => by omega⟩
  · rw [if_neg h1]
    have := h.drop 1 hm
    rw [Nat.zero_add] at this
    exact this
theorem okB_drop {xs : List (Nat × Nat)} (m : Nat) (h : okB xs = true) : okB (xs.drop m) = true := by
  rw [okB_iff] at *
  exact ⟨by simp; omega, fun p hp => h.2 p (List.mem_of_mem_drop hp)⟩
theorem en_split {xs : List (Nat × Nat)} (hl : xs.length ≤ 17) (h : ∀ p ∈ xs, WholeP p) :
    floatBits .add .f64 (enF (xs.take 1)) (enF (xs.drop 1)) = some (ad (enF (xs.take 1)) (enF (xs.drop 1))) ∧
      (FloatKind.f64.format.order (ad (enF (xs.take 1)) (enF (xs.drop 1))) (enF xs) == some .eq) = true := by
  have h1 : ∀ p ∈ xs.take 1, SmInt p := fun p hp => (h p (List.mem_of_mem_take hp)).int
  have h2 : ∀ p ∈ xs.drop 1, SmInt p := fun p hp => (h p (List.mem_of_mem_drop hp)).int
  have h3 : ∀ p ∈ xs, SmInt p := fun p hp => (h p hp).int
  have l1 : (xs.take 1).length ≤ 17 := by simp; omega
  have l2 : (xs.drop 1).length ≤ 17 := by simp; omega
  obtain ⟨a1, a2⟩ := enF_int l1 h1
  obtain ⟨b1, b2⟩ := enF_int l2 h2
  obtain ⟨c1, c2⟩ := enF_int hl h3
  have k1 := eN_bound h1
  have k2 := eN_bound h2
  obtain ⟨e1, e2, e3⟩ := ad_int a1 b1 a2 b2 (by omega) (by omega)
  refine ⟨e1, order_eq64 e2 c1 ?_⟩
  rw [e3, c2]
  have : eN xs = eN (xs.take 1) + eN (xs.drop 1) := by
    rw [← eN_append, List.take_append_drop]
  rw [this]
theorem neg_one : (FloatKind.f64.format.order 13830554455654793216 0 == some .gt) = false ∧ (FloatKind.f64.format.order 13830554455654793216 0 == some .eq) = false ∧ (FloatKind.f64.format.order 13830554455654793216 0 == some .lt) = true ∧ FV.Fin Ieee.double 13830554455654793216 := by
  unfold FV.Fin; decide +kernel
theorem nonneg_order {s : Nat} (h : FV.Fin Ieee.double s) (h0 : 0 ≤ V Ieee.double s) : (FloatKind.f64.format.order s 0 == some .gt || FloatKind.f64.format.order s 0 == some .eq) = true ∧ (FloatKind.f64.format.order s 0 == some .lt) = false := by
  have z := zero_fin .f64
  have o := order_fin h z.1
  rw [fmt64] at z
  rw [fmt64]
  rcases (by grind : V Ieee.double s = 0 ∨ 0 < V Ieee.double s) with hv | hv
  · have := o.1.2 (by rw [hv, z.2])
    rw [this]; exact ⟨rfl, rfl⟩
  · have := o.2.2.2 (by rw [z.2]; exact hv)
    rw [this]; exact ⟨rfl, rfl⟩

set_option maxHeartbeats 3200000 in
theorem law_FnEnergyOf (a : Option Addr) (len cap : Nat) (z : List Int) (w : World) (h : CodeIs w a len cap z) :
    Calls Try.prog 6 #[.slice a len cap] w fun e w' => e = .returned (.bool true) ∧ Below w.heap.size w w' := by
  have HC := Lib.hid h
  clear h
  by_cases hbig : 1048576 < len
  · go_enter Try.func6, Try.ntmps6
    go_wp2
    go_ret
    exact ⟨rfl, Below.refl _ _⟩
  go_enter Try.func6, Try.ntmps6
  go_wp2_with fail
  refine (drawEnergyOf_any _ HC.out).mono ?_
  rintro e w1 ⟨A, k, c, xs, rfl, ho, hsg, hk, hb⟩
  have hs := ho.sg
  have hl := ho.len
  have hcap := hs.cap
  have hform := ho.form
  have HB := Lib.hid hb
  have HS := Lib.hid hs
  have HN := Lib.hid hsg.num
  clear ho hb hs HC hsg
  cases hok : okB xs
  · have hv := enV_no hok
    obtain ⟨o1, o2, o3, o4⟩ := neg_one
    have HO := Lib.hid hok
    have HV := Lib.hid hv
    clear hok hv
    go_wp2_with fail
    refine (energy_any _ HS.out (by omega)).mono ?_
    rintro e w' ⟨rfl, m1, rfl⟩
    rw [HV.out]
    go_wp2_with fail
    refine (senergy_any _ (HS.out.drewN _) (by omega)).mono ?_
    rintro e w' ⟨rfl, m2, rfl⟩
    rw [HV.out]
    go_wp2_with fail
    refine (samePart_any _ _ _ o4 o4 rfl).mono ?_
    rintro e w' ⟨rfl, rfl⟩
    go_wp2_with fail
    refine (ok_any _ (HS.out.drewN _) (by omega)).mono ?_
    rintro e w' ⟨rfl, m3, rfl⟩
    rw [HO.out]
    go_wp2_with fail
    refine (alive_any _).mono ?_
    rintro e w' ⟨rfl, m4, rfl⟩
    go_wp2
    go_ret
    exact ⟨rfl, below_drewN' HB.out _⟩
  · have hv := enV_ok hok
    obtain ⟨f1, f2⟩ := enF_ok hok
    obtain ⟨o1, o2⟩ := nonneg_order f1 f2
    have hv1 := enV_ok (okB_take 1 hok)
    have hv2 := enV_ok (okB_drop 1 hok)
    have hsp := fun hw => en_split (xs := xs) (by omega) hw
    have HO := Lib.hid hok
    have HV := Lib.hid hv
    have HV1 := Lib.hid hv1
    have HV2 := Lib.hid hv2
    have HSP := Lib.hid hsp
    clear hok hv hv1 hv2 hsp f2
    generalize enF xs = E at *
    generalize enF (xs.take 1) = E1 at *
    generalize enF (xs.drop 1) = E2 at *
    by_cases h0 : k = 0
    · subst h0
      go_wp2_with fail
      refine (energy_any _ HS.out (by omega)).mono ?_
      rintro e w' ⟨rfl, m1, rfl⟩
      rw [HV.out]
      go_wp2_with fail
      refine (senergy_any _ (HS.out.drewN _) (by omega)).mono ?_
      rintro e w' ⟨rfl, m2, rfl⟩
      rw [HV.out]
      go_wp2_with fail
      refine (samePart_any _ _ _ f1 f1 rfl).mono ?_
      rintro e w' ⟨rfl, rfl⟩
      go_wp2_with fail
      refine (ok_any _ (HS.out.drewN _) (by omega)).mono ?_
      rintro e w' ⟨rfl, m3, rfl⟩
      rw [HO.out]
      go_wp2_with fail
      refine (alive_any _).mono ?_
      rintro e w' ⟨rfl, m4, rfl⟩
      go_wp2
      go_ret
      exact ⟨rfl, below_drewN' HB.out _⟩
    · have hkne : ((k : Int) == 0) = false := by simpa using h0
      rcases hform with ⟨_, h', _⟩ | ⟨g, rfl, _, _⟩
      · exact absurd h' h0
      go_wp2_with fail
      refine (energy_any _ HS.out (by omega)).mono ?_
      rintro e w' ⟨rfl, m1, rfl⟩
      rw [HV.out]
      go_wp2_with fail
      refine (senergy_any _ (HS.out.drewN _) (by omega)).mono ?_
      rintro e w' ⟨rfl, m2, rfl⟩
      rw [HV.out]
      go_wp2_with fail
      refine (samePart_any _ _ _ f1 f1 rfl).mono ?_
      rintro e w' ⟨rfl, rfl⟩
      go_wp2_with fail
      refine (ok_any _ (HS.out.drewN _) (by omega)).mono ?_
      rintro e w' ⟨rfl, m3, rfl⟩
      rw [HO.out]
      go_wp2_with fail
      refine (wholeSignal_any 1000 _ (HS.out.drewN _) HN.out (by omega) (by omega) (by omega)).mono ?_
      rintro e w4 ⟨b, rfl, hbw, m4, hw4⟩
      have HBW := Lib.hid hbw
      have hb4 : Below w.heap.size w w4 := by rw [hw4]; exact below_drewN' (below_drewN' HB.out _) _
      have HB4 := Lib.hid hb4
      have hs4 : Sg w4 (some ⟨g, 0, none⟩) k c xs := by rw [hw4]; exact (HS.out.drewN _).drewN _
      have HS4 := Lib.hid hs4
      clear hbw hb4 hs4 hw4
      cases b
      · go_wp2_with fail
        refine (alive_any _).mono ?_
        rintro e w' ⟨rfl, m5, rfl⟩
        go_wp2
        go_ret
        exact ⟨rfl, below_drewN' HB4.out _⟩
      · obtain ⟨p1, p2⟩ := HSP.out (HBW.out (by simp))
        have e1 := fun w => fa_eqS w p1
        generalize ad E1 E2 = E3 at *
        clear p1 HSP HBW
        have q1 : ∀ n, Calls Try.prog 21 #[.slice (some ⟨g, 0, none⟩) 1 c] (w4.drewN n) fun e w' => e = .returned (.float .f64 E1) ∧ ∃ m, w' = (w4.drewN n).drewN m := fun n => by
          rw [← HV1.out]; exact energy_any _ ((HS4.out.take 1 (by omega)).drewN n) (by omega)
        have q2 : ∀ n, Calls Try.prog 21 #[.slice (if c = 1 then some ⟨g, 0, none⟩ else some ⟨g, 1, none⟩) (k - 1) (c - 1)] (w4.drewN n) fun e w' => e = .returned (.float .f64 E2) ∧ ∃ m, w' = (w4.drewN n).drewN m := fun n => by
          rw [← HV2.out]; exact energy_any _ ((HS4.out.drop1 (by omega)).drewN n) (by omega)
        have Q1 := Lib.hid q1
        have Q2 := Lib.hid q2
        clear q1 q2
        go_wp2
        go_quiet ((first | (go_at_call 21; with_reducible (exact Calls.quiet_of (Q1.out _))) | (go_at_call 21; with_reducible (exact Calls.quiet_of (Q2.out _)))))
        all_goals go_wp2
        all_goals
          go_ret
          exact ⟨rfl, below_drewN' HB4.out _⟩
end Go.Proofs.Ytpiokngbldehmaa
