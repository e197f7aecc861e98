/- The law FnTurnedOf. -/
import Derived.Test.YtpiokngbldehmaaTurned
import Derived.Test.YtpiokngbldehmaaEnp
import Derived.Test.YtpiokngbldehmaaDsig
import Derived.Test.YtpiokngbldehmaaAlive
namespace Go.Proofs.Ytpiokngbldehmaa
open Go.RowKit Go.FR Go.FV

theorem tuW_fin {p : Nat × Nat} (h : FinP p) : FinP (tuW p) := ⟨h.1, by unfold tuW; rw [neg32_fin]; exact h.2⟩
theorem tuL_ok {xs : List (Nat × Nat)} (h : okB xs = true) : tuL xs = xs.map tuW ∧ okB (xs.map tuW) = true := by
  refine ⟨by unfold tuL; rw [h]; rfl, ?_⟩
  rw [okB_iff] at *
  refine ⟨by simpa using h.1, fun p hp => ?_⟩
  obtain ⟨q, hq, rfl⟩ := List.mem_map.1 hp
  exact tuW_fin (h.2 q hq)
theorem tu_twice {xs : List (Nat × Nat)} (h : okB xs = true) : EqS ((xs.map tuW).map tuW) xs := by
  obtain ⟨_, hf⟩ := okB_iff.1 h
  refine ⟨by simp, fun i hi hi' => ?_⟩
  have hx := hf _ (List.getElem_mem hi')
  simp only [List.getElem_map]
  exact ⟨tuW_fin (tuW_fin hx), hx, rfl, neg32_twice _⟩
theorem tu_energy {xs : List (Nat × Nat)} (h : okB xs = true) : enF (xs.map tuW) = enF xs := by
  have hf := (okB_iff.1 h).2
  clear h
  unfold enF
  generalize (0 : Nat) = s
  induction xs generalizing s with
  | nil => rfl
  | cons p xs ih =>
    have hp := hf p (List.mem_cons_self ..)
    have e : enS s (tuW p) = enS s p := by
      unfold enS tuW
      simp only
      rw [sq_neg hp.2]
    simp only [List.map_cons, List.foldl_cons]
    rw [e]
    exact ih (fun q hq => hf q (List.mem_cons_of_mem _ hq)) (enS s p)

set_option maxHeartbeats 3200000 in
theorem law_FnTurnedOf (a : Option Addr) (len cap : Nat) (z : List Int) (w : World) (h : CodeIs w a len cap z) :
    Calls Try.prog 5 #[.slice a len cap] w fun e w' => e = .returned (.bool true) ∧ Below w.heap.size w w' := by
  have HC := Lib.hid h
  clear h
  by_cases hbig : 1048576 < len
  · go_enter Try.func5, Try.ntmps5
    go_wp2
    go_ret
    exact ⟨rfl, Below.refl _ _⟩
  go_enter Try.func5, Try.ntmps5
  go_wp2_with fail
  refine (drawTurnedOf_any _ HC.out).mono ?_
  rintro e w1 ⟨A, k, c, xs, rfl, ho, hsg, hk, hb⟩
  have hl := ho.len
  have HB := Lib.hid hb
  have HS := Lib.hid ho.sg
  clear ho hb HC hsg
  go_wp2_with fail
  refine (turned_any _ HS.out (by omega)).mono ?_
  rintro e w2 ⟨A2, k2, c2, rfl, hk2, ho2, hb2⟩
  have HO2 := Lib.hid ho2
  have HB2 := Lib.hid hb2
  have hl2 := ho2.len
  clear ho2 hb2
  go_wp2_with fail
  refine (sturned_any _ (HS.out.below HB2.out) (by omega)).mono ?_
  rintro e w3 ⟨A3, k3, c3, rfl, hk3, ho3, hb3⟩
  have HO3 := Lib.hid ho3
  have HB3 := Lib.hid hb3
  clear ho3 hb3
  have HS3 := Lib.hid ((HS.out.below HB2.out).below HB3.out)
  have HY3 := Lib.hid ((HO2.out.below HB3.out).sg)
  cases hok : okB xs
  · have hv : tuL xs = [] := by unfold tuL; rw [hok]; rfl
    have HV := Lib.hid hv
    rw [hv] at hl2
    simp only [List.length_nil] at hl2
    subst hl2
    clear hok hv
    go_wp2_with fail
    refine (sameSignal_any _ HY3.out HO3.out.sg (by rw [HV.out]; exact EqS.nil) (by omega)).mono ?_
    rintro e w' ⟨rfl, m1, rfl⟩
    go_wp2_with fail
    refine (alive_any _).mono ?_
    rintro e w' ⟨rfl, m2, rfl⟩
    go_wp2
    go_ret
    exact ⟨rfl, below_drewN' (HB.out.trans ((HB2.out.trans (HB3.out.mono HB2.out.size)).mono HB.out.size)) _⟩
  · obtain ⟨e1, e2⟩ := tuL_ok hok
    have HV := Lib.hid e1
    have HK := Lib.hid hok
    have HE := Lib.hid e2
    have HT := Lib.hid (tu_twice hok)
    have HEN := Lib.hid (tu_energy hok)
    obtain ⟨f1, f2⟩ := enF_ok hok
    have HF := Lib.hid f1
    clear e1 e2 hok f1 f2
    have hb3 : Below w.heap.size w w3 := HB.out.trans ((HB2.out.trans (HB3.out.mono HB2.out.size)).mono HB.out.size)
    have HBB := Lib.hid hb3
    clear hb3
    by_cases h0 : k2 = 0
    · subst h0
      go_wp2_with fail
      refine (sameSignal_any _ HY3.out HO3.out.sg (by rw [HV.out]; exact EqS.refl_ok HE.out) (by omega)).mono ?_
      rintro e w' ⟨rfl, m1, rfl⟩
      go_wp2_with fail
      refine (alive_any _).mono ?_
      rintro e w' ⟨rfl, m2, rfl⟩
      go_wp2
      go_ret
      exact ⟨rfl, below_drewN' HBB.out _⟩
    · have hkne : ((k2 : Int) == 0) = false := by simpa using h0
      go_wp2_with fail
      refine (sameSignal_any _ HY3.out HO3.out.sg (by rw [HV.out]; exact EqS.refl_ok HE.out) (by omega)).mono ?_
      rintro e w4 ⟨rfl, m1, hw4⟩
      have HS4 := Lib.hid (by rw [hw4]; exact HS3.out.drewN m1 : Sg w4 A k c xs)
      have HY4 := Lib.hid (by rw [hw4, ← HV.out]; exact HY3.out.drewN m1 : Sg w4 A2 k2 c2 (xs.map tuW))
      have HB4 := Lib.hid (by rw [hw4]; exact below_drewN' HBB.out m1 : Below w.heap.size w w4)
      clear hw4
      go_wp2_with fail
      refine (turned_any _ HY4.out (by omega)).mono ?_
      rintro e w5 ⟨A5, k5, c5, rfl, hk5, ho5, hb5⟩
      have HO5 := Lib.hid ho5
      have HB5 := Lib.hid hb5
      clear ho5 hb5
      go_wp2_with fail
      refine (sameSignal_any _ HO5.out.sg (HS4.out.below HB5.out) (by rw [(tuL_ok HE.out).1]; exact HT.out) (by omega)).mono ?_
      rintro e w6 ⟨rfl, m2, hw6⟩
      have HS6 := Lib.hid (by rw [hw6]; exact (HS4.out.below HB5.out).drewN m2 : Sg w6 A k c xs)
      have HY6 := Lib.hid (by rw [hw6]; exact (HY4.out.below HB5.out).drewN m2 : Sg w6 A2 k2 c2 (xs.map tuW))
      have HB6 := Lib.hid (by rw [hw6]; exact below_drewN' (HB4.out.trans (HB5.out.mono HB4.out.size)) m2 : Below w.heap.size w w6)
      clear hw6
      have eo := order_eq64 HF.out HF.out rfl
      have E1 := Lib.hid ((enV_ok HE.out).trans HEN.out)
      have E2 := Lib.hid (enV_ok HK.out)
      generalize enF xs = E at *
      clear HF HT HEN HE HV HK HS4 HY4 HO5 HB5 HS3 HY3 HO3 HB3 HO2 HB2 HS
      go_wp2_with fail
      refine (energy_any _ HY6.out (by omega)).mono ?_
      rintro e w' ⟨rfl, m3, rfl⟩
      rw [E1.out]
      go_wp2_with fail
      refine (energy_any _ (HS6.out.drewN _) (by omega)).mono ?_
      rintro e w' ⟨rfl, m4, rfl⟩
      rw [E2.out]
      go_wp2
      go_ret
      exact ⟨rfl, below_drewN' HB6.out _⟩
end Go.Proofs.Ytpiokngbldehmaa
