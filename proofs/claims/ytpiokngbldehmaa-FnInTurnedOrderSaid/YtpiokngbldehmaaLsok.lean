/- The law FnSignalOk. -/
import Derived.Test.YtpiokngbldehmaaDsig
import Derived.Test.YtpiokngbldehmaaOk
namespace Go.Proofs.Ytpiokngbldehmaa
open Go.RowKit Go.FR Go.FV

theorem Sg.take {w : World} {A : Option Addr} {n c : Nat} {xs : List (Nat × Nat)} (h : Sg w A n c xs) (m : Nat) (hm : m ≤ n) : Sg w A m c (xs.take m) := by
  have hl := h.len
  refine ⟨by simp; omega, by have := h.cap; omega, fun h0 => ?_⟩
  obtain ⟨g, off, hA, hg, hc⟩ := h.at_ (by omega)
  refine ⟨g, off, hA, hg, fun i hi => ?_⟩
  have hi' : i < xs.length := by simp at hi; omega
  rw [hc i hi']; simp
theorem okB_take {xs : List (Nat × Nat)} (m : Nat) (h : okB xs = true) : okB (xs.take m) = true := by
  rw [okB_iff] at *
  exact ⟨by simp; omega, fun p hp => h.2 p (List.mem_of_mem_take hp)⟩

theorem cast_le_pred {k : Nat} (h : ¬ k = 0) : ((k : Int) - 1) = ((k - 1 : Nat) : Int) := by omega

set_option maxHeartbeats 1600000 in
theorem law_FnSignalOk (a : Option Addr) (len cap : Nat) (z : List Int) (w : World) (h : CodeIs w a len cap z) :
    Calls Try.prog 7 #[.slice a len cap] w fun e w' => e = .returned (.bool true) ∧ Below w.heap.size w w' := by
  have HC := Lib.hid h
  clear h
  by_cases hbig : 1048576 < len
  · go_enter Try.func7, Try.ntmps7
    go_wp2
    go_ret
    exact ⟨rfl, Below.refl _ _⟩
  go_enter Try.func7, Try.ntmps7
  go_wp2_with fail
  refine (drawSignalOk_any _ HC.out).mono ?_
  rintro e w1 ⟨A, k, c, xs, rfl, ho, _, hk, hb⟩
  have hs := ho.sg
  have hl := ho.len
  have hcap := hs.cap
  have hform := ho.form
  have HB := Lib.hid hb
  have HS := Lib.hid hs
  clear ho hb hs HC
  cases hok : okB xs
  · have HO := Lib.hid hok
    clear hok
    go_wp2_with fail
    refine (ok_any _ HS.out (by omega)).mono ?_
    rintro e w' ⟨rfl, m1, rfl⟩
    rw [HO.out]
    go_wp2_with fail
    refine (sok_any _ (HS.out.drewN m1) (by omega)).mono ?_
    rintro e w' ⟨rfl, m2, rfl⟩
    rw [HO.out]
    go_wp2_with fail
    refine (ok_any (xs := []) _ (Sg.empty _ _ _) (by omega)).mono ?_
    rintro e w' ⟨rfl, m3, rfl⟩
    rw [okB_nil]
    go_wp2_with fail
    refine (alive_any _).mono ?_
    rintro e w' ⟨rfl, m4, rfl⟩
    go_wp2
    go_ret
    exact ⟨rfl, below_drewN' ((below_drewN' HB.out _).alloc HB.out.size _) _⟩
  · have HO := Lib.hid hok
    have HT := Lib.hid (okB_take (k - 1) hok)
    clear hok
    by_cases h0 : k = 0
    · subst h0
      go_wp2_with fail
      refine (ok_any _ HS.out (by omega)).mono ?_
      rintro e w' ⟨rfl, m1, rfl⟩
      rw [HO.out]
      go_wp2_with fail
      refine (sok_any _ (HS.out.drewN m1) (by omega)).mono ?_
      rintro e w' ⟨rfl, m2, rfl⟩
      rw [HO.out]
      go_wp2_with fail
      refine (ok_any (xs := []) _ (Sg.empty _ _ _) (by omega)).mono ?_
      rintro e w' ⟨rfl, m3, rfl⟩
      rw [okB_nil]
      go_wp2_with fail
      refine (alive_any _).mono ?_
      rintro e w' ⟨rfl, m4, rfl⟩
      go_wp2
      go_ret
      exact ⟨rfl, below_drewN' ((below_drewN' HB.out _).alloc HB.out.size _) _⟩
    · have hkne : ((k : Int) == 0) = false := by simpa using h0
      rcases hform with ⟨_, h', _⟩ | ⟨g, rfl, _, _⟩
      · exact absurd h' h0
      have ek := cast_le_pred h0
      go_wp2_with fail
      refine (ok_any _ HS.out (by omega)).mono ?_
      rintro e w' ⟨rfl, m1, rfl⟩
      rw [HO.out]
      go_wp2_with fail
      refine (sok_any _ (HS.out.drewN m1) (by omega)).mono ?_
      rintro e w' ⟨rfl, m2, rfl⟩
      rw [HO.out]
      go_wp2_with fail
      refine (ok_any _ ((HS.out.take (k - 1) (by omega)).drewN _) (by omega)).mono ?_
      rintro e w' ⟨rfl, m5, rfl⟩
      rw [HT.out]
      go_wp2_with fail
      refine (ok_any (xs := []) _ (Sg.empty _ _ _) (by omega)).mono ?_
      rintro e w' ⟨rfl, m3, rfl⟩
      rw [okB_nil]
      go_wp2_with fail
      refine (alive_any _).mono ?_
      rintro e w' ⟨rfl, m4, rfl⟩
      go_wp2
      go_ret
      exact ⟨rfl, below_drewN' ((below_drewN' HB.out _).alloc HB.out.size _) _⟩
end Go.Proofs.Ytpiokngbldehmaa
