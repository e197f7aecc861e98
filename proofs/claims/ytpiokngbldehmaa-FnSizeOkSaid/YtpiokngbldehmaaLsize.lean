/- The law FnSizeOk. -/
import Derived.Test.YtpiokngbldehmaaLsok
import Derived.Test.YtpiokngbldehmaaSize
namespace Go.Proofs.Ytpiokngbldehmaa
open Go.RowKit Go.FR Go.FV

theorem sizB_half {k : Nat} {xs : List (Nat × Nat)} (h : sizB k xs = true) (h2 : 2 ≤ k) : sizB (k / 2) (xs.take (k / 2)) = true := by
  rw [sizB_iff] at *
  refine ⟨?_, okB_take _ h.2⟩
  rcases powB_cases h.1 with h | h | h | h | h
  · omega
  all_goals
    have e : k / 2 = 1 ∨ k / 2 = 2 ∨ k / 2 = 4 ∨ k / 2 = 8 := by omega
    rcases e with e | e | e | e <;> rw [e] <;> decide
theorem sizB_nil : sizB 0 [] = false := by decide

set_option maxHeartbeats 1600000 in
theorem law_FnSizeOk (a : Option Addr) (len cap : Nat) (z : List Int) (w : World) (h : CodeIs w a len cap z) :
    Calls Try.prog 8 #[.slice a len cap] w fun e w' => e = .returned (.bool true) ∧ Below w.heap.size w w' := by
  have HC := Lib.hid h
  clear h
  by_cases hbig : 1048576 < len
  · go_enter Try.func8, Try.ntmps8
    go_wp2
    go_ret
    exact ⟨rfl, Below.refl _ _⟩
  go_enter Try.func8, Try.ntmps8
  go_wp2_with fail
  refine (drawSizeOk_any _ HC.out).mono ?_
  rintro e w1 ⟨A, k, c, xs, rfl, ho, hsg, hk, hb⟩
  have hs := ho.sg
  have hl := ho.len
  have hcap := hs.cap
  have hform := ho.form
  have HB := Lib.hid hb
  have HS := Lib.hid hs
  clear ho hb hs HC
  cases hok : sizB k xs
  · have HO := Lib.hid hok
    clear hok
    go_wp2_with fail
    refine (siz_any _ HS.out (by omega)).mono ?_
    rintro e w' ⟨rfl, m1, rfl⟩
    rw [HO.out]
    go_wp2_with fail
    refine (ssiz_any _ (HS.out.drewN m1) (by omega)).mono ?_
    rintro e w' ⟨rfl, m2, rfl⟩
    rw [HO.out]
    go_wp2_with fail
    refine (siz_any (xs := []) _ (Sg.empty _ _ _) (by omega)).mono ?_
    rintro e w' ⟨rfl, m3, rfl⟩
    rw [sizB_nil]
    go_wp2_with fail
    refine (alive_any _).mono ?_
    rintro e w' ⟨rfl, m4, rfl⟩
    go_wp2
    go_ret
    exact ⟨rfl, below_drewN' ((below_drewN' HB.out _).alloc HB.out.size _) _⟩
  · have HO := Lib.hid hok
    by_cases h0 : k < 2
    · clear hok
      go_wp2_with fail
      refine (siz_any _ HS.out (by omega)).mono ?_
      rintro e w' ⟨rfl, m1, rfl⟩
      rw [HO.out]
      go_wp2_with fail
      refine (ssiz_any _ (HS.out.drewN m1) (by omega)).mono ?_
      rintro e w' ⟨rfl, m2, rfl⟩
      rw [HO.out]
      go_wp2_with fail
      refine (siz_any (xs := []) _ (Sg.empty _ _ _) (by omega)).mono ?_
      rintro e w' ⟨rfl, m3, rfl⟩
      rw [sizB_nil]
      go_wp2_with fail
      refine (alive_any _).mono ?_
      rintro e w' ⟨rfl, m4, rfl⟩
      go_wp2
      go_ret
      exact ⟨rfl, below_drewN' ((below_drewN' HB.out _).alloc HB.out.size _) _⟩
    · have HT := Lib.hid (sizB_half hok (by omega))
      clear hok
      rcases hform with ⟨_, h', _⟩ | ⟨g, rfl, _, _⟩
      · omega
      go_wp2_with fail
      refine (siz_any _ HS.out (by omega)).mono ?_
      rintro e w' ⟨rfl, m1, rfl⟩
      rw [HO.out]
      go_wp2_with fail
      refine (ssiz_any _ (HS.out.drewN m1) (by omega)).mono ?_
      rintro e w' ⟨rfl, m2, rfl⟩
      rw [HO.out]
      go_wp2_with fail
      refine (siz_any _ ((HS.out.take (k / 2) (by omega)).drewN _) (by omega)).mono ?_
      rintro e w' ⟨rfl, m5, rfl⟩
      rw [HT.out]
      go_wp2_with fail
      refine (siz_any (xs := []) _ (Sg.empty _ _ _) (by omega)).mono ?_
      rintro e w' ⟨rfl, m3, rfl⟩
      rw [sizB_nil]
      go_wp2_with fail
      refine (alive_any _).mono ?_
      rintro e w' ⟨rfl, m4, rfl⟩
      go_wp2
      go_ret
      exact ⟨rfl, below_drewN' ((below_drewN' HB.out _).alloc HB.out.size _) _⟩
end Go.Proofs.Ytpiokngbldehmaa
