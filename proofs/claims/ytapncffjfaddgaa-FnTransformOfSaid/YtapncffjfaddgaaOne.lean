/- OneNumberOf, the program's and the reference's. -/
import Derived.Test.YtapncffjfaddgaaTrans2
namespace Go.Proofs.Ytapncffjfaddgaa
open Go.RowKit Go.FR Go.FV

/-- Whether OneNumberOf is told, and what it gives. -/
def onB (n : Nat) (k : Int) (xs : List (Nat × Nat)) : Bool := sizB n xs && decide (0 ≤ k ∧ k < n)
def onW (n : Nat) (k : Int) (xs : List (Nat × Nat)) : Nat × Nat := if onB n k xs = true then tsW (trB n k.toNat) xs n else (0, 0)
theorem onB_iff {n : Nat} {k : Int} {xs : List (Nat × Nat)} : onB n k xs = true ↔ sizB n xs = true ∧ 0 ≤ k ∧ k < n := by unfold onB; rw [Bool.and_eq_true, decide_eq_true_eq]

set_option maxHeartbeats 800000 in
theorem one_any {A : Option Addr} {n c : Nat} {xs : List (Nat × Nat)} (k : Int) (w : World) (h : Sg w A n c xs) (hm : n ≤ 1048576) (hok : TrOk n xs) (hk0 : -100 ≤ k) (hk1 : k ≤ 100) :
    Calls Try.prog 8 #[.slice A n c, .int .i64 k] w fun e w' => e = .returned (.tuple #[cx (onW n k xs), .bool (onB n k xs)]) ∧ Below w.heap.size w w' := by
  have hl := h.len
  have HS := Lib.hid h
  cases hb : onB n k xs
  · have hv : onW n k xs = (0, 0) := by unfold onW; rw [hb]; rfl
    rw [hv]
    clear hv h hok
    cases hsz : sizB n xs
    · have HO := Lib.hid hsz
      clear hsz hb
      go_enter Try.func8, Try.ntmps8
      go_wp2_with (go_at_call 34; refine (siz_any _ HS.out hm).mono ?_; rintro e w' ⟨rfl, m2, rfl⟩; rw [HO.out])
      go_ret2
      exact ⟨rfl, below_drewN' (Below.refl _ _) _⟩
    · have HO := Lib.hid hsz
      have hkk : k < 0 ∨ (n : Int) ≤ k := by
        unfold onB at hb
        rw [hsz, Bool.true_and, decide_eq_false_iff_not] at hb
        omega
      clear hsz hb
      rcases hkk with hkk | hkk
      · go_enter Try.func8, Try.ntmps8
        go_wp2_with (go_at_call 34; refine (siz_any _ HS.out hm).mono ?_; rintro e w' ⟨rfl, m2, rfl⟩; rw [HO.out])
        go_ret2
        exact ⟨rfl, below_drewN' (Below.refl _ _) _⟩
      · have hk3 : ¬ k < 0 := by omega
        go_enter Try.func8, Try.ntmps8
        go_wp2_with (go_at_call 34; refine (siz_any _ HS.out hm).mono ?_; rintro e w' ⟨rfl, m2, rfl⟩; rw [HO.out])
        go_ret2
        exact ⟨rfl, below_drewN' (Below.refl _ _) _⟩
  · have hv : onW n k xs = tsW (trB n k.toNat) xs n := by unfold onW; rw [hb]; rfl
    obtain ⟨hsz, k0, k1⟩ := onB_iff.1 hb
    obtain ⟨j, rfl⟩ := Int.eq_ofNat_of_zero_le k0
    rw [Int.toNat_natCast] at hv
    obtain ⟨hp, hk⟩ := sizB_iff.1 hsz
    obtain ⟨hle, _⟩ := okB_iff.1 hk
    have HO := Lib.hid hsz
    have HV := Lib.hid hv
    have HP := Lib.hid (sizN hp)
    have ht := hok hsz j (by omega)
    unfold trB at ht
    have HT := Lib.hid ht
    clear hk hv hsz hp hok ht h hb
    go_enter Try.func8, Try.ntmps8
    go_wp2_with fail
    refine (siz_any _ HS.out hm).mono ?_
    rintro e w2 ⟨rfl, m2, hw2⟩
    rw [HO.out]
    have HS2 := Lib.hid (by rw [hw2]; exact HS.out.drewN m2 : Sg w2 A n c xs)
    have HB2 := Lib.hid (by rw [hw2]; exact below_drewN' (Below.refl _ _) m2 : Below w.heap.size w w2)
    clear hw2
    go_wp2_with fail
    refine (tsum_any (-(j : Int)) _ HS2.out HP.out (by omega) (by omega) HT.out).mono ?_
    rintro e w3 ⟨rfl, hb3⟩
    have HB3 := Lib.hid (HB2.out.trans (hb3.mono HB2.out.size))
    clear hb3
    rw [show ((16 / n : Nat) : Int) * (-(j : Int)) = trB n j from rfl, ← HV.out]
    generalize hrr : onW n (j : Int) xs = r at *
    have HRR := Lib.hid hrr
    clear hrr
    obtain ⟨r1, r2⟩ := r
    unfold cx
    simp only
    go_wp2
    go_ret2
    exact ⟨by rw [HRR.out]; rfl, HB3.out⟩

set_option maxHeartbeats 800000 in
theorem sone_any {A : Option Addr} {n c : Nat} {xs : List (Nat × Nat)} (k : Int) (w : World) (h : Sg w A n c xs) (hm : n ≤ 1048576) (hok : TrOk n xs) (hk0 : -100 ≤ k) (hk1 : k ≤ 100) :
    Calls Try.prog 9 #[.slice A n c, .int .i64 k] w fun e w' => e = .returned (.tuple #[cx (onW n k xs), .bool (onB n k xs)]) ∧ Below w.heap.size w w' := by
  have hl := h.len
  have HS := Lib.hid h
  cases hb : onB n k xs
  · have hv : onW n k xs = (0, 0) := by unfold onW; rw [hb]; rfl
    rw [hv]
    clear hv h hok
    cases hsz : sizB n xs
    · have HO := Lib.hid hsz
      clear hsz hb
      go_enter Try.func9, Try.ntmps9
      go_wp2_with (go_at_call 29; refine (ssiz_any _ HS.out hm).mono ?_; rintro e w' ⟨rfl, m2, rfl⟩; rw [HO.out])
      go_ret2
      exact ⟨rfl, below_drewN' (Below.refl _ _) _⟩
    · have HO := Lib.hid hsz
      have hin : inB k 0 ((n : Int) - 1) = false := by
        unfold onB at hb
        rw [hsz, Bool.true_and, decide_eq_false_iff_not] at hb
        unfold inB; rw [decide_eq_false]; omega
      have HI := Lib.hid hin
      clear hsz hb hin
      go_enter Try.func9, Try.ntmps9
      go_wp2_with (first | (go_at_call 29; refine (ssiz_any _ HS.out hm).mono ?_; rintro e w' ⟨rfl, m2, rfl⟩; rw [HO.out]) | (go_at_call 36; refine (l1In_any _ _ _ _).mono ?_; rintro e w' ⟨rfl, rfl⟩; rw [HI.out]))
      go_ret2
      exact ⟨rfl, below_drewN' (Below.refl _ _) _⟩
  · have hv : onW n k xs = tsW (trB n k.toNat) xs n := by unfold onW; rw [hb]; rfl
    obtain ⟨hsz, k0, k1⟩ := onB_iff.1 hb
    obtain ⟨j, rfl⟩ := Int.eq_ofNat_of_zero_le k0
    rw [Int.toNat_natCast] at hv
    obtain ⟨hp, hk⟩ := sizB_iff.1 hsz
    obtain ⟨hle, _⟩ := okB_iff.1 hk
    have hn0 : 0 < n := by omega
    have hin : inB (j : Int) 0 ((n : Int) - 1) = true := by unfold inB; rw [decide_eq_true]; omega
    have hbb := trB_bound n j (by omega) (by omega)
    obtain ⟨st, hst, hst1⟩ : ∃ st : Nat, st = 16 / n ∧ st ≤ 16 := ⟨16 / n, rfl, Nat.div_le_self _ _⟩
    have hdiv : (16 : Int).tdiv (n : Int) = (st : Int) := by rw [hst, Int.tdiv_eq_ediv_of_nonneg (by omega)]; rfl
    have hdiv2 : (16 : Int) / (n : Int) = (st : Int) := by rw [hst]; rfl
    have hnz : ¬ ((n : Int) = 0) := by omega
    have hbe : -(j : Int) * (st : Int) = trB n j := by unfold trB; rw [← hst, Int.mul_comm]
    have ht := hok hsz j (by omega)
    obtain ⟨b, hbd⟩ : ∃ b, trB n j = b := ⟨_, rfl⟩
    rw [hbd] at hbe hbb ht hv
    have hbe2 : -((j : Int) * (st : Int)) = b := by rw [← hbe, Int.neg_mul]
    have HO := Lib.hid hsz
    have HV := Lib.hid hv
    have HI := Lib.hid hin
    have HT := Lib.hid ht
    clear hk hv hsz hp hok ht h hb hin hbd hst
    go_enter Try.func9, Try.ntmps9
    go_wp2_with fail
    refine (ssiz_any _ HS.out hm).mono ?_
    rintro e w2 ⟨rfl, m2, hw2⟩
    rw [HO.out]
    have HS2 := Lib.hid (by rw [hw2]; exact HS.out.drewN m2 : Sg w2 A n c xs)
    have HB2 := Lib.hid (by rw [hw2]; exact below_drewN' (Below.refl _ _) m2 : Below w.heap.size w w2)
    clear hw2
    go_wp2_with fail
    refine (l1In_any _ _ _ _).mono ?_
    rintro e w' ⟨rfl, rfl⟩
    rw [HI.out]
    go_wp2_with fail
    refine (l2sum_any b _ HS2.out (by omega) (by omega) hbb HT.out).mono ?_
    rintro e w3 ⟨rfl, hb3⟩
    have HB3 := Lib.hid (HB2.out.trans (hb3.mono HB2.out.size))
    clear hb3
    rw [← HV.out]
    generalize hrr : onW n (j : Int) xs = r at *
    have HRR := Lib.hid hrr
    clear hrr
    obtain ⟨r1, r2⟩ := r
    unfold cx
    simp only
    go_wp2
    go_ret2
    exact ⟨by rw [HRR.out]; rfl, HB3.out⟩
end Go.Proofs.Ytapncffjfaddgaa
