/- The sums of products with turns, the program's and the reference's. -/
import Derived.Test.YtapncffjfaddgaaPlus
import Derived.Test.YtapncffjfaddgaaPoints
import Derived.Deep.RegionHeld3
import Derived.Deep.DrawnRows
namespace Go.Proofs.Ytapncffjfaddgaa
open Go.RowKit Go.FR Go.FV

set_option maxHeartbeats 1600000 in
theorem tsum_any {A : Option Addr} {n c : Nat} {xs : List (Nat × Nat)} (k : Int) (w : World) (h : Sg w A n c xs) (hn : SizeN n) (hk0 : -20 ≤ k) (hk1 : k ≤ 20) (hok : TsOk ((16 / n : Nat) * k) xs) :
    Calls Try.prog 35 #[.slice A n c, .int .i64 k] w fun e w' => e = .returned (.tuple #[cx (tsW ((16 / n : Nat) * k) xs n), .bool true]) ∧ Below w.heap.size w w' := by
  have hl := h.len
  have HOK := Lib.hid hok
  have hs1 : 1 ≤ n ∧ n ≤ 16 := by unfold SizeN at hn; omega
  obtain ⟨st, hst, hst1⟩ : ∃ st : Nat, st = 16 / n ∧ st ≤ 16 := ⟨16 / n, rfl, Nat.div_le_self _ _⟩
  have hdiv : (16 : Int).tdiv (n : Int) = (st : Int) := by rw [hst, Int.tdiv_eq_ediv_of_nonneg (by omega)]; rfl
  have hnz : ¬ ((n : Int) = 0) := by omega
  rw [← hst] at HOK ⊢
  obtain ⟨g, off, rfl, hg, hc⟩ := h.at_ (by omega)
  have HC := Lib.hid hc
  clear h hc hok hn hst
  have hmul0 : -320 ≤ (st : Int) * k ∧ (st : Int) * k ≤ 320 := by
    have h1 : (st : Int) * k ≤ 16 * 20 := by
      rcases (by omega : 0 ≤ k ∨ k ≤ 0) with h | h
      · exact Int.mul_le_mul (by omega) hk1 h (by omega)
      · have := Int.mul_nonneg (by omega : (0 : Int) ≤ st) (by omega : (0 : Int) ≤ -k)
        rw [Int.mul_neg] at this; omega
    have h2 : (st : Int) * -k ≤ 16 * 20 := by
      rcases (by omega : 0 ≤ -k ∨ -k ≤ 0) with h | h
      · exact Int.mul_le_mul (by omega) (by omega) h (by omega)
      · have := Int.mul_nonneg (by omega : (0 : Int) ≤ st) (by omega : (0 : Int) ≤ k)
        rw [Int.mul_neg]; omega
    rw [Int.mul_neg] at h2
    omega
  obtain ⟨b, hb⟩ : ∃ b, (st : Int) * k = b := ⟨_, rfl⟩
  rw [hb] at hmul0 HOK ⊢
  go_enter Try.func35, Try.ntmps35
  go_wp2
  go_loopw [7, 17] (fun sv i wr => ∃ j : Nat, j ≤ n ∧ i = .int .i64 j ∧ sv = .complex .f32 (tsW b xs j).1 (tsW b xs j).2 ∧ Below w.heap.size w wr) (fun _ i _ => n - (intOf i).toNat)
  case atStart => exact ⟨0, by omega, rfl, rfl, Below.refl _ _⟩
  case round =>
    obtain ⟨j, hj, rfl, rfl, hbel⟩ := hrel
    by_cases hlt : j < n
    · have hx : j < xs.length := by omega
      have c1 : wr.cell? ⟨g, off + j, none⟩ = some (cx xs[j]) := by rw [hbel.cell (p := ⟨g, off + j, none⟩) hg]; exact HC.out j hx
      obtain ⟨hm, hf⟩ := HOK.out j hx
      have hs := HOK.out.fin j (by omega)
      have hgd : xs.getD j (0, 0) = xs[j] := by simp [hx]
      have hnext : tsW b xs (j + 1) = adW (tsW b xs j) (mlW xs[j] (turnF (b * j))) := by
        show adW (tsW b xs j) (mlW (xs.getD j (0, 0)) (turnF (b * j))) = _
        rw [hgd]
      rw [hgd] at hm
      rw [hnext] at hf
      obtain ⟨cc, hcc⟩ : ∃ cc, b * (j : Int) = cc := ⟨_, rfl⟩
      have hcb : -5120 ≤ cc ∧ cc ≤ 5120 := by
        rw [← hcc]
        have h1 := Int.mul_le_mul_of_nonneg_right hmul0.2 (by omega : (0 : Int) ≤ (j : Int))
        have h2 := Int.mul_le_mul_of_nonneg_right hmul0.1 (by omega : (0 : Int) ≤ (j : Int))
        omega
      rw [hcc] at hm hf hnext
      have HM := Lib.hid hm
      have HS := Lib.hid hs
      have HF := Lib.hid hf
      have HN := Lib.hid hnext
      have HB := Lib.hid hbel
      clear hm hs hf hnext hbel HC hgd HOK
      generalize tsW b xs j = s at *
      generalize xs[j] = p at *
      obtain ⟨p1, p2⟩ := p
      unfold cx at c1
      simp only at c1
      go_wp2_with fail
      refine (turn_any cc _).mono ?_
      rintro e w2 ⟨rfl, hb2⟩
      have HB2 := Lib.hid hb2
      clear hb2
      generalize turnF cc = tt at *
      unfold cx
      go_wp2_with fail
      refine (plus_any s (p1, p2) tt _ HS.out HM.out HF.out).mono ?_
      rintro e w' ⟨rfl, m1, rfl⟩
      rw [← HN.out]
      go_wp2
      go_roundw
      case rel => exact ⟨j + 1, by omega, by go_num, rfl, below_drewN' (HB.out.trans (HB2.out.mono HB.out.size)) _⟩
      case measure => simp [intOf]; omega
    · have hjn : j = n := by omega
      subst hjn
      have HB := Lib.hid hbel
      clear hbel HC HOK
      go_wp2
      go_ret2
      exact ⟨rfl, HB.out⟩
set_option maxHeartbeats 1600000 in
theorem l2sum_any {A : Option Addr} {n c : Nat} {xs : List (Nat × Nat)} (b : Int) (w : World) (h : Sg w A n c xs) (hn1 : 1 ≤ n) (hn2 : n ≤ 16) (hmul0 : -320 ≤ b ∧ b ≤ 320) (hok : TsOk b xs) :
    Calls Try.prog 37 #[.slice A n c, .int .i64 b] w fun e w' => e = .returned (.tuple #[cx (tsW b xs n), .bool true]) ∧ Below w.heap.size w w' := by
  have hl := h.len
  have HOK := Lib.hid hok
  obtain ⟨g, off, rfl, hg, hc⟩ := h.at_ (by omega)
  have HC := Lib.hid hc
  clear h hc hok
  go_enter Try.func37, Try.ntmps37
  go_wp2
  go_loopw [6, 7] (fun sv i wr => ∃ j : Nat, j ≤ n ∧ i = .int .i64 j ∧ sv = .complex .f32 (tsW b xs j).1 (tsW b xs j).2 ∧ Below w.heap.size w wr) (fun _ i _ => n - (intOf i).toNat)
  case atStart => exact ⟨0, by omega, rfl, rfl, Below.refl _ _⟩
  case round =>
    obtain ⟨j, hj, rfl, rfl, hbel⟩ := hrel
    by_cases hlt : j < n
    · have hx : j < xs.length := by omega
      have c1 : wr.cell? ⟨g, off + j, none⟩ = some (cx xs[j]) := by rw [hbel.cell (p := ⟨g, off + j, none⟩) hg]; exact HC.out j hx
      obtain ⟨hm, hf⟩ := HOK.out j hx
      have hs := HOK.out.fin j (by omega)
      have hgd : xs.getD j (0, 0) = xs[j] := by simp [hx]
      have hnext : tsW b xs (j + 1) = adW (tsW b xs j) (mlW xs[j] (turnF (b * j))) := by
        show adW (tsW b xs j) (mlW (xs.getD j (0, 0)) (turnF (b * j))) = _
        rw [hgd]
      rw [hgd] at hm
      rw [hnext] at hf
      obtain ⟨cc, hcc⟩ : ∃ cc, b * (j : Int) = cc := ⟨_, rfl⟩
      have hcb : -5120 ≤ cc ∧ cc ≤ 5120 := by
        rw [← hcc]
        have h1 := Int.mul_le_mul_of_nonneg_right hmul0.2 (by omega : (0 : Int) ≤ (j : Int))
        have h2 := Int.mul_le_mul_of_nonneg_right hmul0.1 (by omega : (0 : Int) ≤ (j : Int))
        omega
      have hwc : IntKind.i64.wrap cc = cc := IntWalk.i64_in _ (by omega)
      rw [hcc] at hm hf hnext
      have emul := fun w => hm.run (P := Try.prog) w 26
      have eadd := fun w => run_adW (P := Try.prog) w 26 hs hm.2
      have hf1 : (finB (mlW xs[j] (turnF cc)).1 && finB (mlW xs[j] (turnF cc)).2) = true := by rw [hm.2.1, hm.2.2]; rfl
      have hf2 : (finB (adW (tsW b xs j) (mlW xs[j] (turnF cc))).1 && finB (adW (tsW b xs j) (mlW xs[j] (turnF cc))).2) = true := by rw [hf.1, hf.2]; rfl
      have HN := Lib.hid hnext
      have HB := Lib.hid hbel
      have hsz := hbel.size
      have hgr : g < wr.heap.size := by omega
      clear hm hs hf hnext hbel HC hgd HOK
      generalize adW (tsW b xs j) (mlW xs[j] (turnF cc)) = r at *
      generalize mlW xs[j] (turnF cc) = q at *
      generalize tsW b xs j = s at *
      generalize xs[j] = p at *
      generalize htt : turnF cc = tt at *
      have HT := Lib.hid htt
      clear htt
      obtain ⟨p1, p2⟩ := p
      obtain ⟨q1, q2⟩ := q
      obtain ⟨r1, r2⟩ := r
      obtain ⟨s1, s2⟩ := s
      obtain ⟨t1, t2⟩ := tt
      unfold cx at c1
      simp only at c1 emul eadd hf1 hf2
      have hb3' : (0 : Int) ≤ (j : Int) := by omega
      have hb4' : (j : Int) < (n : Int) := by omega
      go_wp2_with fail
      go_region_held3 (fun w' => w'.cell? ⟨g, off + j, none⟩ = some (.complex .f32 p1 p2))
        (first
          | go_keep
          | exact (hb2.cell (p := ⟨g, off + j, none⟩) (by simpa using hgr)).trans (by assumption))
        ((go_at_call 25; refine (sturn_any cc _).mono ?_; rintro e w2 ⟨rfl, hb2⟩; rw [HT.out]; unfold cx; simp only))
      go_wp2_with fail
      refine (sfinite_any q1 q2 _).mono ?_
      rintro e w' ⟨rfl, m1, rfl⟩
      rw [hf1]
      go_wp2_with fail
      refine (sfinite_any r1 r2 _).mono ?_
      rintro e w' ⟨rfl, m2, rfl⟩
      rw [hf2]
      go_wp2
      go_roundw
      case rel => exact ⟨j + 1, by omega, by go_num, by rw [HN.out], below_drewN' (HB.out.trans (below_drewN_left (n := 1) (hb2.mono hsz))) _⟩
      case measure => simp [intOf]; omega
    · have hjn : j = n := by omega
      subst hjn
      have HB := Lib.hid hbel
      clear hbel HC HOK
      go_wp2
      go_ret2
      exact ⟨rfl, HB.out⟩
end Go.Proofs.Ytapncffjfaddgaa
