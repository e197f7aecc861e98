/- BackOf of the program returns, whatever finite signal it gets. -/
import Derived.Test.YtapncffjfaddgaaTrans
namespace Go.Proofs.Ytapncffjfaddgaa
open Go.RowKit Go.FR Go.FV

theorem finite_ex (a b : Nat) (w : World) :
    Calls Try.prog 14 #[.complex .f32 a b] w fun e w' => ∃ v, e = .returned (.bool v) ∧ ∃ n, w' = w.drewN n :=
  (finite_any a b w).mono fun _ _ ⟨h, k⟩ => ⟨_, h, k⟩
set_option maxHeartbeats 800000 in
theorem plus_total (s1 s2 p1 p2 t1 t2 : Nat) (w : World) :
    Calls Try.prog 50 #[.complex .f32 s1 s2, .complex .f32 p1 p2, .complex .f32 t1 t2] w fun e w' => ∃ r1 r2 b, e = .returned (.tuple #[.complex .f32 r1 r2, .bool b]) ∧ ∃ m, w' = w.drewN m := by
  go_enter Try.func50, Try.ntmps50
  go_wp2_with fail
  refine (finite_ex _ _ _).mono ?_
  rintro e w' ⟨b1, rfl, m1, rfl⟩
  cases b1
  · go_wp2
    go_ret2
    exact ⟨_, _, _, rfl, _, rfl⟩
  · go_wp2_with fail
    refine (finite_ex _ _ _).mono ?_
    rintro e w' ⟨b2, rfl, m2, rfl⟩
    cases b2
    · go_wp2
      go_ret2
      exact ⟨_, _, _, rfl, _, rfl⟩
    · go_wp2
      go_ret2
      exact ⟨_, _, _, rfl, _, rfl⟩

set_option maxHeartbeats 1600000 in
theorem tsum_total {A : Option Addr} {n c : Nat} {xs : List (Nat × Nat)} (k : Int) (w : World) (h : Sg w A n c xs) (hn : SizeN n) (hk0 : -20 ≤ k) (hk1 : k ≤ 20) :
    Calls Try.prog 35 #[.slice A n c, .int .i64 k] w fun e w' => ∃ r1 r2 b, e = .returned (.tuple #[.complex .f32 r1 r2, .bool b]) ∧ Below w.heap.size w w' := by
  have hl := h.len
  have hs1 : 1 ≤ n ∧ n ≤ 16 := by unfold SizeN at hn; omega
  obtain ⟨st, hst, hst1⟩ : ∃ st : Nat, st = 16 / n ∧ st ≤ 16 := ⟨16 / n, rfl, Nat.div_le_self _ _⟩
  have hdiv : (16 : Int).tdiv (n : Int) = (st : Int) := by rw [hst, Int.tdiv_eq_ediv_of_nonneg (by omega)]; rfl
  have hnz : ¬ ((n : Int) = 0) := by omega
  obtain ⟨g, off, rfl, hg, hc⟩ := h.at_ (by omega)
  have HC := Lib.hid hc
  clear h hc hn hst
  have hmul0 : -320 ≤ (st : Int) * k ∧ (st : Int) * k ≤ 320 := by
    have h1 : (st : Int) * k ≤ 16 * 20 := by
      rcases (by omega : 0 ≤ k ∨ k ≤ 0) with h | h
      · exact Int.mul_le_mul (by omega) hk1 h (by omega)
      · have := Int.mul_nonneg (by omega : (0 : Int) ≤ st) (by omega : (0 : Int) ≤ -k)
        rw [Int.mul_neg] at this; omega
    have h2 : (st : Int) * -k ≤ 16 * 20 := by
      rcases (by omega : 0 ≤ -k ∨ -k ≤ 0) with h | h
      · exact Int.mul_le_mul (by omega) (by omega) h (by omega)
      · have := Int.mul_nonneg (by omega : (0 : Int) ≤ st) (by omega : (0 : Int) ≤ k)
        rw [Int.mul_neg]; omega
    rw [Int.mul_neg] at h2
    omega
  obtain ⟨b, hb⟩ : ∃ b, (st : Int) * k = b := ⟨_, rfl⟩
  rw [hb] at hmul0
  go_enter Try.func35, Try.ntmps35
  go_wp2
  go_loopw [7, 17] (fun sv i wr => ∃ j : Nat, j ≤ n ∧ i = .int .i64 j ∧ (∃ s1 s2, sv = .complex .f32 s1 s2) ∧ Below w.heap.size w wr) (fun _ i _ => n - (intOf i).toNat)
  case atStart => exact ⟨0, by omega, rfl, ⟨_, _, rfl⟩, Below.refl _ _⟩
  case round =>
    obtain ⟨j, hj, rfl, ⟨s1, s2, rfl⟩, hbel⟩ := hrel
    by_cases hlt : j < n
    · have hx : j < xs.length := by omega
      have c1 : wr.cell? ⟨g, off + j, none⟩ = some (cx xs[j]) := by rw [hbel.cell (p := ⟨g, off + j, none⟩) hg]; exact HC.out j hx
      obtain ⟨cc, hcc⟩ : ∃ cc, b * (j : Int) = cc := ⟨_, rfl⟩
      have hcb : -5120 ≤ cc ∧ cc ≤ 5120 := by
        rw [← hcc]
        have h1 := Int.mul_le_mul_of_nonneg_right hmul0.2 (by omega : (0 : Int) ≤ (j : Int))
        have h2 := Int.mul_le_mul_of_nonneg_right hmul0.1 (by omega : (0 : Int) ≤ (j : Int))
        omega
      have HB := Lib.hid hbel
      clear hbel HC
      generalize xs[j] = p at *
      obtain ⟨p1, p2⟩ := p
      unfold cx at c1
      simp only at c1
      go_wp2_with fail
      refine (turn_any cc _).mono ?_
      rintro e w2 ⟨rfl, hb2⟩
      have HB2 := Lib.hid hb2
      clear hb2
      generalize turnF cc = tt at *
      unfold cx
      go_wp2_with fail
      refine (plus_total s1 s2 p1 p2 tt.1 tt.2 _).mono ?_
      rintro e w' ⟨r1, r2, bb, rfl, m1, rfl⟩
      cases bb
      · go_wp2
        go_ret2
        exact ⟨_, _, _, rfl, below_drewN' (HB.out.trans (HB2.out.mono HB.out.size)) _⟩
      · go_wp2
        go_roundw
        case rel => exact ⟨j + 1, by omega, by go_num, ⟨_, _, rfl⟩, below_drewN' (HB.out.trans (HB2.out.mono HB.out.size)) _⟩
        case measure => simp [intOf]; omega
    · have HB := Lib.hid hbel
      clear hbel HC
      go_wp2
      go_ret2
      exact ⟨_, _, _, rfl, HB.out⟩

set_option maxHeartbeats 1600000 in
theorem back_total {A : Option Addr} {n c : Nat} {xs : List (Nat × Nat)} (w : World) (h : Sg w A n c xs) (hm : n ≤ 1048576) (hsz : sizB n xs = true) :
    Calls Try.prog 16 #[.slice A n c] w fun e w' => ∃ A' n' c' b, e = .returned (.tuple #[.slice A' n' c', .bool b]) ∧ Below w.heap.size w w' := by
  have hl := h.len
  have HS := Lib.hid h
  obtain ⟨hp, hk⟩ := sizB_iff.1 hsz
  obtain ⟨hle, _⟩ := okB_iff.1 hk
  have hn0 : 0 < n := by have := powB_cases hp; omega
  have HO := Lib.hid hsz
  have HP := Lib.hid (sizN hp)
  obtain ⟨i0, hi0, hz0, hz1, hz2⟩ := info_parts info_c
  clear hk hsz hp
  obtain ⟨g, off, rfl, hg, hc⟩ := h.at_ (by omega)
  clear h hc
  go_enter Try.func16, Try.ntmps16
  go_wp2_with (first | (go_at_call 34; refine (siz_any _ HS.out hm).mono ?_; rintro e w2 ⟨rfl, m2, rfl⟩; rw [HO.out]) | (at_make; refine wpList_make_full _ rfl _ _ 23 rfl (w.drewN m2).heap.size 26 i0 (.complex .f32 0 0) 1 Try.underlying23 hi0 hz0 hz1 .i64 .i64 _ _ n rfl rfl rfl rfl (by rw [hz2]; omega) (by unfold maxLen; omega) (Nat.le_refl _) ?_; intro w9 hown9 hgr9; obtain ⟨ho9, hb9⟩ := Own.made hown9 hgr9; have HO9 := Lib.hid ho9; have HB9 := Lib.hid (below_drewN_left hb9); clear hown9 hgr9 ho9 hb9))
  go_loopw [21] (fun i wr => ∃ k : Nat, k ≤ n ∧ i = .int .i64 k ∧ Below w.heap.size w wr ∧ ∃ ys, Own wr w.heap.size (some ⟨w.heap.size, 0, none⟩) n n ys) (fun i _ => n - (intOf i).toNat)
  case atStart => exact ⟨0, by omega, rfl, HB9.out, _, HO9.out⟩
  case round =>
    obtain ⟨k, hk, rfl, hbel, ys, ho⟩ := hrel
    by_cases hlt : k < n
    · have hly := ho.len
      have hs : Sg wr (some ⟨g, off, none⟩) n c xs := HS.out.below hbel
      have hts : ∀ w', Below wr.heap.size wr w' → Below w.heap.size w w' ∧ Own w' w.heap.size (some ⟨w.heap.size, 0, none⟩) n n ys := fun w' hb => ⟨hbel.trans (hb.mono hbel.size), ho.below hb⟩
      have HTS := Lib.hid hts
      have HSS := Lib.hid hs
      clear ho hbel hts hs HB9 HO9 HS HO
      go_wp2_with fail
      refine (tsum_total (k : Int) _ HSS.out HP.out (by omega) (by omega)).mono ?_
      rintro e w5 ⟨s1, s2, bb, rfl, hb5⟩
      obtain ⟨hb6, ho6⟩ := HTS.out w5 hb5
      have HB6 := Lib.hid hb6
      clear hb5 HTS HSS
      cases bb
      · clear ho6 hb6
        go_wp2
        go_ret2
        exact ⟨_, _, _, _, rfl, HB6.out⟩
      · have c2 := ho6.cell_at k (by omega)
        have hfr := ho6.free k
        have hset : ∀ m r1 r2, Own ((w5.drewN m).setCell ⟨w.heap.size, k, none⟩ (.complex .f32 r1 r2)) w.heap.size (some ⟨w.heap.size, 0, none⟩) n n (ys.set k (r1, r2)) ∧ Below w.heap.size w ((w5.drewN m).setCell ⟨w.heap.size, k, none⟩ (.complex .f32 r1 r2)) := fun m r1 r2 =>
          ⟨(ho6.drewN m).set_ k (r1, r2), (below_drewN' hb6 m).setCell (p := ⟨w.heap.size, k, none⟩) (Nat.le_refl _) _⟩
        have c4 : ∀ m r1 r2, ((w5.drewN m).setCell ⟨w.heap.size, k, none⟩ (.complex .f32 r1 r2)).cell? ⟨w.heap.size, k, none⟩ = some (.complex .f32 r1 r2) := fun m r1 r2 => by
          have := (hset m r1 r2).1.cell_at k (by simp; omega)
          rw [this]; simp [cx]
        have HSET := Lib.hid hset
        generalize ys[k] = old at c2
        clear ho6 hb6 hset
        obtain ⟨o1, o2⟩ := old
        unfold cx at c2
        simp only at c2
        go_wp2_with fail
        obtain ⟨M, hM⟩ : ∃ M, cqN Try.prog w5 s1 s2 (floatOfInt .f32 n) 0 = M := ⟨_, rfl⟩
        obtain ⟨r1, hr1⟩ : ∃ r, cre (cqV Try.prog w5 s1 s2 (floatOfInt .f32 n) 0) = r := ⟨_, rfl⟩
        obtain ⟨r2, hr2⟩ : ∃ r, cim (cqV Try.prog w5 s1 s2 (floatOfInt .f32 n) 0) = r := ⟨_, rfl⟩
        rw [hM, hr1, hr2]
        obtain ⟨ho', hb'⟩ := HSET.out M r1 r2
        have c5 := c4 M r1 r2
        have HO' := Lib.hid ho'
        have HB' := Lib.hid hb'
        clear HSET c4 ho' hb' hM hr1 hr2
        refine (finite_ex r1 r2 _).mono ?_
        rintro e w' ⟨b2, rfl, m7, rfl⟩
        cases b2
        · go_wp2
          go_ret2
          exact ⟨_, _, _, _, rfl, below_drewN' HB'.out _⟩
        · go_wp2
          go_roundw
          case rel => exact ⟨k + 1, by omega, by go_num, below_drewN' HB'.out _, _, HO'.out⟩
          case measure => simp [intOf]; omega
    · have HB := Lib.hid hbel
      clear hbel ho HB9 HO9
      go_wp2
      go_ret2
      exact ⟨_, _, _, _, rfl, HB.out⟩
end Go.Proofs.Ytapncffjfaddgaa
