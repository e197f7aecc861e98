/- The law FnBackOf. -/
import Derived.Test.YtapncffjfaddgaaInv
import Derived.Test.YtapncffjfaddgaaBack2
import Derived.Test.YtapncffjfaddgaaLone
namespace Go.Proofs.Ytapncffjfaddgaa
open Go.RowKit Go.FR Go.FV

theorem quot_le {v b N : Rat} (hv : Within v b) (hN : 1 ≤ N) (hb : 0 ≤ b) : (v / N) * N = v ∧ Within (v / N) b := by
  have h0 : N ≠ 0 := by grind
  have e : (v / N) * N = v := by rw [Rat.div_def, Rat.mul_assoc, Rat.inv_mul_cancel _ h0, Rat.mul_one]
  refine ⟨e, ?_⟩
  generalize v / N = q at *
  subst e
  unfold Within at *
  constructor
  · rcases (Rat.le_total : 0 ≤ q ∨ q ≤ 0) with h | h
    · grind
    · have := Rat.mul_le_mul_of_nonneg_right hN (by grind : 0 ≤ -q)
      grind
  · rcases (Rat.le_total : 0 ≤ q ∨ q ≤ 0) with h | h
    · have := Rat.mul_le_mul_of_nonneg_right hN h
      grind
    · grind
theorem SigOk.bk {n : Nat} {xs : List (Nat × Nat)} (h : SigOk xs) (hl : xs.length = n) : BkOk n xs := by
  intro hs k hk
  obtain ⟨hp, hok⟩ := sizB_iff.1 hs
  obtain ⟨t, b1, b2⟩ := sig_ts' h hok (bkB n k)
  refine ⟨t, ?_⟩
  have hf := t.fin n (by omega)
  rw [hl] at b1 b2
  have hN : (1 : Rat) ≤ ((n : Nat) : Rat) := by exact_mod_cast (by omega : 1 ≤ n)
  obtain ⟨e1, w1⟩ := quot_le b1 hN (by decide +kernel)
  obtain ⟨e2, w2⟩ := quot_le b2 hN (by decide +kernel)
  obtain ⟨k1, k2, k3⟩ := quo_spec (pow_mem' hp) hf.1 hf.2 e1 e2 w1 w2 (by decide +kernel) (by unfold hugeQ; decide +kernel)
  exact ⟨k1, k2.fin, k3.fin⟩
theorem bk_ok {n : Nat} {xs : List (Nat × Nat)} (hn : n ≤ 16) (h : ∀ k, k < n → FinP (bkW n xs k)) : okB (bkL n xs) = true := by
  refine okB_true (by rw [bkL_len]; exact hn) fun p hp => ?_
  unfold bkL at hp
  obtain ⟨i, hi, rfl⟩ := List.mem_map.1 hp
  have := h i (List.mem_range.1 hi)
  rw [this.1, this.2]; rfl
theorem tr_ok {n : Nat} {xs : List (Nat × Nat)} (hn : n ≤ 16) (hl : xs.length = n) (h : ∀ k, k < n → TsOk (trB n k) xs) : okB (trL n xs) = true := by
  refine okB_true (by rw [trL_len]; exact hn) fun p hp => ?_
  unfold trL at hp
  obtain ⟨i, hi, rfl⟩ := List.mem_map.1 hp
  have := (h i (List.mem_range.1 hi)).fin n (by omega)
  rw [this.1, this.2]; rfl

/-- 4 -/
theorem four_zp : ZP (1082130432, 0) 4 0 := by
  have z := zero_fin .f32
  rw [fmt32] at z
  exact ⟨by decide +kernel, z.1, by decide +kernel, z.2⟩
theorem whole_four {xs : List (Nat × Nat)} (h : ∀ p ∈ xs, WholeP p) (hl : xs.length ≤ 16) :
    (∀ p ∈ xs, MulOk p (1082130432, 0)) ∧ ZS 40 (xs.map fun p => mlW p (1082130432, 0)) ∧ okB (xs.map fun p => mlW p (1082130432, 0)) = true ∧
      ∀ k, k < xs.length → aZ (xs.map fun p => mlW p (1082130432, 0)) k = 4 * aZ xs k ∧ bZ (xs.map fun p => mlW p (1082130432, 0)) k = 4 * bZ xs k := by
  have key : ∀ p ∈ xs, MulOk p (1082130432, 0) ∧ ∃ m n : Int, m.natAbs ≤ 10 ∧ n.natAbs ≤ 10 ∧ ZP p m n ∧ ZP (mlW p (1082130432, 0)) (4 * m) (4 * n) := by
    intro p hp
    obtain ⟨m, n, h1, h2, h3⟩ := (h p hp).zp
    obtain ⟨a, b⟩ := h3.mul four_zp (by omega) (by omega)
    have e1 : m * 4 - n * 0 = 4 * m := by omega
    have e2 : m * 0 + n * 4 = 4 * n := by omega
    rw [e1, e2] at b
    exact ⟨a, m, n, h1, h2, h3, b⟩
  refine ⟨fun p hp => (key p hp).1, ZS.of_get fun p hp => ?_, ?_, fun k hk => ?_⟩
  · obtain ⟨q, hq, rfl⟩ := List.mem_map.1 hp
    obtain ⟨_, m, n, h1, h2, h3, h4⟩ := key q hq
    exact ⟨4 * m, 4 * n, by omega, by omega, h4⟩
  · refine okB_true (by simpa using hl) fun p hp => ?_
    obtain ⟨q, hq, rfl⟩ := List.mem_map.1 hp
    have := (key q hq).1.2
    rw [this.1, this.2]; rfl
  · obtain ⟨_, m, n, h1, h2, h3, h4⟩ := key _ (List.getElem_mem hk)
    have g1 : xs.getD k (0, 0) = xs[k] := by simp [hk]
    have g2 : (xs.map fun p => mlW p (1082130432, 0)).getD k (0, 0) = mlW xs[k] (1082130432, 0) := by simp [hk]
    unfold aZ bZ
    rw [g1, g2, zN_eq h3.v1, zN_eq h3.v2, zN_eq h4.v1, zN_eq h4.v2]
    exact ⟨rfl, rfl⟩

set_option maxHeartbeats 3200000 in
theorem law_FnBackOf (a : Option Addr) (len cap : Nat) (z : List Int) (w : World) (h : CodeIs w a len cap z) :
    Calls Try.prog 4 #[.slice a len cap] w fun e w' => e = .returned (.bool true) ∧ Below w.heap.size w w' := by
  have HC := Lib.hid h
  clear h
  by_cases hbig : 1048576 < len
  · go_enter Try.func4, Try.ntmps4
    go_wp2
    go_ret
    exact ⟨rfl, Below.refl _ _⟩
  go_enter Try.func4, Try.ntmps4
  go_wp2_with fail
  refine (drawBackOf_any _ HC.out).mono ?_
  rintro e w1 ⟨A, n, c, xs, rfl, ho, hsg, hn, hb⟩
  have hl := ho.len
  have HB := Lib.hid hb
  have HS := Lib.hid ho.sg
  have HN := Lib.hid hsg.num
  have HT := Lib.hid (hsg.bk hl)
  clear ho hb HC hsg
  go_wp2_with fail
  refine (back_any _ HS.out (by omega) HT.out).mono ?_
  rintro e w2 ⟨A2, k2, c2, rfl, hk2, ho2, hb2⟩
  have hl2 := ho2.len
  have HO2 := Lib.hid ho2
  have HS2 := Lib.hid (HS.out.below hb2)
  have HB2 := Lib.hid (HB.out.trans (hb2.mono HB.out.size))
  clear ho2 hb2
  go_wp2_with fail
  refine (sback_any _ HS2.out (by omega) HT.out).mono ?_
  rintro e w3 ⟨A3, k3, c3, rfl, hk3, ho3, hb3⟩
  have HO3 := Lib.hid ho3.sg
  have HY3 := Lib.hid (HO2.out.below hb3).sg
  have HS3 := Lib.hid (HS2.out.below hb3)
  have HB3 := Lib.hid (HB2.out.trans (hb3.mono HB2.out.size))
  clear ho3 hb3
  cases hsz : sizB n xs
  · have hv : bkF n xs = [] := by unfold bkF; rw [hsz]; rfl
    have HV := Lib.hid hv
    rw [hv] at hl2
    simp only [List.length_nil] at hl2
    subst hl2
    clear hv hsz
    go_wp2_with fail
    refine (sameSignal_any _ HY3.out HO3.out (by rw [HV.out]; exact EqS.nil) (by omega)).mono ?_
    rintro e w' ⟨rfl, m1, rfl⟩
    go_wp2_with fail
    refine (alive_any _).mono ?_
    rintro e w' ⟨rfl, m2, rfl⟩
    go_wp2
    go_ret
    exact ⟨rfl, below_drewN' HB3.out _⟩
  · have hv : bkF n xs = bkL n xs := by unfold bkF; rw [hsz]; rfl
    obtain ⟨hp, hok⟩ := sizB_iff.1 hsz
    have hl16 := (okB_iff.1 hok).1
    have hkk : k2 = n := by rw [← hl2, hv, bkL_len]
    subst hkk
    have hokb : okB (bkL k2 xs) = true := bk_ok (by omega) fun k hk => (HT.out hsz k hk).2.2
    have HV := Lib.hid hv
    have HK := Lib.hid hok
    have HE := Lib.hid hokb
    have HP := Lib.hid hp
    have HL := Lib.hid hl
    clear hv hok hokb hp hsz hl2 HT
    go_wp2_with fail
    refine (sameSignal_any _ HY3.out HO3.out (by rw [HV.out]; exact EqS.refl_ok HE.out) (by omega)).mono ?_
    rintro e w4 ⟨rfl, m1, hw4⟩
    have HS4 := Lib.hid (by rw [hw4]; exact HS3.out.drewN m1 : Sg w4 A k2 c xs)
    have HY4 := Lib.hid (by rw [hw4, ← HV.out]; exact HY3.out.drewN m1 : Sg w4 A2 k2 c2 (bkL k2 xs))
    have HB4 := Lib.hid (by rw [hw4]; exact below_drewN' HB3.out m1 : Below w.heap.size w w4)
    clear hw4
    go_wp2_with fail
    refine (wholeSignal_any 250 _ HS4.out HN.out (by omega) (by omega) (by omega)).mono ?_
    rintro e w7 ⟨bw, rfl, hbw, m7, hw7⟩
    have HBW := Lib.hid hbw
    have HS7 := Lib.hid (by rw [hw7]; exact HS4.out.drewN m7 : Sg w7 A k2 c xs)
    have HY7 := Lib.hid (by rw [hw7]; exact HY4.out.drewN m7 : Sg w7 A2 k2 c2 (bkL k2 xs))
    have HB7 := Lib.hid (by rw [hw7]; exact below_drewN' HB4.out m7 : Below w.heap.size w w7)
    clear hbw hw7
    cases bw
    · go_wp2_with fail
      refine (ok_any _ HY7.out (by omega)).mono ?_
      rintro e w' ⟨rfl, m5, rfl⟩
      rw [HE.out]
      go_wp2
      go_ret
      exact ⟨rfl, below_drewN' HB7.out _⟩
    · by_cases h4 : 4 < k2
      · go_wp2_with fail
        refine (ok_any _ HY7.out (by omega)).mono ?_
        rintro e w' ⟨rfl, m5, rfl⟩
        rw [HE.out]
        go_wp2
        go_ret
        exact ⟨rfl, below_drewN' HB7.out _⟩
      · have hn3 : k2 = 1 ∨ k2 = 2 ∨ k2 = 4 := by have := powB_cases HP.out; omega
        have hww := HBW.out (by simp)
        obtain ⟨f1, f2, f3, f4⟩ := whole_four hww hl16
        generalize hx4 : (xs.map fun p => mlW p (1082130432, 0)) = x4 at *
        have hl4 : x4.length = k2 := by rw [← hx4]; simpa using hl
        have hs4 : sizB k2 x4 = true := by rw [sizB_iff]; exact ⟨HP.out, f3⟩
        have hdv := fours_div hn3 (aZ xs) (bZ xs) (fun k hk => f4 k (by omega))
        obtain ⟨g1, g2, g3⟩ := bk_zs hn3 hl4 f2 (by omega) (fun k => sumZ (rz (bkB k2 k) x4) k2 / (k2 : Int)) (fun k => sumZ (iz (bkB k2 k) x4) k2 / (k2 : Int)) (fun k hk => (hdv k hk).1) (fun k hk => (hdv k hk).2)
        have hz5 : okB (bkL k2 x4) = true := bk_ok (by omega) fun k hk => (g1 k hk).2.2
        have hs5 : sizB k2 (bkL k2 x4) = true := by rw [sizB_iff]; exact ⟨HP.out, hz5⟩
        obtain ⟨i1, i2, i3⟩ := tr_zs hn3 (bkL_len k2 x4) g2 (by omega)
        have hbf := back_forth (xs := x4) (ys := bkL k2 x4) hn3 (fun k hk => by rw [(g3 k hk).1, (g3 k hk).2]; exact hdv k hk)
        have heq : EqS (trL k2 (bkL k2 x4)) x4 := zs_eq (by rw [trL_len, hl4]) i2 f2 (fun k hk => by
          rw [trL_len] at hk
          rw [(i3 k hk).1, (i3 k hk).2]; exact hbf k hk)
        have v5 : bkF k2 x4 = bkL k2 x4 := by unfold bkF; rw [hs4]; rfl
        have v6 : trF k2 (bkL k2 x4) = trL k2 (bkL k2 x4) := by unfold trF; rw [hs5]; rfl
        have V5 := Lib.hid v5
        have V6 := Lib.hid v6
        have HS4' := Lib.hid hs4
        have HS5' := Lib.hid hs5
        have HEQ := Lib.hid heq
        have HBO := Lib.hid ((fun _ => g1) : BkOk k2 x4)
        have HTO := Lib.hid ((fun _ => i1) : TrOk k2 (bkL k2 x4))
        have HF1 := Lib.hid f1
        have HX4 := Lib.hid hx4
        clear f1 f2 f3 f4 hs4 hdv g1 g2 g3 hz5 hs5 i1 i2 i3 hbf heq v5 v6 hww HBW hx4
        go_wp2_with fail
        refine (times_any 1082130432 0 _ HS7.out (by omega) HK.out (by decide +kernel) HF1.out).mono ?_
        rintro e w8 ⟨A8, c8, rfl, ho8, hb8⟩
        rw [HX4.out] at ho8
        have HO8 := Lib.hid ho8.sg
        have HB8 := Lib.hid (HB7.out.trans (hb8.mono HB7.out.size))
        clear ho8 hb8
        go_wp2_with fail
        refine (back_any _ HO8.out (by omega) HBO.out).mono ?_
        rintro e w9 ⟨A9, k9, c9, rfl, hk9, ho9, hb9⟩
        rw [HS4'.out]
        rw [V5.out] at ho9
        have hkn9 : k9 = k2 := by rw [← ho9.len, bkL_len]
        subst hkn9
        have HO9 := Lib.hid ho9.sg
        have HF9 := Lib.hid (HO8.out.below hb9)
        have HB9 := Lib.hid (HB8.out.trans (hb9.mono HB8.out.size))
        clear ho9 hb9
        go_wp2_with fail
        refine (trans_any _ HO9.out (by omega) HTO.out).mono ?_
        rintro e w10 ⟨A10, k10, c10, rfl, hk10, ho10, hb10⟩
        rw [HS5'.out]
        rw [V6.out] at ho10
        have HO10 := Lib.hid ho10.sg
        have HF10 := Lib.hid (HF9.out.below hb10)
        have HB10 := Lib.hid (HB9.out.trans (hb10.mono HB9.out.size))
        clear ho10 hb10
        go_wp2_with fail
        refine (sameSignal_any _ HO10.out HF10.out HEQ.out (by omega)).mono ?_
        rintro e w' ⟨rfl, m11, rfl⟩
        go_wp2
        go_ret
        exact ⟨rfl, below_drewN' HB10.out _⟩
end Go.Proofs.Ytapncffjfaddgaa
