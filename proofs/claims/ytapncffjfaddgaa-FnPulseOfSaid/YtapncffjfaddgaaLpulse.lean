/- The law FnPulseOf. -/
import Derived.Test.YtapncffjfaddgaaLone
import Derived.Test.YtapncffjfaddgaaPulse
namespace Go.FV
open Ieee Go.FR
theorem rd_short {t r : Nat} (ht : Fin single t) (h : Rd (V single t) r) : V single r = V single t := by
  obtain ⟨k, q, h1, h2, h3⟩ := V_short single t ht
  exact h.exact k q (by rw [lp32] at h3; omega) h1 (by rw [b32] at h2; omega)
theorem rnd_short {t r : Nat} (ht : Fin single t) (h : Rnd single (V single t) r) : V single r = V single t := by
  obtain ⟨k, q, h1, h2, h3⟩ := V_short single t ht
  exact h.exact k q h3 h1 (by omega)
/-- A product and a sum that both can be exact: they are. -/
theorem pulse_step {s p t q v : Nat × Nat} (hs1 : Fin single s.1) (hs2 : Fin single s.2) (hp1 : Fin single p.1) (hp2 : Fin single p.2) (ht1 : Fin single t.1) (ht2 : Fin single t.2)
    (hq1 : Fin single q.1) (hq2 : Fin single q.2) (hv1 : Fin single v.1) (hv2 : Fin single v.2) (bq1 : Within (V single q.1) 1) (bq2 : Within (V single q.2) 1) (bv1 : Within (V single v.1) 1) (bv2 : Within (V single v.2) 1)
    (e1 : V single p.1 * V single t.1 - V single p.2 * V single t.2 = V single q.1) (e2 : V single p.1 * V single t.2 + V single p.2 * V single t.1 = V single q.2)
    (g1 : V single s.1 + V single q.1 = V single v.1) (g2 : V single s.2 + V single q.2 = V single v.2) :
    V single (adW s (mlW p t)).1 = V single v.1 ∧ V single (adW s (mlW p t)).2 = V single v.2 := by
  have hq := hugeQ_one
  have hL : 1 ≤ lim single := by have := lim32_big; grind
  obtain ⟨x, y, h3, r1, r2⟩ := mulC_spec hp1 hp2 ht1 ht2 (by rw [e1]; exact within_mono bq1 hq) (by rw [e2]; exact within_mono bq2 hq)
  rw [e1] at r1
  rw [e2] at r2
  have em : mlW p t = (x, y) := by unfold mlW; rw [h3]; rfl
  obtain ⟨u, w, h4, b1, b2⟩ := addC_spec hs1 hs2 r1.fin r2.fin
  have ea : adW s (mlW p t) = (u, w) := by rw [em]; unfold adW; rw [h4]; rfl
  rw [rd_short hq1 r1, g1] at b1
  rw [rd_short hq2 r2, g2] at b2
  rw [ea]
  exact ⟨rnd_short hv1 (b1 (within_mono bv1 hL)), rnd_short hv2 (b2 (within_mono bv2 hL))⟩
end Go.FV
namespace Go.Proofs.Ytapncffjfaddgaa
open Go.RowKit Go.FR Go.FV

theorem pulse_sig (n i : Nat) : SigSm (pulseL n i) := by
  intro p hp
  unfold pulseL at hp
  rcases List.mem_or_eq_of_mem_set hp with h | h
  · rw [List.eq_of_mem_replicate h]
    exact ⟨by decide +kernel, by decide +kernel⟩
  · rw [h]
    exact ⟨by decide +kernel, by decide +kernel⟩
theorem pulse_ok (n i : Nat) (hn : n ≤ 16) : okB (pulseL n i) = true :=
  okB_true (by rw [pulseL_len]; exact hn) fun p hp => by
    have := pulse_sig n i p hp
    rw [smallL_fin _ this.1, smallL_fin _ this.2]; rfl
theorem pulse_at (n i k : Nat) (hk : k < n) : (pulseL n i).getD k (0, 0) = if k = i then (1065353216, 0) else (0, 0) := by
  unfold pulseL
  rw [List.getD_eq_getElem?_getD]
  by_cases h : k = i
  · subst h
    rw [if_pos rfl, List.getElem?_set_self (by simpa using hk)]; rfl
  · rw [if_neg h, List.getElem?_set_ne (by omega)]
    simp [hk]
theorem one_v : finB 1065353216 = true ∧ V Ieee.single 1065353216 = 1 := by decide +kernel
/-- The spectrum of a pulse, number by number. -/
theorem pulse_ts (b : Int) (n i : Nat) (hn : n ≤ 16) (hi : i < n) : ∀ k, k ≤ n → V Ieee.single (tsW b (pulseL n i) k).1 = (if i < k then V Ieee.single (turnF (b * i)).1 else 0) ∧ V Ieee.single (tsW b (pulseL n i) k).2 = (if i < k then V Ieee.single (turnF (b * i)).2 else 0) := by
  have hts := sig_ts (.inl (pulse_sig n i)) (pulse_ok n i hn) b
  have z := zero_fin .f32
  rw [fmt32] at z
  have z1 : Within (V Ieee.single 0) 1 := by rw [z.2]; unfold Within; constructor <;> grind
  intro k
  induction k with
  | zero =>
    intro _
    rw [if_neg (by omega), if_neg (by omega)]
    exact ⟨z.2, z.2⟩
  | succ k ih =>
    intro hk
    obtain ⟨i1, i2⟩ := ih (by omega)
    have fs := hts.fin k (by rw [pulseL_len]; omega)
    obtain ⟨tf, t1, t2⟩ := turnF_le (b * k)
    obtain ⟨uf, u1, u2⟩ := turnF_le (b * i)
    have e1 : tsW b (pulseL n i) (k + 1) = adW (tsW b (pulseL n i) k) (mlW (if k = i then (1065353216, 0) else (0, 0)) (turnF (b * k))) := by
      show adW (tsW b (pulseL n i) k) (mlW ((pulseL n i).getD k (0, 0)) (turnF (b * k))) = _
      rw [pulse_at n i k (by omega)]
    rw [e1]
    by_cases h : k = i
    · subst h
      rw [if_neg (by omega)] at i1 i2
      rw [if_pos rfl, if_pos (by omega), if_pos (by omega)]
      refine pulse_step (p := (1065353216, 0)) (t := turnF (b * k)) (q := turnF (b * k)) (v := turnF (b * k)) fs.1 fs.2 one_v.1 z.1 tf.1 tf.2 tf.1 tf.2 tf.1 tf.2 t1 t2 t1 t2 ?_ ?_ ?_ ?_
      · show V Ieee.single 1065353216 * _ - V Ieee.single 0 * _ = _
        rw [one_v.2, z.2]; grind
      · show V Ieee.single 1065353216 * _ + V Ieee.single 0 * _ = _
        rw [one_v.2, z.2]; grind
      · rw [i1]; grind
      · rw [i2]; grind
    · rw [if_neg h]
      have hpz : V Ieee.single 0 * V Ieee.single (turnF (b * k)).1 - V Ieee.single 0 * V Ieee.single (turnF (b * k)).2 = V Ieee.single 0 := by rw [z.2]; grind
      have hpz2 : V Ieee.single 0 * V Ieee.single (turnF (b * k)).2 + V Ieee.single 0 * V Ieee.single (turnF (b * k)).1 = V Ieee.single 0 := by rw [z.2]; grind
      by_cases hlt : i < k
      · rw [if_pos hlt] at i1 i2
        rw [if_pos (by omega), if_pos (by omega)]
        refine pulse_step (p := (0, 0)) (t := turnF (b * k)) (q := (0, 0)) (v := turnF (b * i)) fs.1 fs.2 z.1 z.1 tf.1 tf.2 z.1 z.1 uf.1 uf.2 z1 z1 u1 u2 hpz hpz2 ?_ ?_
        · show _ + V Ieee.single 0 = _
          rw [i1, z.2]; grind
        · show _ + V Ieee.single 0 = _
          rw [i2, z.2]; grind
      · rw [if_neg hlt] at i1 i2
        rw [if_neg (by omega), if_neg (by omega)]
        have := pulse_step (s := tsW b (pulseL n i) k) (p := (0, 0)) (t := turnF (b * k)) (q := (0, 0)) (v := (0, 0)) fs.1 fs.2 z.1 z.1 tf.1 tf.2 z.1 z.1 z.1 z.1 z1 z1 z1 z1 hpz hpz2 (by
          show _ + V Ieee.single 0 = V Ieee.single 0
          rw [i1, z.2]; grind) (by
          show _ + V Ieee.single 0 = V Ieee.single 0
          rw [i2, z.2]; grind)
        rw [this.1, this.2]
        exact ⟨z.2, z.2⟩
theorem pulse_en : ∀ n < 17, ∀ i < n, (FloatKind.f64.format.order (enF (pulseL n i)) 4607182418800017408 == some .eq) = true := by decide +kernel

set_option maxHeartbeats 800000 in
theorem drawPulse_any {a : Option Addr} {len cap : Nat} {z : List Int} (w : World) (h : CodeIs w a len cap z) :
    Calls Try.prog 26 #[.slice a len cap] w fun e w' => ∃ (p : Nat) (b : Int), e = .returned (.tuple #[.int .i64 p, .int .i64 b]) ∧ p ≤ 17 ∧ -1 ≤ b ∧ b ≤ 17 ∧ Below w.heap.size w w' := by
  have HC := Lib.hid h
  clear h
  go_enter Try.func26, Try.ntmps26
  go_wp2_with fail
  refine (open_any _ HC.out).mono ?_
  rintro e w1 ⟨s, rfl, hr, hB, hb⟩
  go_wp2_with fail
  refine (pick_any _ _ hr (by omega)).mono ?_
  rintro e w2 ⟨p, rfl, p0, p1, hr2, ho2⟩
  have p2 := p1 (by omega)
  obtain ⟨p, rfl⟩ := Int.eq_ofNat_of_zero_le p0
  have hb2 := ho2.below hb hB
  clear hr p1 ho2 hb
  go_wp2_with fail
  refine (pick_any _ _ hr2 (by omega)).mono ?_
  rintro e w3 ⟨u, rfl, u0, u1, hr3, ho3⟩
  have u2 := u1 (by omega)
  have hb3 := ho3.below hb2 hB
  clear hr2 u1 ho3 hb2
  go_wp2_with fail
  refine (pick_any _ _ hr3 (by omega)).mono ?_
  rintro e w4 ⟨y, rfl, y0, y1, hr4, ho4⟩
  have y2 := y1 (by omega)
  have hb4 := ho4.below hb3 hB
  clear hr3 hr4 y1 ho4 hb3
  go_wp2
  go_ret2
  exact ⟨p, _, rfl, by omega, by omega, by omega, hb4⟩

set_option maxHeartbeats 3200000 in
theorem law_FnPulseOf (a : Option Addr) (len cap : Nat) (z : List Int) (w : World) (h : CodeIs w a len cap z) :
    Calls Try.prog 6 #[.slice a len cap] w fun e w' => e = .returned (.bool true) ∧ Below w.heap.size w w' := by
  have HC := Lib.hid h
  clear h
  by_cases hbig : 1048576 < len
  · go_enter Try.func6, Try.ntmps6
    go_wp2
    go_ret
    exact ⟨rfl, Below.refl _ _⟩
  go_enter Try.func6, Try.ntmps6
  go_wp2_with fail
  refine (drawPulse_any _ HC.out).mono ?_
  rintro e w1 ⟨n, b, rfl, hn, b0, b1, hb⟩
  have HB := Lib.hid hb
  clear hb HC
  by_cases hc : 1 ≤ n ∧ n ≤ 16 ∧ 0 ≤ b ∧ b < n
  · obtain ⟨c1, c2, c3, c4⟩ := hc
    obtain ⟨i, rfl⟩ := Int.eq_ofNat_of_zero_le c3
    have hi : i < n := by omega
    have HE := Lib.hid (EqS.refl_ok (pulse_ok n i c2))
    have HOK := Lib.hid (pulse_ok n i c2)
    have HT := Lib.hid ((SigOk.tr (.inl (pulse_sig n i))) : TrOk n (pulseL n i))
    have hen := pulse_en n (by omega) i hi
    have hev : enV (pulseL n i) = enF (pulseL n i) := by unfold enV; rw [pulse_ok n i c2]; rfl
    have HEV := Lib.hid hev
    have hnz : ((n : Int) == 0) = false := by simp; omega
    have hnn : ((n : Int) == (n : Int)) = true := by simp
    clear hev
    go_wp2_with fail
    refine (pulse_yes n i _ c1 c2 hi).mono ?_
    rintro e w2 ⟨A2, rfl, ho2, hb2⟩
    have HO2 := Lib.hid ho2
    have HB2 := Lib.hid (HB.out.trans (hb2.mono HB.out.size))
    clear ho2 hb2
    go_wp2_with fail
    refine (spulse_yes n i _ c1 c2 hi).mono ?_
    rintro e w3 ⟨A3, rfl, ho3, hb3⟩
    have HO3 := Lib.hid ho3
    have HS3 := Lib.hid (HO2.out.below hb3).sg
    have HB3 := Lib.hid (HB2.out.trans (hb3.mono HB2.out.size))
    clear ho3 hb3
    go_wp2_with fail
    refine (sameSignal_any _ HS3.out HO3.out.sg HE.out (by omega)).mono ?_
    rintro e w4 ⟨rfl, m4, hw4⟩
    have HS4 := Lib.hid (by rw [hw4]; exact HS3.out.drewN m4 : Sg w4 A2 n n (pulseL n i))
    have HB4 := Lib.hid (by rw [hw4]; exact below_drewN' HB3.out m4 : Below w.heap.size w w4)
    clear hw4
    go_wp2_with fail
    refine (trans_any _ HS4.out (by omega) HT.out).mono ?_
    rintro e w5 ⟨A5, k5, c5, rfl, hk5, ho5, hb5⟩
    have hl5 := ho5.len
    have HO5 := Lib.hid ho5.sg
    have HS5 := Lib.hid (HS4.out.below hb5)
    have HB5 := Lib.hid (HB4.out.trans (hb5.mono HB4.out.size))
    clear ho5 hb5
    cases hsz : sizB n (pulseL n i)
    · have hv : trF n (pulseL n i) = [] := by unfold trF; rw [hsz]; rfl
      rw [hv] at hl5
      simp only [List.length_nil] at hl5
      subst hl5
      have HSZ := Lib.hid hsz
      clear hv hsz
      go_wp2
      refine wp_loop_rounds 1 ?_
      rw [rounds_succ]
      go_wp2_with fail
      refine (ssiz_any _ HS5.out (by omega)).mono ?_
      rintro e w6 ⟨rfl, m6, hw6⟩
      rw [HSZ.out]
      have HS6 := Lib.hid (by rw [hw6]; exact HS5.out.drewN m6 : Sg w6 A2 n n (pulseL n i))
      have HB6 := Lib.hid (by rw [hw6]; exact below_drewN' HB5.out m6 : Below w.heap.size w w6)
      clear hw6
      go_wp2_with fail
      refine (energy_any _ HS6.out (by omega)).mono ?_
      rintro e w7 ⟨rfl, m7, rfl⟩
      rw [HEV.out]
      generalize enF (pulseL n i) = E at *
      go_wp2
      go_ret
      exact ⟨rfl, below_drewN' HB6.out _⟩
    · have hv : trF n (pulseL n i) = trL n (pulseL n i) := by unfold trF; rw [hsz]; rfl
      rw [hv] at HO5 hl5
      rw [trL_len] at hl5
      subst hl5
      have HSZ := Lib.hid hsz
      have hp := (sizB_iff.1 hsz).1
      obtain ⟨st, hst, hst1⟩ : ∃ st : Nat, st = 16 / n ∧ st ≤ 16 := ⟨16 / n, rfl, Nat.div_le_self _ _⟩
      have hdiv : (-16 : Int).tdiv (n : Int) = -(st : Int) := by
        rw [hst]
        rcases powB_cases hp with h | h | h | h | h
        · have : n = 1 := by omega
          subst this; decide
        · have : n = 2 := by omega
          subst this; decide
        · have : n = 4 := by omega
          subst this; decide
        · have : n = 8 := by omega
          subst this; decide
        · have : n = 16 := by omega
          subst this; decide
      have hdivp : (16 : Int).tdiv (n : Int) = (st : Int) := by rw [hst, Int.tdiv_eq_ediv_of_nonneg (by omega)]; rfl
      have hdivq : (16 : Int) / (n : Int) = (st : Int) := by rw [hst]; rfl
      have hnz2 : ¬ ((n : Int) = 0) := by omega
      have hnz3 : ¬ n = 0 := by omega
      have HST := Lib.hid hst
      have HTF := Lib.hid (HT.out hsz)
      obtain ⟨g5, off5, rfl, hg5, hc5⟩ := HO5.out.at_ (by omega)
      have HC5 := Lib.hid hc5
      clear hv hsz hst hc5
      go_wp2
      go_loopw [8] (fun j wr => ∃ k : Nat, k ≤ n ∧ j = .int .i64 k ∧ Below w5.heap.size w5 wr) (fun j _ => n - (intOf j).toNat)
      case atStart => exact ⟨0, by omega, rfl, Below.refl _ _⟩
      case round =>
        obtain ⟨k, hk, rfl, hbel⟩ := hrel
        have HBL := Lib.hid hbel
        by_cases hlt : k < n
        · have hx : k < (trL n (pulseL n i)).length := by rw [trL_len]; exact hlt
          have c1' : wr.cell? ⟨g5, off5 + k, none⟩ = some (cx (trL n (pulseL n i))[k]) := by rw [hbel.cell (p := ⟨g5, off5 + k, none⟩) hg5]; exact HC5.out k hx
          have hat := trL_at n (pulseL n i) k hlt
          rw [List.getElem?_eq_getElem hx] at hat
          injection hat with hat
          rw [hat] at c1'
          have hts := pulse_ts (trB n k) n i c2 hi n (Nat.le_refl _)
          rw [if_pos hi, if_pos hi] at hts
          have hfin : FinP (tsW (trB n k) (pulseL n i) n) := by
            have := (HTF.out k hlt).fin n (by rw [pulseL_len]; omega)
            exact this
          obtain ⟨tf, _, _⟩ := turnF_le (trB n k * i)
          have o1 := order_eq32 hfin.1 tf.1 hts.1
          have o2 := order_eq32 hfin.2 tf.2 hts.2
          have hbb : trB n k * (i : Int) = -(st : Int) * (k : Int) * (i : Int) := by
            unfold trB; rw [← HST.out]; simp only [Int.mul_neg, Int.neg_mul]
          have hb1' : (st : Int) * (k : Int) ≤ 256 ∧ 0 ≤ (st : Int) * (k : Int) := by
            have h1 : st * k ≤ 16 * 16 := Nat.mul_le_mul hst1 (by omega)
            rw [← Int.natCast_mul]; omega
          obtain ⟨q, hq⟩ : ∃ q, (st : Int) * (k : Int) = q := ⟨_, rfl⟩
          have hb2' : q * (i : Int) ≤ 4096 ∧ 0 ≤ q * (i : Int) := by
            rw [← hq, ← Int.natCast_mul, ← Int.natCast_mul]
            have h1 : st * k ≤ 16 * 16 := Nat.mul_le_mul hst1 (by omega)
            have h2 : st * k * i ≤ 16 * 16 * 16 := Nat.mul_le_mul h1 (by omega)
            omega
          obtain ⟨q2, hq2⟩ : ∃ q2, q * (i : Int) = q2 := ⟨_, rfl⟩
          have g1 : -(st : Int) * (k : Int) = -q := by rw [Int.neg_mul, hq]
          have g2 : -q * (i : Int) = -q2 := by rw [Int.neg_mul, hq2]
          rw [g1, g2] at hbb
          rw [hbb] at o1 o2
          rw [hq] at hb1'
          rw [hq2] at hb2'
          have hws : IntKind.i64.wrap (-(st : Int)) = -(st : Int) := IntWalk.i64_in _ (by omega)
          have hwq : IntKind.i64.wrap (-q) = -q := IntWalk.i64_in _ (by omega)
          have hwq2 : IntKind.i64.wrap (-q2) = -q2 := IntWalk.i64_in _ (by omega)
          have hk0' : (0 : Int) ≤ (k : Int) := by omega
          have hk1' : (k : Int) < (n : Int) := by omega
          have hszw := hbel.size
          have hgr : g5 < wr.heap.size := by omega
          clear hat hts hfin tf hbb hbel HC5 HO5 HTF HT hen
          generalize tsW (trB n k) (pulseL n i) n = r at *
          generalize htt : turnF (-q2) = tt at *
          have HTT := Lib.hid htt
          clear htt
          obtain ⟨r1, r2⟩ := r
          obtain ⟨t1, t2⟩ := tt
          unfold cx at c1'
          simp only at c1' o1 o2
          go_wp2_with fail
          go_region_held3 (fun w' => w'.cell? ⟨g5, off5 + k, none⟩ = some (.complex .f32 r1 r2))
            (first
              | go_keep
              | exact (hb2.cell (p := ⟨g5, off5 + k, none⟩) (by simpa using hgr)).trans (by assumption))
            ((go_at_call 25; refine (sturn_any (-q2) _).mono ?_; rintro e w6 ⟨rfl, hb2⟩; rw [HTT.out]; unfold cx; simp only))
          go_wp2
          go_roundw
          case rel => exact ⟨k + 1, by omega, by go_num, HBL.out.trans (below_drewN_left (n := 1) (hb2.mono hszw))⟩
          case measure => simp [intOf]; omega
        · have HS6 := Lib.hid (HS5.out.below hbel)
          have HB6 := Lib.hid (HB5.out.trans (hbel.mono HB5.out.size))
          clear hbel HC5 HO5 HTF HT
          go_wp2_with fail
          refine (ssiz_any _ HS6.out (by omega)).mono ?_
          rintro e w7 ⟨rfl, m7, hw7⟩
          rw [HSZ.out]
          have HS7 := Lib.hid (by rw [hw7]; exact HS6.out.drewN m7 : Sg w7 A2 n n (pulseL n i))
          have HB7 := Lib.hid (by rw [hw7]; exact below_drewN' HB6.out m7 : Below w.heap.size w w7)
          clear hw7
          go_wp2_with fail
          refine (energy_any _ HS7.out (by omega)).mono ?_
          rintro e w8 ⟨rfl, m8, rfl⟩
          rw [HEV.out]
          generalize enF (pulseL n i) = E at *
          go_wp2
          go_ret
          exact ⟨rfl, below_drewN' HB7.out _⟩
  · have hno : (n : Int) < 1 ∨ 16 < (n : Int) ∨ b < 0 ∨ (n : Int) ≤ b := by omega
    have HNO := Lib.hid hno
    clear hno hc
    go_wp2_with fail
    refine (pulse_no n b _ HNO.out).mono ?_
    rintro e w' ⟨rfl, rfl⟩
    go_wp2_with fail
    refine (spulse_no n b _ HNO.out).mono ?_
    rintro e w3 ⟨A3, c3, rfl, ho3, hb3⟩
    have HO3 := Lib.hid ho3
    have HB3 := Lib.hid (HB.out.trans (hb3.mono HB.out.size))
    clear ho3 hb3
    go_wp2_with fail
    refine (sameSignal_any (xs := []) (ys := []) _ (Sg.empty _ _ _) (Sg.empty _ _ _) EqS.nil (by omega)).mono ?_
    rintro e w' ⟨rfl, m4, rfl⟩
    go_wp2_with fail
    refine (alive_any _).mono ?_
    rintro e w' ⟨rfl, m5, rfl⟩
    go_wp2
    go_ret
    exact ⟨rfl, below_drewN' HB3.out _⟩
end Go.Proofs.Ytapncffjfaddgaa
