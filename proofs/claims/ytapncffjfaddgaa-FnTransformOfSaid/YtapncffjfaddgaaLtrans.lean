/- The law FnTransformOf. -/
import Derived.Test.YtapncffjfaddgaaRound
import Derived.Test.YtapncffjfaddgaaTotal
import Derived.Test.YtapncffjfaddgaaNears
import Derived.Test.YtapncffjfaddgaaMoved
namespace Go.Proofs.Ytapncffjfaddgaa
open Go.RowKit Go.FR Go.FV

/-- Moved round by one point, 4 points: the spectrum is turned. -/
theorem mv_at {b : Int} {xs : List (Nat × Nat)} {j : Nat} (hj : j < xs.length) : (mvM b xs).getD j (0, 0) = xs.getD (mvI (-b) xs.length j) (0, 0) := by
  rw [List.getD_eq_getElem?_getD, mvM_at b xs j hj]; rfl
theorem mv_zs {M : Nat} {b : Int} {xs : List (Nat × Nat)} (h : ZS M xs) : ZS M (mvM b xs) := by
  intro k hk
  rw [mvM_len] at hk
  have := h _ (mvI_lt (-b) k (by omega : 0 < xs.length))
  unfold aZ bZ at *
  rw [mv_at hk]
  exact this
theorem mv_four {xs : List (Nat × Nat)} (hl : xs.length = 4) : (aZ (mvM 1 xs) 0 = aZ xs 3 ∧ bZ (mvM 1 xs) 0 = bZ xs 3) ∧ (aZ (mvM 1 xs) 1 = aZ xs 0 ∧ bZ (mvM 1 xs) 1 = bZ xs 0) ∧ (aZ (mvM 1 xs) 2 = aZ xs 1 ∧ bZ (mvM 1 xs) 2 = bZ xs 1) ∧ (aZ (mvM 1 xs) 3 = aZ xs 2 ∧ bZ (mvM 1 xs) 3 = bZ xs 2) := by
  have m0 : mvI (-1) 4 0 = 3 := by decide
  have m1 : mvI (-1) 4 1 = 0 := by decide
  have m2 : mvI (-1) 4 2 = 1 := by decide
  have m3 : mvI (-1) 4 3 = 2 := by decide
  unfold aZ bZ
  rw [mv_at (by omega), mv_at (by omega), mv_at (by omega), mv_at (by omega), hl, m0, m1, m2, m3]
  exact ⟨⟨rfl, rfl⟩, ⟨rfl, rfl⟩, ⟨rfl, rfl⟩, rfl, rfl⟩
theorem turned_by_one {xs : List (Nat × Nat)} (hl : xs.length = 4) (k : Nat) (hk : k < 4) :
    sumZ (rz (trB 4 k) (mvM 1 xs)) 4 = sumZ (rz (trB 4 k) xs) 4 * cz (-4 * (k : Int)) - sumZ (iz (trB 4 k) xs) 4 * sz (-4 * (k : Int)) ∧
    sumZ (iz (trB 4 k) (mvM 1 xs)) 4 = sumZ (rz (trB 4 k) xs) 4 * sz (-4 * (k : Int)) + sumZ (iz (trB 4 k) xs) 4 * cz (-4 * (k : Int)) := by
  obtain ⟨⟨a0, b0⟩, ⟨a1, b1⟩, ⟨a2, b2⟩, a3, b3⟩ := mv_four hl
  rcases (by omega : k = 0 ∨ k = 1 ∨ k = 2 ∨ k = 3) with rfl | rfl | rfl | rfl
  all_goals
    simp [sumZ, rz, iz, cz, sz, trB, a0, b0, a1, b1, a2, b2, a3, b3]
    try omega
/-- .. as numbers: what the law compares. -/
theorem turned_words {xs : List (Nat × Nat)} (hl : xs.length = 4) (hz : ZS 10 xs) (k : Nat) (hk : k < 4) :
    MulOk (tsW (trB 4 k) xs 4) (turnF (-4 * (k : Int))) ∧ FinP (tsW (trB 4 k) (mvM 1 xs) 4) ∧ EqP (tsW (trB 4 k) (mvM 1 xs) 4) (mlW (tsW (trB 4 k) xs 4) (turnF (-4 * (k : Int)))) := by
  have hb := trB_bound 4 k (by omega) hk
  have hd := (four_div (n := 4) (k := k) (.inr (.inr rfl))).1
  have z1 := (ts_zp hz (by omega) (by omega) hd hb.1 hb.2 4 (by omega)).2
  have z2 := (ts_zp (mv_zs (b := 1) hz) (by rw [mvM_len]; omega) (by omega) hd hb.1 hb.2 4 (by rw [mvM_len]; omega)).2
  have zt := turn_zp (-4 * (k : Int)) (by omega) (by omega) (by omega)
  obtain ⟨e1, e2⟩ := turned_by_one hl k hk
  have s1 := sumZ_bound (f := rz (trB 4 k) (mvM 1 xs)) (M := 2 * 10) 4 (fun j hj => (rz_bound (mv_zs (b := 1) hz) j (by rw [mvM_len]; omega)).1)
  have s2 := sumZ_bound (f := iz (trB 4 k) (mvM 1 xs)) (M := 2 * 10) 4 (fun j hj => (rz_bound (mv_zs (b := 1) hz) j (by rw [mvM_len]; omega)).2)
  obtain ⟨m1, m2⟩ := z1.mul zt (by rw [← e1]; omega) (by rw [← e2]; omega)
  rw [← e1, ← e2] at m2
  have := ZP.eqP z2 m2
  exact ⟨m1, this.1, this.2.2⟩

theorem mvM_mem4 {b : Int} {xs : List (Nat × Nat)} {p : Nat × Nat} (h : p ∈ mvM b xs) : p ∈ xs := by
  unfold mvM at h
  obtain ⟨i, hi, rfl⟩ := List.mem_map.1 h
  have hi' := List.mem_range.1 hi
  have hj := mvI_lt (-b) i (by omega : 0 < xs.length)
  rw [List.getD_eq_getElem?_getD, List.getElem?_eq_getElem hj]
  exact List.getElem_mem hj
theorem mvM_ok4 {b : Int} {xs : List (Nat × Nat)} (h : okB xs = true) : okB (mvM b xs) = true := by
  rw [okB_iff] at *
  exact ⟨by rw [mvM_len]; exact h.1, fun p hp => h.2 p (mvM_mem4 hp)⟩
/-- A finite complex64 number equals another one, as '==' has it. -/
theorem eqP_orders {p q : Nat × Nat} (hp : FinP p) (hq : FinP q) (h : EqP p q) : (FloatKind.f32.format.order p.1 q.1 == some .eq) = true ∧ (FloatKind.f32.format.order p.2 q.2 == some .eq) = true :=
  ⟨order_eq32 hp.1 hq.1 h.1, order_eq32 hp.2 hq.2 h.2⟩

set_option maxHeartbeats 6400000 in
theorem law_FnTransformOf (a : Option Addr) (len cap : Nat) (z : List Int) (w : World) (h : CodeIs w a len cap z) :
    Calls Try.prog 5 #[.slice a len cap] w fun e w' => e = .returned (.bool true) ∧ Below w.heap.size w w' := by
  have HC := Lib.hid h
  clear h
  by_cases hbig : 1048576 < len
  · go_enter Try.func5, Try.ntmps5
    go_wp2
    go_ret
    exact ⟨rfl, Below.refl _ _⟩
  go_enter Try.func5, Try.ntmps5
  go_wp2_with fail
  refine (drawTransformOf_any _ HC.out).mono ?_
  rintro e w1 ⟨A, n, c, xs, rfl, ho, hsg, hn, hb⟩
  have hl := ho.len
  have HB := Lib.hid hb
  have HS := Lib.hid ho.sg
  have HN := Lib.hid hsg.num
  have HT := Lib.hid (hsg.tr : TrOk n xs)
  clear ho hb HC hsg
  go_wp2_with fail
  refine (trans_any _ HS.out (by omega) HT.out).mono ?_
  rintro e w2 ⟨A2, k2, c2, rfl, hk2, ho2, hb2⟩
  have hl2 := ho2.len
  have HO2 := Lib.hid ho2
  have HS2 := Lib.hid (HS.out.below hb2)
  have HB2 := Lib.hid (HB.out.trans (hb2.mono HB.out.size))
  clear ho2 hb2
  go_wp2_with fail
  refine (strans_any _ HS2.out (by omega) HT.out).mono ?_
  rintro e w3 ⟨A3, k3, c3, rfl, hk3, ho3, hb3⟩
  have HO3 := Lib.hid ho3.sg
  have HY3 := Lib.hid (HO2.out.below hb3).sg
  have HS3 := Lib.hid (HS2.out.below hb3)
  have HB3 := Lib.hid (HB2.out.trans (hb3.mono HB2.out.size))
  clear ho3 hb3
  cases hsz : sizB n xs
  · have hv : trF n xs = [] := by unfold trF; rw [hsz]; rfl
    have HV := Lib.hid hv
    rw [hv] at hl2
    simp only [List.length_nil] at hl2
    subst hl2
    clear hv hsz
    go_wp2_with fail
    refine (sameSignal_any _ HY3.out HO3.out (by rw [HV.out]; exact EqS.nil) (by omega)).mono ?_
    rintro e w' ⟨rfl, m1, rfl⟩
    go_wp2_with fail
    refine (alive_any _).mono ?_
    rintro e w' ⟨rfl, m2, rfl⟩
    go_wp2
    go_ret
    exact ⟨rfl, below_drewN' HB3.out _⟩
  · have hv : trF n xs = trL n xs := by unfold trF; rw [hsz]; rfl
    obtain ⟨hp, hok⟩ := sizB_iff.1 hsz
    have hl16 := (okB_iff.1 hok).1
    have hn0 : 0 < n := by have := powB_cases hp; omega
    have hkk : k2 = n := by rw [← hl2, hv, trL_len]
    subst hkk
    have hokt : okB (trL k2 xs) = true := tr_ok (by omega) hl (HT.out hsz)
    have hszt : sizB k2 (trL k2 xs) = true := by rw [sizB_iff]; exact ⟨hp, hokt⟩
    have HV := Lib.hid hv
    have HK := Lib.hid hok
    have HE := Lib.hid hokt
    have HP := Lib.hid hp
    have HL := Lib.hid hl
    have HSZT := Lib.hid hszt
    have HSZ := Lib.hid hsz
    clear hv hok hokt hp hsz hl2 hszt
    go_wp2_with fail
    refine (sameSignal_any _ HY3.out HO3.out (by rw [HV.out]; exact EqS.refl_ok HE.out) (by omega)).mono ?_
    rintro e w4 ⟨rfl, m1, hw4⟩
    have HS4 := Lib.hid (by rw [hw4]; exact HS3.out.drewN m1 : Sg w4 A k2 c xs)
    have HY4 := Lib.hid (by rw [hw4, ← HV.out]; exact HY3.out.drewN m1 : Sg w4 A2 k2 c2 (trL k2 xs))
    have HB4 := Lib.hid (by rw [hw4]; exact below_drewN' HB3.out m1 : Below w.heap.size w w4)
    clear hw4
    by_cases hw : ∀ p ∈ xs, WholeP p
    · have hzs := whole_zs hw
      clear hw
      by_cases h4 : 4 < k2
      · have hn8 : k2 = 8 ∨ k2 = 16 := by have := powB_cases HP.out; omega
        obtain ⟨_, r2, r3⟩ := round_near hn8 hl hzs
        have vb : bkF k2 (trL k2 xs) = bkL k2 (trL k2 xs) := by unfold bkF; rw [HSZT.out]; rfl
        have hne : NearS (bkL k2 (trL k2 xs)) xs := ⟨by rw [bkL_len, hl], fun i h1 h2 => by
          have h1' : i < k2 := by rw [bkL_len] at h1; exact h1
          have hfx := (okB_iff.1 HK.out).2 _ (List.getElem_mem h2)
          have hfb := (r2 i h1').2.2
          have e1 : (bkL k2 (trL k2 xs))[i] = bkW k2 (trL k2 xs) i := by
            have := bkL_at k2 (trL k2 xs) i h1'
            rw [List.getElem?_eq_getElem h1] at this
            injection this
          have e2 : xs.getD i (0, 0) = xs[i] := by simp [h2]
          obtain ⟨q1, q2⟩ := r3 i h1'
          rw [e2] at q1 q2
          rw [e1]
          unfold nearF
          have f1 : finB (bkW k2 (trL k2 xs) i).1 = true := hfb.1
          have f2 : finB (bkW k2 (trL k2 xs) i).2 = true := hfb.2
          rw [f1, f2, hfx.1, hfx.2, nearB_true f1 hfx.1 q1, nearB_true f2 hfx.2 q2]; rfl⟩
        have HVB := Lib.hid vb
        have HNE := Lib.hid hne
        have HBO := Lib.hid ((fun _ => r2) : BkOk k2 (trL k2 xs))
        clear r2 r3 vb hne hzs
        go_wp2_with fail
        refine (back_any _ HY4.out (by omega) HBO.out).mono ?_
        rintro e w5 ⟨A5, k5, c5, rfl, hk5, ho5, hb5⟩
        rw [HSZT.out]
        rw [HVB.out] at ho5
        have hk5n : k5 = k2 := by rw [← ho5.len, bkL_len]
        subst hk5n
        have HO5 := Lib.hid ho5.sg
        have HS5 := Lib.hid (HS4.out.below hb5)
        have HY5 := Lib.hid (HY4.out.below hb5)
        have HB5 := Lib.hid (HB4.out.trans (hb5.mono HB4.out.size))
        clear ho5 hb5
        go_wp2_with fail
        refine (wholeSignal_any 10 _ HS5.out HN.out (by omega) (by omega) (by omega)).mono ?_
        rintro e w7 ⟨bw, rfl, _, m7, hw7⟩
        have HO7 := Lib.hid (by rw [hw7]; exact HO5.out.drewN m7 : Sg w7 A5 k5 c5 (bkL k5 (trL k5 xs)))
        have HS7 := Lib.hid (by rw [hw7]; exact HS5.out.drewN m7 : Sg w7 A k5 c xs)
        have HY7 := Lib.hid (by rw [hw7]; exact HY5.out.drewN m7 : Sg w7 A2 k5 c2 (trL k5 xs))
        have HB7 := Lib.hid (by rw [hw7]; exact below_drewN' HB5.out m7 : Below w.heap.size w w7)
        clear hw7
        cases bw
        · go_wp2_with fail
          refine (wholeSignal_any 1000 _ HS7.out HN.out (by omega) (by omega) (by omega)).mono ?_
          rintro e w8 ⟨bw, rfl, _, m8, hw8⟩
          have HY8 := Lib.hid (by rw [hw8]; exact HY7.out.drewN m8 : Sg w8 A2 k5 c2 (trL k5 xs))
          have HB8 := Lib.hid (by rw [hw8]; exact below_drewN' HB7.out m8 : Below w.heap.size w w8)
          clear hw8
          cases bw
          · go_wp2_with fail
            refine (ok_any _ HY8.out (by omega)).mono ?_
            rintro e w' ⟨rfl, m5, rfl⟩
            rw [HE.out]
            go_wp2
            go_ret
            exact ⟨rfl, below_drewN' HB8.out _⟩
          · go_wp2_with fail
            refine (ok_any _ HY8.out (by omega)).mono ?_
            rintro e w' ⟨rfl, m5, rfl⟩
            rw [HE.out]
            go_wp2
            go_ret
            exact ⟨rfl, below_drewN' HB8.out _⟩
        · go_wp2_with fail
          refine (nearSignal_any _ HO7.out HS7.out HNE.out (by omega) (by omega)).mono ?_
          rintro e w' ⟨rfl, m8, rfl⟩
          go_wp2
          go_ret
          exact ⟨rfl, below_drewN' HB7.out _⟩
      · have hn3 : k2 = 1 ∨ k2 = 2 ∨ k2 = 4 := by have := powB_cases HP.out; omega
        obtain ⟨i1, i2, i3⟩ := tr_zs hn3 hl hzs (by omega)
        have hfb := forth_back (xs := xs) (ys := trL k2 xs) hn3 i3
        obtain ⟨g1, g2, g3⟩ := bk_zs hn3 (trL_len k2 xs) i2 (by omega) (aZ xs) (bZ xs) (fun k hk => (hfb k hk).1) (fun k hk => (hfb k hk).2)
        have heq : EqS (bkL k2 (trL k2 xs)) xs := zs_eq (by rw [bkL_len, hl]) g2 hzs (fun k hk => by
          rw [bkL_len] at hk
          exact g3 k hk)
        have vb : bkF k2 (trL k2 xs) = bkL k2 (trL k2 xs) := by unfold bkF; rw [HSZT.out]; rfl
        have HVB := Lib.hid vb
        have HEQ := Lib.hid heq
        have HBO := Lib.hid ((fun _ => g1) : BkOk k2 (trL k2 xs))
        have HZS := Lib.hid hzs
        clear i1 i2 i3 hfb g1 g2 g3 heq vb hzs
        go_wp2_with fail
        refine (back_any _ HY4.out (by omega) HBO.out).mono ?_
        rintro e w5 ⟨A5, k5, c5, rfl, hk5, ho5, hb5⟩
        rw [HSZT.out]
        rw [HVB.out] at ho5
        have hk5n : k5 = k2 := by rw [← ho5.len, bkL_len]
        subst hk5n
        have HO5 := Lib.hid ho5.sg
        have HS5 := Lib.hid (HS4.out.below hb5)
        have HY5 := Lib.hid (HY4.out.below hb5)
        have HB5 := Lib.hid (HB4.out.trans (hb5.mono HB4.out.size))
        clear ho5 hb5
        go_wp2_with fail
        refine (wholeSignal_any 10 _ HS5.out HN.out (by omega) (by omega) (by omega)).mono ?_
        rintro e w7 ⟨bw, rfl, _, m7, hw7⟩
        have HO7 := Lib.hid (by rw [hw7]; exact HO5.out.drewN m7 : Sg w7 A5 k5 c5 (bkL k5 (trL k5 xs)))
        have HS7 := Lib.hid (by rw [hw7]; exact HS5.out.drewN m7 : Sg w7 A k5 c xs)
        have HY7 := Lib.hid (by rw [hw7]; exact HY5.out.drewN m7 : Sg w7 A2 k5 c2 (trL k5 xs))
        have HB7 := Lib.hid (by rw [hw7]; exact below_drewN' HB5.out m7 : Below w.heap.size w w7)
        clear hw7
        cases bw
        · go_wp2_with fail
          refine (wholeSignal_any 1000 _ HS7.out HN.out (by omega) (by omega) (by omega)).mono ?_
          rintro e w8 ⟨bw2, rfl, _, m8, hw8⟩
          have HO8 := Lib.hid (by rw [hw8]; exact HO7.out.drewN m8 : Sg w8 A5 k5 c5 (bkL k5 (trL k5 xs)))
          have HS8 := Lib.hid (by rw [hw8]; exact HS7.out.drewN m8 : Sg w8 A k5 c xs)
          have HY8 := Lib.hid (by rw [hw8]; exact HY7.out.drewN m8 : Sg w8 A2 k5 c2 (trL k5 xs))
          have HB8 := Lib.hid (by rw [hw8]; exact below_drewN' HB7.out m8 : Below w.heap.size w w8)
          clear hw8
          cases bw2
          · go_wp2_with fail
            refine (ok_any _ HY8.out (by omega)).mono ?_
            rintro e w' ⟨rfl, m5, rfl⟩
            rw [HE.out]
            go_wp2
            go_ret
            exact ⟨rfl, below_drewN' HB8.out _⟩
          · go_wp2_with fail
            refine (sameSignal_any _ HO8.out HS8.out HEQ.out (by omega)).mono ?_
            rintro e w9 ⟨rfl, m9, hw9⟩
            have HS9 := Lib.hid (by rw [hw9]; exact HS8.out.drewN m9 : Sg w9 A k5 c xs)
            have HY9 := Lib.hid (by rw [hw9]; exact HY8.out.drewN m9 : Sg w9 A2 k5 c2 (trL k5 xs))
            have HB9 := Lib.hid (by rw [hw9]; exact below_drewN' HB8.out m9 : Below w.heap.size w w9)
            clear hw9
            by_cases hk4 : k5 < 4
            · go_wp2
              go_ret
              exact ⟨rfl, HB9.out⟩
            · obtain rfl : k5 = 4 := by omega
              have hmok := mvM_ok4 (b := 1) HK.out
              have hmsz : sizB 4 (mvM 1 xs) = true := by rw [sizB_iff]; exact ⟨HP.out, hmok⟩
              have hmt : TrOk 4 (mvM 1 xs) := fun _ => (tr_zs (.inr (.inr rfl)) (by rw [mvM_len]; exact HL.out) (mv_zs (b := 1) HZS.out) (by omega)).1
              have hmv : trF 4 (mvM 1 xs) = trL 4 (mvM 1 xs) := by unfold trF; rw [hmsz]; rfl
              have HMT := Lib.hid hmt
              have HMSZ := Lib.hid hmsz
              have HMV := Lib.hid hmv
              clear hmok hmsz hmt hmv
              go_wp2_with fail
              refine (moved_any 1 _ HS9.out (by omega) (by omega) (by omega)).mono ?_
              rintro e w10 ⟨A10, k10, c10, rfl, hk10, ho10, hb10⟩
              have hv10 : mvL 1 xs = mvM 1 xs := by unfold mvL; rw [if_pos ⟨HK.out, by omega, by omega⟩]
              rw [hv10] at ho10
              have hk104 : k10 = 4 := by rw [← ho10.len, mvM_len, HL.out]
              subst hk104
              have HO10 := Lib.hid ho10.sg
              have HY10 := Lib.hid (HY9.out.below hb10)
              have HB10 := Lib.hid (HB9.out.trans (hb10.mono HB9.out.size))
              clear ho10 hb10 hv10
              go_wp2_with fail
              refine (trans_any _ HO10.out (by omega) HMT.out).mono ?_
              rintro e w11 ⟨A11, k11, c11, rfl, hk11, ho11, hb11⟩
              rw [HMSZ.out]
              rw [HMV.out] at ho11
              have hk114 : k11 = 4 := by rw [← ho11.len, trL_len]
              subst hk114
              have HO11 := Lib.hid ho11.sg
              have HY11 := Lib.hid (HY10.out.below hb11)
              have HB11 := Lib.hid (HB10.out.trans (hb11.mono HB10.out.size))
              clear ho11 hb11
              obtain ⟨gm, om, rfl, hgm, hcm⟩ := HO11.out.at_ (by omega)
              obtain ⟨gy, oy, rfl, hgy, hcy⟩ := HY11.out.at_ (by omega)
              have HCM := Lib.hid hcm
              have HCY := Lib.hid hcy
              clear hcm hcy
              go_wp2
              go_loopw [12] (fun i wr => ∃ k : Nat, k ≤ 4 ∧ i = .int .i64 k ∧ Below w11.heap.size w11 wr) (fun i _ => 4 - (intOf i).toNat)
              case atStart => exact ⟨0, by omega, rfl, Below.refl _ _⟩
              case round =>
                obtain ⟨k, hk, rfl, hbel⟩ := hrel
                have HBL := Lib.hid hbel
                by_cases hlt : k < 4
                · have hxm : k < (trL 4 (mvM 1 xs)).length := by rw [trL_len]; exact hlt
                  have hxy : k < (trL 4 xs).length := by rw [trL_len]; exact hlt
                  have am := trL_at 4 (mvM 1 xs) k hlt
                  have ay := trL_at 4 xs k hlt
                  rw [List.getElem?_eq_getElem hxm] at am
                  rw [List.getElem?_eq_getElem hxy] at ay
                  injection am with am
                  injection ay with ay
                  have cm : wr.cell? ⟨gm, om + k, none⟩ = some (cx (tsW (trB 4 k) (mvM 1 xs) 4)) := by rw [hbel.cell (p := ⟨gm, om + k, none⟩) hgm]; exact (HCM.out k hxm).trans (congrArg (fun p => some (cx p)) am)
                  have cy : wr.cell? ⟨gy, oy + k, none⟩ = some (cx (tsW (trB 4 k) xs 4)) := by rw [hbel.cell (p := ⟨gy, oy + k, none⟩) hgy]; exact (HCY.out k hxy).trans (congrArg (fun p => some (cx p)) ay)
                  obtain ⟨mo, ff, ee⟩ := turned_words HL.out HZS.out k hlt
                  obtain ⟨o1, o2⟩ := eqP_orders ff mo.2 ee
                  have emul := fun w => mo.run (P := Try.prog) w 26
                  have hszw := hbel.size
                  have hgm' : gm < wr.heap.size := by omega
                  have hgy' : gy < wr.heap.size := by omega
                  have hk0' : (0 : Int) ≤ (k : Int) := by omega
                  have hk1' : (k : Int) < 4 := by omega
                  have hwk : IntKind.i64.wrap (-4 * (k : Int)) = -4 * (k : Int) := IntWalk.i64_in _ (by omega)
                  clear am ay ff ee mo hbel HCM HCY HO11 HY11
                  generalize mlW (tsW (trB 4 k) xs 4) (turnF (-4 * (k : Int))) = q at *
                  generalize tsW (trB 4 k) (mvM 1 xs) 4 = mm at *
                  generalize tsW (trB 4 k) xs 4 = yy at *
                  generalize htt : turnF (-4 * (k : Int)) = tt at *
                  have HTT := Lib.hid htt
                  clear htt
                  obtain ⟨q1, q2⟩ := q
                  obtain ⟨m1, m2⟩ := mm
                  obtain ⟨y1, y2⟩ := yy
                  obtain ⟨t1, t2⟩ := tt
                  unfold cx at cm cy
                  simp only at cm cy o1 o2 emul
                  go_wp2_with fail
                  go_region_held3 (fun w' => w'.cell? ⟨gm, om + k, none⟩ = some (.complex .f32 m1 m2) ∧ w'.cell? ⟨gy, oy + k, none⟩ = some (.complex .f32 y1 y2))
                    (first
                      | go_keep
                      | (go_split_ands
                         refine ⟨?_, ?_⟩
                         · exact (hb2.cell (p := ⟨gm, om + k, none⟩) (by simpa using hgm')).trans (by assumption)
                         · exact (hb2.cell (p := ⟨gy, oy + k, none⟩) (by simpa using hgy')).trans (by assumption)))
                    ((go_at_call 25; refine (sturn_any (-4 * (k : Int)) _).mono ?_; rintro e w12 ⟨rfl, hb2⟩; rw [HTT.out]; unfold cx; simp only))
                  go_wp2
                  go_roundw
                  case rel => exact ⟨k + 1, by omega, by go_num, HBL.out.trans (below_drewN_left (n := 1) (hb2.mono hszw))⟩
                  case measure => simp [intOf]; omega
                · have hk4' : k = 4 := by omega
                  subst hk4'
                  have HB12 := Lib.hid (HB11.out.trans (hbel.mono HB11.out.size))
                  clear hbel HCM HCY HO11 HY11
                  go_wp2
                  go_ret
                  exact ⟨rfl, HB12.out⟩
        · go_wp2_with fail
          refine (wholeSignal_any 1000 _ HS7.out HN.out (by omega) (by omega) (by omega)).mono ?_
          rintro e w8 ⟨bw2, rfl, _, m8, hw8⟩
          have HO8 := Lib.hid (by rw [hw8]; exact HO7.out.drewN m8 : Sg w8 A5 k5 c5 (bkL k5 (trL k5 xs)))
          have HS8 := Lib.hid (by rw [hw8]; exact HS7.out.drewN m8 : Sg w8 A k5 c xs)
          have HY8 := Lib.hid (by rw [hw8]; exact HY7.out.drewN m8 : Sg w8 A2 k5 c2 (trL k5 xs))
          have HB8 := Lib.hid (by rw [hw8]; exact below_drewN' HB7.out m8 : Below w.heap.size w w8)
          clear hw8
          cases bw2
          · go_wp2_with fail
            refine (ok_any _ HY8.out (by omega)).mono ?_
            rintro e w' ⟨rfl, m5, rfl⟩
            rw [HE.out]
            go_wp2
            go_ret
            exact ⟨rfl, below_drewN' HB8.out _⟩
          · go_wp2_with fail
            refine (sameSignal_any _ HO8.out HS8.out HEQ.out (by omega)).mono ?_
            rintro e w9 ⟨rfl, m9, hw9⟩
            have HS9 := Lib.hid (by rw [hw9]; exact HS8.out.drewN m9 : Sg w9 A k5 c xs)
            have HY9 := Lib.hid (by rw [hw9]; exact HY8.out.drewN m9 : Sg w9 A2 k5 c2 (trL k5 xs))
            have HB9 := Lib.hid (by rw [hw9]; exact below_drewN' HB8.out m9 : Below w.heap.size w w9)
            clear hw9
            by_cases hk4 : k5 < 4
            · go_wp2
              go_ret
              exact ⟨rfl, HB9.out⟩
            · obtain rfl : k5 = 4 := by omega
              have hmok := mvM_ok4 (b := 1) HK.out
              have hmsz : sizB 4 (mvM 1 xs) = true := by rw [sizB_iff]; exact ⟨HP.out, hmok⟩
              have hmt : TrOk 4 (mvM 1 xs) := fun _ => (tr_zs (.inr (.inr rfl)) (by rw [mvM_len]; exact HL.out) (mv_zs (b := 1) HZS.out) (by omega)).1
              have hmv : trF 4 (mvM 1 xs) = trL 4 (mvM 1 xs) := by unfold trF; rw [hmsz]; rfl
              have HMT := Lib.hid hmt
              have HMSZ := Lib.hid hmsz
              have HMV := Lib.hid hmv
              clear hmok hmsz hmt hmv
              go_wp2_with fail
              refine (moved_any 1 _ HS9.out (by omega) (by omega) (by omega)).mono ?_
              rintro e w10 ⟨A10, k10, c10, rfl, hk10, ho10, hb10⟩
              have hv10 : mvL 1 xs = mvM 1 xs := by unfold mvL; rw [if_pos ⟨HK.out, by omega, by omega⟩]
              rw [hv10] at ho10
              have hk104 : k10 = 4 := by rw [← ho10.len, mvM_len, HL.out]
              subst hk104
              have HO10 := Lib.hid ho10.sg
              have HY10 := Lib.hid (HY9.out.below hb10)
              have HB10 := Lib.hid (HB9.out.trans (hb10.mono HB9.out.size))
              clear ho10 hb10 hv10
              go_wp2_with fail
              refine (trans_any _ HO10.out (by omega) HMT.out).mono ?_
              rintro e w11 ⟨A11, k11, c11, rfl, hk11, ho11, hb11⟩
              rw [HMSZ.out]
              rw [HMV.out] at ho11
              have hk114 : k11 = 4 := by rw [← ho11.len, trL_len]
              subst hk114
              have HO11 := Lib.hid ho11.sg
              have HY11 := Lib.hid (HY10.out.below hb11)
              have HB11 := Lib.hid (HB10.out.trans (hb11.mono HB10.out.size))
              clear ho11 hb11
              obtain ⟨gm, om, rfl, hgm, hcm⟩ := HO11.out.at_ (by omega)
              obtain ⟨gy, oy, rfl, hgy, hcy⟩ := HY11.out.at_ (by omega)
              have HCM := Lib.hid hcm
              have HCY := Lib.hid hcy
              clear hcm hcy
              go_wp2
              go_loopw [12] (fun i wr => ∃ k : Nat, k ≤ 4 ∧ i = .int .i64 k ∧ Below w11.heap.size w11 wr) (fun i _ => 4 - (intOf i).toNat)
              case atStart => exact ⟨0, by omega, rfl, Below.refl _ _⟩
              case round =>
                obtain ⟨k, hk, rfl, hbel⟩ := hrel
                have HBL := Lib.hid hbel
                by_cases hlt : k < 4
                · have hxm : k < (trL 4 (mvM 1 xs)).length := by rw [trL_len]; exact hlt
                  have hxy : k < (trL 4 xs).length := by rw [trL_len]; exact hlt
                  have am := trL_at 4 (mvM 1 xs) k hlt
                  have ay := trL_at 4 xs k hlt
                  rw [List.getElem?_eq_getElem hxm] at am
                  rw [List.getElem?_eq_getElem hxy] at ay
                  injection am with am
                  injection ay with ay
                  have cm : wr.cell? ⟨gm, om + k, none⟩ = some (cx (tsW (trB 4 k) (mvM 1 xs) 4)) := by rw [hbel.cell (p := ⟨gm, om + k, none⟩) hgm]; exact (HCM.out k hxm).trans (congrArg (fun p => some (cx p)) am)
                  have cy : wr.cell? ⟨gy, oy + k, none⟩ = some (cx (tsW (trB 4 k) xs 4)) := by rw [hbel.cell (p := ⟨gy, oy + k, none⟩) hgy]; exact (HCY.out k hxy).trans (congrArg (fun p => some (cx p)) ay)
                  obtain ⟨mo, ff, ee⟩ := turned_words HL.out HZS.out k hlt
                  obtain ⟨o1, o2⟩ := eqP_orders ff mo.2 ee
                  have emul := fun w => mo.run (P := Try.prog) w 26
                  have hszw := hbel.size
                  have hgm' : gm < wr.heap.size := by omega
                  have hgy' : gy < wr.heap.size := by omega
                  have hk0' : (0 : Int) ≤ (k : Int) := by omega
                  have hk1' : (k : Int) < 4 := by omega
                  have hwk : IntKind.i64.wrap (-4 * (k : Int)) = -4 * (k : Int) := IntWalk.i64_in _ (by omega)
                  clear am ay ff ee mo hbel HCM HCY HO11 HY11
                  generalize mlW (tsW (trB 4 k) xs 4) (turnF (-4 * (k : Int))) = q at *
                  generalize tsW (trB 4 k) (mvM 1 xs) 4 = mm at *
                  generalize tsW (trB 4 k) xs 4 = yy at *
                  generalize htt : turnF (-4 * (k : Int)) = tt at *
                  have HTT := Lib.hid htt
                  clear htt
                  obtain ⟨q1, q2⟩ := q
                  obtain ⟨m1, m2⟩ := mm
                  obtain ⟨y1, y2⟩ := yy
                  obtain ⟨t1, t2⟩ := tt
                  unfold cx at cm cy
                  simp only at cm cy o1 o2 emul
                  go_wp2_with fail
                  go_region_held3 (fun w' => w'.cell? ⟨gm, om + k, none⟩ = some (.complex .f32 m1 m2) ∧ w'.cell? ⟨gy, oy + k, none⟩ = some (.complex .f32 y1 y2))
                    (first
                      | go_keep
                      | (go_split_ands
                         refine ⟨?_, ?_⟩
                         · exact (hb2.cell (p := ⟨gm, om + k, none⟩) (by simpa using hgm')).trans (by assumption)
                         · exact (hb2.cell (p := ⟨gy, oy + k, none⟩) (by simpa using hgy')).trans (by assumption)))
                    ((go_at_call 25; refine (sturn_any (-4 * (k : Int)) _).mono ?_; rintro e w12 ⟨rfl, hb2⟩; rw [HTT.out]; unfold cx; simp only))
                  go_wp2
                  go_roundw
                  case rel => exact ⟨k + 1, by omega, by go_num, HBL.out.trans (below_drewN_left (n := 1) (hb2.mono hszw))⟩
                  case measure => simp [intOf]; omega
                · have hk4' : k = 4 := by omega
                  subst hk4'
                  have HB12 := Lib.hid (HB11.out.trans (hbel.mono HB11.out.size))
                  clear hbel HCM HCY HO11 HY11
                  go_wp2
                  go_ret
                  exact ⟨rfl, HB12.out⟩
    · have HW := Lib.hid hw
      clear hw
      go_wp2_with fail
      refine (back_total _ HY4.out (by omega) HSZT.out).mono ?_
      rintro e w5 ⟨A5, k5, c5, b5, rfl, hb5⟩
      have HS5 := Lib.hid (HS4.out.below hb5)
      have HY5 := Lib.hid (HY4.out.below hb5)
      have HB5 := Lib.hid (HB4.out.trans (hb5.mono HB4.out.size))
      clear hb5
      go_wp2_with fail
      refine (wholeSignal_any 10 _ HS5.out HN.out (by omega) (by omega) (by omega)).mono ?_
      rintro e w7 ⟨bw, rfl, hbw, m7, hw7⟩
      have hb0 : bw = false := by
        cases bw
        · rfl
        · exact absurd (hbw rfl) HW.out
      subst hb0
      have HS7 := Lib.hid (by rw [hw7]; exact HS5.out.drewN m7 : Sg w7 A k2 c xs)
      have HY7 := Lib.hid (by rw [hw7]; exact HY5.out.drewN m7 : Sg w7 A2 k2 c2 (trL k2 xs))
      have HB7 := Lib.hid (by rw [hw7]; exact below_drewN' HB5.out m7 : Below w.heap.size w w7)
      clear hw7 hbw
      go_wp2_with fail
      refine (wholeSignal_any 1000 _ HS7.out HN.out (by omega) (by omega) (by omega)).mono ?_
      rintro e w8 ⟨bw, rfl, hbw, m8, hw8⟩
      have hb0 : bw = false := by
        cases bw
        · rfl
        · exact absurd (hbw rfl) HW.out
      subst hb0
      have HY8 := Lib.hid (by rw [hw8]; exact HY7.out.drewN m8 : Sg w8 A2 k2 c2 (trL k2 xs))
      have HB8 := Lib.hid (by rw [hw8]; exact below_drewN' HB7.out m8 : Below w.heap.size w w8)
      clear hw8 hbw
      go_wp2_with fail
      refine (ok_any _ HY8.out (by omega)).mono ?_
      rintro e w' ⟨rfl, m5, rfl⟩
      rw [HE.out]
      go_wp2
      go_ret
      exact ⟨rfl, below_drewN' HB8.out _⟩
end Go.Proofs.Ytapncffjfaddgaa
