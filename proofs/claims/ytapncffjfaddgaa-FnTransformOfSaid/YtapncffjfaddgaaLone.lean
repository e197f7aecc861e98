/- The law FnOneNumberOf. -/
import Derived.Test.YtapncffjfaddgaaOne
import Derived.Test.YtapncffjfaddgaaZts
import Derived.Test.YtapncffjfaddgaaWholes
import Derived.Test.YtapncffjfaddgaaDsig
namespace Go.Proofs.Ytapncffjfaddgaa
open Go.RowKit Go.FR Go.FV

theorem SigOk.tr {n : Nat} {xs : List (Nat × Nat)} (h : SigOk xs) : TrOk n xs := fun hs k _ => sig_ts h (sizB_iff.1 hs).2 (trB n k)
theorem WholeP.zp {p : Nat × Nat} (h : WholeP p) : ∃ m n : Int, m.natAbs ≤ 10 ∧ n.natAbs ≤ 10 ∧ ZP p m n := by
  obtain ⟨m, m1, m2, f1, v1⟩ := wholeL_int h.1
  obtain ⟨n, n1, n2, f2, v2⟩ := wholeL_int h.2
  exact ⟨m, n, by omega, by omega, ⟨f1, f2, v1, v2⟩⟩
theorem whole_zs {xs : List (Nat × Nat)} (h : ∀ p ∈ xs, WholeP p) : ZS 10 xs := ZS.of_get fun p hp => (h p hp).zp

set_option maxHeartbeats 800000 in
theorem drawOne_any {a : Option Addr} {len cap : Nat} {z : List Int} (w : World) (h : CodeIs w a len cap z) :
    Calls Try.prog 7 #[.slice a len cap] w fun e w' => ∃ A k c xs b, e = .returned (.tuple #[.slice A k c, .int .i64 b]) ∧ Own w' w.heap.size A k c xs ∧ SigOk xs ∧ k ≤ 17 ∧ -1 ≤ b ∧ b ≤ 17 ∧ Below w.heap.size w w' := by
  have HC := Lib.hid h
  clear h
  go_enter Try.func7, Try.ntmps7
  go_wp2_with fail
  refine (open_any _ HC.out).mono ?_
  rintro e w1 ⟨s, rfl, hr, hB, hb⟩
  have hlt1 : s.B < w1.heap.size := hr.lt
  go_wp2_with fail
  refine (sized_any 9 _ hr (by omega) (by omega) (by omega)).mono ?_
  rintro e w3 ⟨A, k, c, xs, rfl, ho, hs, hk, hr3, hu3⟩
  have hb3 : Below w.heap.size w w3 := hu3.below hb hB hb.size
  have h1 := hb.size
  have hk17 : k ≤ 17 := by unfold SizeN at hk; omega
  have H := Lib.hid (And.intro ho (And.intro hs hb3))
  clear hr hu3 hb ho hs hb3 hk
  go_wp2_with fail
  refine (pick_any _ _ hr3 (by omega)).mono ?_
  rintro e w4 ⟨u, rfl, u0, u1, hr4, ho4⟩
  have u2 := u1 (by omega)
  have HO4 := Lib.hid ho4
  clear hr3 u1 ho4
  go_wp2_with fail
  refine (pick_any _ _ hr4 (by omega)).mono ?_
  rintro e w5 ⟨y, rfl, y0, y1, hr5, ho5⟩
  have y2 := y1 (by omega)
  have HO5 := Lib.hid ho5
  clear hr4 hr5 y1 ho5
  go_wp2
  go_ret2
  exact ⟨A, k, c, xs, _, rfl, ((H.out.1.upd HO4.out.upd hlt1).upd HO5.out.upd hlt1).mono (by omega), H.out.2.1, hk17, by omega, by omega, HO5.out.below (HO4.out.below H.out.2.2 hB) hB⟩

set_option maxHeartbeats 3200000 in
theorem law_FnOneNumberOf (a : Option Addr) (len cap : Nat) (z : List Int) (w : World) (h : CodeIs w a len cap z) :
    Calls Try.prog 3 #[.slice a len cap] w fun e w' => e = .returned (.bool true) ∧ Below w.heap.size w w' := by
  have HC := Lib.hid h
  clear h
  by_cases hbig : 1048576 < len
  · go_enter Try.func3, Try.ntmps3
    go_wp2
    go_ret
    exact ⟨rfl, Below.refl _ _⟩
  go_enter Try.func3, Try.ntmps3
  go_wp2_with fail
  refine (drawOne_any _ HC.out).mono ?_
  rintro e w1 ⟨A, n, c, xs, k, rfl, ho, hsg, hn, k0, k1, hb⟩
  have hl := ho.len
  have HL := Lib.hid hl
  have HB := Lib.hid hb
  have HS := Lib.hid ho.sg
  have HN := Lib.hid hsg.num
  have HT := Lib.hid (hsg.tr : TrOk n xs)
  clear ho hb HC hsg
  cases hob : onB n k xs
  · have hv : onW n k xs = (0, 0) := by unfold onW; rw [hob]; rfl
    have HV := Lib.hid hv
    have HOB := Lib.hid hob
    have z0 := zero_fin .f32
    rw [fmt32] at z0
    have e0 := order_eq32 z0.1 z0.1 rfl
    clear hv hob
    go_wp2_with fail
    refine (one_any k _ HS.out (by omega) HT.out (by omega) (by omega)).mono ?_
    rintro e w2 ⟨rfl, hb2⟩
    rw [HV.out, HOB.out]
    have HB2 := Lib.hid hb2
    clear hb2
    unfold cx
    simp only
    go_wp2_with fail
    refine (sone_any k _ (HS.out.below HB2.out) (by omega) HT.out (by omega) (by omega)).mono ?_
    rintro e w3 ⟨rfl, hb3⟩
    rw [HV.out, HOB.out]
    have HB3 := Lib.hid hb3
    clear hb3
    unfold cx
    simp only
    go_wp2_with fail
    refine (sameBits_any (0, 0) (0, 0) _ ⟨z0.1, z0.1⟩ ⟨z0.1, z0.1⟩ ⟨rfl, rfl⟩).mono ?_
    rintro e w' ⟨rfl, m3, rfl⟩
    clear z0
    go_wp2_with fail
    refine (alive_any _).mono ?_
    rintro e w' ⟨rfl, m4, rfl⟩
    go_wp2
    go_ret
    exact ⟨rfl, below_drewN' (HB.out.trans ((HB2.out.trans (HB3.out.mono HB2.out.size)).mono HB.out.size)) _⟩
  · have hv : onW n k xs = tsW (trB n k.toNat) xs n := by unfold onW; rw [hob]; rfl
    obtain ⟨hsz, j0, j1⟩ := onB_iff.1 hob
    obtain ⟨j, rfl⟩ := Int.eq_ofNat_of_zero_le j0
    rw [Int.toNat_natCast] at hv
    obtain ⟨hp, hok⟩ := sizB_iff.1 hsz
    have hjn : j < n := by omega
    have hl16 := (okB_iff.1 hok).1
    have hn1 : 1 ≤ n := by omega
    have hf : FinP (tsW (trB n j) xs n) := by
      have := (HT.out hsz j hjn).fin n (by omega)
      exact this
    have hob0 : onB n 0 xs = true := by rw [onB_iff]; exact ⟨hsz, by omega, by omega⟩
    have hv0 : onW n 0 xs = tsW 0 xs n := by
      have : trB n 0 = 0 := by unfold trB; simp
      unfold onW; rw [hob0, if_pos rfl, show (0 : Int).toNat = 0 from rfl, this]
    have hv2 : trF n xs = trL n xs := by unfold trF; rw [hsz]; rfl
    have HV := Lib.hid hv
    have HOB := Lib.hid hob
    have HF := Lib.hid hf
    have HOB0 := Lib.hid hob0
    have HV0 := Lib.hid hv0
    have HV2 := Lib.hid hv2
    have HSZ := Lib.hid hsz
    have HAT := Lib.hid (trL_at n xs j hjn)
    have hww : (∀ p ∈ xs, WholeP p) → FinP (tsW 0 xs n) ∧ FinP (sxW xs n) ∧ EqP (tsW 0 xs n) (sxW xs n) := fun hw => by
      have := ts_sx (whole_zs hw) hl16 (by omega)
      rw [hl] at this
      exact this
    have HWW := Lib.hid hww
    clear hv hob hf hob0 hv0 hv2 hsz hp hok hww
    go_wp2_with fail
    refine (one_any j _ HS.out (by omega) HT.out (by omega) (by omega)).mono ?_
    rintro e w2 ⟨rfl, hb2⟩
    rw [HV.out, HOB.out]
    have HB2 := Lib.hid (HB.out.trans (hb2.mono HB.out.size))
    have HS2 := Lib.hid (HS.out.below hb2)
    clear hb2 HS
    generalize hr : tsW (trB n j) xs n = r at *
    have HR := Lib.hid hr
    clear hr
    obtain ⟨r1, r2⟩ := r
    unfold cx
    simp only
    go_wp2_with fail
    refine (sone_any j _ HS2.out (by omega) HT.out (by omega) (by omega)).mono ?_
    rintro e w3 ⟨rfl, hb3⟩
    rw [HV.out, HOB.out]
    have HB3 := Lib.hid (HB2.out.trans (hb3.mono HB2.out.size))
    have HS3 := Lib.hid (HS2.out.below hb3)
    clear hb3 HS2
    unfold cx
    simp only
    go_wp2_with fail
    refine (sameBits_any (r1, r2) (r1, r2) _ HF.out HF.out ⟨rfl, rfl⟩).mono ?_
    rintro e w4 ⟨rfl, m4, hw4⟩
    have HS4 := Lib.hid (by rw [hw4]; exact HS3.out.drewN m4 : Sg w4 A n c xs)
    have HB4 := Lib.hid (by rw [hw4]; exact below_drewN' HB3.out m4 : Below w.heap.size w w4)
    clear hw4
    go_wp2_with fail
    refine (trans_any _ HS4.out (by omega) HT.out).mono ?_
    rintro e w5 ⟨A5, k5, c5, rfl, hk5, ho5, hb5⟩
    rw [HSZ.out]
    rw [HV2.out] at ho5
    have hk5n : k5 = n := by rw [← ho5.len, trL_len]
    subst hk5n
    obtain ⟨g5, off5, rfl, hg5, hc5⟩ := ho5.sg.at_ (by omega)
    have hx5 : j < (trL k5 xs).length := by rw [trL_len]; exact hjn
    have c5' : w5.cell? ⟨g5, off5 + j, none⟩ = some (.complex .f32 r1 r2) := by
      rw [hc5 j hx5]
      have := HAT.out
      rw [List.getElem?_eq_getElem hx5] at this
      injection this with this
      rw [this]; rfl
    have HB5 := Lib.hid (HB4.out.trans (hb5.mono HB4.out.size))
    have HS5 := Lib.hid (HS4.out.below hb5)
    have hjle : ¬ (k5 : Int) ≤ (j : Int) := by omega
    clear hb5 HS4 ho5 hc5 HAT
    go_wp2_with fail
    refine (sameBits_any (r1, r2) (r1, r2) _ HF.out HF.out ⟨rfl, rfl⟩).mono ?_
    rintro e w6 ⟨rfl, m6, hw6⟩
    have HS6 := Lib.hid (by rw [hw6]; exact HS5.out.drewN m6 : Sg w6 A k5 c xs)
    have HB6 := Lib.hid (by rw [hw6]; exact below_drewN' HB5.out m6 : Below w.heap.size w w6)
    clear hw6 c5'
    go_wp2_with fail
    refine (wholeSignal_any 1000 _ HS6.out HN.out (by omega) (by omega) (by omega)).mono ?_
    rintro e w7 ⟨bw, rfl, hbw, m7, hw7⟩
    have HBW := Lib.hid hbw
    have HS7 := Lib.hid (by rw [hw7]; exact HS6.out.drewN m7 : Sg w7 A k5 c xs)
    have HB7 := Lib.hid (by rw [hw7]; exact below_drewN' HB6.out m7 : Below w.heap.size w w7)
    clear hbw hw7
    cases bw
    · have hff : (finB r1 && finB r2) = true := by rw [HF.out.1, HF.out.2]; rfl
      go_wp2_with fail
      refine (finite_any r1 r2 _).mono ?_
      rintro e w' ⟨rfl, m8, rfl⟩
      rw [hff]
      go_wp2
      go_ret
      exact ⟨rfl, below_drewN' HB7.out _⟩
    · have hww := HBW.out (by simp)
      have hzs := whole_zs hww
      obtain ⟨f1, f2, f3⟩ := HWW.out hww
      have e1 := order_eq32 f1.1 f2.1 f3.1
      have e2 := order_eq32 f1.2 f2.2 f3.2
      have HZS := Lib.hid hzs
      clear hww hzs f1 f2 f3 HWW
      go_wp2_with fail
      refine (one_any 0 _ HS7.out (by omega) HT.out (by omega) (by omega)).mono ?_
      rintro e w8 ⟨rfl, hb8⟩
      rw [HV0.out, HOB0.out]
      have HS8 := Lib.hid (HS7.out.below hb8)
      have HB8 := Lib.hid (HB7.out.trans (hb8.mono HB7.out.size))
      clear hb8
      generalize tsW 0 xs k5 = q at *
      obtain ⟨q1, q2⟩ := q
      unfold cx
      simp only at e1 e2 ⊢
      obtain ⟨gx, offx, rfl, hgx, hcx⟩ := HS8.out.at_ (by omega)
      have HCX := Lib.hid hcx
      clear hcx
      go_wp2
      go_loopw [13, 14] (fun sv i wr => ∃ m : Nat, m ≤ k5 ∧ i = .int .i64 m ∧ sv = .complex .f32 (sxW xs m).1 (sxW xs m).2 ∧ wr = w8) (fun _ i _ => k5 - (intOf i).toNat)
      case atStart => exact ⟨0, by omega, rfl, rfl, rfl⟩
      case round =>
        obtain ⟨m, hm, rfl, rfl, rfl⟩ := hrel
        by_cases hlt : m < k5
        · have hx : m < xs.length := by rw [HL.out]; exact hlt
          have c1 : wr.cell? ⟨gx, offx + m, none⟩ = some (cx xs[m]) := HCX.out m hx
          have z1 := sx_zp HZS.out hl16 (by omega) m (by omega)
          have z2 := (HZS.out m hx).1
          have hgd : xs.getD m (0, 0) = xs[m] := by simp [hx]
          rw [hgd] at z2
          have hnext : sxW xs (m + 1) = adW (sxW xs m) xs[m] := by
            show adW (sxW xs m) (xs.getD m (0, 0)) = _
            rw [hgd]
          have eadd := fun w => run_adW (P := Try.prog) w 26 ⟨z1.f1, z1.f2⟩ ⟨z2.f1, z2.f2⟩
          have HNX := Lib.hid hnext
          clear z1 z2 hgd hnext HCX HZS e1 e2
          generalize adW (sxW xs m) xs[m] = s' at *
          generalize sxW xs m = s at *
          generalize xs[m] = p at *
          obtain ⟨p1, p2⟩ := p
          obtain ⟨s1, s2⟩ := s
          obtain ⟨s3, s4⟩ := s'
          unfold cx at c1
          simp only at c1 eadd
          go_wp2
          go_roundw
          case rel => exact ⟨m + 1, by omega, by go_num, by rw [HNX.out], by first | rfl | trivial⟩
          case measure => simp [intOf]; omega
        · have hmk : m = k5 := by omega
          subst hmk
          clear HCX HZS
          generalize sxW xs m = s at *
          obtain ⟨s1, s2⟩ := s
          simp only at e1 e2 ⊢
          go_wp2
          go_ret
          exact ⟨rfl, HB8.out⟩
end Go.Proofs.Ytapncffjfaddgaa
