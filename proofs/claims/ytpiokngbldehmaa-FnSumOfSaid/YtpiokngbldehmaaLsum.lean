/- The law FnSumOf. -/
import Derived.Test.YtpiokngbldehmaaSums2
import Derived.Test.YtpiokngbldehmaaTimes
import Derived.Test.YtpiokngbldehmaaEnp
import Derived.Test.YtpiokngbldehmaaDsig
import Derived.Test.YtpiokngbldehmaaLsok
namespace Go.Proofs.Ytpiokngbldehmaa
open Go.RowKit Go.FR Go.FV

/-- What a draw of two signals leaves. -/
def Drawn2 (w : World) (e : Ending) (w' : World) : Prop := ∃ A k c xs A2 k2 c2 ys, e = .returned (.tuple #[.slice A k c, .slice A2 k2 c2]) ∧ Own w' w.heap.size A k c xs ∧ Own w' w.heap.size A2 k2 c2 ys ∧ SigOk xs ∧ SigOk ys ∧ k ≤ 17 ∧ k2 ≤ 17 ∧ Below w.heap.size w w'

set_option maxHeartbeats 1600000 in
theorem pair_any {s : Src} {q : Nat} (m : Int) (w : World) (h : Rdr w s q) (hq : q < 500000) (hm0 : -1000 ≤ m) (hm1 : m ≤ 1000) :
    Calls Try.prog 36 #[.pointer (some ⟨s.B, 0, none⟩), .int .i64 m] w fun e w' => ∃ A k c xs A2 k2 c2 ys, e = .returned (.tuple #[.slice A k c, .slice A2 k2 c2]) ∧ Own w' w.heap.size A k c xs ∧ Own w' w.heap.size A2 k2 c2 ys ∧ SigOk xs ∧ SigOk ys ∧ k ≤ 17 ∧ k2 ≤ 17 ∧ Upd s.B w w' := by
  go_enter Try.func36, Try.ntmps36
  go_wp2_with fail
  refine (points_any _ h (by omega)).mono ?_
  rintro e w2 ⟨v, rfl, hv, hr2, hu2⟩
  have hlt2 := hr2.lt
  have h2 := hu2.size
  clear h
  go_wp2_with fail
  refine (signal_any v m _ hr2 (by omega) (by omega) hm0 hm1).mono ?_
  rintro e w3 ⟨A, k, c, xs, rfl, ho, hs, hk, hr3, hu3⟩
  have h3 := hu3.size
  have H := Lib.hid (And.intro ho (And.intro hs (hu2.trans hu3)))
  clear hr2 hu2 ho hs hu3
  go_wp2_with fail
  refine (pick_any _ _ hr3 (by omega)).mono ?_
  rintro e w4 ⟨u, rfl, u0, u1, hr4, ho4⟩
  have u2 := u1 (by omega)
  have h4 := ho4.size
  have HO4 := Lib.hid ho4
  clear hr3 u1 ho4
  have hcase : ∃ d : Nat, d ≤ 1 ∧ u / 19 = (d : Int) := by
    rcases (by omega : u < 19 ∨ u = 19) with hh | hh
    · exact ⟨0, by omega, by omega⟩
    · exact ⟨1, by omega, by omega⟩
  obtain ⟨d, hd, hdu⟩ := hcase
  have hsum : (v : Int) + (d : Int) = ((v + d : Nat) : Int) := by omega
  have HSUM := Lib.hid hsum
  clear hsum
  go_wp2_with fail
  rw [HSUM.out]
  refine (signal_any (v + d) m _ hr4 (by omega) (by omega) hm0 hm1).mono ?_
  rintro e w5 ⟨A2, k2, c2, ys, rfl, ho5, hs5, hk5, hr5, hu5⟩
  have H5 := Lib.hid (And.intro ho5 (And.intro hs5 hu5))
  clear hr4 hr5 ho5 hs5 hu5
  go_wp2
  go_ret2
  exact ⟨A, k, c, xs, A2, k2, c2, ys, rfl, ((H.out.1.upd HO4.out.upd hlt2).upd H5.out.2.2 hlt2).mono h2, H5.out.1.mono (by omega), H.out.2.1, H5.out.2.1, by omega, by omega, (H.out.2.2.only HO4.out).trans H5.out.2.2⟩

set_option maxHeartbeats 800000 in
theorem drawSumOf_any {a : Option Addr} {len cap : Nat} {z : List Int} (w : World) (h : CodeIs w a len cap z) :
    Calls Try.prog 10 #[.slice a len cap] w (Drawn2 w) := by
  have HC := Lib.hid h
  clear h
  go_enter Try.func10, Try.ntmps10
  go_wp2_with fail
  refine (open_any _ HC.out).mono ?_
  rintro e w1 ⟨s, rfl, hr, hB, hb⟩
  go_wp2_with fail
  refine (pair_any 9 _ hr (by omega) (by omega) (by omega)).mono ?_
  rintro e w2 ⟨A, k, c, xs, A2, k2, c2, ys, rfl, ho, ho2, hs, hs2, hk, hk2, hu⟩
  have h1 := hb.size
  have H := Lib.hid (And.intro ho (And.intro ho2 (And.intro hs (And.intro hs2 (hu.below hb hB hb.size)))))
  clear hr hB hb ho ho2 hs hs2 hu
  go_wp2
  go_ret2
  exact ⟨A, k, c, xs, A2, k2, c2, ys, rfl, H.out.1.mono h1, H.out.2.1.mono h1, H.out.2.2.1, H.out.2.2.2.1, hk, hk2, H.out.2.2.2.2⟩

theorem suM_comm {xs ys : List (Nat × Nat)} (h1 : okB xs = true) (h2 : okB ys = true) (he : xs.length = ys.length) : suM ys xs = suM xs ys := by
  have f1 := (okB_iff.1 h1).2
  have f2 := (okB_iff.1 h2).2
  symm
  refine summed he.symm (by rw [suM_len he, he]) (fun i a b => ?_)
  rw [suM_at i b a, adW_comm (f1 _ (List.getElem_mem b)) (f2 _ (List.getElem_mem a))]
theorem suM_ok {xs ys : List (Nat × Nat)} (h : suB xs ys = true) : okB (suM xs ys) = true := by
  obtain ⟨h1, h2, h3, h4⟩ := suB_iff.1 h
  refine okB_true (by rw [suM_len h3]; exact (okB_iff.1 h1).1) fun p hp => ?_
  unfold allB at h4
  exact List.all_eq_true.1 h4 p hp

/-- minus 1 -/
theorem neg_zp : ZP (3212836864, 0) (-1) 0 := by
  have z := zero_fin .f32
  rw [fmt32] at z
  exact ⟨by decide +kernel, z.1, by decide +kernel, z.2⟩
theorem whole_neg {p : Nat × Nat} (h : WholeP p) : MulOk p (3212836864, 0) ∧ ∃ m n : Int, m.natAbs ≤ 10 ∧ n.natAbs ≤ 10 ∧ ZP p m n ∧ ZP (mlW p (3212836864, 0)) (-m) (-n) := by
  obtain ⟨m, n, h1, h2, h3⟩ := SmInt.zp h.int
  obtain ⟨a, b⟩ := h3.mul neg_zp (by omega) (by omega)
  refine ⟨a, m, n, h1, h2, h3, ?_⟩
  have e1 : m * -1 - n * 0 = -m := by omega
  have e2 : m * 0 + n * -1 = -n := by omega
  rw [e1, e2] at b
  exact b
theorem whole_none {xs : List (Nat × Nat)} (hok : okB xs = true) (h : ∀ p ∈ xs, WholeP p) :
    suB xs (xs.map fun p => mlW p (3212836864, 0)) = true ∧ EqS (suM xs (xs.map fun p => mlW p (3212836864, 0))) (List.replicate xs.length (0, 0)) := by
  have key : ∀ i (hi : i < xs.length), ZP (adW xs[i] (mlW xs[i] (3212836864, 0))) 0 0 := by
    intro i hi
    obtain ⟨_, m, n, h1, h2, h3, h4⟩ := whole_neg (h _ (List.getElem_mem hi))
    have := h3.add h4 (by omega) (by omega)
    have e1 : m + -m = 0 := by omega
    have e2 : n + -n = 0 := by omega
    rw [e1, e2] at this
    exact this
  have hlen : xs.length = (xs.map fun p => mlW p (3212836864, 0)).length := by simp
  have hat : ∀ i (hi : i < xs.length), (suM xs (xs.map fun p => mlW p (3212836864, 0)))[i]? = some (adW xs[i] (mlW xs[i] (3212836864, 0))) := by
    intro i hi
    rw [suM_at i hi (by simpa using hi)]; simp
  constructor
  · rw [suB_iff]
    refine ⟨hok, ?_, hlen, ?_⟩
    · refine okB_true (by simpa using (okB_iff.1 hok).1) fun p hp => ?_
      obtain ⟨q, hq, rfl⟩ := List.mem_map.1 hp
      have := (whole_neg (h _ hq)).1.2
      rw [this.1, this.2]; rfl
    · refine allB_true fun p hp => ?_
      obtain ⟨i, hi, rfl⟩ := List.getElem_of_mem hp
      have hi1 : i < xs.length := by rw [suM_len hlen] at hi; exact hi
      have hg := hat i hi1
      rw [List.getElem?_eq_getElem hi] at hg
      injection hg with hg
      rw [hg, (key i hi1).f1, (key i hi1).f2]; rfl
  · refine ⟨by rw [suM_len hlen]; simp, fun i hi hi' => ?_⟩
    have hi1 : i < xs.length := by rw [suM_len hlen] at hi; exact hi
    have hg := hat i hi1
    rw [List.getElem?_eq_getElem hi] at hg
    injection hg with hg
    rw [hg]
    simp only [List.getElem_replicate]
    exact ZP.eqP (key i hi1) ZP.zero

set_option maxHeartbeats 3200000 in
theorem law_FnSumOf (a : Option Addr) (len cap : Nat) (z : List Int) (w : World) (h : CodeIs w a len cap z) :
    Calls Try.prog 3 #[.slice a len cap] w fun e w' => e = .returned (.bool true) ∧ Below w.heap.size w w' := by
  have HC := Lib.hid h
  clear h
  by_cases hbig : 1048576 < len
  · go_enter Try.func3, Try.ntmps3
    go_wp2
    go_ret
    exact ⟨rfl, Below.refl _ _⟩
  go_enter Try.func3, Try.ntmps3
  go_wp2_with fail
  refine (drawSumOf_any _ HC.out).mono ?_
  rintro e w1 ⟨A, k, c, xs, Ay, ky, cy, ys, rfl, ho, hoy, hsg, hsgy, hk, hky, hb⟩
  have hl := ho.len
  have HB := Lib.hid hb
  have HS := Lib.hid ho.sg
  have HSY := Lib.hid hoy.sg
  have HN := Lib.hid hsg.num
  clear ho hoy hb HC hsg hsgy
  go_wp2_with fail
  refine (sum_any _ HS.out HSY.out (by omega) (by omega)).mono ?_
  rintro e w2 ⟨A2, k2, c2, rfl, hk2, ho2, hb2⟩
  have HO2 := Lib.hid ho2
  have HB2 := Lib.hid hb2
  have hl2 := ho2.len
  clear ho2 hb2
  go_wp2_with fail
  refine (ssum_any _ (HS.out.below HB2.out) (HSY.out.below HB2.out) (by omega) (by omega)).mono ?_
  rintro e w3 ⟨A3, k3, c3, rfl, hk3, ho3, hb3⟩
  have HO3 := Lib.hid ho3
  have HB3 := Lib.hid hb3
  clear ho3 hb3
  have HS3 := Lib.hid ((HS.out.below HB2.out).below HB3.out)
  have HSY3 := Lib.hid ((HSY.out.below HB2.out).below HB3.out)
  have HY3 := Lib.hid ((HO2.out.below HB3.out).sg)
  have HBB := Lib.hid (HB.out.trans ((HB2.out.trans (HB3.out.mono HB2.out.size)).mono HB.out.size) : Below w.heap.size w w3)
  cases hsb : suB xs ys
  · have hv : suL xs ys = [] := by unfold suL; rw [hsb]; rfl
    have HV := Lib.hid hv
    rw [hv] at hl2
    simp only [List.length_nil] at hl2
    subst hl2
    clear hv hsb
    go_wp2_with fail
    refine (sameSignal_any _ HY3.out HO3.out.sg (by rw [HV.out]; exact EqS.nil) (by omega)).mono ?_
    rintro e w' ⟨rfl, m1, rfl⟩
    go_wp2_with fail
    refine (alive_any _).mono ?_
    rintro e w' ⟨rfl, m2, rfl⟩
    go_wp2
    go_ret
    exact ⟨rfl, below_drewN' HBB.out _⟩
  · have hv : suL xs ys = suM xs ys := by unfold suL; rw [hsb]; rfl
    obtain ⟨hok, hoky, hlen, hall⟩ := suB_iff.1 hsb
    have e2 := suM_ok hsb
    have hcm := suM_comm hok hoky hlen
    have hsb2 : suB ys xs = true := by rw [suB_iff]; exact ⟨hoky, hok, hlen.symm, by rw [hcm]; exact hall⟩
    have hv2 : suL ys xs = suM xs ys := by unfold suL; rw [hsb2, hcm]; rfl
    have HV := Lib.hid hv
    have HV2 := Lib.hid hv2
    have HK := Lib.hid hok
    have HE := Lib.hid e2
    have HSB := Lib.hid hsb2
    have HL := Lib.hid hl
    clear hv hok e2 hl2 hsb2 hv2 hcm hall hsb hoky
    go_wp2_with fail
    refine (sameSignal_any _ HY3.out HO3.out.sg (by rw [HV.out]; exact EqS.refl_ok HE.out) (by omega)).mono ?_
    rintro e w4 ⟨rfl, m1, hw4⟩
    have HS4 := Lib.hid (by rw [hw4]; exact HS3.out.drewN m1 : Sg w4 A k c xs)
    have HSY4 := Lib.hid (by rw [hw4]; exact HSY3.out.drewN m1 : Sg w4 Ay ky cy ys)
    have HY4 := Lib.hid (by rw [hw4, ← HV.out]; exact HY3.out.drewN m1 : Sg w4 A2 k2 c2 (suM xs ys))
    have HB4 := Lib.hid (by rw [hw4]; exact below_drewN' HBB.out m1 : Below w.heap.size w w4)
    clear hw4
    go_wp2_with fail
    refine (sum_any _ HSY4.out HS4.out (by omega) (by omega)).mono ?_
    rintro e w5 ⟨A5, k5, c5, rfl, hk5, ho5, hb5⟩
    have HO5 := Lib.hid ho5
    have HB5 := Lib.hid hb5
    rw [HSB.out]
    clear ho5 hb5
    go_wp2_with fail
    refine (sameSignal_any _ HO5.out.sg (HY4.out.below HB5.out) (by rw [HV2.out]; exact EqS.refl_ok HE.out) (by omega)).mono ?_
    rintro e w6 ⟨rfl, m2, hw6⟩
    have HS6 := Lib.hid (by rw [hw6]; exact (HS4.out.below HB5.out).drewN m2 : Sg w6 A k c xs)
    have HY6 := Lib.hid (by rw [hw6]; exact (HY4.out.below HB5.out).drewN m2 : Sg w6 A2 k2 c2 (suM xs ys))
    have HB6 := Lib.hid (by rw [hw6]; exact below_drewN' (HB4.out.trans (HB5.out.mono HB4.out.size)) m2 : Below w.heap.size w w6)
    clear hw6
    go_wp2_with fail
    refine (wholeSignal_any 1000 _ HS6.out HN.out (by omega) (by omega) (by omega)).mono ?_
    rintro e w7 ⟨bw, rfl, hbw, m4, hw7⟩
    have HBW := Lib.hid hbw
    have HS7 := Lib.hid (by rw [hw7]; exact HS6.out.drewN m4 : Sg w7 A k c xs)
    have HY7 := Lib.hid (by rw [hw7]; exact HY6.out.drewN m4 : Sg w7 A2 k2 c2 (suM xs ys))
    have HB7 := Lib.hid (by rw [hw7]; exact below_drewN' HB6.out m4 : Below w.heap.size w w7)
    clear hbw hw7
    cases bw
    · go_wp2_with fail
      refine (ok_any _ HY7.out (by omega)).mono ?_
      rintro e w' ⟨rfl, m5, rfl⟩
      rw [HE.out]
      go_wp2
      go_ret
      exact ⟨rfl, below_drewN' HB7.out _⟩
    · have hw := HBW.out (by simp)
      obtain ⟨s1, s2⟩ := whole_none HK.out hw
      have HW := Lib.hid hw
      have HS1 := Lib.hid s1
      have HS2 := Lib.hid s2
      have hv3 : suL xs (xs.map fun p => mlW p (3212836864, 0)) = suM xs (xs.map fun p => mlW p (3212836864, 0)) := by unfold suL; rw [s1]; rfl
      have HV3 := Lib.hid hv3
      clear hw s1 s2 hv3
      go_wp2_with fail
      refine (times_any 3212836864 0 _ HS7.out (by omega) HK.out (by decide +kernel) (fun p hp => (whole_neg (HW.out p hp)).1)).mono ?_
      rintro e w8 ⟨A8, c8, rfl, ho8, hb8⟩
      have HO8 := Lib.hid ho8
      have HB8 := Lib.hid hb8
      clear ho8 hb8
      go_wp2_with fail
      refine (sum_any _ (HS7.out.below HB8.out) HO8.out.sg (by omega) (by omega)).mono ?_
      rintro e w9 ⟨A9, k9, c9, rfl, hk9, ho9, hb9⟩
      rw [HS1.out]
      have HO9 := Lib.hid ho9
      have HB9 := Lib.hid hb9
      have HB9' := Lib.hid (HB7.out.trans ((HB8.out.trans (HB9.out.mono HB8.out.size)).mono HB7.out.size) : Below w.heap.size w w9)
      clear ho9 hb9
      obtain ⟨i0, hi0, hz0, hz1, hz2⟩ := info_parts info_c
      have h16 : k ≤ 16 := by have := (okB_iff.1 HK.out).1; omega
      obtain ⟨w10, hrun, r1, r2⟩ := run_make_full (P := Try.prog) w9 w9.heap.size 23 33 i0 (.complex .f32 0 0) 1 Try.underlying23 hi0 hz0 hz1 .i64 .i64 k (by rw [hz2]; omega) (by unfold maxLen; omega) (Nat.le_refl _)
      obtain ⟨ho10, hb10⟩ := Own.made r1 r2
      have HO10 := Lib.hid ho10
      have HB10 := Lib.hid hb10
      clear r1 r2 ho10 hb10
      go_wp2_with fail
      refine (sameSignal_any _ (HO9.out.below HB10.out).sg HO10.out.sg (by rw [HV3.out, ← HL.out]; exact HS2.out) (by omega)).mono ?_
      rintro e w' ⟨rfl, m11, rfl⟩
      go_wp2
      go_ret
      exact ⟨rfl, below_drewN' (HB9'.out.trans (HB10.out.mono HB9'.out.size)) _⟩
end Go.Proofs.Ytpiokngbldehmaa
