/- EnergyOf, the program's and the reference's, of any signal in memory. -/
import Derived.Test.YtpiokngbldehmaaOk
import Derived.Test.YtpiokngbldehmaaWide
namespace Go.FV
open Ieee Go.FR

/-- One number's part of the energy. -/
def enS (s : Nat) (p : Nat × Nat) : Nat := ad (ad s (sq p.1)) (sq p.2)
def enF (xs : List (Nat × Nat)) : Nat := xs.foldl enS 0
def EnB (s k : Nat) : Prop := Fin double s ∧ 0 ≤ V double s ∧ V double s ≤ p2 (256 + 4 * (k : Int))
theorem p2_four (n : Int) : 4 * p2 n = p2 (n + 2) := by
  rw [p2_add]
  have : p2 2 = 4 := by decide +kernel
  rw [this]; grind
theorem p2_big {n : Int} (h : 0 ≤ n) : 1 ≤ p2 n := by
  have := p2_mono h
  rw [p2_zero] at this; exact this
theorem enB_zero : EnB 0 0 := by
  have z := zero_fin .f64
  have hv : V double 0 = 0 := z.2
  refine ⟨z.1, by rw [hv]; grind, ?_⟩
  rw [hv]
  exact Rat.le_of_lt (p2_pos _)
theorem enS_spec {s k : Nat} {p : Nat × Nat} (h : EnB s k) (hk : k < 16) (h1 : finB p.1 = true) (h2 : finB p.2 = true) :
    floatBits .add .f64 s (sq p.1) = some (ad s (sq p.1)) ∧ floatBits .add .f64 (ad s (sq p.1)) (sq p.2) = some (enS s p) ∧ EnB (enS s p) (k + 1) := by
  obtain ⟨hf, h0, hb⟩ := h
  obtain ⟨_, f1, _⟩ := sq_spec h1
  obtain ⟨a1, a2⟩ := sq_pos h1
  obtain ⟨_, f2, _⟩ := sq_spec h2
  obtain ⟨b1, b2⟩ := sq_pos h2
  have m1 : p2 256 ≤ p2 (256 + 4 * (k : Int)) := p2_mono (by omega)
  have m2 : p2 256 ≤ p2 (256 + 4 * (k : Int) + 2) := p2_mono (by omega)
  have e1 := p2_four (256 + 4 * (k : Int))
  have e2 := p2_four (256 + 4 * (k : Int) + 2)
  have l1 : p2 (256 + 4 * (k : Int) + 2) ≤ p2 512 := p2_mono (by omega)
  have l2 : p2 (256 + 4 * (k : Int) + 2 + 2) ≤ p2 512 := p2_mono (by omega)
  obtain ⟨c1, r1, c3, c4⟩ := ad_spec (b := p2 (256 + 4 * (k : Int))) hf f1 h0 a1 hb (by grind) (p2_big (by omega)) (by rw [e1]; exact l1)
  rw [e1] at c4
  obtain ⟨d1, r2, d3, d4⟩ := ad_spec (b := p2 (256 + 4 * (k : Int) + 2)) r1.fin f2 c3 b1 c4 (by grind) (p2_big (by omega)) (by rw [e2]; exact l2)
  rw [e2] at d4
  refine ⟨c1, d1, r2.fin, d3, ?_⟩
  have : 256 + 4 * (k : Int) + 2 + 2 = 256 + 4 * ((k + 1 : Nat) : Int) := by omega
  rw [← this]; exact d4
theorem enF_take {xs : List (Nat × Nat)} (k : Nat) (hk : k < xs.length) : enF (xs.take (k + 1)) = enS (enF (xs.take k)) xs[k] := by
  unfold enF
  rw [List.take_succ_eq_append_getElem hk, List.foldl_append]; rfl
end Go.FV
namespace Go.Proofs.Ytpiokngbldehmaa
open Go.RowKit Go.FR Go.FV

/-- What EnergyOf gives. -/
def enV (xs : List (Nat × Nat)) : Nat := if okB xs = true then enF xs else 13830554455654793216

theorem up_eq {x : Nat} (h : finB x = true) : ∀ w : World, (convert 56 38 (.float .f32 x)).run Try.prog w = .ok (.float .f64 (up64 x)) w :=
  fun w => run_convert_float_float w 56 38 .f32 .f64 x (up64 x) (by rw [Try.underlying56]; rfl) Try.underlying38 (up64_val h).1
theorem fm_eqS (w : World) {k : FloatKind} {x y r : Nat} (h : floatBits .mul k x y = some r) : (binOp .mul 38 (.float k x) (.float k y)).run Try.prog w = .ok (.float k r) w :=
  run_float_arith w .mul 38 k x y _ h
theorem fa_eqS (w : World) {k : FloatKind} {x y r : Nat} (h : floatBits .add k x y = some r) : (binOp .add 38 (.float k x) (.float k y)).run Try.prog w = .ok (.float k r) w :=
  run_float_arith w .add 38 k x y _ h

set_option maxHeartbeats 1000000 in
theorem energy_any {A : Option Addr} {n c : Nat} {xs : List (Nat × Nat)} (w : World) (h : Sg w A n c xs) (hm : n ≤ 1048576) :
    Calls Try.prog 21 #[.slice A n c] w fun e w' => e = .returned (.float .f64 (enV xs)) ∧ ∃ m, w' = w.drewN m := by
  have hl := h.len
  have HS := Lib.hid h
  cases hok : okB xs
  · have hv : enV xs = 13830554455654793216 := by unfold enV; rw [hok]; rfl
    have HO := Lib.hid hok
    have HV := Lib.hid hv
    clear h hok hv
    go_enter Try.func21, Try.ntmps21
    go_wp2_with (go_at_call 16; refine (ok_any _ HS.out hm).mono ?_; rintro e w' ⟨rfl, m2, rfl⟩; rw [HO.out])
    go_ret
    exact ⟨by rw [HV.out]; rfl, _, rfl⟩
  have hv : enV xs = enF xs := by unfold enV; rw [hok]; rfl
  obtain ⟨hle, hall⟩ := okB_iff.1 hok
  have HO := Lib.hid hok
  have HV := Lib.hid hv
  clear hok hv
  by_cases h0 : n = 0
  · subst h0
    have : xs = [] := h.nil
    subst this
    clear h hall
    go_enter Try.func21, Try.ntmps21
    go_wp2_with (go_at_call 16; refine (ok_any _ HS.out hm).mono ?_; rintro e w' ⟨rfl, m2, rfl⟩; rw [HO.out])
    refine wp_loop_rounds 1 ?_
    rw [rounds_succ]
    go_wp2
    go_ret
    exact ⟨by rw [HV.out]; rfl, _, rfl⟩
  · obtain ⟨g, off, rfl, hg, hc⟩ := h.at_ (by omega)
    clear h
    go_enter Try.func21, Try.ntmps21
    go_wp2_with (go_at_call 16; refine (ok_any _ HS.out hm).mono ?_; rintro e w' ⟨rfl, m2, rfl⟩; rw [HO.out])
    go_loopw [3, 13] (fun sv i wr => ∃ k : Nat, k ≤ n ∧ i = .int .i64 k ∧ sv = .float .f64 (enF (xs.take k)) ∧ EnB (enF (xs.take k)) k ∧ ∃ m, wr = w.drewN m) (fun _ i _ => n - (intOf i).toNat)
    case atStart => exact ⟨0, by omega, rfl, rfl, enB_zero, m2, rfl⟩
    case round =>
      obtain ⟨k, hk, rfl, rfl, hb, m, hw⟩ := hrel
      by_cases hlt : k < n
      · have hx : k < xs.length := by omega
        have c1 : wr.cell? ⟨g, off + k, none⟩ = some (cx xs[k]) := by rw [hw]; exact hc k hx
        obtain ⟨f1, f2⟩ := hall _ (List.getElem_mem hx)
        obtain ⟨s1, s2, s3⟩ := enS_spec hb (by omega) f1 f2
        rw [← enF_take k hx] at s2 s3
        have HN := Lib.hid s3
        have HW := Lib.hid hw
        have e1 := up_eq f1
        have e2 := up_eq f2
        have e3 := fun w => fm_eqS w (sq_spec f1).1
        have e4 := fun w => fm_eqS w (sq_spec f2).1
        have e5 := fun w => fa_eqS w s1
        have e6 := fun w => fa_eqS w s2
        generalize xs[k] = p at *
        unfold cx at c1
        obtain ⟨p1, p2⟩ := p
        simp only at c1 e1 e2 e3 e4 e5 e6
        generalize sq p1 = q1 at *
        generalize sq p2 = q2 at *
        generalize up64 p1 = u1 at *
        generalize up64 p2 = u2 at *
        generalize ht : enF (xs.take (k + 1)) = t' at *
        have HT := Lib.hid ht
        clear ht
        generalize enF (xs.take k) = t at *
        generalize ad t q1 = t1 at *
        clear hc hall hw s1 s2 s3 f1 f2 hb
        go_wp2
        go_roundw
        case rel => exact ⟨k + 1, by omega, by go_num, by rw [HT.out], by rw [HT.out]; exact HN.out, m, HW.out⟩
        case measure => simp [intOf]; omega
      · have hkn : xs.take k = xs := List.take_of_length_le (by omega)
        have HW := Lib.hid hw
        rw [hkn]
        have HV2 := HV
        clear hw hc hall hb hkn
        go_wp2
        go_ret
        exact ⟨by rw [HV2.out]; rfl, m, HW.out⟩
set_option maxHeartbeats 1000000 in
theorem senergy_any {A : Option Addr} {n c : Nat} {xs : List (Nat × Nat)} (w : World) (h : Sg w A n c xs) (hm : n ≤ 1048576) :
    Calls Try.prog 27 #[.slice A n c] w fun e w' => e = .returned (.float .f64 (enV xs)) ∧ ∃ m, w' = w.drewN m := by
  have hl := h.len
  have HS := Lib.hid h
  cases hok : okB xs
  · have hv : enV xs = 13830554455654793216 := by unfold enV; rw [hok]; rfl
    have HO := Lib.hid hok
    have HV := Lib.hid hv
    clear h hok hv
    go_enter Try.func27, Try.ntmps27
    go_wp2_with (go_at_call 29; refine (sok_any _ HS.out hm).mono ?_; rintro e w' ⟨rfl, m2, rfl⟩; rw [HO.out])
    go_ret
    exact ⟨by rw [HV.out]; rfl, _, rfl⟩
  have hv : enV xs = enF xs := by unfold enV; rw [hok]; rfl
  obtain ⟨hle, hall⟩ := okB_iff.1 hok
  have HO := Lib.hid hok
  have HV := Lib.hid hv
  clear hok hv
  by_cases h0 : n = 0
  · subst h0
    have : xs = [] := h.nil
    subst this
    clear h hall
    go_enter Try.func27, Try.ntmps27
    go_wp2_with (go_at_call 29; refine (sok_any _ HS.out hm).mono ?_; rintro e w' ⟨rfl, m2, rfl⟩; rw [HO.out])
    refine wp_loop_rounds 1 ?_
    rw [rounds_succ]
    go_wp2
    go_ret
    exact ⟨by rw [HV.out]; rfl, _, rfl⟩
  · obtain ⟨g, off, rfl, hg, hc⟩ := h.at_ (by omega)
    clear h
    go_enter Try.func27, Try.ntmps27
    go_wp2_with (go_at_call 29; refine (sok_any _ HS.out hm).mono ?_; rintro e w' ⟨rfl, m2, rfl⟩; rw [HO.out])
    go_loopw [3, 4] (fun sv i wr => ∃ k : Nat, k ≤ n ∧ i = .int .i64 k ∧ sv = .float .f64 (enF (xs.take k)) ∧ EnB (enF (xs.take k)) k ∧ ∃ m, wr = w.drewN m) (fun _ i _ => n - (intOf i).toNat)
    case atStart => exact ⟨0, by omega, rfl, rfl, enB_zero, m2, rfl⟩
    case round =>
      obtain ⟨k, hk, rfl, rfl, hb, m, hw⟩ := hrel
      by_cases hlt : k < n
      · have hx : k < xs.length := by omega
        have c1 : wr.cell? ⟨g, off + k, none⟩ = some (cx xs[k]) := by rw [hw]; exact hc k hx
        obtain ⟨f1, f2⟩ := hall _ (List.getElem_mem hx)
        obtain ⟨s1, s2, s3⟩ := enS_spec hb (by omega) f1 f2
        rw [← enF_take k hx] at s2 s3
        have HN := Lib.hid s3
        have HW := Lib.hid hw
        have e1 := up_eq f1
        have e2 := up_eq f2
        have e3 := fun w => fm_eqS w (sq_spec f1).1
        have e4 := fun w => fm_eqS w (sq_spec f2).1
        have e5 := fun w => fa_eqS w s1
        have e6 := fun w => fa_eqS w s2
        generalize xs[k] = p at *
        unfold cx at c1
        obtain ⟨p1, p2⟩ := p
        simp only at c1 e1 e2 e3 e4 e5 e6
        generalize sq p1 = q1 at *
        generalize sq p2 = q2 at *
        generalize up64 p1 = u1 at *
        generalize up64 p2 = u2 at *
        generalize ht : enF (xs.take (k + 1)) = t' at *
        have HT := Lib.hid ht
        clear ht
        generalize enF (xs.take k) = t at *
        generalize ad t q1 = t1 at *
        clear hc hall hw s1 s2 s3 f1 f2 hb
        go_wp2
        go_roundw
        case rel => exact ⟨k + 1, by omega, by go_num, by rw [HT.out], by rw [HT.out]; exact HN.out, m, HW.out⟩
        case measure => simp [intOf]; omega
      · have hkn : xs.take k = xs := List.take_of_length_le (by omega)
        have HW := Lib.hid hw
        rw [hkn]
        have HV2 := HV
        clear hw hc hall hb hkn
        go_wp2
        go_ret
        exact ⟨by rw [HV2.out]; rfl, m, HW.out⟩
end Go.Proofs.Ytpiokngbldehmaa
