/- The exact laws' own helpers over signals: equal, marked, still marked. -/
import Derived.Test.YtfnoojdhnhecbaaSig
import Derived.Test.YtfnoojdhnhecbaaSame
import Derived.Test.YtfnoojdhnhecbaaMilli
import Derived.Test.YtfnoojdhnhecbaaPulse
namespace Go.Proofs.Ytfnoojdhnhecbaa
open Go.RowKit Go.FR Go.FV

def finP (p : Nat × Nat) : Prop := FV.Fin Ieee.single p.1 ∧ FV.Fin Ieee.single p.2

set_option maxHeartbeats 1000000 in
theorem eqS_any {A A' : Option Addr} {n c c' : Nat} {xs : List (Nat × Nat)} (w : World) (h : Sg w A n c xs) (h' : Sg w A' n c' xs) (hf : ∀ p ∈ xs, finP p) (hn : n ≤ 16) :
    Calls Try.prog 20 #[.slice A n c, .slice A' n c'] w fun e w' => e = .returned (.bool true) ∧ ∃ m, w' = w.drewN m := by
  by_cases h0 : n = 0
  · subst h0
    go_enter Try.func20, Try.ntmps20
    go_wp2
    refine wp_loop_rounds 1 ?_
    rw [rounds_succ]
    go_wp2
    go_ret
    exact ⟨rfl, 0, rfl⟩
  · obtain ⟨g, off, rfl, hg, hc⟩ := h.at_ (by omega)
    obtain ⟨g', off', rfl, hg', hc'⟩ := h'.at_ (by omega)
    have hl := h.len
    clear h h'
    go_enter Try.func20, Try.ntmps20
    go_wp2
    go_loopw [5] (fun i wr => ∃ k : Nat, k ≤ n ∧ i = .int .i64 k ∧ ∃ m, wr = w.drewN m) (fun i _ => n - (intOf i).toNat)
    case atStart => exact ⟨0, by omega, rfl, 0, rfl⟩
    case round =>
      obtain ⟨k, hk, rfl, m, hw⟩ := hrel
      by_cases hlt : k < n
      · have hx : k < xs.length := by omega
        have c1 : wr.cell? ⟨g, off + k, none⟩ = some (cx xs[k]) := by rw [hw]; exact hc k hx
        have c2 : wr.cell? ⟨g', off' + k, none⟩ = some (cx xs[k]) := by rw [hw]; exact hc' k hx
        have HW := Lib.hid hw
        obtain ⟨f1, f2⟩ := hf xs[k] (List.getElem_mem hx)
        obtain ⟨x, y, hx', hy', _, _, hxy⟩ := up_pair Try.prog 26 29 (by rw [Try.underlying26]; rfl) Try.underlying29 _ _ f1 f2
        generalize xs[k] = p at *
        unfold cx at c1 c2
        clear hc hc' hf hl hw
        go_wp2
        go_quiet ((go_at_call 13; exact Calls.quiet_of (sameComplex_self _ _ _ (by assumption) (by assumption))))
        go_wp2
        go_roundw
        case rel => exact ⟨k + 1, by omega, by go_num, m + nq, by rw [HW.out, World.drewN_drewN]⟩
        case measure => simp [intOf]; omega
      · have HW := Lib.hid hw
        clear hw hc hc' hf hl
        go_wp2
        go_ret
        exact ⟨rfl, m, HW.out⟩
/-- The word that marks a place by a number. -/
def markW (k : Int) : Nat := (floatToFloatBits .f64 (floatOfInt .f64 k) .f32).getD 0
theorem mark_all : ∀ k : Nat, k < 64 → (floatToFloatBits .f64 (floatOfInt .f64 k) .f32).isSome = true ∧ FV.Fin Ieee.single (markW k) := by
  unfold FV.Fin; decide +kernel
theorem mark_one : floatToFloatBits .f64 4607182418800017408 .f32 = some 1065353216 ∧ FV.Fin Ieee.single 1065353216 := by
  unfold FV.Fin; decide +kernel
theorem mark_conv (k : Nat) (hk : k < 64) : ∀ w : World, (convert 29 26 (.complex .f64 (floatOfInt .f64 k) 4607182418800017408)).run Try.prog w = .ok (.complex .f32 (markW k) 1065353216) w := by
  intro w
  obtain ⟨v, hv⟩ := Option.isSome_iff_exists.1 (mark_all k hk).1
  have e : markW k = v := by unfold markW; rw [hv]; rfl
  exact run_convert_complex w 29 26 .f64 .f32 _ _ (markW k) 1065353216 (by rw [Try.underlying29]; rfl) Try.underlying26 (by unfold cConvBits; rw [hv, mark_one.1, e]; rfl)

theorem only_trans_set {g : Nat} {w wr : World} (h : Only g w wr) (i : Nat) (u : Value) : Only g w (wr.setCell ⟨g, i, none⟩ u) := h.trans (Only.setCell wr i u)

set_option maxHeartbeats 1000000 in
theorem mark_any {B g n c : Nat} {xs : List (Nat × Nat)} (k0 : Nat) (w : World) (h : Own w B (some ⟨g, 0, none⟩) n c xs) (hn : n ≤ 16) (hk0 : k0 ≤ 10) :
    Calls Try.prog 21 #[.slice (some ⟨g, 0, none⟩) n c, .int .i64 k0] w fun e w' => e = .returned (.int .i64 ((k0 + n : Nat) : Int)) ∧
      (∃ ys, Own w' B (some ⟨g, 0, none⟩) n c ys ∧ ∀ i, i < n → ys[i]? = some (markW (k0 + i : Nat), 1065353216)) ∧ Only g w w' := by
  go_enter Try.func21, Try.ntmps21
  go_wp2
  go_loopw [1, 5] (fun q i wr => ∃ k : Nat, k ≤ n ∧ i = .int .i64 k ∧ q = .int .i64 ((k0 + k : Nat) : Int) ∧ Only g w wr ∧ ∃ ys, Own wr B (some ⟨g, 0, none⟩) n c ys ∧ ∀ i, i < k → ys[i]? = some (markW (k0 + i : Nat), 1065353216)) (fun _ i _ => n - (intOf i).toNat)
  case atStart => exact ⟨0, by omega, rfl, rfl, Only.refl _ _, xs, h, fun i hi => by omega⟩
  case round =>
    obtain ⟨k, hk, rfl, rfl, hw, ys, ho, hys⟩ := hrel
    by_cases hlt : k < n
    · have hl := ho.len
      have hc := ho.cell_at k (by omega)
      have hfr := ho.free k
      have hcv := mark_conv (k0 + k) (by omega)
      have hys' : ∀ i, i < k + 1 → (ys.set k (markW (k0 + k : Nat), 1065353216))[i]? = some (markW (k0 + i : Nat), 1065353216) := by
        intro i hi
        by_cases e : i = k
        · subst e; rw [List.getElem?_set_self (by omega)]
        · rw [List.getElem?_set_ne (by omega)]; exact hys i (by omega)
      have ho' := ho.set_ k (markW (k0 + k : Nat), 1065353216)
      have hw' := only_trans_set hw k (cx (markW (k0 + k : Nat), 1065353216))
      have HO := Lib.hid ho'
      have HW := Lib.hid hw'
      have HY := Lib.hid hys'
      generalize ys[k] = p at hc
      clear hys ho hw ho' hw' hys' hl
      generalize markW ((k0 + k : Nat) : Int) = mk at *
      unfold cx at hc
      have hcv2 : ∀ w : World, (convert 29 26 (.complex .f64 (floatOfInt .f64 ((k0 : Int) + k)) 4607182418800017408)).run Try.prog w = .ok (.complex .f32 mk 1065353216) w := by
        intro w; have := hcv w; rw [Int.natCast_add] at this; exact this
      clear hcv
      go_wp2
      go_roundw
      case rel => exact ⟨k + 1, by omega, by go_num, by go_num, HW.out, _, HO.out, HY.out⟩
      case measure => simp [intOf]; omega
    · have hkn : k = n := by omega
      subst hkn
      have HO := Lib.hid ho
      have HY := Lib.hid hys
      have HW := Lib.hid hw
      clear ho hys hw h
      go_wp2
      go_ret
      exact ⟨rfl, ⟨ys, HO.out, HY.out⟩, HW.out⟩
set_option maxHeartbeats 1000000 in
theorem held_any {B g n c : Nat} {ys : List (Nat × Nat)} (k0 : Nat) (w : World) (h : Own w B (some ⟨g, 0, none⟩) n c ys) (hy : ∀ i, i < n → ys[i]? = some (markW (k0 + i : Nat), 1065353216)) (hn : n ≤ 16) (hk0 : k0 ≤ 10) :
    Calls Try.prog 22 #[.slice (some ⟨g, 0, none⟩) n c, .int .i64 k0] w fun e w' => e = .returned (.int .i64 ((k0 + n : Nat) : Int)) ∧ w = w' := by
  have hl := h.len
  go_enter Try.func22, Try.ntmps22
  go_wp2
  go_loop [1, 5] (fun q i => ∃ k : Nat, k ≤ n ∧ i = .int .i64 k ∧ q = .int .i64 ((k0 + k : Nat) : Int)) (fun _ i => n - (intOf i).toNat)
  case atStart => exact ⟨0, by omega, rfl, rfl⟩
  case round =>
    obtain ⟨k, hk, rfl, rfl⟩ := hrel
    by_cases hlt : k < n
    · have hx : k < ys.length := by omega
      have hc := h.cell_at k hx
      have hyk := hy k hlt
      rw [List.getElem?_eq_getElem hx] at hyk
      injection hyk with hyk
      rw [hyk] at hc
      have hcv := mark_conv (k0 + k) (by omega)
      have hcv2 : ∀ w : World, (convert 29 26 (.complex .f64 (floatOfInt .f64 ((k0 : Int) + k)) 4607182418800017408)).run Try.prog w = .ok (.complex .f32 (markW (k0 + k : Nat)) 1065353216) w := by
        intro w; have := hcv w; rw [Int.natCast_add] at this; exact this
      have e1 : (FloatKind.f32.format.order (markW (k0 + k : Nat)) (markW (k0 + k : Nat)) == some .eq) = true := by rw [order_self (k := .f32) (mark_all (k0 + k) (by omega)).2]; rfl
      have e2 : (FloatKind.f32.format.order 1065353216 1065353216 == some .eq) = true := by rw [order_self (k := .f32) mark_one.2]; rfl
      clear hyk hcv hy h hl
      generalize markW ((k0 + k : Nat) : Int) = mk at *
      unfold cx at hc
      go_wp2
      go_round
      case rel => exact ⟨k + 1, by omega, by go_num, by go_num⟩
      case measure => simp [intOf]; omega
    · have hkn : k = n := by omega
      subst hkn
      clear h hy hl
      go_wp2
      go_ret
      exact ⟨rfl, rfl⟩

theorem pulseL_fin (n i : Nat) : ∀ p ∈ pulseL n i, finP p := by
  intro p hp
  unfold pulseL at hp
  have h0 : finP (0, 0) := ⟨(zero_fin .f32).1, (zero_fin .f32).1⟩
  have h1 : finP (1065353216, 0) := ⟨mark_one.2, (zero_fin .f32).1⟩
  rcases List.mem_or_eq_of_mem_set hp with h | h
  · rw [List.eq_of_mem_replicate h]; exact h0
  · rw [h]; exact h1

set_option maxHeartbeats 1000000 in
theorem exactPulse_yes (n i : Nat) (w : World) (h1 : 1 ≤ n) (h2 : n ≤ 16) (hi : i < n) :
    Calls Try.prog 8 #[.int .i64 n, .int .i64 i] w fun e w' => e = .returned (.bool true) ∧ Below w.heap.size w w' := by
  have hfin := pulseL_fin n i
  generalize hxs : pulseL n i = xs at hfin
  have HX := Lib.hid hxs
  have HF := Lib.hid hfin
  clear hxs hfin
  go_enter Try.func8, Try.ntmps8
  go_wp2_with fail
  refine (spulse_yes n i _ h1 h2 hi).mono ?_
  rintro e w1 ⟨A0, rfl, ho0, hb1⟩
  rw [HX.out] at ho0
  go_wp2_with fail
  refine (pulse_yes n i _ h1 h2 hi).mono ?_
  rintro e w2 ⟨A1, rfl, ho1, hb2⟩
  rw [HX.out] at ho1
  obtain ⟨g, rfl⟩ : ∃ g, A1 = some ⟨g, 0, none⟩ := by
    rcases ho1.form with ⟨_, h, _⟩ | ⟨g, h, _⟩
    · omega
    · exact ⟨g, h⟩
  have hg := ho1.from_
  go_wp2_with fail
  refine (eqS_any w2 ho1.sg (ho0.below hb2).sg HF.out h2).mono ?_
  rintro e w3 ⟨rfl, m1, hw3⟩
  have ho1' : Own w3 w1.heap.size (some ⟨g, 0, none⟩) n n xs := by rw [hw3]; exact ho1.drewN m1
  have hb3 : Below w1.heap.size w1 w3 := by rw [hw3]; exact below_drewN' hb2 m1
  clear hw3 ho1
  go_wp2_with fail
  refine (mark_any 1 w3 ho1' h2 (by omega)).mono ?_
  rintro e w4 ⟨rfl, ⟨ys, hoy, hys⟩, hon⟩
  have hb4 : Below w1.heap.size w1 w4 := Only.below hb3 hon hg
  have HY := Lib.hid hys
  clear hys ho1' hon hb3
  go_wp2_with fail
  refine (held_any 1 w4 hoy HY.out h2 (by omega)).mono ?_
  rintro e w' ⟨rfl, rfl⟩
  go_wp2_with fail
  refine (pulse_yes n i _ h1 h2 hi).mono ?_
  rintro e w5 ⟨A2, rfl, ho2, hb5⟩
  rw [HX.out] at ho2
  have hb5' : Below w1.heap.size w1 w5 := hb4.trans (hb5.mono hb4.size)
  have hoy5 := hoy.below hb5
  go_wp2_with fail
  refine (eqS_any w5 ho2.sg (ho0.below hb5').sg HF.out h2).mono ?_
  rintro e w6 ⟨rfl, m2, hw6⟩
  have hoy6 : Own w6 w1.heap.size (some ⟨g, 0, none⟩) n n ys := by rw [hw6]; exact hoy5.drewN m2
  have hb6 : Below w1.heap.size w1 w6 := by rw [hw6]; exact below_drewN' hb5' m2
  clear hw6 hoy5 hb5'
  go_wp2_with fail
  refine (held_any 1 w6 hoy6 HY.out h2 (by omega)).mono ?_
  rintro e w' ⟨rfl, rfl⟩
  go_wp2_with fail
  go_ret
  exact ⟨rfl, hb1.trans (hb6.mono hb1.size)⟩
set_option maxHeartbeats 400000 in
theorem mark_empty (A : Option Addr) (c : Nat) (k0 : Int) (w : World) :
    Calls Try.prog 21 #[.slice A 0 c, .int .i64 k0] w fun e w' => e = .returned (.int .i64 k0) ∧ w = w' := by
  go_enter Try.func21, Try.ntmps21
  go_wp2
  refine wp_loop_rounds 1 ?_
  rw [rounds_succ]
  go_wp2
  go_ret
  exact ⟨rfl, rfl⟩
set_option maxHeartbeats 400000 in
theorem held_empty (A : Option Addr) (c : Nat) (k0 : Int) (w : World) :
    Calls Try.prog 22 #[.slice A 0 c, .int .i64 k0] w fun e w' => e = .returned (.int .i64 k0) ∧ w = w' := by
  go_enter Try.func22, Try.ntmps22
  go_wp2
  refine wp_loop_rounds 1 ?_
  rw [rounds_succ]
  go_wp2
  go_ret
  exact ⟨rfl, rfl⟩
set_option maxHeartbeats 1000000 in
theorem exactPulse_no (p a : Int) (w : World) (h : p < 1 ∨ 16 < p ∨ a < 0 ∨ p ≤ a) :
    Calls Try.prog 8 #[.int .i64 p, .int .i64 a] w fun e w' => e = .returned (.bool true) ∧ Below w.heap.size w w' := by
  have H := Lib.hid h
  clear h
  go_enter Try.func8, Try.ntmps8
  go_wp2_with fail
  refine (spulse_no p a _ H.out).mono ?_
  rintro e w1 ⟨A0, c0, rfl, ho0, hb1⟩
  go_wp2_with (first
    | (go_at_call 19; refine (pulse_no p a _ H.out).mono ?_; rintro e w' ⟨rfl, rfl⟩)
    | (go_at_call 20; refine (eqS_any (xs := []) _ (Sg.empty _ _ _) (Sg.empty _ _ _) (fun p hp => by cases hp) (Nat.zero_le _)).mono ?_; rintro e w' ⟨rfl, m, rfl⟩)
    | (go_at_call 21; refine (mark_empty _ _ _ _).mono ?_; rintro e w' ⟨rfl, rfl⟩)
    | (go_at_call 22; refine (held_empty _ _ _ _).mono ?_; rintro e w' ⟨rfl, rfl⟩))
  go_ret
  exact ⟨rfl, below_drewN' hb1 _⟩
theorem law_FnExactPulseOf (a0 : Int) (a1 : Int) (_w0 : (Lit.int .i64 a0).wf = true) (_w1 : (Lit.int .i64 a1).wf = true) (w : World) :
    Calls Try.prog 8 #[.int .i64 a0, .int .i64 a1] w fun e w' => e = .returned (.bool true) ∧ Below w.heap.size w w' := by
  by_cases h : 1 ≤ a0 ∧ a0 ≤ 16 ∧ 0 ≤ a1 ∧ a1 < a0
  · obtain ⟨n, rfl⟩ := Int.eq_ofNat_of_zero_le (by omega : 0 ≤ a0)
    obtain ⟨i, rfl⟩ := Int.eq_ofNat_of_zero_le h.2.2.1
    exact exactPulse_yes n i w (by omega) (by omega) (by omega)
  · exact exactPulse_no a0 a1 w (by omega)
end Go.Proofs.Ytfnoojdhnhecbaa
