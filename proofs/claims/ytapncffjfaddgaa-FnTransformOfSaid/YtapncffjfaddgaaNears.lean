/- Near signals: the laws' own comparison. -/
import Derived.Test.YtapncffjfaddgaaNear
import Derived.Test.YtapncffjfaddgaaSsig
import Derived.Test.YtapncffjfaddgaaCw
namespace Go.Proofs.Ytapncffjfaddgaa
open Go.RowKit Go.FR Go.FV

theorem bound_v : FV.Fin Ieee.double 4576918229304087675 ∧ (9999 : Rat) / 1000000 ≤ V Ieee.double 4576918229304087675 := by unfold FV.Fin; decide +kernel
theorem nearB_true {x y : Nat} (hx : finB x = true) (hy : finB y = true) (h : Within (V Ieee.single x - V Ieee.single y) (99 / 10000)) : nearB x y 4576918229304087675 = true := by
  obtain ⟨_, r, _⟩ := dif_spec hx hy
  have e := err64 r (b := 1) (within_mono h (by decide +kernel)) (by decide +kernel)
  have hb := bound_v.2
  rw [nearB_val hx hy bound_v.1]
  unfold Within at *
  constructor <;> grind
/-- Two signals are near. -/
structure NearS (xs ys : List (Nat × Nat)) : Prop where
  len : xs.length = ys.length
  near : ∀ i (h : i < xs.length) (h' : i < ys.length), nearF xs[i].1 xs[i].2 ys[i].1 ys[i].2 4576918229304087675 = true

set_option maxHeartbeats 1600000 in
theorem nearSignal_any {A A' : Option Addr} {n c c' : Nat} {xs ys : List (Nat × Nat)} (w : World) (h : Sg w A n c xs) (h' : Sg w A' n c' ys) (he : NearS xs ys) (hn : n ≤ 1000) (hn0 : 0 < n) :
    Calls Try.prog 23 #[.slice A n c, .slice A' n c', .float .f64 4576918229304087675] w fun e w' => e = .returned (.bool true) ∧ ∃ m, w' = w.drewN m := by
  obtain ⟨g, off, rfl, hg, hc⟩ := h.at_ (by omega)
  obtain ⟨g', off', rfl, hg', hc'⟩ := h'.at_ (by omega)
  have hl := h.len
  have hl' := h'.len
  have HC := Lib.hid hc
  have HC' := Lib.hid hc'
  have HE := Lib.hid he
  have HBV := Lib.hid bound_v.1
  have hnn : ((n : Int) == (n : Int)) = true := by simp
  clear h h' hc hc' he
  go_enter Try.func23, Try.ntmps23
  go_wp2
  go_loopw [7] (fun i wr => ∃ k : Nat, k ≤ n ∧ i = .int .i64 k ∧ ∃ m, wr = w.drewN m) (fun i _ => n - (intOf i).toNat)
  case atStart => exact ⟨0, by omega, rfl, 0, rfl⟩
  case round =>
    obtain ⟨k, hk, rfl, m, hw⟩ := hrel
    by_cases hlt : k < n
    · have hx : k < xs.length := by omega
      have hx' : k < ys.length := by omega
      have c1 : wr.cell? ⟨g, off + k, none⟩ = some (cx xs[k]) := by rw [hw]; exact HC.out k hx
      have c2 : wr.cell? ⟨g', off' + k, none⟩ = some (cx ys[k]) := by rw [hw]; exact HC'.out k hx'
      have hE := Lib.hid (HE.out.near k hx hx')
      have HW := Lib.hid hw
      generalize xs[k] = p at *
      generalize ys[k] = q at *
      clear HC HC' HE hw
      obtain ⟨p1, p2⟩ := p
      obtain ⟨q1, q2⟩ := q
      unfold cx at c1 c2
      simp only at c1 c2
      have q1' : ∀ n, Calls Try.prog 42 #[.complex .f32 p1 p2, .complex .f32 q1 q2, .float .f64 4576918229304087675] (wr.drewN n) fun e w' => e = .returned (.bool true) ∧ ∃ m, w' = (wr.drewN n).drewN m := fun n => by
        have := near_any p1 p2 q1 q2 4576918229304087675 (wr.drewN n) HBV.out
        rw [hE.out] at this
        exact this
      have Q1 := Lib.hid q1'
      clear q1'
      go_wp2
      go_quiet ((go_at_call 42; with_reducible (exact Calls.quiet_of (Q1.out _))))
      go_wp2
      go_roundw
      case rel => exact ⟨k + 1, by omega, by go_num, m + nq, by rw [HW.out, World.drewN_drewN]⟩
      case measure => simp [intOf]; omega
    · have HW := Lib.hid hw
      clear HC HC' HE hw
      go_wp2
      go_ret
      exact ⟨rfl, m, HW.out⟩
end Go.Proofs.Ytapncffjfaddgaa
