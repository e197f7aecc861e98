/- Signals of whole numbers: the laws' own test. -/
import Derived.Test.YtapncffjfaddgaaWhole
namespace Go.Proofs.Ytapncffjfaddgaa
open Go.RowKit Go.FR Go.FV

theorem SigSm.num {xs : List (Nat × Nat)} (h : SigSm xs) : ∀ p ∈ xs, NumOk p := fun p hp => .inl (h p hp)
theorem SigOk.num {xs : List (Nat × Nat)} (h : SigOk xs) : ∀ p ∈ xs, NumOk p := by
  rcases h with h | ⟨ys, i, q, hy, hq, rfl⟩
  · exact h.num
  · intro p hp
    rcases List.mem_or_eq_of_mem_set hp with h | h
    · exact hy.num p h
    · rw [h]; exact hq

set_option maxHeartbeats 1600000 in
theorem wholeSignal_any {A : Option Addr} {n c : Nat} {xs : List (Nat × Nat)} (most : Int) (w : World) (h : Sg w A n c xs) (hx : ∀ p ∈ xs, NumOk p) (hm : 10 ≤ most) (hm1 : most ≤ 1000) (hn : n ≤ 1000) :
    Calls Try.prog 13 #[.slice A n c, .int .i64 most] w fun e w' => ∃ b, e = .returned (.bool b) ∧ (b = true → ∀ p ∈ xs, WholeP p) ∧ ∃ m, w' = w.drewN m := by
  by_cases h0 : n = 0
  · subst h0
    have : xs = [] := h.nil
    subst this
    clear h hx
    go_enter Try.func13, Try.ntmps13
    go_wp2
    refine wp_loop_rounds 1 ?_
    rw [rounds_succ]
    go_wp2
    go_ret
    exact ⟨true, rfl, fun _ p hp => (by cases hp), 0, rfl⟩
  · obtain ⟨g, off, rfl, hg, hc⟩ := h.at_ (by omega)
    have hl := h.len
    have HC := Lib.hid hc
    have HX := Lib.hid hx
    clear h hc hx
    go_enter Try.func13, Try.ntmps13
    go_wp2
    go_loopw [5] (fun i wr => ∃ k : Nat, k ≤ n ∧ i = .int .i64 k ∧ (∀ j (hj : j < xs.length), j < k → WholeP xs[j]) ∧ ∃ m, wr = w.drewN m) (fun i _ => n - (intOf i).toNat)
    case atStart => exact ⟨0, by omega, rfl, fun j hj h => by omega, 0, rfl⟩
    case round =>
      obtain ⟨k, hk, rfl, hall, m, hw⟩ := hrel
      have HA := Lib.hid hall
      have HW := Lib.hid hw
      by_cases hlt : k < n
      · have hx : k < xs.length := by omega
        have c1 : wr.cell? ⟨g, off + k, none⟩ = some (cx xs[k]) := by rw [hw]; exact HC.out k hx
        have hN := Lib.hid (HX.out _ (List.getElem_mem hx))
        have hnext : WholeP xs[k] → ∀ j (hj : j < xs.length), j < k + 1 → WholeP xs[j] := by
          intro hq j hj h
          rcases (by omega : j < k ∨ j = k) with h' | h'
          · exact hall j hj h'
          · subst h'; exact hq
        have HN := Lib.hid hnext
        clear HC HX hw hall hnext
        generalize xs[k] = p at *
        obtain ⟨p1, p2⟩ := p
        unfold cx at c1
        simp only at c1
        go_wp2_with fail
        refine (whole_any (p1, p2) _ _ hN.out hm hm1).mono ?_
        rintro e w' ⟨b, rfl, hb, m2, rfl⟩
        have HB := Lib.hid hb
        clear hb
        cases b
        · go_wp2
          go_ret
          exact ⟨false, rfl, fun h => (by cases h), m + m2, by rw [HW.out, World.drewN_drewN]⟩
        · go_wp2
          go_roundw
          case rel => exact ⟨k + 1, by omega, by go_num, HN.out (HB.out (by simp)), m + m2, by rw [HW.out, World.drewN_drewN]⟩
          case measure => simp [intOf]; omega
      · clear HC HX hw hall
        go_wp2
        go_ret
        refine ⟨true, rfl, fun _ p hp => ?_, m, HW.out⟩
        obtain ⟨j, hj, rfl⟩ := List.getElem_of_mem hp
        exact HA.out j hj (by omega)
end Go.Proofs.Ytapncffjfaddgaa
