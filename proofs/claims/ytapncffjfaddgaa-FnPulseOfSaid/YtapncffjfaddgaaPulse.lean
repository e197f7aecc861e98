/- PulseOf, the program's and the reference's. -/
import Derived.Test.YtapncffjfaddgaaInts
import Derived.Test.YtapncffjfaddgaaSig
namespace Go.Proofs.Ytapncffjfaddgaa
open Go.RowKit

/-- The signal of n points with 1 at one place. -/
def pulseL (n i : Nat) : List (Nat × Nat) := (List.replicate n (0, 0)).set i (1065353216, 0)

set_option maxHeartbeats 400000 in
theorem pulse_yes (n i : Nat) (w : World) (h1 : 1 ≤ n) (h2 : n ≤ 16) (hi : i < n) :
    Calls Try.prog 27 #[.int .i64 n, .int .i64 i] w fun e w' => ∃ A, e = .returned (.slice A n n) ∧ Own w' w.heap.size A n n (pulseL n i) ∧ Below w.heap.size w w' := by
  obtain ⟨i0, hi0, hz0, hz1, hz2⟩ := info_parts info_c
  go_enter Try.func27, Try.ntmps27
  go_wp2_with (at_make; refine wpList_make_full _ rfl _ _ 23 rfl w.heap.size 26 i0 (.complex .f32 0 0) 1 Try.underlying23 hi0 hz0 hz1 .i64 .i64 _ _ n rfl rfl rfl rfl (by rw [hz2]; omega) (by unfold maxLen; omega) (Nat.le_refl _) ?_; intro w1 hown hgr; obtain ⟨ho, hb⟩ := Own.made hown hgr; have hc1 : w1.cell? ⟨w.heap.size, i, none⟩ = some (.complex .f32 0 0) := (by rw [ho.cell_at i (by simpa using hi)]; simp [cx]); have hf1 := ho.free i)
  go_ret
  exact ⟨_, rfl, ho.set_ i (1065353216, 0), hb.setCell (Nat.le_refl _) _⟩
/-- What PulseOf gives. -/
def pulseF (p a : Int) : List (Nat × Nat) := if 1 ≤ p ∧ p ≤ 16 ∧ 0 ≤ a ∧ a < p then pulseL p.toNat a.toNat else []
theorem pulseL_len (n i : Nat) : (pulseL n i).length = n := by simp [pulseL]

set_option maxHeartbeats 400000 in
theorem pulse_no (p a : Int) (w : World) (h : p < 1 ∨ 16 < p ∨ a < 0 ∨ p ≤ a) :
    Calls Try.prog 27 #[.int .i64 p, .int .i64 a] w fun e w' => e = .returned (.slice none 0 0) ∧ w = w' := by
  by_cases h1 : p < 1
  · go_enter Try.func27, Try.ntmps27
    go_wp2
    go_ret
    exact ⟨rfl, rfl⟩
  · by_cases h2 : 16 < p
    · go_enter Try.func27, Try.ntmps27
      go_wp2
      go_ret
      exact ⟨rfl, rfl⟩
    · by_cases h3 : a < 0
      · go_enter Try.func27, Try.ntmps27
        go_wp2
        go_ret
        exact ⟨rfl, rfl⟩
      · have h4 : p ≤ a := by omega
        clear h
        go_enter Try.func27, Try.ntmps27
        go_wp2
        go_ret
        exact ⟨rfl, rfl⟩
theorem pulse_any (p a : Int) (w : World) :
    Calls Try.prog 27 #[.int .i64 p, .int .i64 a] w fun e w' => ∃ A n c, e = .returned (.slice A n c) ∧ n ≤ 16 ∧ Own w' w.heap.size A n c (pulseF p a) ∧ Below w.heap.size w w' := by
  unfold pulseF
  by_cases h : 1 ≤ p ∧ p ≤ 16 ∧ 0 ≤ a ∧ a < p
  · rw [if_pos h]
    obtain ⟨n, rfl⟩ := Int.eq_ofNat_of_zero_le (by omega : 0 ≤ p)
    obtain ⟨i, rfl⟩ := Int.eq_ofNat_of_zero_le h.2.2.1
    simp only [Int.toNat_natCast]
    exact (pulse_yes n i w (by omega) (by omega) (by omega)).mono fun e w' ⟨A, h1, h2, h3⟩ => ⟨A, n, n, h1, by omega, h2, h3⟩
  · rw [if_neg h]
    refine (pulse_no p a w (by omega)).mono ?_
    rintro e w' ⟨rfl, rfl⟩
    exact ⟨none, 0, 0, rfl, by omega, Own.nil _ _, Below.refl _ _⟩

set_option maxHeartbeats 400000 in
theorem spulse_yes (n i : Nat) (w : World) (h1 : 1 ≤ n) (h2 : n ≤ 16) (hi : i < n) :
    Calls Try.prog 28 #[.int .i64 n, .int .i64 i] w fun e w' => ∃ A, e = .returned (.slice A n n) ∧ Own w' w.heap.size A n n (pulseL n i) ∧ Below w.heap.size w w' := by
  obtain ⟨i0, hi0, hz0, hz1, hz2⟩ := info_parts info_c
  have i1 : inB (n : Int) 1 16 = true := by unfold inB; rw [decide_eq_true]; omega
  have i2 : inB (i : Int) 0 ((n : Int) - 1) = true := by unfold inB; rw [decide_eq_true]; omega
  go_enter Try.func28, Try.ntmps28
  go_wp2_with (first | (go_at_call 36; refine (l1In_any _ _ _ _).mono ?_; rintro e w' ⟨rfl, rfl⟩) | (at_make; refine wpList_make_full _ rfl _ _ 23 rfl w.heap.size 26 i0 (.complex .f32 0 0) 1 Try.underlying23 hi0 hz0 hz1 .i64 .i64 _ _ n rfl rfl rfl rfl (by rw [hz2]; omega) (by unfold maxLen; omega) (Nat.le_refl _) ?_; intro w1 hown hgr; obtain ⟨ho, hb⟩ := Own.made hown hgr; have hc1 : w1.cell? ⟨w.heap.size, i, none⟩ = some (.complex .f32 0 0) := (by rw [ho.cell_at i (by simpa using hi)]; simp [cx]); have hf1 := ho.free i))
  go_ret
  exact ⟨_, rfl, ho.set_ i (1065353216, 0), hb.setCell (Nat.le_refl _) _⟩
set_option maxHeartbeats 400000 in
theorem spulse_no (p a : Int) (w : World) (h : p < 1 ∨ 16 < p ∨ a < 0 ∨ p ≤ a) :
    Calls Try.prog 28 #[.int .i64 p, .int .i64 a] w fun e w' => ∃ A c, e = .returned (.slice A 0 c) ∧ Own w' w.heap.size A 0 c [] ∧ Below w.heap.size w w' := by
  cases i1 : inB p 1 16
  · clear h
    go_enter Try.func28, Try.ntmps28
    go_wp2_with (go_at_call 36; refine (l1In_any _ _ _ _).mono ?_; rintro e w' ⟨rfl, rfl⟩)
    go_ret
    exact ⟨_, _, rfl, Own.of_blk (Blk.new _ _ _) (Nat.le_refl _) rfl (Nat.zero_le _), (Below.refl _ _).alloc (Nat.le_refl _) _⟩
  · have hp : 1 ≤ p ∧ p ≤ 16 := by unfold inB at i1; simpa using i1
    have i2 : inB a 0 (p - 1) = false := by unfold inB; rw [decide_eq_false]; omega
    obtain ⟨hp1, hp2⟩ := hp
    clear h
    go_enter Try.func28, Try.ntmps28
    go_wp2_with (go_at_call 36; refine (l1In_any _ _ _ _).mono ?_; rintro e w' ⟨rfl, rfl⟩)
    go_ret
    exact ⟨_, _, rfl, Own.of_blk (Blk.new _ _ _) (Nat.le_refl _) rfl (Nat.zero_le _), (Below.refl _ _).alloc (Nat.le_refl _) _⟩
theorem spulse_any (p a : Int) (w : World) :
    Calls Try.prog 28 #[.int .i64 p, .int .i64 a] w fun e w' => ∃ A n c, e = .returned (.slice A n c) ∧ n ≤ 16 ∧ Own w' w.heap.size A n c (pulseF p a) ∧ Below w.heap.size w w' := by
  unfold pulseF
  by_cases h : 1 ≤ p ∧ p ≤ 16 ∧ 0 ≤ a ∧ a < p
  · rw [if_pos h]
    obtain ⟨n, rfl⟩ := Int.eq_ofNat_of_zero_le (by omega : 0 ≤ p)
    obtain ⟨i, rfl⟩ := Int.eq_ofNat_of_zero_le h.2.2.1
    simp only [Int.toNat_natCast]
    exact (spulse_yes n i w (by omega) (by omega) (by omega)).mono fun e w' ⟨A, h1, h2, h3⟩ => ⟨A, n, n, h1, by omega, h2, h3⟩
  · rw [if_neg h]
    exact (spulse_no p a w (by omega)).mono fun e w' ⟨A, c, h1, h2, h3⟩ => ⟨A, 0, c, h1, by omega, h2, h3⟩
end Go.Proofs.Ytapncffjfaddgaa
