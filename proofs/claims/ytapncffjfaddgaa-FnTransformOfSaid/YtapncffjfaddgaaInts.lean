/- The functions over whole numbers alone: ranges, powers of two, how many products, digits turned, remainders. -/
import Derived.Test.YtapncffjfaddgaaMem
namespace Go.Proofs.Ytapncffjfaddgaa
open Go.RowKit

def inB (n lo hi : Int) : Bool := decide (lo ≤ n ∧ n ≤ hi)
set_option maxHeartbeats 400000 in
theorem l1In_any (n lo hi : Int) (w : World) : Calls Try.prog 36 #[.int .i64 n, .int .i64 lo, .int .i64 hi] w fun e w' => e = .returned (.bool (inB n lo hi)) ∧ w = w' := by
  by_cases h : lo ≤ n
  · by_cases h2 : n ≤ hi
    · go_enter Try.func36, Try.ntmps36
      go_wp2
      go_ret
      exact ⟨ret_bool (by unfold inB; simp [h, h2]), rfl⟩
    · go_enter Try.func36, Try.ntmps36
      go_wp2
      go_ret
      exact ⟨ret_bool (by unfold inB; simp [h2]), rfl⟩
  · go_enter Try.func36, Try.ntmps36
    go_wp2
    go_ret
    exact ⟨ret_bool (by unfold inB; rw [decide_eq_false]; omega), rfl⟩

def powB (p : Int) : Bool := decide (p = 1 ∨ p = 2 ∨ p = 4 ∨ p = 8 ∨ p = 16)
theorem powB_cases {p : Int} (h : powB p = true) : p = 1 ∨ p = 2 ∨ p = 4 ∨ p = 8 ∨ p = 16 := by simpa [powB] using h
set_option maxHeartbeats 400000 in
theorem pow_any (p : Int) (w : World) : Calls Try.prog 49 #[.int .i64 p] w fun e w' => e = .returned (.bool (powB p)) ∧ w = w' := by
  by_cases h1 : p = 1 ∨ p = 2 ∨ p = 4 ∨ p = 8 ∨ p = 16
  · rcases h1 with rfl | rfl | rfl | rfl | rfl
    all_goals
      go_enter Try.func49, Try.ntmps49
      go_wp2
      go_ret
      exact ⟨rfl, rfl⟩
  · have h : powB p = false := by unfold powB; simpa using h1
    have H := Lib.hid h
    have e1 : (p == 1) = false := by simp; omega
    have e2 : (p == 2) = false := by simp; omega
    have e4 : (p == 4) = false := by simp; omega
    have e8 : (p == 8) = false := by simp; omega
    have e16 : (p == 16) = false := by simp; omega
    clear h h1
    go_enter Try.func49, Try.ntmps49
    go_wp2
    go_ret
    exact ⟨ret_bool H.out.symm, rfl⟩

end Go.Proofs.Ytapncffjfaddgaa
