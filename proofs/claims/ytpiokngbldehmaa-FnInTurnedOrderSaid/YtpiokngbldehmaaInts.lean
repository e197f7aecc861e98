/- The functions over whole numbers alone: ranges, powers of two, how many products, digits turned, remainders. -/
import Derived.Test.YtpiokngbldehmaaMem
namespace Go.Proofs.Ytpiokngbldehmaa
open Go.RowKit

def inB (n lo hi : Int) : Bool := decide (lo ≤ n ∧ n ≤ hi)
set_option maxHeartbeats 400000 in
theorem l1In_any (n lo hi : Int) (w : World) : Calls Try.prog 47 #[.int .i64 n, .int .i64 lo, .int .i64 hi] w fun e w' => e = .returned (.bool (inB n lo hi)) ∧ w = w' := by
  by_cases h : lo ≤ n
  · by_cases h2 : n ≤ hi
    · go_enter Try.func47, Try.ntmps47
      go_wp2
      go_ret
      exact ⟨ret_bool (by unfold inB; simp [h, h2]), rfl⟩
    · go_enter Try.func47, Try.ntmps47
      go_wp2
      go_ret
      exact ⟨ret_bool (by unfold inB; simp [h2]), rfl⟩
  · go_enter Try.func47, Try.ntmps47
    go_wp2
    go_ret
    exact ⟨ret_bool (by unfold inB; rw [decide_eq_false]; omega), rfl⟩

def powB (p : Int) : Bool := decide (p = 1 ∨ p = 2 ∨ p = 4 ∨ p = 8 ∨ p = 16)
theorem powB_cases {p : Int} (h : powB p = true) : p = 1 ∨ p = 2 ∨ p = 4 ∨ p = 8 ∨ p = 16 := by simpa [powB] using h
set_option maxHeartbeats 400000 in
theorem pow_any (p : Int) (w : World) : Calls Try.prog 51 #[.int .i64 p] w fun e w' => e = .returned (.bool (powB p)) ∧ w = w' := by
  by_cases h1 : p = 1 ∨ p = 2 ∨ p = 4 ∨ p = 8 ∨ p = 16
  · rcases h1 with rfl | rfl | rfl | rfl | rfl
    all_goals
      go_enter Try.func51, Try.ntmps51
      go_wp2
      go_ret
      exact ⟨rfl, rfl⟩
  · have h : powB p = false := by unfold powB; simpa using h1
    have H := Lib.hid h
    have e1 : (p == 1) = false := by simp; omega
    have e2 : (p == 2) = false := by simp; omega
    have e4 : (p == 4) = false := by simp; omega
    have e8 : (p == 8) = false := by simp; omega
    have e16 : (p == 16) = false := by simp; omega
    clear h h1
    go_enter Try.func51, Try.ntmps51
    go_wp2
    go_ret
    exact ⟨ret_bool H.out.symm, rfl⟩

/-- How many products the fast way makes, and the plain one. -/
def fastN (p : Int) : Int := if p = 1 then 0 else if p = 2 then 1 else if p = 4 then 4 else if p = 8 then 12 else if p = 16 then 32 else -1
def slowN (p : Int) : Int := if p = 1 then 1 else if p = 2 then 4 else if p = 4 then 16 else if p = 8 then 64 else if p = 16 then 256 else -1
theorem fastN_no {p : Int} (h : powB p = false) : fastN p = -1 ∧ slowN p = -1 := by
  unfold powB at h
  simp at h
  unfold fastN slowN
  simp [h]

set_option maxHeartbeats 400000 in
theorem sproducts_no (p : Int) (w : World) (h : powB p = false) : Calls Try.prog 60 #[.int .i64 p] w fun e w' => e = .returned (.tuple #[.int .i64 (-1), .int .i64 (-1)]) ∧ w = w' := by
  have h1 : ¬ (p = 1 ∨ p = 2 ∨ p = 4 ∨ p = 8 ∨ p = 16) := by simpa [powB] using h
  have e1 : (p != 1) = true := by simp; omega
  have e2 : (p != 2) = true := by simp; omega
  have e4 : (p != 4) = true := by simp; omega
  have e8 : (p != 8) = true := by simp; omega
  have e16 : (p != 16) = true := by simp; omega
  clear h h1
  go_enter Try.func60, Try.ntmps60
  go_wp2
  go_ret2
  exact ⟨rfl, rfl⟩
set_option maxHeartbeats 1000000 in
theorem sproducts_1 (w : World) : Calls Try.prog 60 #[.int .i64 1] w fun e w' => e = .returned (.tuple #[.int .i64 (fastN 1), .int .i64 (slowN 1)]) ∧ w = w' := by
  go_enter Try.func60, Try.ntmps60
  go_wp2
  go_loop [4, 5] (fun f s => (f = .int .i64 0 ∧ s = .int .i64 2)) (fun _ s => 64 - (intOf s).toNat)
  case atStart => exact ⟨rfl, rfl⟩
  case round =>
    obtain ⟨rfl, rfl⟩ := hrel
    go_wp2
    go_ret2
    exact ⟨rfl, rfl⟩
set_option maxHeartbeats 1000000 in
theorem sproducts_2 (w : World) : Calls Try.prog 60 #[.int .i64 2] w fun e w' => e = .returned (.tuple #[.int .i64 (fastN 2), .int .i64 (slowN 2)]) ∧ w = w' := by
  go_enter Try.func60, Try.ntmps60
  go_wp2
  go_loop [4, 5] (fun f s => (f = .int .i64 0 ∧ s = .int .i64 2) ∨ (f = .int .i64 1 ∧ s = .int .i64 4)) (fun _ s => 64 - (intOf s).toNat)
  case atStart => left; exact ⟨rfl, rfl⟩
  case round =>
    rcases hrel with ⟨rfl, rfl⟩ | ⟨rfl, rfl⟩
    all_goals first
      | (go_wp2; go_ret2; exact ⟨rfl, rfl⟩)
      | (go_wp2; go_round; (case rel => simp); (case measure => simp [intOf]))
set_option maxHeartbeats 1000000 in
theorem sproducts_4 (w : World) : Calls Try.prog 60 #[.int .i64 4] w fun e w' => e = .returned (.tuple #[.int .i64 (fastN 4), .int .i64 (slowN 4)]) ∧ w = w' := by
  go_enter Try.func60, Try.ntmps60
  go_wp2
  go_loop [4, 5] (fun f s => (f = .int .i64 0 ∧ s = .int .i64 2) ∨ (f = .int .i64 2 ∧ s = .int .i64 4) ∨ (f = .int .i64 4 ∧ s = .int .i64 8)) (fun _ s => 64 - (intOf s).toNat)
  case atStart => left; exact ⟨rfl, rfl⟩
  case round =>
    rcases hrel with ⟨rfl, rfl⟩ | ⟨rfl, rfl⟩ | ⟨rfl, rfl⟩
    all_goals first
      | (go_wp2; go_ret2; exact ⟨rfl, rfl⟩)
      | (go_wp2; go_round; (case rel => simp); (case measure => simp [intOf]))
set_option maxHeartbeats 1000000 in
theorem sproducts_8 (w : World) : Calls Try.prog 60 #[.int .i64 8] w fun e w' => e = .returned (.tuple #[.int .i64 (fastN 8), .int .i64 (slowN 8)]) ∧ w = w' := by
  go_enter Try.func60, Try.ntmps60
  go_wp2
  go_loop [4, 5] (fun f s => (f = .int .i64 0 ∧ s = .int .i64 2) ∨ (f = .int .i64 4 ∧ s = .int .i64 4) ∨ (f = .int .i64 8 ∧ s = .int .i64 8) ∨ (f = .int .i64 12 ∧ s = .int .i64 16)) (fun _ s => 64 - (intOf s).toNat)
  case atStart => left; exact ⟨rfl, rfl⟩
  case round =>
    rcases hrel with ⟨rfl, rfl⟩ | ⟨rfl, rfl⟩ | ⟨rfl, rfl⟩ | ⟨rfl, rfl⟩
    all_goals first
      | (go_wp2; go_ret2; exact ⟨rfl, rfl⟩)
      | (go_wp2; go_round; (case rel => simp); (case measure => simp [intOf]))
set_option maxHeartbeats 1000000 in
theorem sproducts_16 (w : World) : Calls Try.prog 60 #[.int .i64 16] w fun e w' => e = .returned (.tuple #[.int .i64 (fastN 16), .int .i64 (slowN 16)]) ∧ w = w' := by
  go_enter Try.func60, Try.ntmps60
  go_wp2
  go_loop [4, 5] (fun f s => (f = .int .i64 0 ∧ s = .int .i64 2) ∨ (f = .int .i64 8 ∧ s = .int .i64 4) ∨ (f = .int .i64 16 ∧ s = .int .i64 8) ∨ (f = .int .i64 24 ∧ s = .int .i64 16) ∨ (f = .int .i64 32 ∧ s = .int .i64 32)) (fun _ s => 64 - (intOf s).toNat)
  case atStart => left; exact ⟨rfl, rfl⟩
  case round =>
    rcases hrel with ⟨rfl, rfl⟩ | ⟨rfl, rfl⟩ | ⟨rfl, rfl⟩ | ⟨rfl, rfl⟩ | ⟨rfl, rfl⟩
    all_goals first
      | (go_wp2; go_ret2; exact ⟨rfl, rfl⟩)
      | (go_wp2; go_round; (case rel => simp); (case measure => simp [intOf]))
theorem sproducts_any (p : Int) (w : World) : Calls Try.prog 60 #[.int .i64 p] w fun e w' => e = .returned (.tuple #[.int .i64 (fastN p), .int .i64 (slowN p)]) ∧ w = w' := by
  cases h : powB p
  · have := fastN_no h
    rw [this.1, this.2]
    exact sproducts_no p w h
  · have h1 : p = 1 ∨ p = 2 ∨ p = 4 ∨ p = 8 ∨ p = 16 := by simpa [powB] using h
    rcases h1 with rfl | rfl | rfl | rfl | rfl
    · exact sproducts_1 w
    · exact sproducts_2 w
    · exact sproducts_4 w
    · exact sproducts_8 w
    · exact sproducts_16 w
end Go.Proofs.Ytpiokngbldehmaa
