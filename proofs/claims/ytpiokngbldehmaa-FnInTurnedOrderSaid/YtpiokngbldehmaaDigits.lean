/- DigitsTurned, the program's and the reference's: the place with its digits turned round. -/
import Derived.Test.YtpiokngbldehmaaInts
namespace Go.Proofs.Ytpiokngbldehmaa
open Go.RowKit

/-- The place a of p places with its digits turned round. -/
def digT (p a : Int) : Int :=
  if p = 2 then a % 2 else if p = 4 then 2 * (a % 2) + a / 2 % 2
  else if p = 8 then 4 * (a % 2) + 2 * (a / 2 % 2) + a / 4 % 2
  else if p = 16 then 8 * (a % 2) + 4 * (a / 2 % 2) + 2 * (a / 4 % 2) + a / 8 % 2 else 0
/-- What both functions give. -/
def digF (p a : Int) : Int := if powB p = true ∧ 0 ≤ a ∧ a < p then digT p a else -1

set_option maxHeartbeats 1000000 in
theorem digits_1 (a : Int) (w : World) (h0 : 0 ≤ a) (h1 : a < 1) : Calls Try.prog 52 #[.int .i64 1, .int .i64 a] w fun e w' => e = .returned (.int .i64 (digT 1 a)) ∧ w = w' := by
  go_enter Try.func52, Try.ntmps52
  go_wp2_with (go_at_call 51; refine (pow_any _ _).mono ?_; rintro e w' ⟨rfl, rfl⟩)
  go_loop [1, 5, 6] (fun c t s => (t = .int .i64 (0) ∧ c = .int .i64 (a) ∧ s = .int .i64 1)) (fun _ _ s => (intOf s).toNat)
  case atStart => exact ⟨rfl, rfl, rfl⟩
  case round =>
    obtain ⟨rfl, rfl, rfl⟩ := hrel
    all_goals go_wp2
    all_goals first
      | (go_ret; exact ⟨ret_int (by simp [digT]; done), rfl⟩)
      | (go_ret; exact ⟨ret_int (by simp [digT]; omega), rfl⟩)
      | (go_round; (case rel => repeat (first | (refine ⟨?_, ?_, ?_⟩ <;> go_num; done) | (refine Or.inl ⟨?_, ?_, ?_⟩ <;> go_num; done) | refine Or.inr ?_)); (case measure => simp [intOf]))
set_option maxHeartbeats 1000000 in
theorem digits_2 (a : Int) (w : World) (h0 : 0 ≤ a) (h1 : a < 2) : Calls Try.prog 52 #[.int .i64 2, .int .i64 a] w fun e w' => e = .returned (.int .i64 (digT 2 a)) ∧ w = w' := by
  go_enter Try.func52, Try.ntmps52
  go_wp2_with (go_at_call 51; refine (pow_any _ _).mono ?_; rintro e w' ⟨rfl, rfl⟩)
  go_loop [1, 5, 6] (fun c t s => (t = .int .i64 (0) ∧ c = .int .i64 (a) ∧ s = .int .i64 2) ∨ (t = .int .i64 ((a % 2)) ∧ c = .int .i64 (a / 2) ∧ s = .int .i64 1)) (fun _ _ s => (intOf s).toNat)
  case atStart => exact .inl ⟨rfl, rfl, rfl⟩
  case round =>
    rcases hrel with ⟨rfl, rfl, rfl⟩ | ⟨rfl, rfl, rfl⟩
    all_goals go_wp2
    all_goals first
      | (go_ret; exact ⟨ret_int (by simp [digT]; done), rfl⟩)
      | (go_ret; exact ⟨ret_int (by simp [digT]; omega), rfl⟩)
      | (go_round; (case rel => repeat (first | (refine ⟨?_, ?_, ?_⟩ <;> go_num; done) | (refine Or.inl ⟨?_, ?_, ?_⟩ <;> go_num; done) | refine Or.inr ?_)); (case measure => simp [intOf]))
set_option maxHeartbeats 1000000 in
theorem digits_4 (a : Int) (w : World) (h0 : 0 ≤ a) (h1 : a < 4) : Calls Try.prog 52 #[.int .i64 4, .int .i64 a] w fun e w' => e = .returned (.int .i64 (digT 4 a)) ∧ w = w' := by
  go_enter Try.func52, Try.ntmps52
  go_wp2_with (go_at_call 51; refine (pow_any _ _).mono ?_; rintro e w' ⟨rfl, rfl⟩)
  go_loop [1, 5, 6] (fun c t s => (t = .int .i64 (0) ∧ c = .int .i64 (a) ∧ s = .int .i64 4) ∨ (t = .int .i64 ((a % 2)) ∧ c = .int .i64 (a / 2) ∧ s = .int .i64 2) ∨ (t = .int .i64 (2 * (a % 2) + (a / 2 % 2)) ∧ c = .int .i64 (a / 4) ∧ s = .int .i64 1)) (fun _ _ s => (intOf s).toNat)
  case atStart => exact .inl ⟨rfl, rfl, rfl⟩
  case round =>
    rcases hrel with ⟨rfl, rfl, rfl⟩ | ⟨rfl, rfl, rfl⟩ | ⟨rfl, rfl, rfl⟩
    all_goals go_wp2
    all_goals first
      | (go_ret; exact ⟨ret_int (by simp [digT]; done), rfl⟩)
      | (go_ret; exact ⟨ret_int (by simp [digT]; omega), rfl⟩)
      | (go_round; (case rel => repeat (first | (refine ⟨?_, ?_, ?_⟩ <;> go_num; done) | (refine Or.inl ⟨?_, ?_, ?_⟩ <;> go_num; done) | refine Or.inr ?_)); (case measure => simp [intOf]))
set_option maxHeartbeats 1000000 in
theorem digits_8 (a : Int) (w : World) (h0 : 0 ≤ a) (h1 : a < 8) : Calls Try.prog 52 #[.int .i64 8, .int .i64 a] w fun e w' => e = .returned (.int .i64 (digT 8 a)) ∧ w = w' := by
  go_enter Try.func52, Try.ntmps52
  go_wp2_with (go_at_call 51; refine (pow_any _ _).mono ?_; rintro e w' ⟨rfl, rfl⟩)
  go_loop [1, 5, 6] (fun c t s => (t = .int .i64 (0) ∧ c = .int .i64 (a) ∧ s = .int .i64 8) ∨ (t = .int .i64 ((a % 2)) ∧ c = .int .i64 (a / 2) ∧ s = .int .i64 4) ∨ (t = .int .i64 (2 * (a % 2) + (a / 2 % 2)) ∧ c = .int .i64 (a / 4) ∧ s = .int .i64 2) ∨ (t = .int .i64 (4 * (a % 2) + 2 * (a / 2 % 2) + (a / 4 % 2)) ∧ c = .int .i64 (a / 8) ∧ s = .int .i64 1)) (fun _ _ s => (intOf s).toNat)
  case atStart => exact .inl ⟨rfl, rfl, rfl⟩
  case round =>
    rcases hrel with ⟨rfl, rfl, rfl⟩ | ⟨rfl, rfl, rfl⟩ | ⟨rfl, rfl, rfl⟩ | ⟨rfl, rfl, rfl⟩
    all_goals go_wp2
    all_goals first
      | (go_ret; exact ⟨ret_int (by simp [digT]; done), rfl⟩)
      | (go_ret; exact ⟨ret_int (by simp [digT]; omega), rfl⟩)
      | (go_round; (case rel => repeat (first | (refine ⟨?_, ?_, ?_⟩ <;> go_num; done) | (refine Or.inl ⟨?_, ?_, ?_⟩ <;> go_num; done) | refine Or.inr ?_)); (case measure => simp [intOf]))
set_option maxHeartbeats 1000000 in
theorem digits_16 (a : Int) (w : World) (h0 : 0 ≤ a) (h1 : a < 16) : Calls Try.prog 52 #[.int .i64 16, .int .i64 a] w fun e w' => e = .returned (.int .i64 (digT 16 a)) ∧ w = w' := by
  go_enter Try.func52, Try.ntmps52
  go_wp2_with (go_at_call 51; refine (pow_any _ _).mono ?_; rintro e w' ⟨rfl, rfl⟩)
  go_loop [1, 5, 6] (fun c t s => (t = .int .i64 (0) ∧ c = .int .i64 (a) ∧ s = .int .i64 16) ∨ (t = .int .i64 ((a % 2)) ∧ c = .int .i64 (a / 2) ∧ s = .int .i64 8) ∨ (t = .int .i64 (2 * (a % 2) + (a / 2 % 2)) ∧ c = .int .i64 (a / 4) ∧ s = .int .i64 4) ∨ (t = .int .i64 (4 * (a % 2) + 2 * (a / 2 % 2) + (a / 4 % 2)) ∧ c = .int .i64 (a / 8) ∧ s = .int .i64 2) ∨ (t = .int .i64 (8 * (a % 2) + 4 * (a / 2 % 2) + 2 * (a / 4 % 2) + (a / 8 % 2)) ∧ c = .int .i64 (a / 16) ∧ s = .int .i64 1)) (fun _ _ s => (intOf s).toNat)
  case atStart => exact .inl ⟨rfl, rfl, rfl⟩
  case round =>
    rcases hrel with ⟨rfl, rfl, rfl⟩ | ⟨rfl, rfl, rfl⟩ | ⟨rfl, rfl, rfl⟩ | ⟨rfl, rfl, rfl⟩ | ⟨rfl, rfl, rfl⟩
    all_goals go_wp2
    all_goals first
      | (go_ret; exact ⟨ret_int (by simp [digT]; done), rfl⟩)
      | (go_ret; exact ⟨ret_int (by simp [digT]; omega), rfl⟩)
      | (go_round; (case rel => repeat (first | (refine ⟨?_, ?_, ?_⟩ <;> go_num; done) | (refine Or.inl ⟨?_, ?_, ?_⟩ <;> go_num; done) | refine Or.inr ?_)); (case measure => simp [intOf]))

set_option maxHeartbeats 1000000 in
theorem digits_no (p a : Int) (w : World) (h : powB p = false ∨ a < 0 ∨ p ≤ a) : Calls Try.prog 52 #[.int .i64 p, .int .i64 a] w fun e w' => e = .returned (.int .i64 (-1)) ∧ w = w' := by
  cases hp : powB p
  · go_enter Try.func52, Try.ntmps52
    go_wp2_with (go_at_call 51; refine (pow_any _ _).mono ?_; rintro e w' ⟨rfl, rfl⟩)
    go_ret
    exact ⟨rfl, rfl⟩
  · rw [hp] at h
    by_cases ha : a < 0
    · go_enter Try.func52, Try.ntmps52
      go_wp2_with (go_at_call 51; refine (pow_any _ _).mono ?_; rintro e w' ⟨rfl, rfl⟩)
      go_ret
      exact ⟨rfl, rfl⟩
    · have hb : p ≤ a := by
        rcases h with h | h | h
        · cases h
        · omega
        · exact h
      clear h
      go_enter Try.func52, Try.ntmps52
      go_wp2_with (go_at_call 51; refine (pow_any _ _).mono ?_; rintro e w' ⟨rfl, rfl⟩)
      go_ret
      exact ⟨rfl, rfl⟩
theorem digits_any (p a : Int) (w : World) : Calls Try.prog 52 #[.int .i64 p, .int .i64 a] w fun e w' => e = .returned (.int .i64 (digF p a)) ∧ w = w' := by
  by_cases h : powB p = true ∧ 0 ≤ a ∧ a < p
  · have e : digF p a = digT p a := by unfold digF; rw [if_pos h]
    rw [e]
    obtain ⟨hp, h0, h1⟩ := h
    rcases powB_cases hp with rfl | rfl | rfl | rfl | rfl
    · exact digits_1 a w h0 h1
    · exact digits_2 a w h0 h1
    · exact digits_4 a w h0 h1
    · exact digits_8 a w h0 h1
    · exact digits_16 a w h0 h1
  · have e : digF p a = -1 := by unfold digF; rw [if_neg h]
    rw [e]
    refine digits_no p a w ?_
    cases hp : powB p
    · exact .inl rfl
    · rw [hp] at h
      by_cases h0 : a < 0
      · exact .inr (.inl h0)
      · exact .inr (.inr (by
          apply Int.le_of_not_gt
          intro h1
          exact h ⟨rfl, by omega, h1⟩))

set_option maxHeartbeats 1000000 in
theorem sdigits_no (p a : Int) (w : World) (h : powB p = false ∨ a < 0 ∨ p ≤ a) : Calls Try.prog 53 #[.int .i64 p, .int .i64 a] w fun e w' => e = .returned (.int .i64 (-1)) ∧ w = w' := by
  cases hp : powB p
  · have hf := (fastN_no hp).1
    have hn : fastN p < 0 := by omega
    clear hf
    go_enter Try.func53, Try.ntmps53
    go_wp2_with (go_at_call 60; refine (sproducts_any _ _).mono ?_; rintro e w' ⟨rfl, rfl⟩)
    go_ret
    exact ⟨rfl, rfl⟩
  · rw [hp] at h
    have hn : ¬ fastN p < 0 := by rcases powB_cases hp with rfl | rfl | rfl | rfl | rfl <;> decide
    have hps : 1 ≤ p ∧ p ≤ 16 := by rcases powB_cases hp with rfl | rfl | rfl | rfl | rfl <;> decide
    obtain ⟨hp1, hp2⟩ := hps
    have hin : inB a 0 (p - 1) = false := by
      unfold inB
      rw [decide_eq_false]
      rcases h with h | h | h
      · cases h
      · omega
      · omega
    clear h hp
    go_enter Try.func53, Try.ntmps53
    go_wp2_with (first | (go_at_call 60; refine (sproducts_any _ _).mono ?_; rintro e w' ⟨rfl, rfl⟩) | (go_at_call 47; refine (l1In_any _ _ _ _).mono ?_; rintro e w' ⟨rfl, rfl⟩))
    go_ret
    exact ⟨rfl, rfl⟩
set_option maxHeartbeats 1000000 in
theorem sdigits_1 (a : Int) (w : World) (h0 : 0 ≤ a) (h1 : a < 1) : Calls Try.prog 53 #[.int .i64 1, .int .i64 a] w fun e w' => e = .returned (.int .i64 (digT 1 a)) ∧ w = w' := by
  have hn : ¬ fastN 1 < 0 := by decide
  have hin : inB a 0 (0) = true := by unfold inB; rw [decide_eq_true]; omega
  go_enter Try.func53, Try.ntmps53
  go_wp2_with (first | (go_at_call 60; refine (sproducts_any _ _).mono ?_; rintro e w' ⟨rfl, rfl⟩) | (go_at_call 47; refine (l1In_any _ _ _ _).mono ?_; rintro e w' ⟨rfl, rfl⟩))
  go_loop [7, 8] (fun t s => (t = .int .i64 (0) ∧ s = .int .i64 1)) (fun _ s => 32 - (intOf s).toNat)
  case atStart => exact ⟨rfl, rfl⟩
  case round =>
    obtain ⟨rfl, rfl⟩ := hrel
    all_goals go_wp2
    all_goals first
      | (go_ret; exact ⟨ret_int (by simp [digT]; done), rfl⟩)
      | (go_ret; exact ⟨ret_int (by simp [digT]; omega), rfl⟩)
      | (go_round; (case rel => repeat (first | (refine ⟨?_, ?_⟩ <;> go_num; done) | (refine Or.inl ⟨?_, ?_⟩ <;> go_num; done) | refine Or.inr ?_)); (case measure => simp [intOf]))
set_option maxHeartbeats 1000000 in
theorem sdigits_2 (a : Int) (w : World) (h0 : 0 ≤ a) (h1 : a < 2) : Calls Try.prog 53 #[.int .i64 2, .int .i64 a] w fun e w' => e = .returned (.int .i64 (digT 2 a)) ∧ w = w' := by
  have hn : ¬ fastN 2 < 0 := by decide
  have hin : inB a 0 (1) = true := by unfold inB; rw [decide_eq_true]; omega
  go_enter Try.func53, Try.ntmps53
  go_wp2_with (first | (go_at_call 60; refine (sproducts_any _ _).mono ?_; rintro e w' ⟨rfl, rfl⟩) | (go_at_call 47; refine (l1In_any _ _ _ _).mono ?_; rintro e w' ⟨rfl, rfl⟩))
  go_loop [7, 8] (fun t s => (t = .int .i64 (0) ∧ s = .int .i64 1) ∨ (t = .int .i64 ((a % 2)) ∧ s = .int .i64 2)) (fun _ s => 32 - (intOf s).toNat)
  case atStart => exact .inl ⟨rfl, rfl⟩
  case round =>
    rcases hrel with ⟨rfl, rfl⟩ | ⟨rfl, rfl⟩
    all_goals go_wp2
    all_goals first
      | (go_ret; exact ⟨ret_int (by simp [digT]; done), rfl⟩)
      | (go_ret; exact ⟨ret_int (by simp [digT]; omega), rfl⟩)
      | (go_round; (case rel => repeat (first | (refine ⟨?_, ?_⟩ <;> go_num; done) | (refine Or.inl ⟨?_, ?_⟩ <;> go_num; done) | refine Or.inr ?_)); (case measure => simp [intOf]))
set_option maxHeartbeats 1000000 in
theorem sdigits_4 (a : Int) (w : World) (h0 : 0 ≤ a) (h1 : a < 4) : Calls Try.prog 53 #[.int .i64 4, .int .i64 a] w fun e w' => e = .returned (.int .i64 (digT 4 a)) ∧ w = w' := by
  have hn : ¬ fastN 4 < 0 := by decide
  have hin : inB a 0 (3) = true := by unfold inB; rw [decide_eq_true]; omega
  go_enter Try.func53, Try.ntmps53
  go_wp2_with (first | (go_at_call 60; refine (sproducts_any _ _).mono ?_; rintro e w' ⟨rfl, rfl⟩) | (go_at_call 47; refine (l1In_any _ _ _ _).mono ?_; rintro e w' ⟨rfl, rfl⟩))
  go_loop [7, 8] (fun t s => (t = .int .i64 (0) ∧ s = .int .i64 1) ∨ (t = .int .i64 ((a % 2)) ∧ s = .int .i64 2) ∨ (t = .int .i64 (2 * (a % 2) + (a / 2 % 2)) ∧ s = .int .i64 4)) (fun _ s => 32 - (intOf s).toNat)
  case atStart => exact .inl ⟨rfl, rfl⟩
  case round =>
    rcases hrel with ⟨rfl, rfl⟩ | ⟨rfl, rfl⟩ | ⟨rfl, rfl⟩
    all_goals go_wp2
    all_goals first
      | (go_ret; exact ⟨ret_int (by simp [digT]; done), rfl⟩)
      | (go_ret; exact ⟨ret_int (by simp [digT]; omega), rfl⟩)
      | (go_round; (case rel => repeat (first | (refine ⟨?_, ?_⟩ <;> go_num; done) | (refine Or.inl ⟨?_, ?_⟩ <;> go_num; done) | refine Or.inr ?_)); (case measure => simp [intOf]))
set_option maxHeartbeats 1000000 in
theorem sdigits_8 (a : Int) (w : World) (h0 : 0 ≤ a) (h1 : a < 8) : Calls Try.prog 53 #[.int .i64 8, .int .i64 a] w fun e w' => e = .returned (.int .i64 (digT 8 a)) ∧ w = w' := by
  have hn : ¬ fastN 8 < 0 := by decide
  have hin : inB a 0 (7) = true := by unfold inB; rw [decide_eq_true]; omega
  go_enter Try.func53, Try.ntmps53
  go_wp2_with (first | (go_at_call 60; refine (sproducts_any _ _).mono ?_; rintro e w' ⟨rfl, rfl⟩) | (go_at_call 47; refine (l1In_any _ _ _ _).mono ?_; rintro e w' ⟨rfl, rfl⟩))
  go_loop [7, 8] (fun t s => (t = .int .i64 (0) ∧ s = .int .i64 1) ∨ (t = .int .i64 ((a % 2)) ∧ s = .int .i64 2) ∨ (t = .int .i64 (2 * (a % 2) + (a / 2 % 2)) ∧ s = .int .i64 4) ∨ (t = .int .i64 (4 * (a % 2) + 2 * (a / 2 % 2) + (a / 4 % 2)) ∧ s = .int .i64 8)) (fun _ s => 32 - (intOf s).toNat)
  case atStart => exact .inl ⟨rfl, rfl⟩
  case round =>
    rcases hrel with ⟨rfl, rfl⟩ | ⟨rfl, rfl⟩ | ⟨rfl, rfl⟩ | ⟨rfl, rfl⟩
    all_goals go_wp2
    all_goals first
      | (go_ret; exact ⟨ret_int (by simp [digT]; done), rfl⟩)
      | (go_ret; exact ⟨ret_int (by simp [digT]; omega), rfl⟩)
      | (go_round; (case rel => repeat (first | (refine ⟨?_, ?_⟩ <;> go_num; done) | (refine Or.inl ⟨?_, ?_⟩ <;> go_num; done) | refine Or.inr ?_)); (case measure => simp [intOf]))
set_option maxHeartbeats 1000000 in
theorem sdigits_16 (a : Int) (w : World) (h0 : 0 ≤ a) (h1 : a < 16) : Calls Try.prog 53 #[.int .i64 16, .int .i64 a] w fun e w' => e = .returned (.int .i64 (digT 16 a)) ∧ w = w' := by
  have hn : ¬ fastN 16 < 0 := by decide
  have hin : inB a 0 (15) = true := by unfold inB; rw [decide_eq_true]; omega
  go_enter Try.func53, Try.ntmps53
  go_wp2_with (first | (go_at_call 60; refine (sproducts_any _ _).mono ?_; rintro e w' ⟨rfl, rfl⟩) | (go_at_call 47; refine (l1In_any _ _ _ _).mono ?_; rintro e w' ⟨rfl, rfl⟩))
  go_loop [7, 8] (fun t s => (t = .int .i64 (0) ∧ s = .int .i64 1) ∨ (t = .int .i64 ((a % 2)) ∧ s = .int .i64 2) ∨ (t = .int .i64 (2 * (a % 2) + (a / 2 % 2)) ∧ s = .int .i64 4) ∨ (t = .int .i64 (4 * (a % 2) + 2 * (a / 2 % 2) + (a / 4 % 2)) ∧ s = .int .i64 8) ∨ (t = .int .i64 (8 * (a % 2) + 4 * (a / 2 % 2) + 2 * (a / 4 % 2) + (a / 8 % 2)) ∧ s = .int .i64 16)) (fun _ s => 32 - (intOf s).toNat)
  case atStart => exact .inl ⟨rfl, rfl⟩
  case round =>
    rcases hrel with ⟨rfl, rfl⟩ | ⟨rfl, rfl⟩ | ⟨rfl, rfl⟩ | ⟨rfl, rfl⟩ | ⟨rfl, rfl⟩
    all_goals go_wp2
    all_goals first
      | (go_ret; exact ⟨ret_int (by simp [digT]; done), rfl⟩)
      | (go_ret; exact ⟨ret_int (by simp [digT]; omega), rfl⟩)
      | (go_round; (case rel => repeat (first | (refine ⟨?_, ?_⟩ <;> go_num; done) | (refine Or.inl ⟨?_, ?_⟩ <;> go_num; done) | refine Or.inr ?_)); (case measure => simp [intOf]))
theorem sdigits_any (p a : Int) (w : World) : Calls Try.prog 53 #[.int .i64 p, .int .i64 a] w fun e w' => e = .returned (.int .i64 (digF p a)) ∧ w = w' := by
  by_cases h : powB p = true ∧ 0 ≤ a ∧ a < p
  · have e : digF p a = digT p a := by unfold digF; rw [if_pos h]
    rw [e]
    obtain ⟨hp, h0, h1⟩ := h
    rcases powB_cases hp with rfl | rfl | rfl | rfl | rfl
    · exact sdigits_1 a w h0 h1
    · exact sdigits_2 a w h0 h1
    · exact sdigits_4 a w h0 h1
    · exact sdigits_8 a w h0 h1
    · exact sdigits_16 a w h0 h1
  · have e : digF p a = -1 := by unfold digF; rw [if_neg h]
    rw [e]
    refine sdigits_no p a w ?_
    cases hp : powB p
    · exact .inl rfl
    · rw [hp] at h
      by_cases h0 : a < 0
      · exact .inr (.inl h0)
      · exact .inr (.inr (by
          apply Int.le_of_not_gt
          intro h1
          exact h ⟨rfl, by omega, h1⟩))
end Go.Proofs.Ytpiokngbldehmaa
