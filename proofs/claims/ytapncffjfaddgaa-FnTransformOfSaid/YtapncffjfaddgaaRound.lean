/- Forth and back over 8 and 16 points is near the signal. -/
import Derived.Test.YtapncffjfaddgaaUnit
import Derived.Test.YtapncffjfaddgaaLback
namespace Go.FV
open Ieee Go.FR
theorem qd_err {q : Rat} {r : Nat} (h : Qd q r) (hq : Within q 11) : Within (V single r - q) (1 / 100000) := by
  obtain ⟨d, e, h1, _, h3, h4⟩ := h
  have hd : Within (d - q) (1 / 1000000) := by rcases h1 with h | h <;> unfold Within at * <;> constructor <;> grind
  have hd2 : Within d 12 := by unfold Within at *; constructor <;> grind
  have a := err64 h3 hd2 (by decide +kernel)
  have he : Within (V double e) 13 := by unfold Within at *; constructor <;> grind
  have c := err32 h4 he (by decide +kernel)
  unfold Within at *
  constructor <;> grind
end Go.FV
namespace Go.Proofs.Ytapncffjfaddgaa
open Go.RowKit Go.FR Go.FV

/-- The exact double sums. -/
theorem twice_re (a b : Nat → Rat) (n m : Nat) :
    sumR (fun k => sumR (fun j => a j * tuC (trB n k * j) - b j * tuD (trB n k * j)) n * tuC (bkB n m * k) - sumR (fun j => a j * tuD (trB n k * j) + b j * tuC (trB n k * j)) n * tuD (bkB n m * k)) n =
      sumR (fun j => a j * sumR (gP n m j) n - b j * sumR (gQ n m j) n) n := by
  have e1 : ∀ k, sumR (fun j => a j * tuC (trB n k * j) - b j * tuD (trB n k * j)) n * tuC (bkB n m * k) - sumR (fun j => a j * tuD (trB n k * j) + b j * tuC (trB n k * j)) n * tuD (bkB n m * k) = sumR (fun j => a j * gP n m j k - b j * gQ n m j k) n := by
    intro k
    rw [← sumR_mul, ← sumR_mul, ← sumR_sub]
    exact sumR_congr n (fun j _ => by unfold gP gQ; grind)
  rw [sumR_congr n (fun k _ => e1 k), sumR_swap]
  refine sumR_congr n (fun j _ => ?_)
  rw [sumR_sub]
  have c1 : sumR (fun k => a j * gP n m j k) n = a j * sumR (gP n m j) n := by
    rw [Rat.mul_comm (a j), ← sumR_mul]; exact sumR_congr n (fun k _ => Rat.mul_comm _ _)
  have c2 : sumR (fun k => b j * gQ n m j k) n = b j * sumR (gQ n m j) n := by
    rw [Rat.mul_comm (b j), ← sumR_mul]; exact sumR_congr n (fun k _ => Rat.mul_comm _ _)
  rw [c1, c2]
theorem twice_im (a b : Nat → Rat) (n m : Nat) :
    sumR (fun k => sumR (fun j => a j * tuC (trB n k * j) - b j * tuD (trB n k * j)) n * tuD (bkB n m * k) + sumR (fun j => a j * tuD (trB n k * j) + b j * tuC (trB n k * j)) n * tuC (bkB n m * k)) n =
      sumR (fun j => a j * sumR (gQ n m j) n + b j * sumR (gP n m j) n) n := by
  have e1 : ∀ k, sumR (fun j => a j * tuC (trB n k * j) - b j * tuD (trB n k * j)) n * tuD (bkB n m * k) + sumR (fun j => a j * tuD (trB n k * j) + b j * tuC (trB n k * j)) n * tuC (bkB n m * k) = sumR (fun j => a j * gQ n m j k + b j * gP n m j k) n := by
    intro k
    rw [← sumR_mul, ← sumR_mul, ← sumR_add]
    exact sumR_congr n (fun j _ => by unfold gP gQ; grind)
  rw [sumR_congr n (fun k _ => e1 k), sumR_swap]
  refine sumR_congr n (fun j _ => ?_)
  rw [sumR_add]
  have c1 : sumR (fun k => a j * gQ n m j k) n = a j * sumR (gQ n m j) n := by
    rw [Rat.mul_comm (a j), ← sumR_mul]; exact sumR_congr n (fun k _ => Rat.mul_comm _ _)
  have c2 : sumR (fun k => b j * gP n m j k) n = b j * sumR (gP n m j) n := by
    rw [Rat.mul_comm (b j), ← sumR_mul]; exact sumR_congr n (fun k _ => Rat.mul_comm _ _)
  rw [c1, c2]
/-- .. are nearly the signal, n times. -/
theorem twice_near {a b : Nat → Rat} {n m : Nat} (hn : n = 8 ∨ n = 16) (hm : m < n) (ha : ∀ j, j < n → Within (a j) 10) (hb : ∀ j, j < n → Within (b j) 10) :
    Within (sumR (fun j => a j * sumR (gP n m j) n - b j * sumR (gQ n m j) n) n - a m * (n : Rat)) ((n : Rat) * (1 / 10000)) ∧ Within (sumR (fun j => a j * sumR (gQ n m j) n + b j * sumR (gP n m j) n) n - b m * (n : Rat)) ((n : Rat) * (1 / 10000)) := by
  have d1 : a m * (n : Rat) = sumR (fun j => if j = m then a j * (n : Rat) else 0) n := by rw [sumR_delta, if_pos hm]
  have d2 : b m * (n : Rat) = sumR (fun j => if j = m then b j * (n : Rat) else 0) n := by rw [sumR_delta, if_pos hm]
  constructor
  · rw [d1, ← sumR_sub]
    refine sumR_within n (fun j hj => ?_)
    obtain ⟨g1, g2⟩ := gram hn hm hj
    have w1 := within_mul (ha j hj) g1
    have w2 := within_mul (hb j hj) g2
    by_cases h : j = m
    · rw [if_pos h] at w1 ⊢
      have e : a j * sumR (gP n m j) n - b j * sumR (gQ n m j) n - a j * (n : Rat) = a j * (sumR (gP n m j) n - (n : Rat)) - b j * sumR (gQ n m j) n := by grind
      rw [e]
      exact within_mono (within_sub w1 w2) (by decide +kernel)
    · rw [if_neg h] at w1 ⊢
      have e : a j * sumR (gP n m j) n - b j * sumR (gQ n m j) n - 0 = a j * (sumR (gP n m j) n - 0) - b j * sumR (gQ n m j) n := by grind
      rw [e]
      exact within_mono (within_sub w1 w2) (by decide +kernel)
  · rw [d2, ← sumR_sub]
    refine sumR_within n (fun j hj => ?_)
    obtain ⟨g1, g2⟩ := gram hn hm hj
    have w1 := within_mul (hb j hj) g1
    have w2 := within_mul (ha j hj) g2
    by_cases h : j = m
    · rw [if_pos h] at w1 ⊢
      have e : a j * sumR (gQ n m j) n + b j * sumR (gP n m j) n - b j * (n : Rat) = b j * (sumR (gP n m j) n - (n : Rat)) + a j * sumR (gQ n m j) n := by grind
      rw [e]
      exact within_mono (within_add w1 w2) (by decide +kernel)
    · rw [if_neg h] at w1 ⊢
      have e : a j * sumR (gQ n m j) n + b j * sumR (gP n m j) n - 0 = b j * (sumR (gP n m j) n - 0) + a j * sumR (gQ n m j) n := by grind
      rw [e]
      exact within_mono (within_add w1 w2) (by decide +kernel)
/-- What is off by e at most in each number comes back off by 2 e at most. -/
theorem back_off {f h F H : Nat → Rat} {n m : Nat} {e : Rat} (_he : 0 ≤ e) (h1 : ∀ k, k < n → Within (f k - F k) e) (h2 : ∀ k, k < n → Within (h k - H k) e) :
    Within (sumR (fun k => f k * tuC (bkB n m * k) - h k * tuD (bkB n m * k)) n - sumR (fun k => F k * tuC (bkB n m * k) - H k * tuD (bkB n m * k)) n) ((n : Rat) * (2 * e)) ∧
    Within (sumR (fun k => f k * tuD (bkB n m * k) + h k * tuC (bkB n m * k)) n - sumR (fun k => F k * tuD (bkB n m * k) + H k * tuC (bkB n m * k)) n) ((n : Rat) * (2 * e)) := by
  constructor
  · rw [← sumR_sub]
    refine sumR_within n (fun k hk => ?_)
    have t := tuC_le (bkB n m * k)
    have w1 := within_mul (h1 k hk) t.1
    have w2 := within_mul (h2 k hk) t.2
    have e1 : f k * tuC (bkB n m * k) - h k * tuD (bkB n m * k) - (F k * tuC (bkB n m * k) - H k * tuD (bkB n m * k)) = (f k - F k) * tuC (bkB n m * k) - (h k - H k) * tuD (bkB n m * k) := by grind
    rw [e1]
    exact within_mono (within_sub w1 w2) (by grind)
  · rw [← sumR_sub]
    refine sumR_within n (fun k hk => ?_)
    have t := tuC_le (bkB n m * k)
    have w1 := within_mul (h1 k hk) t.2
    have w2 := within_mul (h2 k hk) t.1
    have e1 : f k * tuD (bkB n m * k) + h k * tuC (bkB n m * k) - (F k * tuD (bkB n m * k) + H k * tuC (bkB n m * k)) = (f k - F k) * tuD (bkB n m * k) + (h k - H k) * tuC (bkB n m * k) := by grind
    rw [e1]
    exact within_mono (within_add w1 w2) (by grind)

theorem tri {x q a A B C : Rat} (h1 : Within (x - q) A) (h2 : Within (q - a) B) (h : A + B ≤ C) : Within (x - a) C := by
  have := within_add h1 h2
  have e : x - q + (q - a) = x - a := by grind
  rw [e] at this
  exact within_mono this h
/-- A share of n. -/
theorem share {q v a c N : Rat} (hN : 1 ≤ N) (hq : q * N = v) (h : Within (v - a * N) (N * c)) : Within (q - a) c := by
  subst hq
  have e : q * N - a * N = (q - a) * N := by grind
  rw [e] at h
  generalize q - a = d at *
  have hp : 0 < N := by grind
  unfold Within at *
  constructor
  · have h1 : (-c) * N ≤ d * N := by grind
    exact Rat.le_of_mul_le_mul_right h1 hp
  · have h1 : d * N ≤ c * N := by grind
    exact Rat.le_of_mul_le_mul_right h1 hp

set_option maxHeartbeats 4000000 in
theorem round_near {n : Nat} {xs : List (Nat × Nat)} (hn : n = 8 ∨ n = 16) (hl : xs.length = n) (hz : ZS 10 xs) :
    (∀ k, k < n → TsOk (trB n k) xs) ∧ (∀ m, m < n → TsOk (bkB n m) (trL n xs) ∧ QuOk (tsW (bkB n m) (trL n xs) n) n) ∧
      ∀ m, m < n → Within (V Ieee.single (bkW n (trL n xs) m).1 - V Ieee.single (xs.getD m (0, 0)).1) (99 / 10000) ∧ Within (V Ieee.single (bkW n (trL n xs) m).2 - V Ieee.single (xs.getD m (0, 0)).2) (99 / 10000) := by
  have hn16 : n ≤ 16 := by omega
  have hN1 : (1 : Rat) ≤ (n : Rat) := by exact_mod_cast (by omega : 1 ≤ n)
  have hN16 : (n : Rat) ≤ 16 := by exact_mod_cast hn16
  have hten : ((10 : Int) : Rat) = 10 := by decide +kernel
  have ha : ∀ j, j < n → Within (V Ieee.single (xs.getD j (0, 0)).1) 10 := fun j hj => by
    obtain ⟨z, z1, z2⟩ := hz j (by omega)
    rw [z.v1, ← hten]; exact int_within (by omega)
  have hb : ∀ j, j < n → Within (V Ieee.single (xs.getD j (0, 0)).2) 10 := fun j hj => by
    obtain ⟨z, z1, z2⟩ := hz j (by omega)
    rw [z.v2, ← hten]; exact int_within (by omega)
  have sumc : ∀ (c : Rat) (k : Nat), sumR (fun _ => c) k = (k : Rat) * c := by
    intro c k
    induction k with
    | zero =>
      have e : ((0 : Nat) : Rat) = 0 := rfl
      simp only [sumR]; rw [e]; grind
    | succ k ih =>
      have e : ((k + 1 : Nat) : Rat) = (k : Rat) + 1 := by rw [Rat.natCast_add]; rfl
      simp only [sumR]; rw [ih, e]; grind
  have T1 : ∀ k, k < n → _ := fun k (hk : k < n) => ts_bound (trB n k) xs (fun _ => 20) 400 (by omega) (fun j hj => by
      have z := (hz j hj).1
      exact ⟨z.f1, z.f2⟩) (fun _ _ => by decide +kernel) (fun j hj => by
      have := part_le (A := 10) (B := 10) (ha j (by omega)) (hb j (by omega)) (turnF_le (trB n k * j)).2.1 (turnF_le (trB n k * j)).2.2
      have e : (10 : Rat) + 10 = 20 := by decide +kernel
      rw [e] at this; exact this) (by decide +kernel) (by unfold hugeQ; decide +kernel) (by rw [sumc, hl]; grind) n (by omega)
  have hts1 : ∀ k, k < n → TsOk (trB n k) xs := fun k hk j hj => (T1 k hk).1 j (by omega)
  have e400 : eB 400 n ≤ 13 / 10000 := by unfold eB; grind
  have e400' : 0 ≤ eB 400 n := by unfold eB; grind
  have yv : ∀ k, k < n → Within (V Ieee.single ((trL n xs).getD k (0, 0)).1 - sumR (reT (trB n k) xs) n) (13 / 10000) ∧ Within (V Ieee.single ((trL n xs).getD k (0, 0)).2 - sumR (imT (trB n k) xs) n) (13 / 10000) ∧
      Within (V Ieee.single ((trL n xs).getD k (0, 0)).1) 321 ∧ Within (V Ieee.single ((trL n xs).getD k (0, 0)).2) 321 ∧ FinP ((trL n xs).getD k (0, 0)) := by
    intro k hk
    obtain ⟨_, f, s1, s2, d1, d2⟩ := T1 k hk
    rw [tr_at hk]
    rw [sumc] at s1 s2
    refine ⟨within_mono d1 e400, within_mono d2 e400, ?_, ?_, f⟩
    · unfold Within at *; constructor <;> grind
    · unfold Within at *; constructor <;> grind
  have hly : (trL n xs).length = n := trL_len n xs
  have T2 : ∀ m, m < n → _ := fun m (hm : m < n) => ts_bound (bkB n m) (trL n xs) (fun _ => 642) 10272 (by omega) (fun j hj => (yv j (by omega)).2.2.2.2) (fun _ _ => by decide +kernel) (fun j hj => by
      obtain ⟨_, _, w1, w2, _⟩ := yv j (by omega)
      have := part_le (A := 321) (B := 321) w1 w2 (turnF_le (bkB n m * j)).2.1 (turnF_le (bkB n m * j)).2.2
      have e : (321 : Rat) + 321 = 642 := by decide +kernel
      rw [e] at this; exact this) (by decide +kernel) (by unfold hugeQ; decide +kernel) (by rw [sumc, hly]; grind) n (by omega)
  have main : ∀ m, m < n → FinP (tsW (bkB n m) (trL n xs) n) ∧ Within (V Ieee.single (tsW (bkB n m) (trL n xs) n).1 - V Ieee.single (xs.getD m (0, 0)).1 * (n : Rat)) ((n : Rat) * (48 / 10000)) ∧ Within (V Ieee.single (tsW (bkB n m) (trL n xs) n).2 - V Ieee.single (xs.getD m (0, 0)).2 * (n : Rat)) ((n : Rat) * (48 / 10000)) := by
    intro m hm
    obtain ⟨_, f, _, _, d1, d2⟩ := T2 m hm
    obtain ⟨o1, o2⟩ := back_off (n := n) (m := m) (e := 13 / 10000) (f := fun k => V Ieee.single ((trL n xs).getD k (0, 0)).1) (h := fun k => V Ieee.single ((trL n xs).getD k (0, 0)).2) (F := fun k => sumR (reT (trB n k) xs) n) (H := fun k => sumR (imT (trB n k) xs) n) (by decide +kernel) (fun k hk => (yv k hk).1) (fun k hk => (yv k hk).2.1)
    have t1 := twice_re (fun j => V Ieee.single (xs.getD j (0, 0)).1) (fun j => V Ieee.single (xs.getD j (0, 0)).2) n m
    have t2 := twice_im (fun j => V Ieee.single (xs.getD j (0, 0)).1) (fun j => V Ieee.single (xs.getD j (0, 0)).2) n m
    obtain ⟨g1, g2⟩ := twice_near (a := fun j => V Ieee.single (xs.getD j (0, 0)).1) (b := fun j => V Ieee.single (xs.getD j (0, 0)).2) hn hm ha hb
    rw [← t1] at g1
    rw [← t2] at g2
    have r1 : sumR (reT (bkB n m) (trL n xs)) n = sumR (fun k => V Ieee.single ((trL n xs).getD k (0, 0)).1 * tuC (bkB n m * k) - V Ieee.single ((trL n xs).getD k (0, 0)).2 * tuD (bkB n m * k)) n := rfl
    have r2 : sumR (imT (bkB n m) (trL n xs)) n = sumR (fun k => V Ieee.single ((trL n xs).getD k (0, 0)).1 * tuD (bkB n m * k) + V Ieee.single ((trL n xs).getD k (0, 0)).2 * tuC (bkB n m * k)) n := rfl
    rw [r1] at d1
    rw [r2] at d2
    have q1 : sumR (fun k => sumR (reT (trB n k) xs) n * tuC (bkB n m * k) - sumR (imT (trB n k) xs) n * tuD (bkB n m * k)) n = sumR (fun k => sumR (fun j => V Ieee.single (xs.getD j (0, 0)).1 * tuC (trB n k * j) - V Ieee.single (xs.getD j (0, 0)).2 * tuD (trB n k * j)) n * tuC (bkB n m * k) - sumR (fun j => V Ieee.single (xs.getD j (0, 0)).1 * tuD (trB n k * j) + V Ieee.single (xs.getD j (0, 0)).2 * tuC (trB n k * j)) n * tuD (bkB n m * k)) n := rfl
    have q2 : sumR (fun k => sumR (reT (trB n k) xs) n * tuD (bkB n m * k) + sumR (imT (trB n k) xs) n * tuC (bkB n m * k)) n = sumR (fun k => sumR (fun j => V Ieee.single (xs.getD j (0, 0)).1 * tuC (trB n k * j) - V Ieee.single (xs.getD j (0, 0)).2 * tuD (trB n k * j)) n * tuD (bkB n m * k) + sumR (fun j => V Ieee.single (xs.getD j (0, 0)).1 * tuD (trB n k * j) + V Ieee.single (xs.getD j (0, 0)).2 * tuC (trB n k * j)) n * tuC (bkB n m * k)) n := rfl
    rw [q1] at o1
    rw [q2] at o2
    have eT : eB 10272 n = (n : Rat) * (10272 / 5000000) := rfl
    rw [eT] at d1 d2
    have hsum : (n : Rat) * (10272 / 5000000) + (n : Rat) * (2 * (13 / 10000)) + (n : Rat) * (1 / 10000) ≤ (n : Rat) * (48 / 10000) := by clear T1 T2 yv ha hb; grind
    refine ⟨f, ?_, ?_⟩
    · exact tri (tri d1 o1 Rat.le_refl) g1 hsum
    · exact tri (tri d2 o2 Rat.le_refl) g2 hsum
  have fin : ∀ m, m < n → QuOk (tsW (bkB n m) (trL n xs) n) n ∧ Within (V Ieee.single (bkW n (trL n xs) m).1 - V Ieee.single (xs.getD m (0, 0)).1) (99 / 10000) ∧ Within (V Ieee.single (bkW n (trL n xs) m).2 - V Ieee.single (xs.getD m (0, 0)).2) (99 / 10000) := by
    intro m hm
    obtain ⟨f, w1, w2⟩ := main m hm
    have hN : n ∈ [1, 2, 4, 8, 16] := by rcases hn with rfl | rfl <;> decide
    have big : ∀ {v a : Rat}, Within a 10 → Within (v - a * (n : Rat)) ((n : Rat) * (48 / 10000)) → (v / (n : Rat)) * (n : Rat) = v ∧ Within (v / (n : Rat) - a) (48 / 10000) ∧ Within (v / (n : Rat)) 11 := by
      intro v a h1 h2
      have h0 : (n : Rat) ≠ 0 := by grind
      have e : (v / (n : Rat)) * (n : Rat) = v := by rw [Rat.div_def, Rat.mul_assoc, Rat.inv_mul_cancel _ h0, Rat.mul_one]
      have s := share hN1 e h2
      exact ⟨e, s, by unfold Within at *; constructor <;> grind⟩
    obtain ⟨e1, s1, b1⟩ := big (ha m hm) w1
    obtain ⟨e2, s2, b2⟩ := big (hb m hm) w2
    obtain ⟨k1, k2, k3⟩ := quo_spec hN f.1 f.2 e1 e2 b1 b2 (by decide +kernel) (by unfold hugeQ; decide +kernel)
    have r1 := qd_err k2 b1
    have r2 := qd_err k3 b2
    refine ⟨⟨k1, k2.fin, k3.fin⟩, ?_, ?_⟩
    · exact tri r1 s1 (by decide +kernel)
    · exact tri r2 s2 (by decide +kernel)
  exact ⟨hts1, fun m hm => ⟨fun j hj => (T2 m hm).1 j (by omega), (fin m hm).1⟩, fun m hm => (fin m hm).2⟩
end Go.Proofs.Ytapncffjfaddgaa
