/- The negative of a float32 word. -/
import Derived.Test.YtpiokngbldehmaaEn
namespace Go.FV
open Ieee Go.FR

theorem neg32_read (x : Nat) : single.read (Op.negFloat .f32 x) = (single.read x).opposite := by
  have hs : single.signWeight = 2 ^ 31 := by decide
  have hn : Op.negFloat .f32 x = x ^^^ 2 ^ 31 := rfl
  unfold Format.read
  rw [hs, hn, Nat.xor_mod_two_pow, Nat.xor_div_two_pow, Nat.mod_self, Nat.div_self (Nat.two_pow_pos _), Nat.xor_zero]
  have hb : ((x / 2 ^ 31 ^^^ 1) % 2 == 1) = !(x / 2 ^ 31 % 2 == 1) := by
    have := Nat.xor_mod_two_pow (a := x / 2 ^ 31) (b := 1) (n := 1)
    rw [Nat.pow_one] at this
    rw [this]
    rcases Nat.mod_two_eq_zero_or_one (x / 2 ^ 31) with h | h <;> rw [h] <;> rfl
  rw [hb]
  generalize x % 2 ^ 31 = r
  generalize (x / 2 ^ 31 % 2 == 1) = s
  dsimp only
  by_cases h1 : r < single.binade
  · rw [if_pos h1, if_pos h1]; rfl
  · rw [if_neg h1, if_neg h1]
    by_cases h2 : r < single.infRung
    · rw [if_pos h2, if_pos h2]; rfl
    · rw [if_neg h2, if_neg h2]
      by_cases h3 : r = single.infRung
      · rw [if_pos h3, if_pos h3]; rfl
      · rw [if_neg h3, if_neg h3]; rfl
theorem neg32_fin (x : Nat) : finB (Op.negFloat .f32 x) = finB x := by
  unfold finB; rw [neg32_read, opposite_num]
theorem neg32_val (x : Nat) : V single (Op.negFloat .f32 x) = - V single x := by
  unfold V; rw [neg32_read, opposite_val]
theorem neg32_twice (x : Nat) : V single (Op.negFloat .f32 (Op.negFloat .f32 x)) = V single x := by
  rw [neg32_val, neg32_val, Rat.neg_neg]
/-- A finite float32 word widened, as what it reads. -/
theorem up64_write {x : Nat} (hx : Fin single x) : up64 x = double.write (single.read x) := by
  have h := (up64_val hx).1
  unfold floatToFloatBits FloatKind.decode FloatKind.encode at h
  rw [if_neg (by decide)] at h
  unfold Fin at hx
  rw [fmt32, fmt64] at h
  generalize single.read x = d at *
  cases d with
  | infinity s => simp [isNum] at hx
  | nan s t => simp [isNum] at hx
  | number s m i =>
    simp only at h
    split at h
    · cases h
    · injection h with h; exact h.symm
theorem up64_neg {x : Nat} (hx : Fin single x) : double.read (up64 (Op.negFloat .f32 x)) = (double.read (up64 x)).opposite := by
  have hx' : Fin single (Op.negFloat .f32 x) := by unfold Fin; rw [neg32_read, opposite_num]; exact hx
  rw [up64_write hx, up64_write hx', neg32_read]
  unfold Fin at hx
  generalize single.read x = d at *
  cases d with
  | infinity s => simp [isNum] at hx
  | nan s t => simp [isNum] at hx
  | number s m i => exact flip_read double s m i
theorem product_opp (a : Datum) : a.opposite.product a.opposite = a.product a := by
  cases a <;> simp [Datum.opposite, Datum.product]
/-- The square of the negative is the square. -/
theorem sq_neg {x : Nat} (hx : Fin single x) : sq (Op.negFloat .f32 x) = sq x := by
  unfold sq
  show (double.mul _ _).getD 0 = (double.mul _ _).getD 0
  unfold Format.mul
  rw [up64_neg hx, product_opp]
end Go.FV
