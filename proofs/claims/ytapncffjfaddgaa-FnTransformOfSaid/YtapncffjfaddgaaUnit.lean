/- Forth and back over 8 and 16 points: how far it is from the signal. -/
import Derived.Test.YtapncffjfaddgaaInv
import Derived.Test.YtapncffjfaddgaaNear
namespace Go.FV
open Ieee Go.FR
theorem sumR_add (f g : Nat → Rat) : ∀ n, sumR (fun k => f k + g k) n = sumR f n + sumR g n := by
  intro n
  induction n with
  | zero => simp only [sumR]; grind
  | succ n ih => simp only [sumR]; rw [ih]; grind
theorem sumR_sub (f g : Nat → Rat) : ∀ n, sumR (fun k => f k - g k) n = sumR f n - sumR g n := by
  intro n
  induction n with
  | zero => simp only [sumR]; grind
  | succ n ih => simp only [sumR]; rw [ih]; grind
theorem sumR_mul (f : Nat → Rat) (c : Rat) : ∀ n, sumR (fun k => f k * c) n = sumR f n * c := by
  intro n
  induction n with
  | zero => simp only [sumR]; grind
  | succ n ih => simp only [sumR]; rw [ih]; grind
theorem sumR_congr {f g : Nat → Rat} : ∀ n, (∀ k, k < n → f k = g k) → sumR f n = sumR g n := by
  intro n
  induction n with
  | zero => intro _; rfl
  | succ n ih => intro h; simp only [sumR]; rw [ih (fun k hk => h k (by omega)), h n (by omega)]
theorem sumR_swap (f : Nat → Nat → Rat) (m : Nat) : ∀ n, sumR (fun k => sumR (fun j => f k j) m) n = sumR (fun j => sumR (fun k => f k j) n) m := by
  intro n
  induction n with
  | zero =>
    simp only [sumR]
    induction m with
    | zero => rfl
    | succ m ih => simp only [sumR]; rw [← ih]; grind
  | succ n ih =>
    have e : sumR (fun j => sumR (fun k => f k j) (n + 1)) m = sumR (fun j => sumR (fun k => f k j) n + f n j) m := rfl
    rw [e, sumR_add, ← ih]; rfl
theorem sumR_within {f : Nat → Rat} {B : Rat} : ∀ n, (∀ k, k < n → Within (f k) B) → Within (sumR f n) ((n : Rat) * B) := by
  intro n
  induction n with
  | zero =>
    intro _
    have e : ((0 : Nat) : Rat) = 0 := rfl
    simp only [sumR]
    rw [e]
    unfold Within; constructor <;> grind
  | succ n ih =>
    intro h
    have h1 := ih (fun k hk => h k (by omega))
    have h2 := h n (by omega)
    have e : ((n + 1 : Nat) : Rat) = (n : Rat) + 1 := by rw [Rat.natCast_add]; rfl
    simp only [sumR]
    rw [e]
    unfold Within at *
    constructor <;> grind
theorem sumR_delta (f : Nat → Rat) (m : Nat) : ∀ n, sumR (fun j => if j = m then f j else 0) n = if m < n then f m else 0 := by
  intro n
  induction n with
  | zero => rfl
  | succ n ih =>
    simp only [sumR]
    rw [ih]
    by_cases h1 : m < n
    · rw [if_pos h1, if_neg (by omega), if_pos (by omega)]; grind
    · by_cases h2 : n = m
      · subst h2
        rw [if_neg (by omega), if_pos rfl, if_pos (by omega)]; grind
      · rw [if_neg h1, if_neg h2, if_neg (by omega)]; grind
/-- The products of whole numbers are small. -/
theorem within_scale {x e A B : Rat} (hx : Within x A) (he : Within e B) : Within (x * e) (A * B) := within_mul hx he
end Go.FV
namespace Go.Proofs.Ytapncffjfaddgaa
open Go.RowKit Go.FR Go.FV

/-- The parts of a turn by so many sixteenths, as numbers. -/
def tuC (k : Int) : Rat := V Ieee.single (turnF k).1
def tuD (k : Int) : Rat := V Ieee.single (turnF k).2
theorem tuC_le (k : Int) : Within (tuC k) 1 ∧ Within (tuD k) 1 := (turnF_le k).2

/-- The table once more, in units of 2 to the power of -25. -/
def ctL : List Int := [33554432, 31000252, 23726566, 12840725, 0, -12840725, -23726566, -31000252, -33554432, -31000252, -23726566, -12840725, 0, 12840725, 23726566, 31000252]
def ctZ (i : Int) : Int := ctL.getD (i % 16).toNat 0
def stZ (i : Int) : Int := ctL.getD ((i + 12) % 16).toNat 0
theorem ct_facts : ∀ i : Nat, i < 16 → V Ieee.single (turnT i).1 = ((ctL.getD i 0 : Int) : Rat) / 33554432 ∧ V Ieee.single (turnT i).2 = ((ctL.getD ((i + 12) % 16) 0 : Int) : Rat) / 33554432 := by decide +kernel
theorem turnF_tab (k : Int) (h0 : -9999 ≤ k) (h1 : k ≤ 9999) : tuC k = ((ctZ k : Int) : Rat) / 33554432 ∧ tuD k = ((stZ k : Int) : Rat) / 33554432 := by
  have hF : turnF k = turnT (k % 16).toNat := by unfold turnF; rw [if_pos ⟨h0, h1⟩]
  have hlt : (k % 16).toNat < 16 := by omega
  have := ct_facts _ hlt
  unfold tuC tuD ctZ stZ
  rw [hF, this.1, this.2]
  have e : ((k % 16).toNat + 12) % 16 = ((k + 12) % 16).toNat := by omega
  rw [e]
  exact ⟨rfl, rfl⟩
/-- Forth by j and back by m, over all k: n where j is m, else nearly 0. -/
def gP (n m j k : Nat) : Rat := tuC (trB n k * j) * tuC (bkB n m * k) - tuD (trB n k * j) * tuD (bkB n m * k)
def gQ (n m j k : Nat) : Rat := tuD (trB n k * j) * tuC (bkB n m * k) + tuC (trB n k * j) * tuD (bkB n m * k)
def zP (n m j k : Nat) : Int := ctZ (trB n k * j) * ctZ (bkB n m * k) - stZ (trB n k * j) * stZ (bkB n m * k)
def zQ (n m j k : Nat) : Int := stZ (trB n k * j) * ctZ (bkB n m * k) + ctZ (trB n k * j) * stZ (bkB n m * k)
theorem gram_z : ∀ n ∈ [8, 16], ∀ m < n, ∀ j < n, (sumZ (zP n m j) n - (if j = m then (n : Int) * 1125899906842624 else 0)).natAbs ≤ 2000000000 ∧ (sumZ (zQ n m j) n).natAbs ≤ 2000000000 := by decide +kernel
theorem sumR_int (f : Nat → Int) (D : Rat) : ∀ n, sumR (fun k => ((f k : Int) : Rat) / D) n = ((sumZ f n : Int) : Rat) / D := by
  intro n
  induction n with
  | zero => simp only [sumR, sumZ]; rw [Rat.div_def]; have : ((0 : Int) : Rat) = 0 := rfl; rw [this, Rat.zero_mul]
  | succ n ih =>
    simp only [sumR, sumZ]
    rw [ih, Rat.intCast_add, Rat.div_def, Rat.div_def, Rat.div_def]; grind
theorem gram {n m j : Nat} (hn : n = 8 ∨ n = 16) (hm : m < n) (hj : j < n) : Within (sumR (gP n m j) n - (if j = m then ((n : Nat) : Rat) else 0)) (1 / 500000) ∧ Within (sumR (gQ n m j) n) (1 / 500000) := by
  have hmem : n ∈ [8, 16] := by rcases hn with rfl | rfl <;> decide
  obtain ⟨z1, z2⟩ := gram_z n hmem m hm j hj
  have rng : ∀ k, k < n → (-9999 ≤ trB n k * (j : Int) ∧ trB n k * (j : Int) ≤ 9999) ∧ (-9999 ≤ bkB n m * (k : Int) ∧ bkB n m * (k : Int) ≤ 9999) := by
    intro k hk
    have a := trB_bound n k (by omega) hk
    have b := bkB_bound n m (by omega) hm
    have h1 := Int.mul_le_mul_of_nonneg_right a.2 (by omega : (0 : Int) ≤ (j : Int))
    have h2 := Int.mul_le_mul_of_nonneg_right a.1 (by omega : (0 : Int) ≤ (j : Int))
    have h3 := Int.mul_le_mul_of_nonneg_right b.2 (by omega : (0 : Int) ≤ (k : Int))
    have h4 := Int.mul_le_mul_of_nonneg_right b.1 (by omega : (0 : Int) ≤ (k : Int))
    omega
  have eD : (33554432 : Rat) * 33554432 = 1125899906842624 := by decide +kernel
  have e1 : sumR (gP n m j) n = ((sumZ (zP n m j) n : Int) : Rat) / 1125899906842624 := by
    rw [← sumR_int]
    refine sumR_congr n (fun k hk => ?_)
    obtain ⟨⟨r1, r2⟩, r3, r4⟩ := rng k hk
    obtain ⟨t1, t2⟩ := turnF_tab _ r1 r2
    obtain ⟨t3, t4⟩ := turnF_tab _ r3 r4
    unfold gP zP
    rw [t1, t2, t3, t4, Rat.intCast_sub, Rat.intCast_mul, Rat.intCast_mul]
    grind
  have e2 : sumR (gQ n m j) n = ((sumZ (zQ n m j) n : Int) : Rat) / 1125899906842624 := by
    rw [← sumR_int]
    refine sumR_congr n (fun k hk => ?_)
    obtain ⟨⟨r1, r2⟩, r3, r4⟩ := rng k hk
    obtain ⟨t1, t2⟩ := turnF_tab _ r1 r2
    obtain ⟨t3, t4⟩ := turnF_tab _ r3 r4
    unfold gQ zQ
    rw [t1, t2, t3, t4, Rat.intCast_add, Rat.intCast_mul, Rat.intCast_mul]
    grind
  have b9 : ((2000000000 : Int) : Rat) = 2000000000 := by decide +kernel
  constructor
  · rw [e1]
    have := int_within (n := sumZ (zP n m j) n - (if j = m then (n : Int) * 1125899906842624 else 0)) (b := 2000000000) (by omega)
    rw [b9, Rat.intCast_sub] at this
    by_cases h : j = m
    · rw [if_pos h] at this ⊢
      rw [Rat.intCast_mul] at this
      have e3 : ((1125899906842624 : Int) : Rat) = 1125899906842624 := by decide +kernel
      have e4 : ((n : Int) : Rat) = ((n : Nat) : Rat) := rfl
      rw [e3, e4] at this
      unfold Within at *; constructor <;> grind
    · rw [if_neg h] at this ⊢
      have e3 : ((0 : Int) : Rat) = 0 := rfl
      rw [e3] at this
      unfold Within at *; constructor <;> grind
  · rw [e2]
    have := int_within (n := sumZ (zQ n m j) n) (b := 2000000000) (by omega)
    rw [b9] at this
    unfold Within at *; constructor <;> grind
end Go.Proofs.Ytapncffjfaddgaa
