/- Sums of products with turns by quarters, of whole numbers: exact. -/
import Derived.Test.YtapncffjfaddgaaTok
namespace Go.FV
open Ieee Go.FR
/-- The whole number that a word stands for. -/
def zN (x : Nat) : Int := (V single x).num
theorem zN_eq {x : Nat} {n : Int} (h : V single x = (n : Rat)) : zN x = n := by unfold zN; rw [h]; rfl
def sumZ (f : Nat → Int) : Nat → Int
  | 0 => 0
  | k + 1 => sumZ f k + f k
theorem sumZ_bound {f : Nat → Int} {M : Nat} : ∀ k, (∀ j, j < k → (f j).natAbs ≤ M) → (sumZ f k).natAbs ≤ M * k := by
  intro k
  induction k with
  | zero => intro _; simp [sumZ]
  | succ k ih =>
    intro h
    have h1 := ih (fun j hj => h j (by omega))
    have h2 := h k (by omega)
    simp only [sumZ]
    rw [Nat.mul_succ]
    omega
theorem sumZ_congr {f g : Nat → Int} : ∀ k, (∀ j, j < k → f j = g j) → sumZ f k = sumZ g k := by
  intro k
  induction k with
  | zero => intro _; rfl
  | succ k ih => intro h; simp only [sumZ]; rw [ih (fun j hj => h j (by omega)), h k (by omega)]
end Go.FV
namespace Go.Proofs.Ytapncffjfaddgaa
open Go.RowKit Go.FR Go.FV

/-- The parts of a turn by quarters. -/
def cz (k : Int) : Int := if k % 16 = 0 then 1 else if k % 16 = 8 then -1 else 0
def sz (k : Int) : Int := if k % 16 = 4 then 1 else if k % 16 = 12 then -1 else 0
theorem cz_cases (k : Int) : cz k = 1 ∨ cz k = -1 ∨ cz k = 0 := by unfold cz; split <;> (try split) <;> omega
theorem sz_cases (k : Int) : sz k = 1 ∨ sz k = -1 ∨ sz k = 0 := by unfold sz; split <;> (try split) <;> omega
theorem turn_zp0 : ZP (turnT 0) 1 0 ∧ ZP (turnT 4) 0 1 ∧ ZP (turnT 8) (-1) 0 ∧ ZP (turnT 12) 0 (-1) := by
  refine ⟨⟨?_, ?_, ?_, ?_⟩, ⟨?_, ?_, ?_, ?_⟩, ⟨?_, ?_, ?_, ?_⟩, ⟨?_, ?_, ?_, ?_⟩⟩ <;> decide +kernel
theorem turn_zp (k : Int) (h4 : k % 4 = 0) (h0 : -9999 ≤ k) (h1 : k ≤ 9999) : ZP (turnF k) (cz k) (sz k) := by
  have hF : turnF k = turnT (k % 16).toNat := by unfold turnF; rw [if_pos ⟨h0, h1⟩]
  rw [hF]
  obtain ⟨a, b, c, d⟩ := turn_zp0
  rcases (by omega : k % 16 = 0 ∨ k % 16 = 4 ∨ k % 16 = 8 ∨ k % 16 = 12) with h | h | h | h
  · have e1 : cz k = 1 := by unfold cz; rw [h]; rfl
    have e2 : sz k = 0 := by unfold sz; rw [h]; rfl
    rw [h, e1, e2]; exact a
  · have e1 : cz k = 0 := by unfold cz; rw [h]; rfl
    have e2 : sz k = 1 := by unfold sz; rw [h]; rfl
    rw [h, e1, e2]; exact b
  · have e1 : cz k = -1 := by unfold cz; rw [h]; rfl
    have e2 : sz k = 0 := by unfold sz; rw [h]; rfl
    rw [h, e1, e2]; exact c
  · have e1 : cz k = 0 := by unfold cz; rw [h]; rfl
    have e2 : sz k = -1 := by unfold sz; rw [h]; rfl
    rw [h, e1, e2]; exact d

def aZ (xs : List (Nat × Nat)) (k : Nat) : Int := zN (xs.getD k (0, 0)).1
def bZ (xs : List (Nat × Nat)) (k : Nat) : Int := zN (xs.getD k (0, 0)).2
/-- All numbers of a signal are whole, and at most M either way. -/
def ZS (M : Nat) (xs : List (Nat × Nat)) : Prop := ∀ k, k < xs.length → ZP (xs.getD k (0, 0)) (aZ xs k) (bZ xs k) ∧ (aZ xs k).natAbs ≤ M ∧ (bZ xs k).natAbs ≤ M
def rz (b : Int) (xs : List (Nat × Nat)) (k : Nat) : Int := aZ xs k * cz (b * k) - bZ xs k * sz (b * k)
def iz (b : Int) (xs : List (Nat × Nat)) (k : Nat) : Int := aZ xs k * sz (b * k) + bZ xs k * cz (b * k)
theorem rz_bound {M : Nat} {b : Int} {xs : List (Nat × Nat)} (h : ZS M xs) (k : Nat) (hk : k < xs.length) : (rz b xs k).natAbs ≤ 2 * M ∧ (iz b xs k).natAbs ≤ 2 * M := by
  obtain ⟨_, h1, h2⟩ := h k hk
  unfold rz iz
  rcases cz_cases (b * k) with e1 | e1 | e1 <;> rcases sz_cases (b * k) with e2 | e2 | e2 <;> rw [e1, e2] <;> constructor <;> omega
theorem ZS.of_get {M : Nat} {xs : List (Nat × Nat)} (h : ∀ p ∈ xs, ∃ m n : Int, m.natAbs ≤ M ∧ n.natAbs ≤ M ∧ ZP p m n) : ZS M xs := by
  intro k hk
  have hg : xs.getD k (0, 0) = xs[k] := by simp [hk]
  obtain ⟨m, n, h1, h2, h3⟩ := h _ (List.getElem_mem hk)
  unfold aZ bZ
  rw [hg, zN_eq h3.v1, zN_eq h3.v2]
  exact ⟨h3, h1, h2⟩

theorem ts_zp {M : Nat} {b : Int} {xs : List (Nat × Nat)} (h : ZS M xs) (hl : xs.length ≤ 16) (hM : M ≤ 100000) (h4 : b % 4 = 0) (hb0 : -320 ≤ b) (hb1 : b ≤ 320) :
    ∀ k, k ≤ xs.length → (∀ j, j < k → MulOk (xs.getD j (0, 0)) (turnF (b * j)) ∧ FinP (tsW b xs (j + 1))) ∧ ZP (tsW b xs k) (sumZ (rz b xs) k) (sumZ (iz b xs) k) := by
  intro k
  induction k with
  | zero => intro _; exact ⟨fun j hj => by omega, ZP.zero⟩
  | succ k ih =>
    intro hk
    obtain ⟨i1, i2⟩ := ih (by omega)
    obtain ⟨z1, m1, m2⟩ := h k (by omega)
    have hbk : -5120 ≤ b * (k : Int) ∧ b * (k : Int) ≤ 5120 := by
      have h1 := Int.mul_le_mul_of_nonneg_right hb1 (by omega : (0 : Int) ≤ (k : Int))
      have h2 := Int.mul_le_mul_of_nonneg_right hb0 (by omega : (0 : Int) ≤ (k : Int))
      omega
    have hk4 : (b * (k : Int)) % 4 = 0 := by rw [Int.mul_emod, h4]; simp
    have zt := turn_zp (b * k) hk4 (by omega) (by omega)
    obtain ⟨r1, r2⟩ := rz_bound (b := b) h k (by omega)
    obtain ⟨mo, zm⟩ := z1.mul zt (by unfold rz at r1; omega) (by unfold iz at r2; omega)
    have s1 := sumZ_bound (f := rz b xs) (M := 2 * M) (k + 1) (fun j hj => (rz_bound h j (by omega)).1)
    have s2 := sumZ_bound (f := iz b xs) (M := 2 * M) (k + 1) (fun j hj => (rz_bound h j (by omega)).2)
    have hkk : 2 * M * (k + 1) ≤ 2 * M * 16 := Nat.mul_le_mul_left _ (by omega)
    have zs := i2.add zm (by
      have : sumZ (rz b xs) k + (aZ xs k * cz (b * k) - bZ xs k * sz (b * k)) = sumZ (rz b xs) (k + 1) := rfl
      rw [this]; omega) (by
      have : sumZ (iz b xs) k + (aZ xs k * sz (b * k) + bZ xs k * cz (b * k)) = sumZ (iz b xs) (k + 1) := rfl
      rw [this]; omega)
    have e1 : tsW b xs (k + 1) = adW (tsW b xs k) (mlW (xs.getD k (0, 0)) (turnF (b * k))) := rfl
    refine ⟨fun j hj => ?_, by rw [e1]; exact zs⟩
    rcases (by omega : j < k ∨ j = k) with hh | hh
    · exact i1 j hh
    · subst hh; exact ⟨mo, by rw [e1]; exact ⟨zs.f1, zs.f2⟩⟩

/-- The plain sum of all numbers. -/
def sxW (xs : List (Nat × Nat)) : Nat → Nat × Nat
  | 0 => (0, 0)
  | k + 1 => adW (sxW xs k) (xs.getD k (0, 0))
theorem sx_zp {M : Nat} {xs : List (Nat × Nat)} (h : ZS M xs) (hl : xs.length ≤ 16) (hM : M ≤ 100000) : ∀ k, k ≤ xs.length → ZP (sxW xs k) (sumZ (aZ xs) k) (sumZ (bZ xs) k) := by
  intro k
  induction k with
  | zero => intro _; exact ZP.zero
  | succ k ih =>
    intro hk
    obtain ⟨z1, m1, m2⟩ := h k (by omega)
    have s1 := sumZ_bound (f := aZ xs) (M := M) (k + 1) (fun j hj => (h j (by omega)).2.1)
    have s2 := sumZ_bound (f := bZ xs) (M := M) (k + 1) (fun j hj => (h j (by omega)).2.2)
    have hkk : M * (k + 1) ≤ M * 16 := Nat.mul_le_mul_left _ (by omega)
    exact (ih (by omega)).add z1 (by
      have : sumZ (aZ xs) k + aZ xs k = sumZ (aZ xs) (k + 1) := rfl
      rw [this]; omega) (by
      have : sumZ (bZ xs) k + bZ xs k = sumZ (bZ xs) (k + 1) := rfl
      rw [this]; omega)
/-- The number 0 of the spectrum is the plain sum. -/
theorem ts_sx {M : Nat} {xs : List (Nat × Nat)} (h : ZS M xs) (hl : xs.length ≤ 16) (hM : M ≤ 100000) : FinP (tsW 0 xs xs.length) ∧ FinP (sxW xs xs.length) ∧ EqP (tsW 0 xs xs.length) (sxW xs xs.length) := by
  have z1 := (ts_zp h hl hM (b := 0) (by omega) (by omega) (by omega) xs.length (Nat.le_refl _)).2
  have z2 := sx_zp h hl hM xs.length (Nat.le_refl _)
  have e1 : sumZ (rz 0 xs) xs.length = sumZ (aZ xs) xs.length := sumZ_congr _ (fun j _ => by
    unfold rz; rw [Int.zero_mul]
    have a : cz 0 = 1 := rfl
    have b : sz 0 = 0 := rfl
    rw [a, b]; omega)
  have e2 : sumZ (iz 0 xs) xs.length = sumZ (bZ xs) xs.length := sumZ_congr _ (fun j _ => by
    unfold iz; rw [Int.zero_mul]
    have a : cz 0 = 1 := rfl
    have b : sz 0 = 0 := rfl
    rw [a, b]; omega)
  rw [e1, e2] at z1
  exact ZP.eqP z1 z2
end Go.Proofs.Ytapncffjfaddgaa
