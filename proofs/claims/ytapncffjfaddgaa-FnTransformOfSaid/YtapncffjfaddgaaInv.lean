/- Forth and back over whole numbers, for 1, 2 and 4 points: exact. -/
import Derived.Test.YtapncffjfaddgaaBack
namespace Go.FV
open Ieee Go.FR
theorem Qd.fin {q : Rat} {r : Nat} (h : Qd q r) : Fin single r := by obtain ⟨d, e, _, _, _, h⟩ := h; exact h.fin
theorem qd_int {n : Int} {r : Nat} (h : Qd (n : Rat) r) (hn : n.natAbs ≤ 16777216) : V single r = (n : Rat) := by
  obtain ⟨d, e, _, h2, h3, h4⟩ := h
  have hd := h2 n rfl (by omega)
  rw [hd] at h3
  have e1 := h3.exact n 0 (by rw [lp64]; omega) (by rw [p2_zero]; grind) (by rw [b64]; omega)
  rw [e1] at h4
  exact h4.exact n 0 (by rw [lp32]; omega) (by rw [p2_zero]; grind) (by rw [b32]; omega)
end Go.FV
namespace Go.Proofs.Ytapncffjfaddgaa
open Go.RowKit Go.FR Go.FV

/-- A whole sum that the number of points divides. -/
theorem qu_zp {s : Nat × Nat} {N : Nat} {R I Q1 Q2 : Int} (hN : N ∈ [1, 2, 4, 8, 16]) (h : ZP s R I) (h1 : Q1 * (N : Int) = R) (h2 : Q2 * (N : Int) = I) (b1 : Q1.natAbs ≤ 1000000) (b2 : Q2.natAbs ≤ 1000000) :
    QuOk s N ∧ ZP (quW s N) Q1 Q2 := by
  have hb : ∀ Q : Int, Q.natAbs ≤ 1000000 → Within (Q : Rat) 1000000 := fun Q hQ => by
    have := int_within (n := Q) (b := 1000000) (by omega)
    have e : ((1000000 : Int) : Rat) = 1000000 := by decide +kernel
    rw [e] at this; exact this
  obtain ⟨k1, k2, k3⟩ := quo_spec (q1 := (Q1 : Rat)) (q2 := (Q2 : Rat)) (b := 1000000) hN h.f1 h.f2 (by rw [h.v1, ← h1, Rat.intCast_mul]; rfl) (by rw [h.v2, ← h2, Rat.intCast_mul]; rfl) (hb _ b1) (hb _ b2) (by decide +kernel) (by unfold hugeQ; decide +kernel)
  exact ⟨⟨k1, k2.fin, k3.fin⟩, k2.fin, k3.fin, qd_int k2 (by omega), qd_int k3 (by omega)⟩

theorem tr_at {n k : Nat} {xs : List (Nat × Nat)} (hk : k < n) : (trL n xs).getD k (0, 0) = tsW (trB n k) xs n := by
  rw [List.getD_eq_getElem?_getD, trL_at n xs k hk]; rfl
theorem bk_at {n k : Nat} {xs : List (Nat × Nat)} (hk : k < n) : (bkL n xs).getD k (0, 0) = bkW n xs k := by
  rw [List.getD_eq_getElem?_getD, bkL_at n xs k hk]; rfl
theorem four_div {n k : Nat} (hn : n = 1 ∨ n = 2 ∨ n = 4) : trB n k % 4 = 0 ∧ bkB n k % 4 = 0 := by
  rcases hn with rfl | rfl | rfl <;> simp [trB, bkB] <;> omega

/-- The spectrum of a whole signal. -/
theorem tr_zs {M n : Nat} {xs : List (Nat × Nat)} (hn : n = 1 ∨ n = 2 ∨ n = 4) (hl : xs.length = n) (h : ZS M xs) (hM : M ≤ 10000) :
    (∀ k, k < n → TsOk (trB n k) xs) ∧ ZS (2 * M * 4) (trL n xs) ∧ ∀ k, k < n → aZ (trL n xs) k = sumZ (rz (trB n k) xs) n ∧ bZ (trL n xs) k = sumZ (iz (trB n k) xs) n := by
  have key : ∀ k, k < n → TsOk (trB n k) xs ∧ ZP (tsW (trB n k) xs n) (sumZ (rz (trB n k) xs) n) (sumZ (iz (trB n k) xs) n) := by
    intro k hk
    have hb := trB_bound n k (by omega) hk
    have := ts_zp h (by omega) (by omega) (four_div hn).1 hb.1 hb.2 n (by omega)
    exact ⟨fun j hj => this.1 j (by omega), this.2⟩
  have val : ∀ k, k < n → aZ (trL n xs) k = sumZ (rz (trB n k) xs) n ∧ bZ (trL n xs) k = sumZ (iz (trB n k) xs) n := by
    intro k hk
    have := (key k hk).2
    unfold aZ bZ
    rw [tr_at hk]
    exact ⟨zN_eq this.v1, zN_eq this.v2⟩
  refine ⟨fun k hk => (key k hk).1, fun k hk => ?_, val⟩
  rw [trL_len] at hk
  obtain ⟨v1, v2⟩ := val k hk
  rw [v1, v2, tr_at hk]
  have s1 := sumZ_bound (f := rz (trB n k) xs) (M := 2 * M) n (fun j hj => (rz_bound h j (by omega)).1)
  have s2 := sumZ_bound (f := iz (trB n k) xs) (M := 2 * M) n (fun j hj => (rz_bound h j (by omega)).2)
  have hle : 2 * M * n ≤ 2 * M * 4 := Nat.mul_le_mul_left _ (by omega)
  exact ⟨(key k hk).2, by omega, by omega⟩
/-- The signal of a whole spectrum whose sums the number of points divides. -/
theorem bk_zs {M n : Nat} {xs : List (Nat × Nat)} (hn : n = 1 ∨ n = 2 ∨ n = 4) (hl : xs.length = n) (h : ZS M xs) (hM : M ≤ 10000) (A B : Nat → Int)
    (hA : ∀ k, k < n → A k * (n : Int) = sumZ (rz (bkB n k) xs) n) (hB : ∀ k, k < n → B k * (n : Int) = sumZ (iz (bkB n k) xs) n) :
    (∀ k, k < n → TsOk (bkB n k) xs ∧ QuOk (tsW (bkB n k) xs n) n) ∧ ZS (2 * M * 4) (bkL n xs) ∧ ∀ k, k < n → aZ (bkL n xs) k = A k ∧ bZ (bkL n xs) k = B k := by
  have hN : n ∈ [1, 2, 4, 8, 16] := by rcases hn with rfl | rfl | rfl <;> decide
  have bnd : ∀ k, k < n → (A k).natAbs ≤ 2 * M * 4 ∧ (B k).natAbs ≤ 2 * M * 4 := by
    intro k hk
    have s1 := sumZ_bound (f := rz (bkB n k) xs) (M := 2 * M) n (fun j hj => (rz_bound h j (by omega)).1)
    have s2 := sumZ_bound (f := iz (bkB n k) xs) (M := 2 * M) n (fun j hj => (rz_bound h j (by omega)).2)
    rw [← hA k hk] at s1
    rw [← hB k hk] at s2
    have hle : 2 * M * n ≤ 2 * M * 4 := Nat.mul_le_mul_left _ (by omega)
    rcases hn with rfl | rfl | rfl <;> constructor <;> omega
  have key : ∀ k, k < n → TsOk (bkB n k) xs ∧ QuOk (tsW (bkB n k) xs n) n ∧ ZP (bkW n xs k) (A k) (B k) := by
    intro k hk
    have hb := bkB_bound n k (by omega) hk
    have := ts_zp h (by omega) (by omega) (four_div hn).2 hb.1 hb.2 n (by omega)
    obtain ⟨c1, c2⟩ := bnd k hk
    have hq := qu_zp hN this.2 (hA k hk) (hB k hk) (by omega) (by omega)
    exact ⟨fun j hj => this.1 j (by omega), hq.1, hq.2⟩
  have val : ∀ k, k < n → aZ (bkL n xs) k = A k ∧ bZ (bkL n xs) k = B k := by
    intro k hk
    have := (key k hk).2.2
    unfold aZ bZ
    rw [bk_at hk]
    exact ⟨zN_eq this.v1, zN_eq this.v2⟩
  refine ⟨fun k hk => ⟨(key k hk).1, (key k hk).2.1⟩, fun k hk => ?_, val⟩
  rw [bkL_len] at hk
  obtain ⟨v1, v2⟩ := val k hk
  obtain ⟨c1, c2⟩ := bnd k hk
  rw [v1, v2, bk_at hk]
  exact ⟨(key k hk).2.2, by omega, by omega⟩
theorem zs_eq {M M' : Nat} {xs ys : List (Nat × Nat)} (hl : xs.length = ys.length) (h : ZS M xs) (h' : ZS M' ys) (he : ∀ k, k < xs.length → aZ xs k = aZ ys k ∧ bZ xs k = bZ ys k) : EqS xs ys := by
  refine ⟨hl, fun i h1 h2 => ?_⟩
  have a := (h i h1).1
  have b := (h' i h2).1
  obtain ⟨e1, e2⟩ := he i h1
  rw [← e1, ← e2] at b
  have g1 : xs.getD i (0, 0) = xs[i] := by simp [h1]
  have g2 : ys.getD i (0, 0) = ys[i] := by simp [h2]
  rw [g1] at a
  rw [g2] at b
  exact ZP.eqP a b
/-- Forth and back. -/
theorem forth_back {n : Nat} {xs ys : List (Nat × Nat)} (hn : n = 1 ∨ n = 2 ∨ n = 4) (h : ∀ k, k < n → aZ ys k = sumZ (rz (trB n k) xs) n ∧ bZ ys k = sumZ (iz (trB n k) xs) n) :
    ∀ m, m < n → aZ xs m * (n : Int) = sumZ (rz (bkB n m) ys) n ∧ bZ xs m * (n : Int) = sumZ (iz (bkB n m) ys) n := by
  rcases hn with rfl | rfl | rfl
  · have h0 := h 0 (by omega)
    intro m hm
    have : m = 0 := by omega
    subst this
    simp [sumZ, rz, iz, cz, sz, trB, bkB] at h0 ⊢
    omega
  · have h0 := h 0 (by omega)
    have h1 := h 1 (by omega)
    intro m hm
    rcases (by omega : m = 0 ∨ m = 1) with rfl | rfl
    all_goals
      simp [sumZ, rz, iz, cz, sz, trB, bkB] at h0 h1 ⊢
      omega
  · have h0 := h 0 (by omega)
    have h1 := h 1 (by omega)
    have h2 := h 2 (by omega)
    have h3 := h 3 (by omega)
    intro m hm
    rcases (by omega : m = 0 ∨ m = 1 ∨ m = 2 ∨ m = 3) with rfl | rfl | rfl | rfl
    all_goals
      simp [sumZ, rz, iz, cz, sz, trB, bkB] at h0 h1 h2 h3 ⊢
      omega
/-- Back and forth. -/
theorem back_forth {n : Nat} {xs ys : List (Nat × Nat)} (hn : n = 1 ∨ n = 2 ∨ n = 4) (h : ∀ k, k < n → aZ ys k * (n : Int) = sumZ (rz (bkB n k) xs) n ∧ bZ ys k * (n : Int) = sumZ (iz (bkB n k) xs) n) :
    ∀ m, m < n → sumZ (rz (trB n m) ys) n = aZ xs m ∧ sumZ (iz (trB n m) ys) n = bZ xs m := by
  rcases hn with rfl | rfl | rfl
  · have h0 := h 0 (by omega)
    intro m hm
    have : m = 0 := by omega
    subst this
    simp [sumZ, rz, iz, cz, sz, trB, bkB] at h0 ⊢
    omega
  · have h0 := h 0 (by omega)
    have h1 := h 1 (by omega)
    intro m hm
    rcases (by omega : m = 0 ∨ m = 1) with rfl | rfl
    all_goals
      simp [sumZ, rz, iz, cz, sz, trB, bkB] at h0 h1 ⊢
      omega
  · have h0 := h 0 (by omega)
    have h1 := h 1 (by omega)
    have h2 := h 2 (by omega)
    have h3 := h 3 (by omega)
    intro m hm
    rcases (by omega : m = 0 ∨ m = 1 ∨ m = 2 ∨ m = 3) with rfl | rfl | rfl | rfl
    all_goals
      simp [sumZ, rz, iz, cz, sz, trB, bkB] at h0 h1 h2 h3 ⊢
      omega
/-- Multiples of 4: the number of points divides each sum. -/
theorem fours_div {n : Nat} {xs : List (Nat × Nat)} (hn : n = 1 ∨ n = 2 ∨ n = 4) (A B : Nat → Int) (h : ∀ k, k < n → aZ xs k = 4 * A k ∧ bZ xs k = 4 * B k) :
    ∀ m, m < n → sumZ (rz (bkB n m) xs) n / (n : Int) * (n : Int) = sumZ (rz (bkB n m) xs) n ∧ sumZ (iz (bkB n m) xs) n / (n : Int) * (n : Int) = sumZ (iz (bkB n m) xs) n := by
  rcases hn with rfl | rfl | rfl
  · intro m hm
    simp
  · have h0 := h 0 (by omega)
    have h1 := h 1 (by omega)
    intro m hm
    rcases (by omega : m = 0 ∨ m = 1) with rfl | rfl
    all_goals
      simp [sumZ, rz, iz, cz, sz, bkB] at h0 h1 ⊢
      omega
  · have h0 := h 0 (by omega)
    have h1 := h 1 (by omega)
    have h2 := h 2 (by omega)
    have h3 := h 3 (by omega)
    intro m hm
    rcases (by omega : m = 0 ∨ m = 1 ∨ m = 2 ∨ m = 3) with rfl | rfl | rfl | rfl
    all_goals
      simp [sumZ, rz, iz, cz, sz, bkB] at h0 h1 h2 h3 ⊢
      omega
end Go.Proofs.Ytapncffjfaddgaa
