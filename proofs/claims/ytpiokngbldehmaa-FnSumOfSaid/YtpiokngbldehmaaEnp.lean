/- What the energy is worth: at least 0; a whole number, and additive, for whole numbers. -/
import Derived.Test.YtpiokngbldehmaaWholes
namespace Go.FV
open Ieee Go.FR

/-- A sum of two whole numbers that are not too great, as float64: exact. -/
theorem ad_int {s t : Nat} {m n : Int} (hs : Fin double s) (ht : Fin double t) (h1 : V double s = (m : Rat)) (h2 : V double t = (n : Rat)) (b1 : m.natAbs ≤ 1000000000) (b2 : n.natAbs ≤ 1000000000) :
    floatBits .add .f64 s t = some (ad s t) ∧ Fin double (ad s t) ∧ V double (ad s t) = ((m + n : Int) : Rat) := by
  obtain ⟨r, h3, h4⟩ := add_rnd good64 hs ht
  have b : floatBits .add .f64 s t = some r := h3
  have e : ad s t = r := by unfold ad; rw [b]; rfl
  have hv : V double s + V double t = ((m + n : Int) : Rat) := by rw [h1, h2, Rat.intCast_add]
  have hl : Within (V double s + V double t) (lim double) := by
    rw [hv]
    refine within_mono (int_within (n := m + n) (b := 2000000000) (by omega)) ?_
    have h1 := lim64_ge
    have h2 : p2 (31 : Nat) ≤ p2 512 := p2_mono (by omega)
    rw [p2_nat] at h2
    have h3 : ((2 ^ 31 : Nat) : Rat) = 2147483648 := by decide +kernel
    rw [h3] at h2
    have h5 : ((2000000000 : Int) : Rat) = 2000000000 := by decide +kernel
    rw [h5]
    grind
  have hr := h4 hl
  rw [e]
  refine ⟨b, hr.fin, ?_⟩
  have := hr.exact (m + n) 0 (by rw [lp64]; omega) (by rw [hv, p2_zero]; grind) (by rw [b64]; omega)
  rw [this, hv]

/-- The whole number that a word stands for. -/
def vN (x : Nat) : Int := (V single x).num
theorem vN_eq {x : Nat} {n : Int} (h : V single x = (n : Rat)) : vN x = n := by unfold vN; rw [h]; rfl
/-- The squares of both parts. -/
def eN1 (p : Nat × Nat) : Int := vN p.1 * vN p.1 + vN p.2 * vN p.2
def eN : List (Nat × Nat) → Int
  | [] => 0
  | p :: xs => eN1 p + eN xs
theorem eN_append (xs ys : List (Nat × Nat)) : eN (xs ++ ys) = eN xs + eN ys := by
  induction xs with
  | nil => simp [eN]
  | cons p xs ih => simp only [List.cons_append, eN, ih]; omega
theorem sq_int {x : Nat} {n : Int} (hx : Fin single x) (h : V single x = (n : Rat)) : Fin double (sq x) ∧ V double (sq x) = ((n * n : Int) : Rat) := by
  obtain ⟨_, f, v⟩ := sq_spec hx
  exact ⟨f, by rw [v, h, Rat.intCast_mul]⟩
/-- Both parts whole and from -10 on and at most 10. -/
def SmInt (p : Nat × Nat) : Prop := ∃ m n : Int, m.natAbs ≤ 10 ∧ n.natAbs ≤ 10 ∧ Fin single p.1 ∧ V single p.1 = (m : Rat) ∧ Fin single p.2 ∧ V single p.2 = (n : Rat)
theorem SmInt.eN1 {p : Nat × Nat} (h : SmInt p) : 0 ≤ eN1 p ∧ eN1 p ≤ 200 := by
  obtain ⟨m, n, h1, h2, _, h3, _, h4⟩ := h
  unfold FV.eN1
  rw [vN_eq h3, vN_eq h4]
  have key : ∀ k : Int, k.natAbs ≤ 10 → 0 ≤ k * k ∧ k * k ≤ 100 := by
    intro k hk
    have e : k * k = ((k.natAbs * k.natAbs : Nat) : Int) := Int.natAbs_mul_self.symm
    have := Nat.mul_le_mul hk hk
    omega
  have a := key m h1
  have b := key n h2
  omega
theorem enS_int {s : Nat} {k : Int} {p : Nat × Nat} (hs : Fin double s) (hv : V double s = (k : Rat)) (hk : 0 ≤ k ∧ k ≤ 1000000) (hp : SmInt p) :
    Fin double (enS s p) ∧ V double (enS s p) = ((k + eN1 p : Int) : Rat) := by
  have hb := hp.eN1
  obtain ⟨m, n, h1, h2, f1, h3, f2, h4⟩ := hp
  have e1 : FV.eN1 p = m * m + n * n := by unfold FV.eN1; rw [vN_eq h3, vN_eq h4]
  have key : ∀ k : Int, k.natAbs ≤ 10 → 0 ≤ k * k ∧ k * k ≤ 100 := by
    intro k hk
    have e : k * k = ((k.natAbs * k.natAbs : Nat) : Int) := Int.natAbs_mul_self.symm
    have := Nat.mul_le_mul hk hk
    omega
  have a := key m h1
  have b := key n h2
  obtain ⟨g1, v1⟩ := sq_int f1 h3
  obtain ⟨g2, v2⟩ := sq_int f2 h4
  rw [e1]
  generalize m * m = mm at *
  generalize n * n = nn at *
  obtain ⟨_, c1, w1⟩ := ad_int hs g1 hv v1 (by omega) (by omega)
  obtain ⟨_, c2, w2⟩ := ad_int c1 g2 w1 v2 (by omega) (by omega)
  refine ⟨c2, ?_⟩
  unfold enS
  rw [w2]; congr 1; omega
theorem enFold_int (xs : List (Nat × Nat)) : ∀ (s : Nat) (k : Int), Fin double s → V double s = (k : Rat) → 0 ≤ k → k + 200 * (xs.length : Int) ≤ 1000000 → (∀ p ∈ xs, SmInt p) →
    Fin double (xs.foldl enS s) ∧ V double (xs.foldl enS s) = ((k + eN xs : Int) : Rat) := by
  induction xs with
  | nil => intro s k h1 h2 _ _ _; exact ⟨h1, by simp only [List.foldl_nil, eN, Int.add_zero]; exact h2⟩
  | cons p xs ih =>
    intro s k h1 h2 h3 h4 h5
    have hp := h5 p (List.mem_cons_self ..)
    have hb := hp.eN1
    have hlen : ((p :: xs).length : Int) = xs.length + 1 := by simp
    rw [hlen] at h4
    obtain ⟨a1, a2⟩ := enS_int h1 h2 ⟨h3, by omega⟩ hp
    obtain ⟨b1, b2⟩ := ih (enS s p) (k + eN1 p) a1 a2 (by omega) (by omega) (fun q hq => h5 q (List.mem_cons_of_mem _ hq))
    simp only [List.foldl_cons, eN]
    refine ⟨b1, ?_⟩
    rw [b2]; congr 1; omega
theorem enF_int {xs : List (Nat × Nat)} (hl : xs.length ≤ 17) (h : ∀ p ∈ xs, SmInt p) : Fin double (enF xs) ∧ V double (enF xs) = ((eN xs : Int) : Rat) := by
  have z := zero_fin .f64
  have := enFold_int xs 0 0 z.1 (by have := z.2; rw [fmt64] at this; rw [this]; rfl) (by omega) (by omega) h
  rw [Int.zero_add] at this
  exact this
theorem eN_bound {xs : List (Nat × Nat)} (h : ∀ p ∈ xs, SmInt p) : 0 ≤ eN xs ∧ eN xs ≤ 200 * (xs.length : Int) := by
  induction xs with
  | nil => simp [eN]
  | cons p xs ih =>
    have hp := (h p (List.mem_cons_self ..)).eN1
    have := ih (fun q hq => h q (List.mem_cons_of_mem _ hq))
    have hlen : ((p :: xs).length : Int) = xs.length + 1 := by simp
    simp only [eN]; rw [hlen]; omega
end Go.FV
namespace Go.Proofs.Ytpiokngbldehmaa
open Go.RowKit Go.FR Go.FV
theorem WholeP.int {p : Nat × Nat} (h : WholeP p) : SmInt p := by
  obtain ⟨m, m1, m2, f1, v1⟩ := wholeL_int h.1
  obtain ⟨n, n1, n2, f2, v2⟩ := wholeL_int h.2
  exact ⟨m, n, by omega, by omega, f1, v1, f2, v2⟩
theorem enF_take_b {xs : List (Nat × Nat)} (hok : okB xs = true) : ∀ k, k ≤ xs.length → EnB (enF (xs.take k)) k := by
  intro k
  obtain ⟨hl, hall⟩ := okB_iff.1 hok
  induction k with
  | zero => intro _; exact enB_zero
  | succ k ih =>
    intro hk
    rw [enF_take k (by omega)]
    have hm := hall _ (List.getElem_mem (by omega : k < xs.length))
    exact (enS_spec (ih (by omega)) (by omega) hm.1 hm.2).2.2
theorem enF_ok {xs : List (Nat × Nat)} (hok : okB xs = true) : FV.Fin Ieee.double (enF xs) ∧ 0 ≤ V Ieee.double (enF xs) := by
  have := enF_take_b hok xs.length (Nat.le_refl _)
  rw [List.take_length] at this
  exact ⟨this.1, this.2.1⟩
theorem enV_ok {xs : List (Nat × Nat)} (hok : okB xs = true) : enV xs = enF xs := by unfold enV; rw [hok]; rfl
theorem enV_no {xs : List (Nat × Nat)} (hok : okB xs = false) : enV xs = 13830554455654793216 := by unfold enV; rw [hok]; rfl
end Go.Proofs.Ytpiokngbldehmaa
