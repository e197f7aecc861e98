/- Sums of products with turns: they run, they are finite, and how far they are from the exact sums. -/
import Derived.Test.YtapncffjfaddgaaPlus
import Derived.Test.YtapncffjfaddgaaDraws
namespace Go.FV
open Ieee Go.FR

/-- The sum of the first k values. -/
def sumR (f : Nat → Rat) : Nat → Rat
  | 0 => 0
  | k + 1 => sumR f k + f k
theorem sumR_mono {f : Nat → Rat} {n : Nat} (h : ∀ k, k < n → 0 ≤ f k) : ∀ d k, k + d ≤ n → sumR f k ≤ sumR f (k + d) := by
  intro d
  induction d with
  | zero => intro k _; exact Rat.le_refl
  | succ d ih =>
    intro k hk
    have h1 := ih k (by omega)
    have h2 := h (k + d) (by omega)
    have e : sumR f (k + (d + 1)) = sumR f (k + d) + f (k + d) := rfl
    rw [e]
    grind
theorem sumR_le {f : Nat → Rat} {n : Nat} (h : ∀ k, k < n → 0 ≤ f k) (k : Nat) (hk : k < n) : sumR f k + f k ≤ sumR f n := by
  have := sumR_mono h (n - (k + 1)) (k + 1) (by omega)
  rw [show k + 1 + (n - (k + 1)) = n by omega] at this
  exact this
theorem sumR_nonneg {f : Nat → Rat} {n : Nat} (h : ∀ k, k < n → 0 ≤ f k) : ∀ k, k ≤ n → 0 ≤ sumR f k := by
  intro k hk
  have := sumR_mono h k 0 (by omega)
  rw [Nat.zero_add] at this
  exact this
/-- How far the first k sums may be off. -/
def eB (T : Rat) (k : Nat) : Rat := (k : Rat) * (T / 5000000)
theorem eB_zero (T : Rat) : eB T 0 = 0 := by unfold eB; simp
theorem eB_succ (T : Rat) (k : Nat) : eB T (k + 1) = eB T k + T / 5000000 := by
  unfold eB
  rw [Rat.natCast_add, Rat.add_mul]
  grind
theorem eB_le {T : Rat} {k : Nat} (hT : 0 ≤ T) (hk : k ≤ 16) : 0 ≤ eB T k ∧ eB T k ≤ T / 1000 := by
  unfold eB
  have h1 : (k : Rat) ≤ 16 := by exact_mod_cast hk
  have h0 : (0 : Rat) ≤ (k : Rat) := by exact_mod_cast Nat.zero_le k
  have h2 : 0 ≤ T / 5000000 := by grind
  have h3 := Rat.mul_le_mul_of_nonneg_right h1 h2
  have h4 := Rat.mul_nonneg h0 h2
  constructor <;> grind

/-- One step: a product added to a sum. -/
theorem step_err {s p t : Nat × Nat} {re im ar ai B e β T : Rat} (hs1 : Fin single s.1) (hs2 : Fin single s.2) (hp1 : Fin single p.1) (hp2 : Fin single p.2) (ht1 : Fin single t.1) (ht2 : Fin single t.2)
    (hre : re = V single p.1 * V single t.1 - V single p.2 * V single t.2) (him : im = V single p.1 * V single t.2 + V single p.2 * V single t.1)
    (w1 : Within re β) (w2 : Within im β) (hT : 1 ≤ T) (hTq : T + T / 100 ≤ hugeQ) (_h0 : 0 ≤ β) (hB0 : 0 ≤ B) (hB : B + β ≤ T) (_he0 : 0 ≤ e) (he : e ≤ T / 1000)
    (b1 : Within ar B) (b2 : Within ai B) (d1 : Within (V single s.1 - ar) e) (d2 : Within (V single s.2 - ai) e) :
    MulOk p t ∧ (Fin single (adW s (mlW p t)).1 ∧ Fin single (adW s (mlW p t)).2) ∧ Within (V single (adW s (mlW p t)).1 - (ar + re)) (e + T / 5000000) ∧ Within (V single (adW s (mlW p t)).2 - (ai + im)) (e + T / 5000000) := by
  obtain ⟨x, y, h3, r1, r2⟩ := mulC_spec hp1 hp2 ht1 ht2 (by rw [← hre]; unfold Within at *; constructor <;> grind) (by rw [← him]; unfold Within at *; constructor <;> grind)
  rw [← hre] at r1
  rw [← him] at r2
  have em : mlW p t = (x, y) := by unfold mlW; rw [h3]; rfl
  have q1 := r1.err (b := T) (by unfold Within at *; constructor <;> grind) hT
  have q2 := r2.err (b := T) (by unfold Within at *; constructor <;> grind) hT
  obtain ⟨u, v, h4, a1, a2⟩ := addC_spec hs1 hs2 r1.fin r2.fin
  have hlim : T + T / 100 ≤ lim single := by have := lim32_big; have := hugeQ_one; grind
  have k1 : Within (V single s.1 + V single x) (T + T / 100) := by unfold Within at *; constructor <;> grind
  have k2 : Within (V single s.2 + V single y) (T + T / 100) := by unfold Within at *; constructor <;> grind
  have a1 := a1 (within_mono k1 hlim)
  have a2 := a2 (within_mono k2 hlim)
  have g1 := err32 a1 k1 (by grind)
  have g2 := err32 a2 k2 (by grind)
  have ea : adW s (mlW p t) = (u, v) := by rw [em]; unfold adW; rw [h4]; rfl
  rw [ea]
  refine ⟨⟨by rw [em]; exact h3, by rw [em]; exact r1.fin, by rw [em]; exact r2.fin⟩, ⟨a1.fin, a2.fin⟩, ?_, ?_⟩
  · simp only
    unfold Within at *
    constructor <;> grind
  · simp only
    unfold Within at *
    constructor <;> grind
end Go.FV
namespace Go.Proofs.Ytapncffjfaddgaa
open Go.RowKit Go.FR Go.FV

/-- The exact parts of a product. -/
def reP (p t : Nat × Nat) : Rat := V Ieee.single p.1 * V Ieee.single t.1 - V Ieee.single p.2 * V Ieee.single t.2
def imP (p t : Nat × Nat) : Rat := V Ieee.single p.1 * V Ieee.single t.2 + V Ieee.single p.2 * V Ieee.single t.1
def reT (b : Int) (xs : List (Nat × Nat)) (k : Nat) : Rat := reP (xs.getD k (0, 0)) (turnF (b * k))
def imT (b : Int) (xs : List (Nat × Nat)) (k : Nat) : Rat := imP (xs.getD k (0, 0)) (turnF (b * k))

theorem turnL_le : ∀ t ∈ ((0, 0) : Nat × Nat) :: turnL, (finB t.1 = true ∧ finB t.2 = true) ∧ (-1 ≤ V Ieee.single t.1 ∧ V Ieee.single t.1 ≤ 1) ∧ (-1 ≤ V Ieee.single t.2 ∧ V Ieee.single t.2 ≤ 1) := by decide +kernel
theorem turnF_mem (k : Int) : turnF k ∈ ((0, 0) : Nat × Nat) :: turnL := by
  unfold turnF
  by_cases h : -9999 ≤ k ∧ k ≤ 9999
  · rw [if_pos h]
    have hlt : (k % 16).toNat < 16 := by have := Int.emod_lt_of_pos k (by omega : (0 : Int) < 16); omega
    refine List.mem_cons_of_mem _ ?_
    unfold turnT
    rw [List.getD_eq_getElem?_getD, List.getElem?_eq_getElem (by simpa [turnL] using hlt)]
    exact List.getElem_mem _
  · rw [if_neg h]; exact List.mem_cons_self ..
theorem turnF_le (k : Int) : FinP (turnF k) ∧ Within (V Ieee.single (turnF k).1) 1 ∧ Within (V Ieee.single (turnF k).2) 1 := turnL_le _ (turnF_mem k)

theorem ts_bound (b : Int) (xs : List (Nat × Nat)) (β : Nat → Rat) (T : Rat) (hl : xs.length ≤ 16) (hf : ∀ k, k < xs.length → FinP (xs.getD k (0, 0))) (h0 : ∀ k, k < xs.length → 0 ≤ β k)
    (h1 : ∀ k, k < xs.length → Within (reT b xs k) (β k) ∧ Within (imT b xs k) (β k)) (hT : 1 ≤ T) (hTq : T + T / 100 ≤ hugeQ) (hs : sumR β xs.length ≤ T) :
    ∀ k, k ≤ xs.length → (∀ j, j < k → MulOk (xs.getD j (0, 0)) (turnF (b * j)) ∧ FinP (tsW b xs (j + 1))) ∧ FinP (tsW b xs k) ∧
      Within (sumR (reT b xs) k) (sumR β k) ∧ Within (sumR (imT b xs) k) (sumR β k) ∧
      Within (V Ieee.single (tsW b xs k).1 - sumR (reT b xs) k) (eB T k) ∧ Within (V Ieee.single (tsW b xs k).2 - sumR (imT b xs) k) (eB T k) := by
  intro k
  induction k with
  | zero =>
    intro _
    have z := ZP.zero
    have v1 : V Ieee.single (0 : Nat) = 0 := z.v1
    refine ⟨fun j hj => by omega, ⟨z.f1, z.f2⟩, ?_⟩
    show Within (0 : Rat) 0 ∧ Within (0 : Rat) 0 ∧ Within (V Ieee.single (0 : Nat) - 0) (eB T 0) ∧ Within (V Ieee.single (0 : Nat) - 0) (eB T 0)
    rw [v1, eB_zero]
    unfold Within
    refine ⟨⟨?_, ?_⟩, ⟨?_, ?_⟩, ⟨?_, ?_⟩, ⟨?_, ?_⟩⟩ <;> grind
  | succ k ih =>
    intro hk
    obtain ⟨i1, i2, i3, i4, i5, i6⟩ := ih (by omega)
    obtain ⟨tf, t1, t2⟩ := turnF_le (b * k)
    have hp := hf k (by omega)
    obtain ⟨w1, w2⟩ := h1 k (by omega)
    have hb0 := sumR_nonneg h0 k (by omega)
    have hbs := sumR_le h0 k (by omega)
    have he := eB_le (T := T) (k := k) (by grind) (by omega)
    obtain ⟨m1, m2, m3, m4⟩ := step_err (s := tsW b xs k) (p := xs.getD k (0, 0)) (t := turnF (b * k)) (re := reT b xs k) (im := imT b xs k) (ar := sumR (reT b xs) k) (ai := sumR (imT b xs) k) (B := sumR β k) (e := eB T k) (β := β k) (T := T)
      i2.1 i2.2 hp.1 hp.2 tf.1 tf.2 rfl rfl w1 w2 hT hTq (h0 k (by omega)) hb0 (by grind) he.1 he.2 i3 i4 i5 i6
    have e1 : tsW b xs (k + 1) = adW (tsW b xs k) (mlW (xs.getD k (0, 0)) (turnF (b * k))) := rfl
    refine ⟨fun j hj => ?_, ?_, ?_, ?_, ?_, ?_⟩
    · rcases (by omega : j < k ∨ j = k) with h | h
      · exact i1 j h
      · subst h; exact ⟨m1, by rw [e1]; exact m2⟩
    · rw [e1]; exact m2
    · exact within_add i3 w1
    · exact within_add i4 w2
    · rw [e1, eB_succ]; exact m3
    · rw [e1, eB_succ]; exact m4

/-- A drawn signal: at most one number is huge. -/
def hugeB : Rat := 300500000000000000000000000000000000000
theorem smallL_le : ∀ x ∈ smallL, -10 ≤ V Ieee.single x ∧ V Ieee.single x ≤ 10 := by decide +kernel
theorem huge_le : (-(100100000000000000000000000000000000000 : Rat) ≤ V Ieee.single hugeW ∧ V Ieee.single hugeW ≤ 100100000000000000000000000000000000000) ∧ (-(100100000000000000000000000000000000000 : Rat) ≤ V Ieee.single 4271273625 ∧ V Ieee.single 4271273625 ≤ 100100000000000000000000000000000000000) ∧
    (-(300400000000000000000000000000000000000 : Rat) ≤ V Ieee.single huge3W ∧ V Ieee.single huge3W ≤ 300400000000000000000000000000000000000) := by decide +kernel
theorem hugeT : (301000000000000000000000000000000000000 : Rat) + 301000000000000000000000000000000000000 / 100 ≤ hugeQ := by unfold hugeQ; decide +kernel
theorem part_le {a b c d A B : Rat} (ha : Within a A) (hb : Within b B) (hc : Within c 1) (hd : Within d 1) : Within (a * c - b * d) (A + B) ∧ Within (a * d + b * c) (A + B) := by
  have h1 := within_mul ha hc
  have h2 := within_mul hb hd
  have h3 := within_mul ha hd
  have h4 := within_mul hb hc
  rw [Rat.mul_one] at h1 h2 h3 h4
  exact ⟨within_sub h1 h2, within_add h3 h4⟩
theorem small_parts {p t : Nat × Nat} (hp : NumSm p) (ht : Within (V Ieee.single t.1) 1 ∧ Within (V Ieee.single t.2) 1) : Within (reP p t) 20 ∧ Within (imP p t) 20 := by
  have := part_le (a := V Ieee.single p.1) (b := V Ieee.single p.2) (A := 10) (B := 10) (smallL_le _ hp.1) (smallL_le _ hp.2) ht.1 ht.2
  have e : (10 : Rat) + 10 = 20 := by decide +kernel
  rw [e] at this
  exact this
theorem num_parts {p t : Nat × Nat} (hp : NumOk p) (hf : FinP p) (ht : Within (V Ieee.single t.1) 1 ∧ Within (V Ieee.single t.2) 1) : Within (reP p t) (20 + hugeB) ∧ Within (imP p t) (20 + hugeB) := by
  have mono : ∀ {x y : Rat} {B : Rat}, Within x B ∧ Within y B → B ≤ 20 + hugeB → Within x (20 + hugeB) ∧ Within y (20 + hugeB) := fun h k => ⟨within_mono h.1 k, within_mono h.2 k⟩
  rcases hp with h | h | ⟨h1, h2⟩ | h
  · exact mono (small_parts h ht) (by unfold hugeB; decide +kernel)
  · subst h
    exact mono (part_le (A := 100100000000000000000000000000000000000) (B := 100100000000000000000000000000000000000) huge_le.1 huge_le.2.1 ht.1 ht.2) (by unfold hugeB; decide +kernel)
  · refine mono (part_le (a := V Ieee.single p.1) (b := V Ieee.single p.2) (A := 300400000000000000000000000000000000000) (B := 10) (by rw [h1]; exact huge_le.2.2) (smallL_le _ h2) ht.1 ht.2) (by unfold hugeB; decide +kernel)
  · rw [hf.1, hf.2] at h; cases h
theorem sum_one (i : Nat) : ∀ k, sumR (fun j => 20 + (if j = i then hugeB else 0)) k ≤ 20 * (k : Rat) + hugeB ∧ (k ≤ i → sumR (fun j => 20 + (if j = i then hugeB else 0)) k ≤ 20 * (k : Rat)) := by
  have hh : (0 : Rat) ≤ hugeB := by unfold hugeB; decide +kernel
  intro k
  induction k with
  | zero =>
    have e : ((0 : Nat) : Rat) = 0 := rfl
    simp only [sumR]
    rw [e]
    exact ⟨by grind, fun _ => by grind⟩
  | succ k ih =>
    have e : ((k + 1 : Nat) : Rat) = (k : Rat) + 1 := by rw [Rat.natCast_add]; rfl
    simp only [sumR]
    rw [e]
    by_cases h : k = i
    · rw [if_pos h]
      have := ih.2 (by omega)
      exact ⟨by grind, fun hh => by omega⟩
    · rw [if_neg h]
      exact ⟨by have := ih.1; grind, fun hh => by have := ih.2 (by omega); grind⟩
/-- The sums of a drawn signal run and are finite. -/
theorem sig_ts' {xs : List (Nat × Nat)} (h : SigOk xs) (hok : okB xs = true) (b : Int) : TsOk b xs ∧ Within (V Ieee.single (tsW b xs xs.length).1) 301301000000000000000000000000000000000 ∧ Within (V Ieee.single (tsW b xs xs.length).2) 301301000000000000000000000000000000000 := by
  obtain ⟨hl, hf⟩ := okB_iff.1 hok
  obtain ⟨i, hi⟩ : ∃ i, ∀ k, k < xs.length → ∀ t : Nat × Nat, Within (V Ieee.single t.1) 1 ∧ Within (V Ieee.single t.2) 1 → Within (reP (xs.getD k (0, 0)) t) (20 + (if k = i then hugeB else 0)) ∧ Within (imP (xs.getD k (0, 0)) t) (20 + (if k = i then hugeB else 0)) := by
    have hh : (0 : Rat) ≤ hugeB := by unfold hugeB; decide +kernel
    have sm : ∀ (i k : Nat) (p t : Nat × Nat), NumSm p → Within (V Ieee.single t.1) 1 ∧ Within (V Ieee.single t.2) 1 → Within (reP p t) (20 + (if k = i then hugeB else 0)) ∧ Within (imP p t) (20 + (if k = i then hugeB else 0)) := by
      intro i k p t hp ht
      have := small_parts hp ht
      have hle : (20 : Rat) ≤ 20 + (if k = i then hugeB else 0) := by split <;> grind
      exact ⟨within_mono this.1 hle, within_mono this.2 hle⟩
    rcases h with h | ⟨ys, i, q, hy, hq, rfl⟩
    · refine ⟨0, fun k hk t ht => ?_⟩
      rw [List.getD_eq_getElem?_getD, List.getElem?_eq_getElem hk]
      exact sm 0 k _ t (h _ (List.getElem_mem hk)) ht
    · refine ⟨i, fun k hk t ht => ?_⟩
      have hfk := hf _ (List.getElem_mem hk)
      rw [List.getD_eq_getElem?_getD, List.getElem?_eq_getElem hk]
      simp only [Option.getD_some]
      by_cases e : k = i
      · subst e
        rw [if_pos rfl]
        rw [List.getElem_set_self] at hfk ⊢
        exact num_parts hq hfk ht
      · rw [List.getElem_set_ne (by omega)]
        exact sm i k _ t (hy _ (List.getElem_mem (by simpa using hk))) ht
  have hh : (0 : Rat) ≤ hugeB := by unfold hugeB; decide +kernel
  have hlq : (xs.length : Rat) ≤ 16 := by exact_mod_cast hl
  have := ts_bound b xs (fun j => 20 + (if j = i then hugeB else 0)) 301000000000000000000000000000000000000 hl (fun k hk => by
      rw [List.getD_eq_getElem?_getD, List.getElem?_eq_getElem hk]; exact hf _ (List.getElem_mem hk)) (fun k _ => by
      show (0 : Rat) ≤ 20 + (if k = i then hugeB else 0)
      split <;> grind) (fun k hk => hi k hk _ (turnF_le (b * k)).2) (by decide +kernel) hugeT (by
      have := (sum_one i xs.length).1
      have e : 20 * (16 : Rat) + hugeB ≤ 301000000000000000000000000000000000000 := by unfold hugeB; decide +kernel
      grind) xs.length (Nat.le_refl _)
  obtain ⟨r1, r2, r3, r4, r5, r6⟩ := this
  have he := (eB_le (T := 301000000000000000000000000000000000000) (k := xs.length) (by decide +kernel) hl).2
  have hs := (sum_one i xs.length).1
  have e : 20 * (16 : Rat) + hugeB ≤ 301000000000000000000000000000000000000 := by unfold hugeB; decide +kernel
  have hk : ∀ {v s : Rat}, Within s (sumR (fun j => 20 + (if j = i then hugeB else 0)) xs.length) → Within (v - s) (eB 301000000000000000000000000000000000000 xs.length) → Within v 301301000000000000000000000000000000000 := by
    intro v s h1 h2
    unfold Within at *
    constructor <;> grind
  exact ⟨r1, hk r3 r5, hk r4 r6⟩
theorem sig_ts {xs : List (Nat × Nat)} (h : SigOk xs) (hok : okB xs = true) (b : Int) : TsOk b xs := (sig_ts' h hok b).1
end Go.Proofs.Ytapncffjfaddgaa
