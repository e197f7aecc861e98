/- Words of opposite sign, and float32 words widened. -/
import Derived.Test.YtpiokngbldehmaaUp
namespace Go.FV
open Ieee Go.FR

theorem flip_word (f : Format) (s : Bool) (r : Nat) (h : r < f.signWeight) : f.read (f.word (!s) r) = (f.read (f.word s r)).opposite := by
  rw [read_word f _ _ h, read_word f _ _ h]
  by_cases h1 : r < f.binade
  · rw [if_pos h1, if_pos h1]; rfl
  · rw [if_neg h1, if_neg h1]
    by_cases h2 : r < f.infRung
    · rw [if_pos h2, if_pos h2]; rfl
    · rw [if_neg h2, if_neg h2]
      by_cases h3 : r = f.infRung
      · rw [if_pos h3, if_pos h3]; rfl
      · rw [if_neg h3, if_neg h3]; rfl
theorem flip_read (f : Format) (s : Bool) (m : Nat) (i : Int) : f.read (f.write (.number (!s) m i)) = (f.read (f.write (.number s m i))).opposite := by
  show f.read (f.nearest (!s) m i) = (f.read (f.nearest s m i)).opposite
  unfold Format.nearest
  by_cases hm : m = 0
  · rw [if_pos hm, if_pos hm]
    exact flip_word f s 0 (Nat.two_pow_pos _)
  · rw [if_neg hm, if_neg hm]
    dsimp only
    have hc : Toward.even.cut (!s) = Toward.even.cut s := by funext a b; rfl
    rw [hc]
    exact flip_word f s _ (Nat.lt_of_le_of_lt (Nat.min_le_right _ _) (infRung_lt f))

/-- The difference the other way round has the opposite value. -/
theorem sub_flip (f : Format) {x y r r' : Nat} (hx : Fin f x) (hy : Fin f y) (h : f.sub x y = some r) (h' : f.sub y x = some r') : V f r' = - V f r := by
  unfold Fin at hx hy
  unfold Format.sub at h h'
  unfold V
  generalize f.read x = a at *
  generalize f.read y = b at *
  cases a <;> simp [isNum] at hx
  cases b <;> simp [isNum] at hy
  rename_i s m i t n j
  simp only [Datum.opposite, Datum.sum, Option.map_some, Option.some.injEq] at h h'
  rw [Int.min_comm j i] at h'
  have e1 := signed_neg s m (i - min i j).toNat
  have e2 := signed_neg t n (j - min i j).toNat
  rw [e1] at h'
  rw [e2] at h
  generalize signed s m (i - min i j).toNat = p at *
  generalize signed t n (j - min i j).toNat = q at *
  by_cases hT : p + -q = 0
  · have hT' : q + -p = 0 := by omega
    rw [hT] at h
    rw [hT'] at h'
    rw [← h, ← h', Int.natAbs_zero, (write_zero f _ _).2, (write_zero f _ _).2]
    rfl
  · have hT' : ¬ (q + -p = 0) := by omega
    rw [if_neg hT] at h
    rw [if_neg hT'] at h'
    have ea : (q + -p).natAbs = (p + -q).natAbs := by omega
    have eb : decide (q + -p < 0) = !decide (p + -q < 0) := by
      by_cases hl : p + -q < 0
      · rw [decide_eq_true hl, decide_eq_false (by omega)]; rfl
      · rw [decide_eq_false hl, decide_eq_true (by omega)]; rfl
    rw [ea, eb] at h'
    rw [← h, ← h', flip_read, opposite_val]

theorem neg_val (x : Nat) (hx : Fin double x) : Fin double (Op.negFloat .f64 x) ∧ V double (Op.negFloat .f64 x) = - V double x := by
  have key : double.read (Op.negFloat .f64 x) = (double.read x).opposite := by
    have hs : double.signWeight = 2 ^ 63 := by decide
    have hn : Op.negFloat .f64 x = x ^^^ 2 ^ 63 := rfl
    unfold Format.read
    rw [hs, hn, Nat.xor_mod_two_pow, Nat.xor_div_two_pow, Nat.mod_self, Nat.div_self (Nat.two_pow_pos _), Nat.xor_zero]
    have hb : ((x / 2 ^ 63 ^^^ 1) % 2 == 1) = !(x / 2 ^ 63 % 2 == 1) := by
      have := Nat.xor_mod_two_pow (a := x / 2 ^ 63) (b := 1) (n := 1)
      rw [Nat.pow_one] at this
      rw [this]
      rcases Nat.mod_two_eq_zero_or_one (x / 2 ^ 63) with h | h <;> rw [h] <;> rfl
    rw [hb]
    generalize x % 2 ^ 63 = r
    generalize (x / 2 ^ 63 % 2 == 1) = s
    dsimp only
    by_cases h1 : r < double.binade
    · rw [if_pos h1, if_pos h1]; rfl
    · rw [if_neg h1, if_neg h1]
      by_cases h2 : r < double.infRung
      · rw [if_pos h2, if_pos h2]; rfl
      · rw [if_neg h2, if_neg h2]
        by_cases h3 : r = double.infRung
        · rw [if_pos h3, if_pos h3]; rfl
        · rw [if_neg h3, if_neg h3]; rfl
  unfold Fin V
  rw [key, opposite_num, opposite_val]
  exact ⟨hx, rfl⟩

def up64 (x : Nat) : Nat := (floatToFloatBits .f32 x .f64).getD 0
theorem up64_val {x : Nat} (hx : Fin single x) : floatToFloatBits .f32 x .f64 = some (up64 x) ∧ Fin double (up64 x) ∧ V double (up64 x) = V single x := by
  obtain ⟨v, h1, h2, h3⟩ := up_bits x hx
  unfold up64; rw [h1]; exact ⟨rfl, h2, h3⟩

/-- A part's square, as float64. -/
def sq (x : Nat) : Nat := (floatBits .mul .f64 (up64 x) (up64 x)).getD 0
theorem sq_spec {x : Nat} (hx : Fin single x) : floatBits .mul .f64 (up64 x) (up64 x) = some (sq x) ∧ Fin double (sq x) ∧ V double (sq x) = V single x * V single x := by
  obtain ⟨h1, f1, v1⟩ := up64_val hx
  obtain ⟨r, h2, _⟩ := mul_rnd good64 f1 f1
  have b1 : floatBits .mul .f64 (up64 x) (up64 x) = some r := h2
  have e : sq x = r := by unfold sq; rw [b1]; rfl
  have hc : FCv .f32 x .f64 (up64 x) := by unfold FCv; rw [h1]
  have hr : FRes .mul .f64 (up64 x) (up64 x) r := by unfold FRes; rw [b1]
  have h3 := mul_up_val hx hx hc hc hr
  rw [e]
  exact ⟨b1, h3.1, h3.2⟩
theorem sq_pos {x : Nat} (hx : Fin single x) : 0 ≤ V double (sq x) ∧ V double (sq x) ≤ p2 256 := by
  rw [(sq_spec hx).2.2]
  have h := V_le32 x hx
  constructor
  · rcases (Rat.le_total : 0 ≤ V single x ∨ V single x ≤ 0) with h0 | h0
    · exact Rat.mul_nonneg h0 h0
    · have := Rat.mul_nonneg (by grind : 0 ≤ -V single x) (by grind : 0 ≤ -V single x)
      grind
  · have := (within_mul h h).2
    rw [← p2_add] at this
    exact this

/-- A sum of words, as float64. -/
def ad (s t : Nat) : Nat := (floatBits .add .f64 s t).getD 0
theorem rnd_nonneg {f : Format} (hB : 2 ≤ f.binade) {v : Rat} {r : Nat} (h : Rnd f v r) (hv : 0 ≤ v) : 0 ≤ V f r := by
  obtain ⟨u, hu, hu0, he⟩ := h.err
  obtain ⟨k, q, hk, _, hq⟩ := V_short f r h.fin
  have hB' : (2 : Rat) ≤ (f.binade : Rat) := by exact_mod_cast hB
  rcases hu with h1 | h1
  · -- off by less than the least place, of which it is a whole number
    by_cases hneg : k < 0
    · exfalso
      have hk1 : (k : Rat) ≤ -1 := by have := int_le (a := k) (b := -1) (by omega); grind
      have hp := p2_mono hq
      have hp0 := p2_pos f.leastPlace
      have : V f r ≤ - p2 f.leastPlace := by
        rw [hk]
        have := Rat.mul_le_mul_of_nonneg_right hk1 (Rat.le_of_lt (p2_pos q))
        grind
      rw [h1] at he
      unfold Within at he
      grind
    · rw [hk]
      exact Rat.mul_nonneg (by exact_mod_cast (by omega : 0 ≤ k)) (Rat.le_of_lt (p2_pos q))
  · have h2 : u * (f.binade : Rat) ≤ v := by
      unfold Within at h1
      rcases h1 with h1 | h1 <;> grind
    have h3 : u * 2 ≤ u * (f.binade : Rat) := Rat.mul_le_mul_of_nonneg_left hB' hu0
    unfold Within at he
    grind
/-- What a bounded sum is. -/
theorem ad_spec {s t : Nat} {b : Rat} (hs : Fin double s) (ht : Fin double t) (s0 : 0 ≤ V double s) (t0 : 0 ≤ V double t) (sb : V double s ≤ b) (tb : V double t ≤ b) (hb : 1 ≤ b) (hb2 : 4 * b ≤ p2 512) :
    floatBits .add .f64 s t = some (ad s t) ∧ Rnd double (V double s + V double t) (ad s t) ∧ 0 ≤ V double (ad s t) ∧ V double (ad s t) ≤ 4 * b := by
  obtain ⟨r, h1, h2⟩ := add_rnd good64 hs ht
  have b1 : floatBits .add .f64 s t = some r := h1
  have e : ad s t = r := by unfold ad; rw [b1]; rfl
  have hl : Within (V double s + V double t) (lim double) := by
    have := lim64_ge
    unfold Within; grind
  have hr := h2 hl
  rw [e]
  refine ⟨b1, hr, rnd_nonneg (by rw [b64]; omega) hr (by grind), ?_⟩
  have hp : p2 double.leastPlace * (double.binade : Rat) ≤ 2 * b := by
    have : p2 double.leastPlace * (double.binade : Rat) ≤ 1 := by
      rw [lp64, b64]; decide +kernel
    grind
  have := hr.err_le (b := 2 * b) (by unfold Within; grind) hp
  have hB : (1 : Rat) ≤ (double.binade : Rat) := by rw [b64]; decide +kernel
  unfold Within at this
  have h3 := this.2
  by_cases hc : V double r ≤ V double s + V double t
  · grind
  · have hd : 0 ≤ V double r - (V double s + V double t) := by grind
    have := Rat.mul_le_mul_of_nonneg_right hB hd
    grind
end Go.FV
