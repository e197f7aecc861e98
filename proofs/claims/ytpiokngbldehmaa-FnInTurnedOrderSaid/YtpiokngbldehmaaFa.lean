/- The rational value of an IEEE word: operations round to the nearest word, exactly where that can be, else off by half a unit at most. -/
import Ieee.Arith
namespace Go.FV
open Ieee

/-- 2 to a whole power. -/
def p2 (n : Int) : Rat := (2 : Rat) ^ n

theorem p2_pos (n : Int) : 0 < p2 n := Rat.zpow_pos (by decide)
theorem p2_add (m n : Int) : p2 (m + n) = p2 m * p2 n := Rat.zpow_add (by decide) m n
theorem p2_zero : p2 0 = 1 := Rat.zpow_zero _
theorem p2_nat (n : Nat) : p2 n = ((2 ^ n : Nat) : Rat) := by
  unfold p2
  rw [Rat.zpow_natCast, Rat.natCast_pow]; rfl
theorem p2_sub (m n : Int) (h : n ≤ m) : p2 m = p2 n * ((2 ^ (m - n).toNat : Nat) : Rat) := by
  have : m = n + ((m - n).toNat : Int) := by omega
  rw [← p2_nat, ← p2_add, ← this]
theorem p2_mono {m n : Int} (h : m ≤ n) : p2 m ≤ p2 n := by
  rw [p2_sub n m h]
  have h1 : (1 : Rat) ≤ ((2 ^ (n - m).toNat : Nat) : Rat) := by
    have : 1 ≤ 2 ^ (n - m).toNat := Nat.one_le_two_pow
    exact_mod_cast this
  have h2 := p2_pos m
  have := Rat.mul_le_mul_of_nonneg_left h1 (Rat.le_of_lt h2)
  simpa using this

end Go.FV
namespace Go.FV
open Ieee

/-- What a datum stands for; 0 for the infinities and NaNs. -/
def val : Datum → Rat
  | .number s m i => (if s then -1 else 1) * (m : Rat) * p2 i
  | _ => 0

def isNum : Datum → Bool
  | .number .. => true
  | _ => false

theorem signed_val (s : Bool) (m : Nat) (i b : Int) (h : b ≤ i) :
    ((signed s m (i - b).toNat : Int) : Rat) * p2 b = (if s then -1 else 1) * (m : Rat) * p2 i := by
  rw [p2_sub i b h]
  unfold signed
  rw [Nat.shiftLeft_eq]
  cases s
  · simp only [Bool.false_eq_true, if_false]
    rw [Rat.intCast_natCast, Rat.natCast_mul]; grind
  · simp only [if_true]
    rw [Rat.intCast_neg, Rat.intCast_natCast, Rat.natCast_mul]; grind

theorem signed_neg (s : Bool) (m n : Nat) : signed (!s) m n = - signed s m n := by
  unfold signed; cases s <;> simp

theorem natAbs_val (t : Int) (neg : Bool) (h : t ≠ 0 → neg = decide (t < 0)) :
    (if neg then -1 else 1) * ((t.natAbs : Nat) : Rat) = (t : Rat) := by
  by_cases h0 : t = 0
  · subst h0; simp
  · rw [h h0, ← Rat.intCast_natCast]
    by_cases hn : t < 0
    · simp only [hn, decide_true, if_true]
      have : (t.natAbs : Int) = -t := by omega
      rw [this, Rat.intCast_neg]; grind
    · simp only [hn, decide_false, Bool.false_eq_true, if_false]
      have : (t.natAbs : Int) = t := by omega
      rw [this]; grind

theorem sum_val {a b : Datum} (ha : isNum a = true) (hb : isNum b = true) :
    ∃ d, a.sum b = some d ∧ isNum d = true ∧ val d = val a + val b := by
  cases a <;> simp [isNum] at ha
  cases b <;> simp [isNum] at hb
  rename_i s m i t n j
  refine ⟨_, rfl, rfl, ?_⟩
  simp only [val]
  generalize htot : signed s m (i - min i j).toNat + signed t n (j - min i j).toNat = total
  rw [natAbs_val total _ (fun h => by simp [h])]
  rw [← htot, Rat.intCast_add, Rat.add_mul, signed_val s m i _ (by omega), signed_val t n j _ (by omega)]

theorem product_val {a b : Datum} (ha : isNum a = true) (hb : isNum b = true) :
    ∃ d, a.product b = some d ∧ isNum d = true ∧ val d = val a * val b := by
  cases a <;> simp [isNum] at ha
  cases b <;> simp [isNum] at hb
  rename_i s m i t n j
  refine ⟨_, rfl, rfl, ?_⟩
  simp only [val]
  rw [p2_add, Rat.natCast_mul]
  cases s <;> cases t <;> simp <;> grind

theorem opposite_val (a : Datum) : val a.opposite = - val a := by
  cases a <;> simp [Datum.opposite, val]
  rename_i s m i
  cases s <;> simp <;> grind
theorem opposite_num (a : Datum) : isNum a.opposite = isNum a := by cases a <;> rfl
end Go.FV
namespace Go.FV
open Ieee

theorem cut_spec (neg : Bool) (n drop : Nat) :
    2 * (Toward.even.cut neg n drop * 2 ^ drop) ≤ 2 * n + 2 ^ drop ∧ 2 * n ≤ 2 * (Toward.even.cut neg n drop * 2 ^ drop) + 2 ^ drop ∧
      (n % 2 ^ drop = 0 → Toward.even.cut neg n drop * 2 ^ drop = n) := by
  unfold Toward.cut
  have h0 : n < 2 ^ (n.log2 + 1) := Nat.lt_log2_self
  rcases Nat.le_total drop (n.log2 + 2) with h | h
  · rw [Nat.min_eq_left h, Nat.one_shiftLeft]
    dsimp only
    have hp : 0 < 2 ^ drop := Nat.two_pow_pos _
    generalize 2 ^ drop = g at *
    have hdm := Nat.div_add_mod n g
    have hlt := Nat.mod_lt n hp
    generalize n / g = low at *
    generalize n % g = rest at *
    have e : low * g = g * low := Nat.mul_comm ..
    by_cases hm : (decide (g < 2 * rest) || g == 2 * rest && low % 2 == 1) = true
    · rw [hm]
      have h2 : g ≤ 2 * rest := by
        simp at hm; omega
      simp only [Bool.toNat_true, Nat.add_mul, Nat.one_mul]
      omega
    · rw [Bool.not_eq_true] at hm
      rw [hm]
      have h2 : 2 * rest ≤ g := by
        simp at hm; omega
      simp only [Bool.toNat_false, Nat.add_zero]
      omega
  · rw [Nat.min_eq_right h, Nat.one_shiftLeft]
    dsimp only
    have h1 : 2 ^ (n.log2 + 2) = 2 * 2 ^ (n.log2 + 1) := by rw [Nat.pow_succ, Nat.mul_comm]
    have hle : 2 ^ (n.log2 + 2) ≤ 2 ^ drop := Nat.pow_le_pow_right (by omega) h
    have hl : n / 2 ^ (n.log2 + 2) = 0 := Nat.div_eq_of_lt (by omega)
    have hr : n % 2 ^ (n.log2 + 2) = n := Nat.mod_eq_of_lt (by omega)
    rw [hl, hr]
    have hm : (decide (2 ^ (n.log2 + 2) < 2 * n) || 2 ^ (n.log2 + 2) == 2 * n && 0 % 2 == 1) = false := by
      simp; omega
    rw [hm]
    refine ⟨by simp, by simp; omega, fun hd => ?_⟩
    rw [Nat.mod_eq_of_lt (by omega)] at hd
    simp [hd]

/-- The value of a rung that is below infinity's, in units of the least place. -/
theorem read_word (f : Format) (neg : Bool) (r : Nat) (h : r < f.signWeight) :
    f.read (f.word neg r) = if r < f.binade then .number neg r f.leastPlace
      else if r < f.infRung then .number neg (f.binade + r % f.binade) (f.leastPlace + (r / f.binade - 1 : Nat))
      else if r = f.infRung then .infinity neg else .nan neg (r - f.infRung) := by
  unfold Format.read Format.word
  have hp : 0 < f.signWeight := Nat.two_pow_pos _
  cases neg
  · simp only [Bool.false_eq_true, if_false]
    rw [Nat.div_eq_of_lt h, Nat.mod_eq_of_lt h]; rfl
  · simp only [if_true]
    rw [Nat.add_div_left _ hp, Nat.div_eq_of_lt h, Nat.add_mod_left, Nat.mod_eq_of_lt h]; rfl

theorem val_number (s : Bool) (m : Nat) (i : Int) : val (.number s m i) = (if s then -1 else 1) * (m : Rat) * p2 i := rfl

/-- A rung made of a place above the least one and a kept significand stands for that significand at that place. -/
theorem rung_val (f : Format) (neg : Bool) (L kept : Nat) (hk : kept ≤ 2 * f.binade) (hL : L = 0 ∨ f.binade ≤ kept) (hb : 0 < f.binade)
    (hr : L * f.binade + kept < f.infRung) (hs : f.infRung < f.signWeight) :
    isNum (f.read (f.word neg (L * f.binade + kept))) = true ∧
    val (f.read (f.word neg (L * f.binade + kept))) = (if neg then -1 else 1) * ((kept : Nat) : Rat) * p2 (f.leastPlace + L) := by
  rw [read_word f neg _ (by omega)]
  generalize f.infRung = inf at *
  generalize f.signWeight = sw at *
  generalize f.leastPlace = lp at *
  generalize f.binade = B at *
  by_cases h1 : L * B + kept < B
  · rw [if_pos h1]
    have hL0 : L = 0 := by
      rcases hL with h | h
      · exact h
      · exfalso
        have : 0 ≤ L * B := Nat.zero_le _
        omega
    subst hL0
    simp [isNum, val]
  · rw [if_neg h1, if_pos hr]
    refine ⟨rfl, ?_⟩
    by_cases h2 : kept = 2 * B
    · subst h2
      have e : L * B + 2 * B = (L + 2) * B := by rw [Nat.add_mul]
      rw [e, Nat.mul_mod_left, Nat.mul_div_cancel _ hb]
      rw [val_number]
      have e2 : lp + ((L + 2 - 1 : Nat) : Int) = (lp + L) + 1 := by omega
      rw [e2, p2_add]
      have e3 : p2 1 = 2 := by unfold p2; exact Rat.zpow_one 2
      rw [e3, Rat.natCast_mul]
      simp; grind
    · by_cases h3 : B ≤ kept
      · obtain ⟨x, rfl⟩ : ∃ x, kept = B + x := ⟨kept - B, by omega⟩
        have hx : x < B := by omega
        have e : L * B + (B + x) = x + (L + 1) * B := by rw [Nat.add_mul]; omega
        rw [e, Nat.add_mul_mod_self_right, Nat.mod_eq_of_lt hx, Nat.add_mul_div_right _ _ hb, Nat.div_eq_of_lt hx]
        rw [val_number]
        have e2 : lp + ((0 + (L + 1) - 1 : Nat) : Int) = lp + L := by omega
        rw [e2]
      · rcases hL with h | h
        · subst h; omega
        · omega
end Go.FV
namespace Go.FV
open Ieee

def sg (neg : Bool) : Rat := if neg then -1 else 1

theorem val_num (s : Bool) (m : Nat) (i : Int) : val (.number s m i) = sg s * ((m : Rat) * p2 i) := by
  rw [val_number]; unfold sg; grind

theorem log2_le (m : Nat) (h : m ≠ 0) : 2 ^ m.log2 ≤ m := Nat.log2_self_le h
theorem lt_log2 (m : Nat) : m < 2 ^ (m.log2 + 1) := Nat.lt_log2_self

/-- ROUNDING: 'kept' at the place 'last' is within half a unit of the number, is the number if this is a whole number of units, and is what the nearest word stands for. -/
theorem nearest_spec (f : Format) (neg : Bool) (mag : Nat) (place : Int) (hm : mag ≠ 0) :
    ∃ L kept : Nat, f.nearest neg mag place = f.word neg (min (L * f.binade + kept) f.infRung) ∧
      kept ≤ 2 * f.binade ∧ (L = 0 ∨ f.binade ≤ kept) ∧
      (L = 0 ∨ p2 (f.leastPlace + L + f.fractionBits) ≤ (mag : Rat) * p2 place) ∧
      (mag : Rat) * p2 place < p2 (f.leastPlace + L + f.fractionBits + 1) ∧
      2 * ((kept : Rat) * p2 (f.leastPlace + L)) ≤ 2 * ((mag : Rat) * p2 place) + p2 (f.leastPlace + L) ∧
      2 * ((mag : Rat) * p2 place) ≤ 2 * ((kept : Rat) * p2 (f.leastPlace + L)) + p2 (f.leastPlace + L) ∧
      (∀ k : Nat, (mag : Rat) * p2 place = (k : Rat) * p2 (f.leastPlace + L) → (kept : Rat) * p2 (f.leastPlace + L) = (mag : Rat) * p2 place) := by
  unfold Format.nearest
  rw [if_neg hm]
  dsimp only
  generalize hlast : max (place + mag.log2 - f.fractionBits) f.leastPlace = last
  have hL : last = f.leastPlace + ((last - f.leastPlace).toNat : Int) := by omega
  generalize hLL : (last - f.leastPlace).toNat = L at *
  generalize hn : mag <<< (place - last).toNat = n
  generalize hd : (last - place).toNat = drop
  have hc := cut_spec neg n drop
  generalize hk : Toward.even.cut neg n drop = kept at *
  obtain ⟨c1, c2, c3⟩ := hc
  -- the number in units of 'last'
  have hv : (mag : Rat) * p2 place * ((2 ^ drop : Nat) : Rat) = (n : Rat) * p2 last := by
    rw [← hn, Nat.shiftLeft_eq, Rat.natCast_mul, ← hd]
    rcases Int.le_total place last with h | h
    · have e1 : (place - last).toNat = 0 := by omega
      rw [e1, p2_sub last place h]; simp; grind
    · have e1 : (last - place).toNat = 0 := by omega
      rw [e1, p2_sub place last h]; simp; grind
  have hpd : (0 : Rat) < ((2 ^ drop : Nat) : Rat) := by
    have : 0 < 2 ^ drop := Nat.two_pow_pos _
    exact_mod_cast this
  have hpl := p2_pos last
  have hpp := p2_pos place
  -- bounds of mag by its binary digits
  have hlo := log2_le mag hm
  have hhi := lt_log2 mag
  have hlo' : p2 (place + mag.log2) ≤ (mag : Rat) * p2 place := by
    rw [p2_add, p2_nat]
    have : ((2 ^ mag.log2 : Nat) : Rat) ≤ (mag : Rat) := by exact_mod_cast hlo
    have := Rat.mul_le_mul_of_nonneg_left this (Rat.le_of_lt hpp)
    grind
  have hhi' : (mag : Rat) * p2 place < p2 (place + mag.log2 + 1) := by
    have e : place + (mag.log2 : Int) + 1 = place + ((mag.log2 + 1 : Nat) : Int) := by omega
    rw [e, p2_add, p2_nat]
    have : (mag : Rat) < ((2 ^ (mag.log2 + 1) : Nat) : Rat) := by exact_mod_cast hhi
    have := Rat.mul_lt_mul_of_pos_left this hpp
    grind
  have c1' : 2 * ((kept : Rat) * ((2 ^ drop : Nat) : Rat)) ≤ 2 * (n : Rat) + ((2 ^ drop : Nat) : Rat) := by exact_mod_cast c1
  have c2' : 2 * (n : Rat) ≤ 2 * ((kept : Rat) * ((2 ^ drop : Nat) : Rat)) + ((2 ^ drop : Nat) : Rat) := by exact_mod_cast c2
  have hB : ((f.binade : Nat) : Rat) = p2 (f.fractionBits : Int) := by rw [p2_nat]; rfl
  have hmul : ∀ a b : Rat, a * p2 last ≤ b * p2 last → a ≤ b := fun a b h => Rat.le_of_mul_le_mul_right h hpl
  have hmulD : ∀ a b : Rat, a * ((2 ^ drop : Nat) : Rat) ≤ b * ((2 ^ drop : Nat) : Rat) → a ≤ b := fun a b h => Rat.le_of_mul_le_mul_right h hpd
  have up : (n : Rat) < 2 * (f.binade : Rat) * ((2 ^ drop : Nat) : Rat) := by
    have h1 : p2 (place + mag.log2 + 1) ≤ p2 (last + f.fractionBits + 1) := p2_mono (by omega)
    have h2 : (mag : Rat) * p2 place < p2 (last + f.fractionBits + 1) := by grind
    have h3 : p2 (last + f.fractionBits + 1) = p2 last * (2 * (f.binade : Rat)) := by
      rw [p2_add, p2_add, hB]
      have : p2 1 = 2 := Rat.zpow_one 2
      rw [this]; grind
    rw [h3] at h2
    have h4 := Rat.mul_lt_mul_of_pos_right h2 hpd
    rw [hv] at h4
    have h5 : (n : Rat) * p2 last < (2 * (f.binade : Rat) * ((2 ^ drop : Nat) : Rat)) * p2 last := by grind
    exact Rat.lt_of_mul_lt_mul_right h5 (Rat.le_of_lt hpl)
  have upN : n < 2 * f.binade * 2 ^ drop := by exact_mod_cast up
  have hDpos : 0 < 2 ^ drop := Nat.two_pow_pos _
  have k2 : kept ≤ 2 * f.binade := by
    have : 2 * (kept * 2 ^ drop) < (2 * (2 * f.binade) + 1) * 2 ^ drop := by
      have e : (2 * (2 * f.binade) + 1) * 2 ^ drop = 2 * (2 * f.binade * 2 ^ drop) + 2 ^ drop := by
        rw [Nat.add_mul, Nat.one_mul, Nat.mul_assoc]
      omega
    rw [← Nat.mul_assoc] at this
    have := Nat.lt_of_mul_lt_mul_right this
    omega
  have k3 : L = 0 ∨ p2 (last + f.fractionBits) ≤ (mag : Rat) * p2 place := by
    by_cases h0 : L = 0
    · exact .inl h0
    · refine .inr ?_
      have : last + f.fractionBits = place + mag.log2 := by omega
      rw [this]; exact hlo'
  have k4 : L = 0 ∨ f.binade ≤ kept := by
    rcases k3 with h | h
    · exact .inl h
    · refine .inr ?_
      have h3 : p2 (last + f.fractionBits) = p2 last * (f.binade : Rat) := by rw [p2_add, hB]
      rw [h3] at h
      have h4 := Rat.mul_le_mul_of_nonneg_right h (Rat.le_of_lt hpd)
      rw [hv] at h4
      have h5 : (f.binade : Rat) * ((2 ^ drop : Nat) : Rat) ≤ (n : Rat) := hmul _ _ (by grind)
      have h6 : f.binade * 2 ^ drop ≤ n := by exact_mod_cast h5
      have h7 : 2 * f.binade * 2 ^ drop ≤ (2 * kept + 1) * 2 ^ drop := by
        rw [Nat.add_mul, Nat.one_mul, Nat.mul_assoc, Nat.mul_assoc]; omega
      have := Nat.le_of_mul_le_mul_right h7 hDpos
      omega
  refine ⟨L, kept, rfl, k2, k4, ?_, ?_, ?_, ?_, ?_⟩ <;> rw [← hL]
  · exact k3
  · have h1 : p2 (place + mag.log2 + 1) ≤ p2 (last + f.fractionBits + 1) := p2_mono (by omega)
    grind
  · refine hmulD _ _ ?_
    have := Rat.mul_le_mul_of_nonneg_right c1' (Rat.le_of_lt hpl)
    have e : (2 * ((mag : Rat) * p2 place) + p2 last) * ((2 ^ drop : Nat) : Rat) = 2 * ((n : Rat) * p2 last) + p2 last * ((2 ^ drop : Nat) : Rat) := by rw [← hv]; grind
    rw [e]; grind
  · refine hmulD _ _ ?_
    have := Rat.mul_le_mul_of_nonneg_right c2' (Rat.le_of_lt hpl)
    have e : (2 * ((mag : Rat) * p2 place)) * ((2 ^ drop : Nat) : Rat) = 2 * ((n : Rat) * p2 last) := by rw [← hv]; grind
    rw [e]; grind
  · intro k hk2
    rw [hk2] at hv
    have h5 : ((k : Rat) * ((2 ^ drop : Nat) : Rat)) * p2 last = (n : Rat) * p2 last := by grind
    have h6 : (k : Rat) * ((2 ^ drop : Nat) : Rat) = (n : Rat) := by
      have a : (k : Rat) * ((2 ^ drop : Nat) : Rat) ≤ (n : Rat) := hmul _ _ (by rw [h5]; exact Rat.le_refl)
      have b : (n : Rat) ≤ (k : Rat) * ((2 ^ drop : Nat) : Rat) := hmul _ _ (by rw [h5]; exact Rat.le_refl)
      exact Rat.le_antisymm a b
    have h7 : k * 2 ^ drop = n := by exact_mod_cast h6
    have h8 := c3 (by rw [← h7]; exact Nat.mul_mod_left _ _)
    have h9 : kept = k := Nat.eq_of_mul_eq_mul_right hDpos (by rw [h8, h7])
    rw [h9, hk2]
end Go.FV
namespace Go.FV
open Ieee

/-- x lies between -b and b. -/
def Within (x b : Rat) : Prop := -b ≤ x ∧ x ≤ b

/-- The greatest number for which nothing is said to overflow here: fifteen sixteenths of the first power of two that is too great. -/
def lim (f : Format) : Rat := 15 / 16 * p2 (f.leastPlace + ((2 ^ f.exponentBits - 3 : Nat) : Int) + f.fractionBits + 1)

theorem sg_cases (b : Bool) : sg b = 1 ∨ sg b = -1 := by cases b <;> simp [sg]

theorem binade_pos (f : Format) : 0 < f.binade := Nat.two_pow_pos _

theorem infRung_lt (f : Format) : f.infRung < f.signWeight := by
  unfold Format.infRung Format.signWeight Format.binade
  rw [Nat.pow_add]
  have h1 : 0 < 2 ^ f.exponentBits := Nat.two_pow_pos _
  have h2 : 0 < 2 ^ f.fractionBits := Nat.two_pow_pos _
  exact Nat.mul_lt_mul_of_pos_right (by omega) h2

theorem write_zero (f : Format) (neg : Bool) (p : Int) : isNum (f.read (f.write (.number neg 0 p))) = true ∧ val (f.read (f.write (.number neg 0 p))) = 0 := by
  have h : f.write (.number neg 0 p) = f.word neg 0 := by simp [Format.write, Format.nearest]
  rw [h, read_word f neg 0 (Nat.two_pow_pos _), if_pos (binade_pos f)]
  simp [isNum, val]

/-- THE WORD OF A NUMBER THAT IS NOT TOO GREAT: finite; off by at most half a unit; exact where the number is a short whole number of units. -/
theorem write_round (f : Format) (hF : 4 ≤ f.fractionBits) (hE : 2 ≤ f.exponentBits) {d : Datum} (hd : isNum d = true) (hl : Within (val d) (lim f)) :
    isNum (f.read (f.write d)) = true ∧
    (∃ u : Rat, (u = p2 f.leastPlace ∨ Within (u * (f.binade : Rat)) (val d) ∨ Within (u * (f.binade : Rat)) (- val d)) ∧ 0 ≤ u ∧ Within (2 * (val (f.read (f.write d)) - val d)) u) ∧
    (∀ (k : Int) (q : Int), f.leastPlace ≤ q → val d = (k : Rat) * p2 q → k.natAbs ≤ 2 * f.binade → val (f.read (f.write d)) = val d) := by
  cases d with
  | infinity s => simp [isNum] at hd
  | nan s t => simp [isNum] at hd
  | number neg mag place =>
  by_cases hm : mag = 0
  · subst hm
    have hz := write_zero f neg place
    have hv : val (.number neg 0 place) = 0 := by simp [val]
    rw [hv, hz.2]
    refine ⟨hz.1, ⟨p2 f.leastPlace, .inl rfl, Rat.le_of_lt (p2_pos _), ?_⟩, fun _ _ _ _ _ => rfl⟩
    have := p2_pos f.leastPlace
    unfold Within; grind
  · show isNum (f.read (f.nearest neg mag place)) = true ∧ _
    show _ ∧ (∃ u : Rat, _ ∧ _ ∧ Within (2 * (val (f.read (f.nearest neg mag place)) - _)) u) ∧ (∀ (k q : Int), _ → _ → _ → val (f.read (f.nearest neg mag place)) = _)
    obtain ⟨L, kept, hn, hk2, hLk, hlow, hhigh, c1, c2, hex⟩ := nearest_spec f neg mag place hm
    rw [val_num] at hl ⊢
    have hv0 : 0 ≤ (mag : Rat) * p2 place := Rat.mul_nonneg (by exact_mod_cast Nat.zero_le mag) (Rat.le_of_lt (p2_pos _))
    generalize hv : (mag : Rat) * p2 place = v at *
    have hl' : v ≤ lim f := by
      rcases sg_cases neg with h | h <;> rw [h] at hl <;> unfold Within at hl <;> grind
    have hB : ((f.binade : Nat) : Rat) = p2 (f.fractionBits : Int) := by rw [p2_nat]; rfl
    have hBpos := binade_pos f
    have hB16 : 16 ≤ f.binade := by
      have : 2 ^ 4 ≤ 2 ^ f.fractionBits := Nat.pow_le_pow_right (by omega) hF
      exact this
    have hu0 := p2_pos (f.leastPlace + L)
    have h2E : 4 ≤ 2 ^ f.exponentBits := by
      have : 2 ^ 2 ≤ 2 ^ f.exponentBits := Nat.pow_le_pow_right (by omega) hE
      exact this
    -- the place is not too great
    have hLle : L ≤ 2 ^ f.exponentBits - 3 := by
      rcases hlow with h | h
      · omega
      · apply Nat.le_of_not_lt
        intro hlt
        have h1 : p2 (f.leastPlace + ((2 ^ f.exponentBits - 3 : Nat) : Int) + f.fractionBits + 1) ≤ p2 (f.leastPlace + L + f.fractionBits) := p2_mono (by omega)
        have h2 := p2_pos (f.leastPlace + ((2 ^ f.exponentBits - 3 : Nat) : Int) + f.fractionBits + 1)
        unfold lim at hl'
        grind
    have hr : L * f.binade + kept < f.infRung := by
      unfold Format.infRung
      rcases Nat.lt_or_ge L (2 ^ f.exponentBits - 3) with h | h
      · have h1 : L * f.binade ≤ (2 ^ f.exponentBits - 4) * f.binade := Nat.mul_le_mul_right _ (by omega)
        have h2 : (2 ^ f.exponentBits - 1) * f.binade = (2 ^ f.exponentBits - 4) * f.binade + 3 * f.binade := by
          rw [← Nat.add_mul]; congr 1; omega
        omega
      · have hLe : L = 2 ^ f.exponentBits - 3 := by omega
        have h2 : (2 ^ f.exponentBits - 1) * f.binade = (2 ^ f.exponentBits - 3) * f.binade + 2 * f.binade := by
          rw [← Nat.add_mul]; congr 1; omega
        have h3 : kept < 2 * f.binade := by
          have e1 : lim f = 15 / 16 * (p2 (f.leastPlace + L) * (2 * (f.binade : Rat))) := by
            unfold lim
            rw [hLe, hB, p2_add, p2_add _ (f.fractionBits : Int)]
            have : p2 1 = 2 := Rat.zpow_one 2
            rw [this]; grind
          rw [e1] at hl'
          have h5 : (2 * (kept : Rat)) * p2 (f.leastPlace + L) ≤ (2 * (15 / 16 * (2 * (f.binade : Rat))) + 1) * p2 (f.leastPlace + L) := by grind
          have h6 := Rat.le_of_mul_le_mul_right h5 hu0
          have h7 : 32 * (kept : Rat) ≤ 60 * (f.binade : Rat) + 16 := by grind
          have h8 : 32 * kept ≤ 60 * f.binade + 16 := by exact_mod_cast h7
          omega
        rw [hLe]; omega
    have hrv := rung_val f neg L kept hk2 hLk hBpos hr (infRung_lt f)
    rw [hn, Nat.min_eq_left (by omega)]
    refine ⟨hrv.1, ⟨p2 (f.leastPlace + L), ?_, Rat.le_of_lt hu0, ?_⟩, ?_⟩
    · rcases hlow with h | h
      · left; rw [h]; congr 1; omega
      · right
        have e : p2 (f.leastPlace + L) * (f.binade : Rat) = p2 (f.leastPlace + L + f.fractionBits) := by rw [hB, ← p2_add]
        have h0 := p2_pos (f.leastPlace + L + f.fractionBits)
        rw [e]
        rcases sg_cases neg with hs | hs <;> rw [hs] <;> unfold Within
        · left; grind
        · right; grind
    · rw [hrv.2]
      have e : (if neg then (-1 : Rat) else 1) = sg neg := rfl
      rw [e]
      rcases sg_cases neg with hs | hs <;> rw [hs] <;> unfold Within <;> grind
    · intro k q hq hkv hkb
      rw [hrv.2]
      have e : (if neg then (-1 : Rat) else 1) = sg neg := rfl
      rw [e, Rat.mul_assoc]
      congr 1
      -- the number is a whole number of units
      have hvk : v = (k.natAbs : Rat) * p2 q := by
        have hq0 := p2_pos q
        rcases Int.natAbs_eq k with hk' | hk'
        · have hc : (k : Rat) = (k.natAbs : Rat) := by rw [← Rat.intCast_natCast, ← hk']
          have hn0 : (0 : Rat) ≤ (k.natAbs : Rat) * p2 q := Rat.mul_nonneg (by exact_mod_cast Nat.zero_le _) (Rat.le_of_lt hq0)
          rw [hc] at hkv
          rcases sg_cases neg with hs | hs <;> rw [hs] at hkv <;> grind
        · have hc : (k : Rat) = -(k.natAbs : Rat) := by rw [← Rat.intCast_natCast, ← Rat.intCast_neg, ← hk']
          have hn0 : (0 : Rat) ≤ (k.natAbs : Rat) * p2 q := Rat.mul_nonneg (by exact_mod_cast Nat.zero_le _) (Rat.le_of_lt hq0)
          rw [hc] at hkv
          rcases sg_cases neg with hs | hs <;> rw [hs] at hkv <;> grind
      have hmain : ∃ j : Nat, v = (j : Rat) * p2 (f.leastPlace + L) := by
        rcases Int.le_total (f.leastPlace + L) q with h | h
        · exact ⟨k.natAbs * 2 ^ (q - (f.leastPlace + L)).toNat, by rw [hvk, p2_sub q _ h, Rat.natCast_mul]; grind⟩
        · by_cases heq : f.leastPlace + L = q
          · exact ⟨k.natAbs, by rw [hvk, heq]⟩
          · -- then L > 0, and the number is at least 2^F units of 'last', so k is at least 2^(F+1)
            rcases hlow with h0 | h0
            · omega
            · have h1 : p2 (q + 1 + f.fractionBits) ≤ v := by
                have : p2 (q + 1 + f.fractionBits) ≤ p2 (f.leastPlace + L + f.fractionBits) := p2_mono (by omega)
                grind
              have h2 : p2 (q + 1 + f.fractionBits) = 2 * (f.binade : Rat) * p2 q := by
                rw [p2_add, p2_add, hB]
                have : p2 1 = 2 := Rat.zpow_one 2
                rw [this]; grind
              rw [h2, hvk] at h1
              have h3 := Rat.le_of_mul_le_mul_right h1 (p2_pos q)
              have h4 : 2 * f.binade ≤ k.natAbs := by exact_mod_cast h3
              have h5 : k.natAbs = 2 * f.binade := by omega
              -- one place more: the number is a power of two, and just one unit step
              have h6 : f.leastPlace + L = q + 1 := by
                have h7 : p2 (f.leastPlace + L + f.fractionBits) ≤ p2 (q + 1 + f.fractionBits) := by
                  have h10 : (k.natAbs : Rat) = 2 * (f.binade : Rat) := by rw [h5, Rat.natCast_mul]; rfl
                  rw [h2, ← h10, ← hvk]; exact h0
                rcases (by omega : q + 1 < f.leastPlace + L ∨ f.leastPlace + L ≤ q + 1) with h8 | h8
                · exfalso
                  have h9 : p2 (q + 1 + f.fractionBits + 1) ≤ p2 (f.leastPlace + L + f.fractionBits) := p2_mono (by omega)
                  rw [p2_add _ 1] at h9
                  have : p2 1 = 2 := Rat.zpow_one 2
                  rw [this] at h9
                  have := p2_pos (q + 1 + f.fractionBits)
                  grind
                · omega
              refine ⟨f.binade, ?_⟩
              rw [hvk, h5, h6, p2_add, Rat.natCast_mul]
              have : p2 1 = 2 := Rat.zpow_one 2
              rw [this]; simp; grind
      obtain ⟨j, hj⟩ := hmain
      exact hex j hj
end Go.FV
namespace Go.FV
open Ieee

def Fin (f : Format) (x : Nat) : Prop := isNum (f.read x) = true
def V (f : Format) (x : Nat) : Rat := val (f.read x)

/-- 'r' is the word of 'v', rounded: finite, off by half a unit at most, exact where that can be. -/
structure Rnd (f : Format) (v : Rat) (r : Nat) : Prop where
  fin : Fin f r
  err : ∃ u : Rat, (u = p2 f.leastPlace ∨ Within (u * (f.binade : Rat)) v ∨ Within (u * (f.binade : Rat)) (-v)) ∧ 0 ≤ u ∧ Within (2 * (V f r - v)) u
  exact : ∀ (k : Int) (q : Int), f.leastPlace ≤ q → v = (k : Rat) * p2 q → k.natAbs ≤ 2 * f.binade → V f r = v

/-- Formats that all this is for. -/
def Good (f : Format) : Prop := 4 ≤ f.fractionBits ∧ 2 ≤ f.exponentBits
theorem good32 : Good single := by unfold Good; decide
theorem good64 : Good double := by unfold Good; decide

theorem rnd_write {f : Format} (hf : Good f) {d : Datum} (hd : isNum d = true) (hl : Within (val d) (lim f)) : Rnd f (val d) (f.write d) :=
  let h := write_round f hf.1 hf.2 hd hl
  ⟨h.1, h.2.1, h.2.2⟩

/-- The error as a share of a bound. -/
theorem Rnd.err_le {f : Format} {v : Rat} {r : Nat} (h : Rnd f v r) {b : Rat} (hb : Within v b) (hm : p2 f.leastPlace * (f.binade : Rat) ≤ b) :
    Within (2 * (f.binade : Rat) * (V f r - v)) b := by
  obtain ⟨u, hu, hu0, he⟩ := h.err
  have hB : (0 : Rat) < (f.binade : Rat) := by exact_mod_cast binade_pos f
  have hub : u * (f.binade : Rat) ≤ b := by
    rcases hu with h1 | h1 | h1
    · rw [h1]; exact hm
    · unfold Within at h1 hb; grind
    · unfold Within at h1 hb; grind
  have h1 := Rat.mul_le_mul_of_nonneg_right he.1 (Rat.le_of_lt hB)
  have h2 := Rat.mul_le_mul_of_nonneg_right he.2 (Rat.le_of_lt hB)
  unfold Within
  constructor <;> grind

theorem add_rnd {f : Format} (hf : Good f) {x y : Nat} (hx : Fin f x) (hy : Fin f y) :
    ∃ r, f.add x y = some r ∧ (Within (V f x + V f y) (lim f) → Rnd f (V f x + V f y) r) := by
  obtain ⟨d, h1, h2, h3⟩ := sum_val hx hy
  refine ⟨f.write d, by simp [Format.add, h1], fun hl => ?_⟩
  have h := rnd_write hf h2 (by rw [h3]; exact hl)
  rw [h3] at h
  exact h

theorem sub_rnd {f : Format} (hf : Good f) {x y : Nat} (hx : Fin f x) (hy : Fin f y) :
    ∃ r, f.sub x y = some r ∧ (Within (V f x - V f y) (lim f) → Rnd f (V f x - V f y) r) := by
  obtain ⟨d, h1, h2, h3⟩ := sum_val (a := f.read x) (b := (f.read y).opposite) hx (by rw [opposite_num]; exact hy)
  refine ⟨f.write d, by simp [Format.sub, h1], fun hl => ?_⟩
  have e : val d = V f x - V f y := by rw [h3, opposite_val]; unfold V; grind
  have h := rnd_write hf h2 (by rw [e]; exact hl)
  rw [e] at h
  exact h

theorem mul_rnd {f : Format} (hf : Good f) {x y : Nat} (hx : Fin f x) (hy : Fin f y) :
    ∃ r, f.mul x y = some r ∧ (Within (V f x * V f y) (lim f) → Rnd f (V f x * V f y) r) := by
  obtain ⟨d, h1, h2, h3⟩ := product_val hx hy
  refine ⟨f.write d, by simp [Format.mul, h1], fun hl => ?_⟩
  have h := rnd_write hf h2 (by rw [h3]; exact hl)
  rw [h3] at h
  exact h

/-- Two finite words compare as what they stand for. -/
theorem order_fin {f : Format} {x y : Nat} (hx : Fin f x) (hy : Fin f y) :
    (f.order x y = some .eq ↔ V f x = V f y) ∧ (f.order x y = some .lt ↔ V f x < V f y) ∧ (f.order x y = some .gt ↔ V f y < V f x) := by
  unfold Fin at hx hy
  unfold Format.order V
  generalize f.read x = a at *
  generalize f.read y = b at *
  cases a <;> simp [isNum] at hx
  cases b <;> simp [isNum] at hy
  rename_i s m i t n j
  have e1 := signed_val s m i (min i j) (by omega)
  have e2 := signed_val t n j (min i j) (by omega)
  simp only [Datum.order, val_number]
  rw [← e1, ← e2]
  have hp := p2_pos (min i j)
  generalize signed s m (i - min i j).toNat = p
  generalize signed t n (j - min i j).toNat = q
  have lt_iff : ∀ a b : Int, ((a : Rat) * p2 (min i j) < (b : Rat) * p2 (min i j)) ↔ a < b := by
    intro a b
    constructor
    · intro h
      have := Rat.lt_of_mul_lt_mul_right h (Rat.le_of_lt hp)
      exact_mod_cast this
    · intro h
      have : (a : Rat) < (b : Rat) := by exact_mod_cast h
      exact Rat.mul_lt_mul_of_pos_right this hp
  have eq_iff : ((p : Rat) * p2 (min i j) = (q : Rat) * p2 (min i j)) ↔ p = q := by
    constructor
    · intro h
      have h1 := lt_iff p q
      have h2 := lt_iff q p
      rw [h] at h1 h2
      have g1 : ¬ p < q := fun c => Rat.lt_irrefl (h1.2 c)
      have g2 : ¬ q < p := fun c => Rat.lt_irrefl (h2.2 c)
      omega
    · intro h; rw [h]
  rw [lt_iff, lt_iff, eq_iff]
  simp only [Option.some.injEq]
  refine ⟨?_, ?_, ?_⟩
  · exact Int.compare_eq_eq
  · exact Int.compare_eq_lt
  · rw [Int.compare_eq_gt]
end Go.FV
namespace Go.FV
open Ieee

theorem p2_one : p2 1 = 2 := Rat.zpow_one 2

/-- The significand of a finite word is short, and its place is not below the least one. -/
theorem read_short (f : Format) (x : Nat) (h : Fin f x) : ∃ s m i, f.read x = .number s m i ∧ m < 2 * f.binade ∧ f.leastPlace ≤ i := by
  unfold Fin Format.read at h
  unfold Format.read
  dsimp only at h ⊢
  have hb := binade_pos f
  by_cases h1 : x % f.signWeight < f.binade
  · rw [if_pos h1]
    exact ⟨_, _, _, rfl, by omega, Int.le_refl _⟩
  · rw [if_neg h1] at h ⊢
    by_cases h2 : x % f.signWeight < f.infRung
    · rw [if_pos h2]
      have := Nat.mod_lt (x % f.signWeight) hb
      exact ⟨_, _, _, rfl, by omega, by omega⟩
    · rw [if_neg h2] at h
      by_cases h3 : x % f.signWeight = f.infRung
      · rw [if_pos h3] at h; simp [isNum] at h
      · rw [if_neg h3] at h; simp [isNum] at h

/-- A finite word stands for a short whole number of units of some place. -/
theorem V_short (f : Format) (x : Nat) (h : Fin f x) : ∃ (k q : Int), V f x = (k : Rat) * p2 q ∧ k.natAbs < 2 * f.binade ∧ f.leastPlace ≤ q := by
  obtain ⟨s, m, i, h1, h2, h3⟩ := read_short f x h
  refine ⟨signed s m 0, i, ?_, ?_, h3⟩
  · unfold V
    rw [h1, val_number]
    have := signed_val s m i i (Int.le_refl _)
    simp only [Int.sub_self, Int.toNat_zero] at this
    rw [this]
  · unfold signed
    cases s <;> simp <;> omega

theorem lp32 : single.leastPlace = -149 := by decide
theorem lp64 : double.leastPlace = -1074 := by decide
theorem b32 : single.binade = 8388608 := by decide
theorem b64 : double.binade = 4503599627370496 := by decide

/-- Within, by whole numbers of units. -/
theorem within_mono {x a b : Rat} (h : Within x a) (hab : a ≤ b) : Within x b := by unfold Within at *; grind
theorem within_neg {x b : Rat} (h : Within x b) : Within (-x) b := by unfold Within at *; grind
theorem within_add {x y a b : Rat} (h : Within x a) (k : Within y b) : Within (x + y) (a + b) := by unfold Within at *; grind
theorem within_sub {x y a b : Rat} (h : Within x a) (k : Within y b) : Within (x - y) (a + b) := by unfold Within at *; grind
theorem within_mul {x y a b : Rat} (h : Within x a) (k : Within y b) : Within (x * y) (a * b) := by
  unfold Within at *
  have ha : 0 ≤ a := by grind
  have hb : 0 ≤ b := by grind
  have h1 : 0 ≤ (a - x) * (b - y) := Rat.mul_nonneg (by grind) (by grind)
  have h2 : 0 ≤ (a + x) * (b + y) := Rat.mul_nonneg (by grind) (by grind)
  have h3 : 0 ≤ (a - x) * (b + y) := Rat.mul_nonneg (by grind) (by grind)
  have h4 : 0 ≤ (a + x) * (b - y) := Rat.mul_nonneg (by grind) (by grind)
  constructor <;> grind

/-- every finite word of a format is below its first power of two that is too great -/
theorem V_le32 (x : Nat) (h : Fin single x) : Within (V single x) (p2 128) := by
  unfold Fin Format.read at h
  unfold V Format.read
  dsimp only at h ⊢
  have hb := binade_pos single
  by_cases h1 : x % single.signWeight < single.binade
  · rw [if_pos h1, val_num]
    have h2 : ((x % single.signWeight : Nat) : Rat) ≤ p2 (23 : Nat) := by
      rw [p2_nat]; exact_mod_cast Nat.le_of_lt h1
    have h3 := Rat.mul_le_mul_of_nonneg_right h2 (Rat.le_of_lt (p2_pos single.leastPlace))
    rw [← p2_add] at h3
    have h4 : p2 (((23 : Nat) : Int) + single.leastPlace) ≤ p2 128 := p2_mono (by rw [lp32]; omega)
    have h5 : 0 ≤ ((x % single.signWeight : Nat) : Rat) * p2 single.leastPlace := Rat.mul_nonneg (by exact_mod_cast Nat.zero_le _) (Rat.le_of_lt (p2_pos _))
    unfold Within
    rcases sg_cases (x / single.signWeight % 2 == 1) with hs | hs <;> rw [hs] <;> grind
  · rw [if_neg h1] at h ⊢
    by_cases h2 : x % single.signWeight < single.infRung
    · rw [if_pos h2, val_num]
      have hm := Nat.mod_lt (x % single.signWeight) hb
      have h6 : ((single.binade + x % single.signWeight % single.binade : Nat) : Rat) ≤ p2 (24 : Nat) := by
        rw [p2_nat]
        have : single.binade + x % single.signWeight % single.binade ≤ 2 ^ 24 := by rw [b32] at hm ⊢; omega
        exact_mod_cast this
      have h3 := Rat.mul_le_mul_of_nonneg_right h6 (Rat.le_of_lt (p2_pos (single.leastPlace + ((x % single.signWeight / single.binade - 1 : Nat) : Int))))
      rw [← p2_add] at h3
      have h8 : x % single.signWeight / single.binade ≤ 254 := by
        have e : single.infRung = 255 * single.binade := by decide
        rw [e] at h2
        have := Nat.div_lt_of_lt_mul (m := x % single.signWeight) (n := single.binade) (k := 255) (by rw [Nat.mul_comm]; exact h2)
        omega
      have h4 : p2 (((24 : Nat) : Int) + (single.leastPlace + ((x % single.signWeight / single.binade - 1 : Nat) : Int))) ≤ p2 128 := p2_mono (by rw [lp32]; omega)
      have h5 : 0 ≤ ((single.binade + x % single.signWeight % single.binade : Nat) : Rat) * p2 (single.leastPlace + ((x % single.signWeight / single.binade - 1 : Nat) : Int)) := Rat.mul_nonneg (by exact_mod_cast Nat.zero_le _) (Rat.le_of_lt (p2_pos _))
      unfold Within
      rcases sg_cases (x / single.signWeight % 2 == 1) with hs | hs <;> rw [hs] <;> grind
    · rw [if_neg h2] at h
      by_cases h3 : x % single.signWeight = single.infRung
      · rw [if_pos h3] at h; simp [isNum] at h
      · rw [if_neg h3] at h; simp [isNum] at h

theorem lim64_ge : p2 512 ≤ lim double := by
  unfold lim
  rw [lp64]
  have e : (-1074 + ((2 ^ double.exponentBits - 3 : Nat) : Int) + (double.fractionBits : Int) + 1) = 1024 := by decide
  rw [e]
  have : p2 1024 = p2 512 * p2 512 := by rw [← p2_add, show (512 : Int) + 512 = 1024 from rfl]
  rw [this]
  have h1 : 2 ≤ p2 512 := by
    have := p2_mono (m := 1) (n := 512) (by omega)
    rw [p2_one] at this; exact this
  have h0 := p2_pos 512
  have := Rat.mul_le_mul_of_nonneg_left h1 (Rat.le_of_lt h0)
  grind
theorem lim32_eq : lim single = 15 / 16 * p2 128 := by
  unfold lim
  rw [lp32]
  have e : (-149 + ((2 ^ single.exponentBits - 3 : Nat) : Int) + (single.fractionBits : Int) + 1) = 128 := by decide
  rw [e]
end Go.FV
namespace Go.FV
open Ieee

theorem sg_xor (s t : Bool) : sg (s ^^ t) = sg s * sg t := by cases s <;> cases t <;> simp [sg] <;> grind
theorem sg_sq (s : Bool) : sg s * sg s = 1 := by cases s <;> simp [sg] <;> grind

/-- A QUOTIENT of two numbers, ahead of its rounding: off by less than one part in 2 ^ digits; exact where it is a whole number that is not too great. -/
theorem quotient_val (digits : Nat) (hdig : 1 ≤ digits) {a b : Datum} (ha : isNum a = true) (hb : isNum b = true) (h0 : val b ≠ 0) :
    ∃ d q, a.quotient digits b = some d ∧ isNum d = true ∧ q * val b = val a ∧
      (Within (((2 ^ digits : Nat) : Rat) * (val d - q)) q ∨ Within (((2 ^ digits : Nat) : Rat) * (val d - q)) (-q)) ∧
      (∀ k : Int, q = (k : Rat) → k.natAbs < 2 ^ (digits - 1) → val d = q) := by
  cases a <;> simp [isNum] at ha
  cases b <;> simp [isNum] at hb
  rename_i s m i t n j
  have hn : n ≠ 0 := by
    rintro rfl
    apply h0
    simp [val]
  have hN : (0 : Rat) < (n : Rat) := by exact_mod_cast Nat.pos_of_ne_zero hn
  unfold Datum.quotient
  dsimp only
  rw [if_neg hn]
  generalize hmore : digits + n.log2 - m.log2 = more
  generalize hD : m <<< more = D
  have hD' : D = m * 2 ^ more := by rw [← hD, Nat.shiftLeft_eq]
  -- the true quotient
  refine ⟨_, sg (s ^^ t) * ((m : Rat) / (n : Rat) * p2 (i - j)), rfl, rfl, ?_, ?_, ?_⟩
  · rw [val_num, val_num, sg_xor]
    have e : p2 i = p2 (i - j) * p2 j := by rw [← p2_add]; congr 1; omega
    have e2 : (m : Rat) / (n : Rat) * (n : Rat) = (m : Rat) := by
      rw [Rat.div_def, Rat.mul_assoc, Rat.inv_mul_cancel _ (by grind)]; grind
    have := sg_sq t
    rw [e]; grind
  · -- the error
    have hdm := Nat.div_add_mod D n
    have hlt := Nat.mod_lt D (Nat.pos_of_ne_zero hn)
    generalize hx : D / n = x at *
    generalize hy : D % n = y at *
    rw [val_num]
    have e : p2 (i - j) = p2 (i - j - more) * ((2 ^ more : Nat) : Rat) := by
      rw [← p2_nat, ← p2_add]; congr 1; omega
    have e1 : p2 (i - j - more) = p2 (i - j - more - 1) * 2 := by
      rw [← p2_one, ← p2_add]; congr 1; omega
    have hu := p2_pos (i - j - more - 1)
    generalize hU : p2 (i - j - more - 1) = u at *
    -- m/n * 2^more = D/n
    have e3 : (m : Rat) / (n : Rat) * ((2 ^ more : Nat) : Rat) = (D : Rat) / (n : Rat) := by
      rw [hD', Rat.natCast_mul, Rat.div_def, Rat.div_def]; grind
    generalize hz : (D : Rat) / (n : Rat) = z at *
    have hzn : z * (n : Rat) = (D : Rat) := by
      rw [← hz, Rat.div_def, Rat.mul_assoc, Rat.inv_mul_cancel _ (by grind)]; grind
    have hQ : (m : Rat) / (n : Rat) * p2 (i - j) = 2 * z * u := by rw [e, e1]; grind
    rw [hQ]
    have hdm' : (n : Rat) * (x : Rat) + (y : Rat) = (D : Rat) := by exact_mod_cast hdm
    have hy0 : (0 : Rat) ≤ (y : Rat) := by exact_mod_cast Nat.zero_le y
    have hyn : (y : Rat) < (n : Rat) := by exact_mod_cast hlt
    -- z lies in x .. x + 1
    have hz1 : (x : Rat) ≤ z := by
      apply Rat.le_of_mul_le_mul_right _ hN
      grind
    have hz2 : z < (x : Rat) + 1 := by
      have : z * (n : Rat) < ((x : Rat) + 1) * (n : Rat) := by grind
      exact Rat.lt_of_mul_lt_mul_right this (Rat.le_of_lt hN)
    have hst : y = 0 → z = (x : Rat) := by
      intro h
      subst h
      have : z * (n : Rat) = (x : Rat) * (n : Rat) := by grind
      have a1 := Rat.le_of_mul_le_mul_right (by rw [this]; exact Rat.le_refl : z * (n : Rat) ≤ (x : Rat) * (n : Rat)) hN
      grind
    -- z is great, or 0
    have hbig : m = 0 ∨ ((2 ^ digits : Nat) : Rat) ≤ 2 * z := by
      by_cases hm : m = 0
      · exact .inl hm
      · refine .inr ?_
        have l1 := Nat.log2_self_le hm
        have l2 : n < 2 ^ (n.log2 + 1) := Nat.lt_log2_self
        have h1 : 2 ^ (digits + n.log2) ≤ D := by
          rw [hD']
          have : 2 ^ (digits + n.log2) ≤ 2 ^ m.log2 * 2 ^ more := by
            rw [← Nat.pow_add]; exact Nat.pow_le_pow_right (by omega) (by omega)
          exact Nat.le_trans this (Nat.mul_le_mul_right _ l1)
        have h2 : 2 ^ digits * n ≤ 2 * D := by
          have h3 : 2 ^ digits * n ≤ 2 ^ digits * 2 ^ (n.log2 + 1) := Nat.mul_le_mul_left _ (Nat.le_of_lt l2)
          have h4 : 2 ^ digits * 2 ^ (n.log2 + 1) = 2 * 2 ^ (digits + n.log2) := by
            rw [← Nat.pow_add, ← Nat.add_assoc, Nat.pow_succ, Nat.mul_comm]
          omega
        have h5 : ((2 ^ digits : Nat) : Rat) * (n : Rat) ≤ 2 * (D : Rat) := by exact_mod_cast h2
        apply Rat.le_of_mul_le_mul_right _ hN
        grind
    have hst2 : ((2 * x + (y != 0).toNat : Nat) : Rat) = 2 * (x : Rat) + (if y = 0 then 0 else 1) := by
      by_cases h : y = 0
      · subst h; simp; grind
      · have : (y != 0) = true := by simpa using h
        rw [this, if_neg h]; simp
    rw [hst2]
    -- the difference of both, times 2 ^ digits
    have hdiff : -(1 : Rat) ≤ (2 * (x : Rat) + (if y = 0 then 0 else 1)) - 2 * z ∧ (2 * (x : Rat) + (if y = 0 then 0 else 1)) - 2 * z ≤ 1 := by
      by_cases h : y = 0
      · rw [if_pos h, hst h]; constructor <;> grind
      · rw [if_neg h]; constructor <;> grind
    have hzero : m = 0 → (2 * (x : Rat) + (if y = 0 then 0 else 1)) - 2 * z = 0 := by
      intro h
      have hD0 : D = 0 := by rw [hD', h]; simp
      have hx0 : x = 0 := by rw [← hx, hD0]; simp
      have hy0 : y = 0 := by rw [← hy, hD0]; simp
      rw [if_pos hy0, hst hy0]; grind
    generalize (2 * (x : Rat) + (if y = 0 then 0 else 1)) = c at *
    have hz0 : 0 ≤ z := by
      have : (0 : Rat) ≤ (x : Rat) := by exact_mod_cast Nat.zero_le x
      grind
    have hp0 : (0 : Rat) < ((2 ^ digits : Nat) : Rat) := by
      have : 0 < 2 ^ digits := Nat.two_pow_pos _
      exact_mod_cast this
    have hfin : -(2 * z) ≤ ((2 ^ digits : Nat) : Rat) * (c - 2 * z) ∧ ((2 ^ digits : Nat) : Rat) * (c - 2 * z) ≤ 2 * z := by
      rcases hbig with h | h
      · rw [hzero h]; constructor <;> grind
      · generalize ((2 ^ digits : Nat) : Rat) = p at *
        have b1 : p * (c - 2 * z) ≤ p * 1 := Rat.mul_le_mul_of_nonneg_left (by grind) (Rat.le_of_lt hp0)
        have b2 : p * (-1) ≤ p * (c - 2 * z) := Rat.mul_le_mul_of_nonneg_left (by grind) (Rat.le_of_lt hp0)
        constructor <;> grind
    have g1 := Rat.mul_le_mul_of_nonneg_right hfin.1 (Rat.le_of_lt hu)
    have g2 := Rat.mul_le_mul_of_nonneg_right hfin.2 (Rat.le_of_lt hu)
    generalize ((2 ^ digits : Nat) : Rat) = p at *
    rcases sg_cases (s ^^ t) with hs | hs <;> rw [hs]
    · left; unfold Within; constructor <;> grind
    · right; unfold Within; constructor <;> grind
  · -- exact
    intro k hk hkb
    rw [hk]
    rw [val_num]
    have hmn : (m : Rat) / (n : Rat) * p2 (i - j) = (k.natAbs : Rat) := by
      have hnn : 0 ≤ (m : Rat) / (n : Rat) * p2 (i - j) := by
        rw [Rat.div_def]
        exact Rat.mul_nonneg (Rat.mul_nonneg (by exact_mod_cast Nat.zero_le m) (Rat.le_of_lt (Rat.inv_pos.2 hN))) (Rat.le_of_lt (p2_pos _))
      have hk0 : (0 : Rat) ≤ (k.natAbs : Rat) := by exact_mod_cast Nat.zero_le _
      have hc : (k : Rat) = (k.natAbs : Rat) ∨ (k : Rat) = -(k.natAbs : Rat) := by
        rcases Int.natAbs_eq k with h | h
        · left; rw [← Rat.intCast_natCast, ← h]
        · right; rw [← Rat.intCast_natCast, ← Rat.intCast_neg, ← h]
      rcases sg_cases (s ^^ t) with hs | hs <;> rw [hs] at hk <;> rcases hc with h | h <;> rw [h] at hk <;> grind
    -- m 2^(i-j) = k n as numbers, so n divides D
    have hmk : (m : Rat) * p2 (i - j) = (k.natAbs : Rat) * (n : Rat) := by
      have : (m : Rat) / (n : Rat) * p2 (i - j) * (n : Rat) = (m : Rat) * p2 (i - j) := by
        rw [Rat.div_def]
        have := Rat.inv_mul_cancel (n : Rat) (by grind)
        grind
      rw [← this, hmn]
    by_cases hm : m = 0
    · subst hm
      have hD0 : D = 0 := by rw [hD']; simp
      rw [hD0]
      have hk0 : (k : Rat) = 0 := by rw [← hk]; simp [Rat.div_def]
      rw [hk0]
      simp
    · have hij : i - j ≤ more := by
        apply Int.le_of_not_gt
        intro hlt
        have l1 := Nat.log2_self_le hm
        have l2 : n < 2 ^ (n.log2 + 1) := Nat.lt_log2_self
        have a1 : p2 ((m.log2 : Int) + (i - j)) ≤ (m : Rat) * p2 (i - j) := by
          rw [p2_add, p2_nat]
          have : ((2 ^ m.log2 : Nat) : Rat) ≤ (m : Rat) := by exact_mod_cast l1
          exact Rat.mul_le_mul_of_nonneg_right this (Rat.le_of_lt (p2_pos _))
        have a2 : (k.natAbs : Rat) * (n : Rat) ≤ p2 ((digits - 1 : Nat) : Int) * p2 ((n.log2 + 1 : Nat) : Int) := by
          rw [p2_nat, p2_nat]
          have : k.natAbs * n ≤ 2 ^ (digits - 1) * 2 ^ (n.log2 + 1) := Nat.mul_le_mul (Nat.le_of_lt hkb) (Nat.le_of_lt l2)
          exact_mod_cast this
        rw [← p2_add] at a2
        have a3 : p2 ((m.log2 : Int) + (i - j)) ≤ p2 (((digits - 1 : Nat) : Int) + ((n.log2 + 1 : Nat) : Int)) := by grind
        have a4 : p2 (((digits - 1 : Nat) : Int) + ((n.log2 + 1 : Nat) : Int) + 1) ≤ p2 ((m.log2 : Int) + (i - j)) := p2_mono (by omega)
        rw [p2_add _ 1, p2_one] at a4
        have := p2_pos (((digits - 1 : Nat) : Int) + ((n.log2 + 1 : Nat) : Int))
        grind
      -- D = k * 2^(more - (i-j)) * n
      have hDk : D = n * (k.natAbs * 2 ^ ((more : Int) - (i - j)).toNat) := by
        have e5 : p2 (more : Int) = p2 (i - j) * ((2 ^ ((more : Int) - (i - j)).toNat : Nat) : Rat) := p2_sub _ _ hij
        have e6 : (D : Rat) = (m : Rat) * p2 (more : Int) := by rw [hD', Rat.natCast_mul, p2_nat]
        have e7 : (D : Rat) = ((n * (k.natAbs * 2 ^ ((more : Int) - (i - j)).toNat) : Nat) : Rat) := by
          rw [e6, e5, Rat.natCast_mul, Rat.natCast_mul]; grind
        exact_mod_cast e7
      have hx : D / n = k.natAbs * 2 ^ ((more : Int) - (i - j)).toNat := by rw [hDk]; exact Nat.mul_div_cancel_left _ (Nat.pos_of_ne_zero hn)
      have hy : D % n = 0 := by rw [hDk]; exact Nat.mul_mod_right _ _
      rw [hx, hy]
      have e8 : ((2 * (k.natAbs * 2 ^ ((more : Int) - (i - j)).toNat) + ((0 : Nat) != 0).toNat : Nat) : Rat) = 2 * ((k.natAbs : Rat) * ((2 ^ ((more : Int) - (i - j)).toNat : Nat) : Rat)) := by
        simp [Rat.natCast_mul]
      rw [e8]
      have e9 : p2 0 = p2 (i - j - more - 1) * (2 * ((2 ^ ((more : Int) - (i - j)).toNat : Nat) : Rat)) := by
        rw [← p2_nat, ← p2_one, ← p2_add, ← p2_add]; congr 1; omega
      rw [p2_zero] at e9
      rw [← hk, hmn]
      have : 2 * ((k.natAbs : Rat) * ((2 ^ ((more : Int) - (i - j)).toNat : Nat) : Rat)) * p2 (i - j - more - 1) = (k.natAbs : Rat) := by grind
      rw [this]
end Go.FV

namespace Go.FV
open Ieee

/-- A DIVISION of two finite words: the exact quotient q, its cut value d, and d's rounding. -/
theorem div_rnd {f : Format} (hf : Good f) {x y : Nat} (hx : Fin f x) (hy : Fin f y) (h0 : V f y ≠ 0) :
    ∃ r q d, f.div x y = some r ∧ q * V f y = V f x ∧ (Within (((2 ^ (f.fractionBits + 2) : Nat) : Rat) * (d - q)) q ∨ Within (((2 ^ (f.fractionBits + 2) : Nat) : Rat) * (d - q)) (-q)) ∧
      (∀ k : Int, q = (k : Rat) → k.natAbs < 2 ^ (f.fractionBits + 1) → d = q) ∧ (Within d (lim f) → Rnd f d r) := by
  obtain ⟨d, q, h1, h2, h3, h4, h5⟩ := quotient_val (f.fractionBits + 2) (by omega) hx hy h0
  exact ⟨f.write d, q, val d, by simp [Format.div, h1], h3, h4, h5, fun hl => rnd_write hf h2 hl⟩

/-- .. and so it is finite where the quotient is bounded by half of what is too great. -/
theorem cut_bound {p d q b : Rat} (hp : 2 ≤ p) (h : Within (p * (d - q)) q ∨ Within (p * (d - q)) (-q)) (hq : Within q b) : Within d (2 * b) := by
  unfold Within at *
  have hb : 0 ≤ b := by grind
  have hp0 : 0 < p := by grind
  have key : ∀ x : Rat, p * x ≤ b → x ≤ b := by
    intro x hx
    rcases (Rat.le_total : x ≤ 0 ∨ 0 ≤ x) with h | h
    · grind
    · have := Rat.mul_le_mul_of_nonneg_right hp h
      grind
  have h1 : p * (d - q) ≤ b ∧ p * (q - d) ≤ b := by
    rcases h with h | h <;> constructor <;> grind
  have a1 := key _ h1.1
  have a2 := key _ h1.2
  constructor <;> grind
end Go.FV
