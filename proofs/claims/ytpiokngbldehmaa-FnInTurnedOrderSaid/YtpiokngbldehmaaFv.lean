/- What the float operations of a walk give, by value. -/
import Derived.Test.YtpiokngbldehmaaFa
import Derived.Test.YtpiokngbldehmaaFr
namespace Go.FV
open Ieee Go.FR

/-- a complex64 word pair, both parts finite -/
def Fin32 (x : Nat) : Prop := Fin single x
theorem fmt32 : FloatKind.f32.format = single := rfl
theorem fmt64 : FloatKind.f64.format = double := rfl

theorem Good' (k : FloatKind) : Good k.format := by cases k; exact good32; exact good64

theorem fres_add {k : FloatKind} {x y r : Nat} (hx : Fin k.format x) (hy : Fin k.format y) (h : FRes .add k x y r) (hl : Within (V k.format x + V k.format y) (lim k.format)) : Rnd k.format (V k.format x + V k.format y) r := by
  obtain ⟨v, h1, h2⟩ := add_rnd (Good' k) hx hy
  have e : floatBits .add k x y = some v := h1
  unfold FRes at h; rw [e] at h; subst h; exact h2 hl
theorem fres_sub {k : FloatKind} {x y r : Nat} (hx : Fin k.format x) (hy : Fin k.format y) (h : FRes .sub k x y r) (hl : Within (V k.format x - V k.format y) (lim k.format)) : Rnd k.format (V k.format x - V k.format y) r := by
  obtain ⟨v, h1, h2⟩ := sub_rnd (Good' k) hx hy
  have e : floatBits .sub k x y = some v := h1
  unfold FRes at h; rw [e] at h; subst h; exact h2 hl
theorem fres_mul {k : FloatKind} {x y r : Nat} (hx : Fin k.format x) (hy : Fin k.format y) (h : FRes .mul k x y r) (hl : Within (V k.format x * V k.format y) (lim k.format)) : Rnd k.format (V k.format x * V k.format y) r := by
  obtain ⟨v, h1, h2⟩ := mul_rnd (Good' k) hx hy
  have e : floatBits .mul k x y = some v := h1
  unfold FRes at h; rw [e] at h; subst h; exact h2 hl

theorem isInfinity_of_num {d : Datum} (h : isNum d = true) : d.isInfinity = false := by cases d <;> simp_all [isNum, Datum.isInfinity]

/-- A conversion of a finite number that is not too great. -/
theorem fcv_rnd {s k : FloatKind} (hne : s ≠ k) {b r : Nat} (hb : Fin s.format b) (hl : Within (V s.format b) (lim k.format)) (h : FCv s b k r) : Rnd k.format (V s.format b) r := by
  have hw := rnd_write (Good' k) hb hl
  have e : floatToFloatBits s b k = some (k.format.write (s.format.read b)) := by
    unfold floatToFloatBits FloatKind.decode FloatKind.encode
    rw [if_neg hne]
    have hf : isNum (k.format.read (k.format.write (s.format.read b))) = true := hw.fin
    unfold Fin at hb
    generalize s.format.read b = d at *
    cases d with
    | infinity s => simp [isNum] at hb
    | nan s t => simp [isNum] at hb
    | number sg m e => simp [isInfinity_of_num hf]
  unfold FCv at h
  rw [e] at h
  subst h
  exact hw

/-- float32 to float64: exact. -/
theorem up_val {b r : Nat} (hb : Fin single b) (h : FCv .f32 b .f64 r) : Fin double r ∧ V double r = V single b := by
  have hl : Within (V single b) (lim double) := within_mono (V_le32 b hb) (by
    have h1 := lim64_ge
    have h2 : p2 128 ≤ p2 512 := p2_mono (by omega)
    grind)
  have hr := fcv_rnd (s := .f32) (k := .f64) (by simp) hb hl h
  refine ⟨hr.fin, ?_⟩
  obtain ⟨k, q, h1, h2, h3⟩ := V_short single b hb
  exact hr.exact k q (by rw [fmt64, lp64]; rw [lp32] at h3; omega) h1 (by rw [fmt64, b64]; rw [b32] at h2; omega)

/-- The product of two float32 numbers in float64: exact. -/
theorem mul_up_val {a b c d r : Nat} (ha : Fin single a) (hb : Fin single b) (h1 : FCv .f32 a .f64 c) (h2 : FCv .f32 b .f64 d) (h : FRes .mul .f64 c d r) :
    Fin double r ∧ V double r = V single a * V single b := by
  obtain ⟨f1, e1⟩ := up_val ha h1
  obtain ⟨f2, e2⟩ := up_val hb h2
  have hw : Within (V double c * V double d) (lim double) := by
    rw [e1, e2]
    refine within_mono (within_mul (V_le32 a ha) (V_le32 b hb)) ?_
    rw [← p2_add]
    have h1 := lim64_ge
    have h2 : p2 (128 + 128) ≤ p2 512 := p2_mono (by omega)
    grind
  have hr := fres_mul (k := .f64) f1 f2 h hw
  refine ⟨hr.fin, ?_⟩
  obtain ⟨k1, q1, a1, a2, a3⟩ := V_short single a ha
  obtain ⟨k2, q2, b1, b2, b3⟩ := V_short single b hb
  rw [← e1, ← e2]
  refine hr.exact (k1 * k2) (q1 + q2) ?_ ?_ ?_
  · rw [fmt64, lp64]; rw [lp32] at a3 b3; omega
  · show V double c * V double d = _
    rw [e1, e2, a1, b1, p2_add, Rat.intCast_mul]; grind
  · rw [fmt64, b64, Int.natAbs_mul]
    rw [b32] at a2 b2
    have : k1.natAbs * k2.natAbs ≤ 16777216 * 16777216 := Nat.mul_le_mul (by omega) (by omega)
    omega

/-- The two parts of a complex64 product ahead of the last conversion: rounded once, in float64. -/
theorem cmul_mid {a b c d x y : Nat} (ha : Fin single a) (hb : Fin single b) (hc : Fin single c) (hd : Fin single d) (h : CMul a b c d x y) :
    ∃ e f, Rnd double (V single a * V single c - V single b * V single d) e ∧ Rnd double (V single a * V single d + V single b * V single c) f ∧ FCv .f64 e .f32 x ∧ FCv .f64 f .f32 y := by
  obtain ⟨a', b', c', d', ac, bd, e, ad, bc, f, ua, ub, uc, ud, h1, h2, h3, h4, h5, h6, hx, hy⟩ := h
  obtain ⟨f1, e1⟩ := mul_up_val ha hc ua uc h1
  obtain ⟨f2, e2⟩ := mul_up_val hb hd ub ud h2
  obtain ⟨f3, e3⟩ := mul_up_val ha hd ua ud h4
  obtain ⟨f4, e4⟩ := mul_up_val hb hc ub uc h5
  have big : ∀ p q r s : Nat, Fin single p → Fin single q → Fin single r → Fin single s → ∀ u v : Rat, u = V single p * V single q → v = V single r * V single s → Within u (p2 256) ∧ Within v (p2 256) := by
    intro p q r s hp hq hr hs u v hu hv
    subst hu; subst hv
    have e : p2 256 = p2 128 * p2 128 := by rw [← p2_add, show (128 : Int) + 128 = 256 from rfl]
    rw [e]
    exact ⟨within_mul (V_le32 p hp) (V_le32 q hq), within_mul (V_le32 r hr) (V_le32 s hs)⟩
  have hlim : p2 256 + p2 256 ≤ lim double := by
    have h1 := lim64_ge
    have h2 : p2 (256 + 1) ≤ p2 512 := p2_mono (by omega)
    rw [p2_add, p2_one] at h2
    grind
  have w1 := big a c b d ha hc hb hd _ _ e1 e2
  have w2 := big a d b c ha hd hb hc _ _ e3 e4
  have r1 := fres_sub (k := .f64) f1 f2 h3 (within_mono (within_sub w1.1 w1.2) hlim)
  have r2 := fres_add (k := .f64) f3 f4 h6 (within_mono (within_add w2.1 w2.2) hlim)
  have g1 : V FloatKind.f64.format ac - V FloatKind.f64.format bd = V single a * V single c - V single b * V single d := by rw [fmt64, e1, e2]
  have g2 : V FloatKind.f64.format ad + V FloatKind.f64.format bc = V single a * V single d + V single b * V single c := by rw [fmt64, e3, e4]
  rw [g1] at r1
  rw [g2] at r2
  exact ⟨e, f, r1, r2, hx, hy⟩

/-! ### Finite -/
def finB (x : Nat) : Bool := isNum (single.read x)
theorem finB_iff (x : Nat) : finB x = true ↔ Fin single x := Iff.rfl

theorem zero_fin (k : FloatKind) : Fin k.format 0 ∧ V k.format 0 = 0 := by
  have h : ∀ f : Format, Fin f 0 ∧ V f 0 = 0 := by
    intro f
    have hz := write_zero f false 0
    have e : f.write (.number false 0 0) = 0 := by simp [Format.write, Format.nearest, Format.word]
    rw [e] at hz
    exact hz
  exact h _

theorem nan_order (k : FloatKind) (x y t z : Nat) : k.format.order ((Question.nanBits k x y).cut t) z = none := by
  have h : ∃ s u, k.format.read ((Question.nanBits k x y).cut t) = .nan s u := by
    cases k
    · have hm : (t / 2) % (2 ^ 23 - 1) < 2 ^ 23 - 1 := Nat.mod_lt _ (by decide)
      have h2 : t % 2 < 2 := Nat.mod_lt _ (by decide)
      show ∃ s u, single.read ((t % 2) * 2 ^ 31 + 0x7f800000 + 1 + (t / 2) % (2 ^ 23 - 1)) = .nan s u
      generalize (t / 2) % (2 ^ 23 - 1) = m at *
      generalize t % 2 = b at *
      have e1 : single.signWeight = 2147483648 := by decide
      have e2 : single.binade = 8388608 := by decide
      have e3 : single.infRung = 2139095040 := by decide
      unfold Format.read
      rw [e1, e2, e3]
      have e4 : (b * 2 ^ 31 + 0x7f800000 + 1 + m) % 2147483648 = 0x7f800000 + 1 + m := by omega
      rw [e4]
      dsimp only
      rw [if_neg (by omega), if_neg (by omega), if_neg (by omega)]
      exact ⟨_, _, rfl⟩
    · have hm : (t / 2) % (2 ^ 52 - 1) < 2 ^ 52 - 1 := Nat.mod_lt _ (by decide)
      have h2 : t % 2 < 2 := Nat.mod_lt _ (by decide)
      show ∃ s u, double.read ((t % 2) * 2 ^ 63 + 0x7ff0000000000000 + 1 + (t / 2) % (2 ^ 52 - 1)) = .nan s u
      generalize (t / 2) % (2 ^ 52 - 1) = m at *
      generalize t % 2 = b at *
      have e1 : double.signWeight = 9223372036854775808 := by decide
      have e2 : double.binade = 4503599627370496 := by decide
      have e3 : double.infRung = 9218868437227405312 := by decide
      unfold Format.read
      rw [e1, e2, e3]
      have e4 : (b * 2 ^ 63 + 0x7ff0000000000000 + 1 + m) % 9223372036854775808 = 0x7ff0000000000000 + 1 + m := by omega
      rw [e4]
      dsimp only
      rw [if_neg (by omega), if_neg (by omega), if_neg (by omega)]
      exact ⟨_, _, rfl⟩
  obtain ⟨s, u, h⟩ := h
  unfold Format.order
  rw [h]
  rfl

theorem nan_read (k : FloatKind) (x y t : Nat) : isNum (k.format.read ((Question.nanBits k x y).cut t)) = false := by
  have h := nan_order k x y t 0
  unfold Format.order at h
  generalize k.format.read ((Question.nanBits k x y).cut t) = d at *
  cases d with
  | nan s u => rfl
  | infinity s => rfl
  | number s m i =>
    have hz := (zero_fin k).1
    unfold Fin at hz
    generalize k.format.read 0 = z at *
    cases z <;> simp_all [isNum, Datum.order]

/-- 'x - x == 0' says whether x is finite. -/
theorem fin_test {x r : Nat} (h : FRes .sub .f32 x x r) : (single.order r 0 == some .eq) = finB x := by
  unfold finB
  cases hx : isNum (single.read x) with
  | true =>
    have hr := fres_sub (k := .f32) hx hx h (by
      rw [Rat.sub_self, fmt32, lim32_eq]
      have := p2_pos 128
      unfold Within; grind)
    have hv : V single r = 0 := by
      have := hr.exact 0 0 (by rw [fmt32, lp32]; omega) (by rw [Rat.sub_self]; simp) (by simp)
      rw [Rat.sub_self] at this
      exact this
    have hz := zero_fin .f32
    have := (order_fin (f := single) hr.fin hz.1).1.2 (by rw [hv]; exact hz.2.symm)
    rw [this]; rfl
  | false =>
    have hn : floatBits .sub .f32 x x = none := by
      show single.sub x x = none
      unfold Format.sub
      generalize single.read x = d at *
      cases d with
      | number s m i => simp [isNum] at hx
      | nan s u => rfl
      | infinity s => cases s <;> rfl
    unfold FRes at h
    rw [hn] at h
    obtain ⟨t, rfl⟩ := h
    have := nan_order .f32 x x t 0
    rw [fmt32] at this
    rw [this]; rfl
@[go_sem] theorem fin_run (P : Program) (w : World) (x : Nat) : (FloatKind.f32.format.order (fsR P w .f32 x x) 0 == some .eq) = finB x := fin_test (fs_res w .f32 x x)

theorem two_le_pow (k : FloatKind) : (2 : Rat) ≤ ((2 ^ (k.format.fractionBits + 2) : Nat) : Rat) := by
  have : 2 ≤ 2 ^ (k.format.fractionBits + 2) := by
    have := Nat.pow_le_pow_right (n := 2) (by omega) (by omega : 1 ≤ k.format.fractionBits + 2)
    omega
  exact_mod_cast this

theorem fres_quo {k : FloatKind} {x y r : Nat} (hx : Fin k.format x) (hy : Fin k.format y) (h0 : V k.format y ≠ 0) (h : FRes .quo k x y r) :
    ∃ q d, q * V k.format y = V k.format x ∧ (∀ b, Within q b → Within d (2 * b)) ∧ (∀ n : Int, q = (n : Rat) → n.natAbs < 2 ^ (k.format.fractionBits + 1) → d = q) ∧ (Within d (lim k.format) → Rnd k.format d r) := by
  obtain ⟨v, q, d, h1, h2, h3, h4, h5⟩ := div_rnd (Good' k) hx hy h0
  have e : floatBits .quo k x y = some v := h1
  unfold FRes at h; rw [e] at h; subst h
  exact ⟨q, d, h2, fun b hb => cut_bound (two_le_pow k) h3 hb, h4, h5⟩

/-- 'float64(n)' of a number that float64 has. -/
theorem ofInt_val (n : Int) (h : n.natAbs ≤ 9007199254740992) : Fin double (floatOfInt .f64 n) ∧ V double (floatOfInt .f64 n) = (n : Rat) := by
  have hv : val (.number (n < 0) n.natAbs 0) = (n : Rat) := by
    rw [val_num, p2_zero]
    by_cases hn : n < 0
    · have e : (n : Rat) = -(n.natAbs : Rat) := by
        rw [← Rat.intCast_natCast, ← Rat.intCast_neg]; congr 1; omega
      rw [e]; simp [sg, hn]; grind
    · have e : (n : Rat) = (n.natAbs : Rat) := by
        rw [← Rat.intCast_natCast]; congr 1; omega
      rw [e]; simp [sg, hn]
  have hl : Within (val (.number (n < 0) n.natAbs 0)) (lim double) := by
    rw [hv]
    have h1 := lim64_ge
    have h2 : p2 (53 : Nat) ≤ p2 512 := p2_mono (by omega)
    rw [p2_nat] at h2
    have hM : n ≤ ((2 ^ 53 : Nat) : Int) ∧ -((2 ^ 53 : Nat) : Int) ≤ n := by constructor <;> omega
    generalize (2 ^ 53 : Nat) = M at *
    have h3 : (n : Rat) ≤ (M : Rat) := by
      have h5 : (n : Rat) ≤ ((M : Int) : Rat) := by exact_mod_cast hM.1
      rwa [Rat.intCast_natCast] at h5
    have h4 : -(M : Rat) ≤ (n : Rat) := by
      have h5 : ((-(M : Int) : Int) : Rat) ≤ (n : Rat) := by exact_mod_cast hM.2
      rwa [Rat.intCast_neg, Rat.intCast_natCast] at h5
    unfold Within
    constructor <;> grind
  have hr := rnd_write good64 (d := .number (n < 0) n.natAbs 0) rfl hl
  refine ⟨hr.fin, ?_⟩
  have := hr.exact n 0 (by rw [lp64]; omega) (by rw [hv, p2_zero]; grind) (by rw [b64]; omega)
  rw [hv] at this
  exact this

theorem int_le {a b : Int} (h : a ≤ b) : (a : Rat) ≤ (b : Rat) := by exact_mod_cast h
theorem int_lt {a b : Int} (h : a < b) : (a : Rat) < (b : Rat) := by exact_mod_cast h
theorem int_within {n b : Int} (h : -b ≤ n ∧ n ≤ b) : Within (n : Rat) (b : Rat) := by
  have h1 := int_le h.1
  rw [Rat.intCast_neg] at h1
  exact ⟨h1, int_le h.2⟩
end Go.FV
