/- Near, the program's and the reference's, of any two numbers and a bound that is a number. -/
import Derived.Test.YtapncffjfaddgaaFin
import Derived.Test.YtapncffjfaddgaaWide
namespace Go.FV
open Ieee Go.FR

/-- The difference of two parts, as float64. -/
def dif (x y : Nat) : Nat := (floatBits .sub .f64 (up64 x) (up64 y)).getD 0
theorem dif_spec {x y : Nat} (hx : Fin single x) (hy : Fin single y) :
    floatBits .sub .f64 (up64 x) (up64 y) = some (dif x y) ∧ Rnd double (V single x - V single y) (dif x y) ∧ V double (dif y x) = - V double (dif x y) := by
  obtain ⟨_, f1, v1⟩ := up64_val hx
  obtain ⟨_, f2, v2⟩ := up64_val hy
  obtain ⟨r, h1, h2⟩ := sub_rnd good64 f1 f2
  obtain ⟨r', h1', _⟩ := sub_rnd good64 f2 f1
  have b1 : floatBits .sub .f64 (up64 x) (up64 y) = some r := h1
  have b2 : floatBits .sub .f64 (up64 y) (up64 x) = some r' := h1'
  have hl : Within (V double (up64 x) - V double (up64 y)) (lim double) := by
    rw [v1, v2]
    refine within_mono (within_sub (V_le32 x hx) (V_le32 y hy)) (Rat.le_trans ?_ lim64_ge)
    have := p2_sub 129 128 (by omega)
    have h2 : p2 129 = p2 128 + p2 128 := by rw [this]; have : (129 - 128 : Int).toNat = 1 := rfl; rw [this]; simp; grind
    rw [← h2]; exact p2_mono (by omega)
  have hr := h2 hl
  rw [v1, v2] at hr
  unfold dif
  rw [b1, b2]
  exact ⟨rfl, hr, sub_flip double f1 f2 h1 h1'⟩

/-- Not more than, as the machine tests it. -/
def leB (x y : Nat) : Bool := FloatKind.f64.format.order x y == some .lt || FloatKind.f64.format.order x y == some .eq
theorem leB_val {x y : Nat} (hx : Fin double x) (hy : Fin double y) : leB x y = true ↔ V double x ≤ V double y := by
  obtain ⟨h1, h2, h3⟩ := order_fin hx hy
  unfold leB
  rw [fmt64, Bool.or_eq_true, beq_iff_eq, beq_iff_eq, h1, h2]
  grind
/-- Two parts are not farther from one another than a bound. -/
def nearB (x y β : Nat) : Bool := leB (dif x y) β && leB (Op.negFloat .f64 (dif x y)) β
theorem nearB_val {x y β : Nat} (hx : Fin single x) (hy : Fin single y) (hβ : Fin double β) : nearB x y β = true ↔ V double (dif x y) ≤ V double β ∧ - V double (dif x y) ≤ V double β := by
  obtain ⟨_, h2, _⟩ := dif_spec hx hy
  obtain ⟨n1, n2⟩ := neg_val _ h2.fin
  unfold nearB
  rw [Bool.and_eq_true, leB_val h2.fin hβ, leB_val n1 hβ, n2]
theorem nearB_comm {x y β : Nat} (hx : Fin single x) (hy : Fin single y) (hβ : Fin double β) : nearB y x β = nearB x y β := by
  have h1 := nearB_val hx hy hβ
  have h2 := nearB_val hy hx hβ
  obtain ⟨_, _, h3⟩ := dif_spec hx hy
  rw [h3] at h2
  have : nearB y x β = true ↔ nearB x y β = true := by rw [h1, h2]; grind
  cases ha : nearB y x β <;> cases hb : nearB x y β <;> simp_all
theorem nearB_self {x : Nat} (hx : Fin single x) : nearB x x 0 = true := by
  have z := zero_fin .f64
  rw [nearB_val hx hx z.1]
  obtain ⟨_, _, h3⟩ := dif_spec hx hx
  have : V double 0 = 0 := z.2
  rw [this]
  grind
/-- As the program tests it. -/
theorem near_impl {x y β : Nat} (hx : Fin single x) (hy : Fin single y) (hβ : Fin double β) :
    leB (if (FloatKind.f64.format.order (dif x y) 0 == some .lt) then Op.negFloat .f64 (dif x y) else dif x y) β = nearB x y β := by
  obtain ⟨_, h2, _⟩ := dif_spec hx hy
  obtain ⟨n1, n2⟩ := neg_val _ h2.fin
  have z := zero_fin .f64
  obtain ⟨_, o2, _⟩ := order_fin (f := double) h2.fin z.1
  have hz : V double 0 = 0 := z.2
  rw [hz] at o2
  have hv := nearB_val hx hy hβ
  by_cases hl : V double (dif x y) < 0
  · have e : (FloatKind.f64.format.order (dif x y) 0 == some .lt) = true := by rw [fmt64, beq_iff_eq]; exact o2.2 hl
    rw [e, if_pos rfl]
    have := leB_val n1 hβ
    rw [n2] at this
    have h3 : leB (Op.negFloat .f64 (dif x y)) β = true ↔ nearB x y β = true := by rw [this, hv]; grind
    cases ha : leB (Op.negFloat .f64 (dif x y)) β <;> cases hb : nearB x y β <;> simp_all
  · have e : (FloatKind.f64.format.order (dif x y) 0 == some .lt) = false := by
      rw [fmt64, beq_eq_false_iff_ne]; intro c; exact hl (o2.1 c)
    rw [e, if_neg (by simp)]
    have := leB_val h2.fin hβ
    have h3 : leB (dif x y) β = true ↔ nearB x y β = true := by rw [this, hv]; grind
    cases ha : leB (dif x y) β <;> cases hb : nearB x y β <;> simp_all
end Go.FV
namespace Go.Proofs.Ytapncffjfaddgaa
open Go.RowKit Go.FR Go.FV

theorem csub_eq {a b c d r1 r2 : Nat} (h1 : floatBits .sub .f64 a c = some r1) (h2 : floatBits .sub .f64 b d = some r2) : (∀ w, cre (csV Try.prog w .f64 a b c d) = r1) ∧ ∀ w, cim (csV Try.prog w .f64 a b c d) = r2 := by
  constructor
  · intro w
    have := (cs_res (P := Try.prog) w .f64 a b c d).1
    unfold FRes at this; rw [h1] at this; exact this
  · intro w
    have := (cs_res (P := Try.prog) w .f64 a b c d).2
    unfold FRes at this; rw [h2] at this; exact this
theorem up_pair_eq {a b : Nat} (ha : FV.Fin Ieee.single a) (hb : FV.Fin Ieee.single b) : ∀ w : World, (convert 26 66 (.complex .f32 a b)).run Try.prog w = .ok (.complex .f64 (up64 a) (up64 b)) w :=
  fun w => run_convert_complex w 26 66 .f32 .f64 a b _ _ (by rw [Try.underlying26]; rfl) Try.underlying66 (by unfold cConvBits; rw [(up64_val ha).1, (up64_val hb).1]; rfl)

/-- What Near reports. -/
def nearF (a b c d β : Nat) : Bool := (finB a && finB b) && ((finB c && finB d) && (nearB a c β && nearB b d β))
theorem nearF_comm (a b c d β : Nat) (hβ : FV.Fin Ieee.double β) : nearF c d a b β = nearF a b c d β := by
  unfold nearF
  cases h1 : (finB a && finB b) <;> cases h2 : (finB c && finB d) <;> try rfl
  have k1 : finB a = true ∧ finB b = true := by simpa using h1
  have k2 : finB c = true ∧ finB d = true := by simpa using h2
  rw [nearB_comm k1.1 k2.1 hβ, nearB_comm k1.2 k2.2 hβ]
theorem nearF_self (a b : Nat) : nearF a b a b 0 = (finB a && finB b) := by
  unfold nearF
  cases h1 : (finB a && finB b)
  · rfl
  · have k1 : finB a = true ∧ finB b = true := by simpa using h1
    rw [nearB_self k1.1, nearB_self k1.2]; rfl

set_option maxHeartbeats 1600000 in
theorem near_any (a b c d β : Nat) (w : World) (hβ : FV.Fin Ieee.double β) :
    Calls Try.prog 42 #[.complex .f32 a b, .complex .f32 c d, .float .f64 β] w fun e w' => e = .returned (.bool (nearF a b c d β)) ∧ ∃ n, w' = w.drewN n := by
  unfold nearF
  cases h1 : (finB a && finB b)
  · go_enter Try.func42, Try.ntmps42
    go_wp2_with (first | (go_at_call 14; refine (finite_any _ _ _).mono ?_; rintro e w' ⟨rfl, n, rfl⟩; simp only [h1]))
    go_ret
    exact ⟨rfl, _, rfl⟩
  cases h2 : (finB c && finB d)
  · go_enter Try.func42, Try.ntmps42
    go_wp2_with (first | (go_at_call 14; refine (finite_any _ _ _).mono ?_; rintro e w' ⟨rfl, n, rfl⟩; simp only [h1, h2]))
    go_ret
    exact ⟨rfl, _, rfl⟩
  have k1 : finB a = true ∧ finB b = true := by simpa using h1
  have k2 : finB c = true ∧ finB d = true := by simpa using h2
  obtain ⟨⟨ha, hb⟩, hc, hd⟩ := And.intro k1 k2
  have u1 := up_pair_eq ha hb
  have u2 := up_pair_eq hc hd
  obtain ⟨s1, s2⟩ := csub_eq (dif_spec ha hc).1 (dif_spec hb hd).1
  have n1 := near_impl ha hc hβ
  have n2 := near_impl hb hd hβ
  unfold leB at n1 n2
  clear k1 k2 ha hb hc hd
  simp only [Bool.true_and]
  have F1 := Lib.hid h1
  have F2 := Lib.hid h2
  clear h1 h2
  generalize nearB a c β = m1 at *
  generalize nearB b d β = m2 at *
  generalize dif a c = r1 at *
  generalize dif b d = r2 at *
  generalize hA : up64 a = a' at *
  generalize hB : up64 b = b' at *
  generalize hC : up64 c = c' at *
  generalize hD : up64 d = d' at *
  clear hA hB hC hD
  generalize ht1 : (FloatKind.f64.format.order r1 0 == some .lt) = t1 at *
  generalize ht2 : (FloatKind.f64.format.order r2 0 == some .lt) = t2 at *
  cases t1 <;> cases t2 <;> simp only [Bool.false_eq_true, if_false, if_true] at n1 n2 <;> cases m1 <;> cases m2
  all_goals
    go_enter Try.func42, Try.ntmps42
    go_wp2_with (first | (go_at_call 14; refine (finite_any _ _ _).mono ?_; rintro e w' ⟨rfl, n, rfl⟩; simp only [F1.out, F2.out]))
    go_ret
    exact ⟨rfl, _, rfl⟩
end Go.Proofs.Ytapncffjfaddgaa
