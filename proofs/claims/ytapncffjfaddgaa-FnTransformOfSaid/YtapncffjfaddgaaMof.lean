/- MilliOf, the program's and the reference's, of drawn numbers. -/
import Derived.Test.YtapncffjfaddgaaNum
import Derived.Test.YtapncffjfaddgaaFin
import Derived.Test.YtapncffjfaddgaaUp
namespace Go.Proofs.Ytapncffjfaddgaa
open Go.RowKit Go.FR Go.FV

/-! ### what both ways compute of a part, word by word -/
def tD (x : Nat) : Nat := (floatToFloatBits .f32 x .f64).getD 0
def tB1 (x : Nat) : Bool := FloatKind.f64.format.order (tD x) 0 == some .lt
def tD' (x : Nat) : Nat := if tB1 x then Op.negFloat .f64 (tD x) else tD x
def tM (x : Nat) : Nat := (floatBits .mul .f64 (tD' x) 4652007308841189376).getD 0
def tS (x : Nat) : Nat := (floatBits .add .f64 (tM x) 4602678819172646912).getD 0
def tN (x : Nat) : Int := (floatToIntVal .f64 (tS x) .i64).getD 0
def tB3 (x : Nat) : Bool := FloatKind.f32.format.order x 0 == some .lt
/-- The number of thousandths, rounded. -/
def rd (x : Nat) : Int := if tB3 x then -(tN x) else tN x
def tG (x : Nat) : Bool := FloatKind.f64.format.order (tS x) 4711630319722168320 == some .gt || FloatKind.f64.format.order (tS x) 4711630319722168320 == some .eq
/-- the reference's way -/
def uM (x : Nat) : Nat := (floatBits .mul .f64 (tD x) 4652007308841189376).getD 0
def uB (x : Nat) : Bool := FloatKind.f64.format.order (uM x) 0 == some .lt
def uM' (x : Nat) : Nat := if uB x then Op.negFloat .f64 (uM x) else uM x
def uS (x : Nat) : Nat := (floatBits .add .f64 (uM' x) 4602678819172646912).getD 0
def uN (x : Nat) : Int := (floatToIntVal .f64 (uS x) .i64).getD 0
def uRd (x : Nat) : Int := if uB x then -(uN x) else uN x
def uSm1 (x : Nat) : Bool := FloatKind.f32.format.order x 3332128768 == some .gt
def uSm2 (x : Nat) : Bool := FloatKind.f32.format.order x 1184645120 == some .lt
/-- all operations on the way are valid -/
def way (x : Nat) : Bool := (floatToFloatBits .f32 x .f64).isSome && (floatBits .mul .f64 (tD' x) 4652007308841189376).isSome && (floatBits .add .f64 (tM x) 4602678819172646912).isSome
def goodW (x : Nat) : Bool := way x && (!tG x) && (floatToIntVal .f64 (tS x) .i64).isSome && decide (-9999999 ≤ rd x ∧ rd x ≤ 9999999 ∧ -9999999 ≤ tN x ∧ tN x ≤ 9999999) &&
  uSm1 x && uSm2 x && (floatBits .mul .f64 (tD x) 4652007308841189376).isSome && (floatBits .add .f64 (uM' x) 4602678819172646912).isSome && (floatToIntVal .f64 (uS x) .i64).isSome && decide (uRd x = rd x) && decide (-9999999 ≤ uN x ∧ uN x ≤ 9999999)
theorem smallL_good : ∀ x ∈ smallL, goodW x = true := by decide +kernel
theorem huge_way : (way hugeW && tG hugeW && !(uSm1 hugeW && uSm2 hugeW)) = true ∧ (way 4271273625 && tG 4271273625 && !(uSm1 4271273625 && uSm2 4271273625)) = true ∧ (way huge3W && tG huge3W && !(uSm1 huge3W && uSm2 huge3W)) = true := by decide +kernel

theorem someD {α : Type} {o : Option α} {d : α} (h : o.isSome = true) : o = some (o.getD d) := by
  cases o with
  | none => cases h
  | some x => rfl

theorem conv_up_eq (x : Nat) (h : (floatToFloatBits .f32 x .f64).isSome = true) : ∀ w : World, (convert 54 41 (.float .f32 x)).run Try.prog w = .ok (.float .f64 (tD x)) w :=
  fun w => run_convert_float_float w 54 41 .f32 .f64 x (tD x) (by rw [Try.underlying54]; rfl) Try.underlying41 (someD h)
theorem fm_eqD (w : World) {k : FloatKind} {x y : Nat} (h : (floatBits .mul k x y).isSome = true) : (binOp .mul 41 (.float k x) (.float k y)).run Try.prog w = .ok (.float k ((floatBits .mul k x y).getD 0)) w :=
  run_float_arith w .mul 41 k x y _ (someD h)
theorem fa_eqD (w : World) {k : FloatKind} {x y : Nat} (h : (floatBits .add k x y).isSome = true) : (binOp .add 41 (.float k x) (.float k y)).run Try.prog w = .ok (.float k ((floatBits .add k x y).getD 0)) w :=
  run_float_arith w .add 41 k x y _ (someD h)
theorem fi_eqD (w : World) {s : Nat} (h : (floatToIntVal .f64 s .i64).isSome = true) : (convert 41 3 (.float .f64 s)).run Try.prog w = .ok (.int .i64 ((floatToIntVal .f64 s .i64).getD 0)) w :=
  run_convert_float_int w 41 3 .f64 .i64 s _ (by rw [Try.underlying41]; rfl) Try.underlying3 (someD h)

/-- What MilliOf gives of a drawn number. -/
def moF (p : Nat × Nat) : Int × Int × Bool := if p.1 ∈ smallL ∧ p.2 ∈ smallL then (rd p.1, rd p.2, true) else (0, 0, false)
def moV (p : Nat × Nat) : Value := .tuple #[.int .i64 (moF p).1, .int .i64 (moF p).2.1, .bool (moF p).2.2]
theorem moV_small {p : Nat × Nat} (h : NumSm p) : moV p = .tuple #[.int .i64 (rd p.1), .int .i64 (rd p.2), .bool true] := by
  have h' : p.1 ∈ smallL ∧ p.2 ∈ smallL := h
  unfold moV moF; rw [if_pos h']
theorem huge_not_small : hugeW ∉ smallL ∧ huge3W ∉ smallL := by decide +kernel
theorem moV_huge {p : Nat × Nat} (h : p = (hugeW, 4271273625) ∨ (p.1 = huge3W ∧ p.2 ∈ smallL) ∨ (finB p.1 && finB p.2) = false) : moV p = .tuple #[.int .i64 0, .int .i64 0, .bool false] := by
  have hn : ¬ (p.1 ∈ smallL ∧ p.2 ∈ smallL) := by
    rintro ⟨h1, h2⟩
    rcases h with rfl | ⟨h, _⟩ | h
    · exact huge_not_small.1 h1
    · rw [h] at h1; exact huge_not_small.2 h1
    · rw [smallL_fin _ h1, smallL_fin _ h2] at h; cases h
  unfold moV moF; rw [if_neg hn]

set_option maxHeartbeats 400000 in
theorem small_any (x : Nat) (w : World) :
    Calls Try.prog 56 #[.float .f32 x] w fun e w' => e = .returned (.bool (uSm1 x && uSm2 x)) ∧ w = w' := by
  have b1 : (FloatKind.f32.format.order x 3332128768 == some .gt) = uSm1 x := rfl
  have b2 : (FloatKind.f32.format.order x 1184645120 == some .lt) = uSm2 x := rfl
  generalize uSm1 x = c1 at *
  generalize uSm2 x = c2 at *
  cases c1 <;> cases c2
  all_goals
    go_enter Try.func56, Try.ntmps56
    go_wp2
    go_ret
    exact ⟨rfl, rfl⟩
set_option maxHeartbeats 800000 in
theorem round_small (x : Nat) (w : World) (hg : goodW x = true) :
    Calls Try.prog 57 #[.float .f32 x] w fun e w' => e = .returned (.int .i64 (rd x)) ∧ w = w' := by
  simp only [goodW, way, Bool.and_eq_true, decide_eq_true_eq, Bool.not_eq_true'] at hg
  obtain ⟨⟨⟨⟨⟨⟨⟨⟨⟨⟨⟨⟨g1, g2⟩, g3⟩, g4⟩, g5⟩, g6⟩, g7⟩, g8⟩, g9⟩, g10⟩, g11⟩, g12⟩, g13⟩ := hg
  clear g2 g3 g4 g5 g6 g7 g8
  obtain ⟨n0, n1⟩ := g13
  rw [← g12]
  have e1 := conv_up_eq x g1
  have e2 := fun w => fm_eqD w g9
  have e3 := fun w => fa_eqD w g10
  have e5 := fun w => fi_eqD w g11
  have hrd : uRd x = if uB x then -(uN x) else uN x := rfl
  have d1 : uM' x = if uB x then Op.negFloat .f64 (uM x) else uM x := rfl
  have b1 : (FloatKind.f64.format.order (uM x) 0 == some .lt) = uB x := rfl
  have m1 : (floatBits .mul .f64 (tD x) 4652007308841189376).getD 0 = uM x := rfl
  have s1 : (floatBits .add .f64 (uM' x) 4602678819172646912).getD 0 = uS x := rfl
  have nn : (floatToIntVal .f64 (uS x) .i64).getD 0 = uN x := rfl
  rw [hrd]
  simp only [m1] at e2
  simp only [s1] at e3
  simp only [nn] at e5
  rw [d1] at e3
  generalize tD x = d at *
  generalize uM x = m at *
  generalize uS x = s at *
  generalize uN x = n at *
  generalize uB x = c1 at *
  clear g1 g9 g10 g11 g12 hrd d1 m1 s1 nn
  cases c1 <;> simp only [Bool.false_eq_true, if_false, if_true] at e3 ⊢
  all_goals
    go_enter Try.func57, Try.ntmps57
    go_wp2
    go_ret
    exact ⟨rfl, rfl⟩
theorem good_parts {x : Nat} (h : goodW x = true) : (uSm1 x && uSm2 x) = true ∧ inB (rd x) (-9999999) 9999999 = true := by
  simp only [goodW, way, Bool.and_eq_true, decide_eq_true_eq, Bool.not_eq_true'] at h
  obtain ⟨⟨⟨⟨⟨⟨⟨⟨⟨⟨⟨⟨g1, g2⟩, g3⟩, g4⟩, g5⟩, g6⟩, g7⟩, g8⟩, g9⟩, g10⟩, g11⟩, g12⟩, g13⟩ := h
  exact ⟨by rw [g7, g8]; rfl, by unfold inB; rw [decide_eq_true]; omega⟩
set_option maxHeartbeats 800000 in
theorem smof_small (p : Nat × Nat) (w : World) (h : NumSm p) :
    Calls Try.prog 52 #[cx p] w fun e w' => e = .returned (moV p) ∧ ∃ n, w' = w.drewN n := by
  rw [moV_small h]
  obtain ⟨x, y⟩ := p
  obtain ⟨hx, hy⟩ := h
  simp only at hx hy ⊢
  have f1 := smallL_fin x hx
  have f2 := smallL_fin y hy
  have g1 := smallL_good x hx
  have g2 := smallL_good y hy
  obtain ⟨s1, i1⟩ := good_parts g1
  obtain ⟨s2, i2⟩ := good_parts g2
  clear hx hy
  unfold cx
  go_enter Try.func52, Try.ntmps52
  go_wp2_with (first | (go_at_call 41; refine (sfinite_any _ _ _).mono ?_; rintro e w' ⟨rfl, n, rfl⟩; simp only [f1, f2, Bool.and_self]) | (go_at_call 56; refine (small_any _ _).mono ?_; rintro e w' ⟨rfl, rfl⟩; simp only [s1, s2]) | (go_at_call 57; refine (round_small _ _ (by assumption)).mono ?_; rintro e w' ⟨rfl, rfl⟩) | (go_at_call 36; refine (l1In_any _ _ _ _).mono ?_; rintro e w' ⟨rfl, rfl⟩; simp only [i1, i2]))
  go_ret3
  exact ⟨rfl, _, rfl⟩
set_option maxHeartbeats 800000 in
theorem smof_huge (p : Nat × Nat) (w : World) (h : p = (hugeW, 4271273625) ∨ (p.1 = huge3W ∧ p.2 ∈ smallL) ∨ (finB p.1 && finB p.2) = false) :
    Calls Try.prog 52 #[cx p] w fun e w' => e = .returned (moV p) ∧ ∃ n, w' = w.drewN n := by
  rw [moV_huge h]
  have key : (finB p.1 && finB p.2) = false ∨ ((finB p.1 && finB p.2) = true ∧ (uSm1 p.1 && uSm2 p.1) = false) := by
    rcases h with rfl | ⟨h1, h2⟩ | hf
    · refine .inr ⟨by decide +kernel, ?_⟩
      have := huge_way.1
      simp only [Bool.and_eq_true, Bool.not_eq_true'] at this
      exact this.2
    · refine .inr ⟨by rw [smallL_fin _ h2, h1, show finB huge3W = true from by decide +kernel]; rfl, ?_⟩
      have := huge_way.2.2
      simp only [Bool.and_eq_true, Bool.not_eq_true'] at this
      rw [h1]; exact this.2
    · exact .inl hf
  clear h
  obtain ⟨x, y⟩ := p
  simp only at key
  unfold cx
  simp only
  rcases key with hf | ⟨hf, hs⟩
  · go_enter Try.func52, Try.ntmps52
    go_wp2_with (go_at_call 41; refine (sfinite_any _ _ _).mono ?_; rintro e w' ⟨rfl, n, rfl⟩; rw [hf])
    go_ret3
    exact ⟨rfl, _, rfl⟩
  · go_enter Try.func52, Try.ntmps52
    go_wp2_with (first | (go_at_call 41; refine (sfinite_any _ _ _).mono ?_; rintro e w' ⟨rfl, n, rfl⟩; rw [hf]) | (go_at_call 56; refine (small_any _ _).mono ?_; rintro e w' ⟨rfl, rfl⟩; rw [hs]))
    go_ret3
    exact ⟨rfl, _, rfl⟩
theorem smof_any (p : Nat × Nat) (w : World) (h : NumOk p) :
    Calls Try.prog 52 #[cx p] w fun e w' => e = .returned (moV p) ∧ ∃ n, w' = w.drewN n := by
  rcases h with h | h
  · exact smof_small p w h
  · exact smof_huge p w h
end Go.Proofs.Ytapncffjfaddgaa
