/- Float and complex operations run whatever their operands are, and do no more to the world than draw. -/
import Derived.Laws.FloatArith
import Derived.Laws.ComplexArith
import Derived.Laws.ComplexQuo
import Derived.Deep.Draws
import Derived.WalkKit
import Derived.WalkLawsBesides
/- Float and complex operations in a walk: every one of them runs, whatever its operands; the world's count of draws may have moved on. -/
namespace Go.FR

/-! ### a computation that returns, and does no more to the world than draw -/
def Quiet {α : Type} (P : Program) (s : Sem α) (R : α → Prop) : Prop :=
  ∀ w, ∃ a n, s.run P w = .ok a (w.drewN n) ∧ R a

theorem Quiet.pure {α : Type} {P : Program} {a : α} {R : α → Prop} (h : R a) : Quiet P (Pure.pure a) R :=
  fun w => ⟨a, 0, by simp [World.drewN_zero], h⟩
theorem Quiet.bind {α β : Type} {P : Program} {s : Sem α} {f : α → Sem β} {R : α → Prop} {S : β → Prop} (h : Quiet P s R) (k : ∀ a, R a → Quiet P (f a) S) : Quiet P (s >>= f) S := by
  intro w
  obtain ⟨a, n, h1, h2⟩ := h w
  obtain ⟨b, m, h3, h4⟩ := k a h2 (w.drewN n)
  exact ⟨b, n + m, by simp [h1, h3], h4⟩
theorem Quiet.mono {α : Type} {P : Program} {s : Sem α} {R S : α → Prop} (h : Quiet P s R) (k : ∀ a, R a → S a) : Quiet P s S :=
  fun w => let ⟨a, n, h1, h2⟩ := h w; ⟨a, n, h1, k a h2⟩

/-! ### one float operation -/
/-- What '+', '-', '*', '/' may give: the rounded result where the operation is valid; else some NaN. -/
def FRes (op : BinOp) (k : FloatKind) (x y r : Nat) : Prop :=
  match floatBits op k x y with
  | some v => r = v
  | none => ∃ t, r = (Question.nanBits k x y).cut t

def IsArith (op : BinOp) : Prop := op = .add ∨ op = .sub ∨ op = .mul ∨ op = .quo

theorem quiet_floatArith {P : Program} {op : BinOp} (hop : IsArith op) (k : FloatKind) (x y : Nat) :
    Quiet P (Op.floatArith op k x y) fun v => ∃ r, v = .float k r ∧ FRes op k x y r := by
  intro w
  unfold FRes
  cases h : floatBits op k x y with
  | some r => exact ⟨_, 0, run_floatArith w h, r, rfl, rfl⟩
  | none =>
    have hq : (Question.nanBits k x y).forced = false := rfl
    refine ⟨.float k ((Question.nanBits k x y).cut (w.tape w.drawn (.nanBits k x y))), 1, ?_, _, rfl, _, rfl⟩
    rcases hop with rfl | rfl | rfl | rfl <;> unfold floatBits at h <;> simp only at h <;>
      simp [Op.floatArith, h, hq, World.drewN]

theorem quiet_carith {P : Program} {op : BinOp} (hop : IsArith op) (k : FloatKind) (x y : Nat) :
    Quiet P (Op.Complex.arith op k x y) fun r => FRes op k x y r := by
  unfold Op.Complex.arith
  refine (quiet_floatArith hop k x y).bind ?_
  rintro _ ⟨r, rfl, h⟩
  exact Quiet.pure h

/-! ### conversions -/
/-- What a conversion between float kinds may give: the nearest word; for a NaN, and for a number that is too great, anything. -/
def FCv (s : FloatKind) (b : Nat) (k : FloatKind) (r : Nat) : Prop :=
  match floatToFloatBits s b k with
  | some v => r = v
  | none => True

theorem quiet_floatToFloat {P : Program} (s : FloatKind) (b : Nat) (k : FloatKind) :
    Quiet P (Conv.floatToFloat s b k) fun v => ∃ r, v = .float k r ∧ FCv s b k r := by
  intro w
  unfold FCv
  cases h : floatToFloatBits s b k with
  | some r => exact ⟨_, 0, run_floatToFloat w h, r, rfl, rfl⟩
  | none =>
    unfold floatToFloatBits at h
    split at h
    · cases h
    · rename_i ne
      split at h
      · rename_i x t he
        have hq : (Question.nanConv k b).forced = false := rfl
        exact ⟨.float k ((Question.nanConv k b).cut (w.tape w.drawn (.nanConv k b))), 1, by simp [Conv.floatToFloat, ne, he, hq, World.drewN], _, rfl, trivial⟩
      · cases h
      · rename_i sg m e he
        split at h
        · rename_i ho
          have hq : (Question.floatToFloat b).forced = false := rfl
          exact ⟨.float k ((Question.floatToFloat b).cut (w.tape w.drawn (.floatToFloat b))), 1, by simp [Conv.floatToFloat, ne, he, ho, hq, World.drewN], _, rfl, trivial⟩
        · cases h

theorem quiet_cconv {P : Program} (s : FloatKind) (b : Nat) (k : FloatKind) :
    Quiet P (Op.Complex.conv s b k) fun r => FCv s b k r := by
  unfold Op.Complex.conv
  split
  · rename_i h
    refine Quiet.pure ?_
    simp [FCv, floatToFloatBits, h]
  · refine (quiet_floatToFloat s b k).bind ?_
    rintro _ ⟨r, rfl, h⟩
    exact Quiet.pure h

theorem quiet_complexToComplex {P : Program} (s : FloatKind) (a b : Nat) (k : FloatKind) :
    Quiet P (Conv.complexToComplex s a b k) fun v => ∃ x y, v = .complex k x y ∧ FCv s a k x ∧ FCv s b k y := by
  unfold Conv.complexToComplex
  refine (quiet_floatToFloat s a k).bind ?_
  rintro _ ⟨x, rfl, h1⟩
  refine (quiet_floatToFloat s b k).bind ?_
  rintro _ ⟨y, rfl, h2⟩
  exact Quiet.pure ⟨x, y, rfl, h1, h2⟩

/-! ### complex operations on complex64 -/
/-- '+' and '-': part by part. -/
def CSum (op : BinOp) (a b c d x y : Nat) : Prop := FRes op .f32 a c x ∧ FRes op .f32 b d y

theorem quiet_csum {P : Program} {op : BinOp} (hop : op = .add ∨ op = .sub) (k : FloatKind) (a b c d : Nat) :
    Quiet P (Op.complexOp op k a b c d) fun v => ∃ x y, v = .complex k x y ∧ FRes op k a c x ∧ FRes op k b d y := by
  have hop' : IsArith op := by rcases hop with h | h <;> simp [IsArith, h]
  have h : Op.complexOp op k a b c d = (do pure (.complex k (← Op.Complex.arith op k a c) (← Op.Complex.arith op k b d))) := by
    rcases hop with rfl | rfl <;> rfl
  rw [h]
  refine (quiet_carith hop' k a c).bind fun x hx => (quiet_carith hop' k b d).bind fun y hy => Quiet.pure ⟨x, y, rfl, hx, hy⟩

/-- '*' of two complex64 numbers: both widened, the four products, a difference and a sum in float64, both parts narrowed. -/
def CMul (a b c d x y : Nat) : Prop :=
  ∃ a' b' c' d' ac bd e ad bc f, FCv .f32 a .f64 a' ∧ FCv .f32 b .f64 b' ∧ FCv .f32 c .f64 c' ∧ FCv .f32 d .f64 d' ∧
    FRes .mul .f64 a' c' ac ∧ FRes .mul .f64 b' d' bd ∧ FRes .sub .f64 ac bd e ∧ FRes .mul .f64 a' d' ad ∧ FRes .mul .f64 b' c' bc ∧ FRes .add .f64 ad bc f ∧
    FCv .f64 e .f32 x ∧ FCv .f64 f .f32 y

theorem quiet_cmul {P : Program} (a b c d : Nat) :
    Quiet P (Op.complexOp .mul .f32 a b c d) fun v => ∃ x y, v = .complex .f32 x y ∧ CMul a b c d x y := by
  have mul : ∀ x y : Nat, Quiet P (Op.Complex.mul x y) fun r => FRes .mul .f64 x y r := fun x y => quiet_carith (by simp [IsArith]) .f64 x y
  have sub : ∀ x y : Nat, Quiet P (Op.Complex.sub x y) fun r => FRes .sub .f64 x y r := fun x y => quiet_carith (by simp [IsArith]) .f64 x y
  have add : ∀ x y : Nat, Quiet P (Op.Complex.add x y) fun r => FRes .add .f64 x y r := fun x y => quiet_carith (by simp [IsArith]) .f64 x y
  unfold Op.complexOp
  simp only
  refine (quiet_cconv .f32 a .f64).bind fun a' ha => (quiet_cconv .f32 b .f64).bind fun b' hb => (quiet_cconv .f32 c .f64).bind fun c' hc => (quiet_cconv .f32 d .f64).bind fun d' hd => ?_
  refine Quiet.bind (R := fun (p : Nat × Nat) => ∃ ac bd ad bc, FRes .mul .f64 a' c' ac ∧ FRes .mul .f64 b' d' bd ∧ FRes .sub .f64 ac bd p.1 ∧ FRes .mul .f64 a' d' ad ∧ FRes .mul .f64 b' c' bc ∧ FRes .add .f64 ad bc p.2) ?_ ?_
  · show Quiet P (Op.Complex.product a' b' c' d') _
    unfold Op.Complex.product
    exact (mul a' c').bind fun ac h1 => (mul b' d').bind fun bd h2 => (sub ac bd).bind fun e h3 => (mul a' d').bind fun ad h4 => (mul b' c').bind fun bc h5 => (add ad bc).bind fun f h6 =>
      Quiet.pure ⟨ac, bd, ad, bc, h1, h2, h3, h4, h5, h6⟩
  · rintro ⟨e, f⟩ ⟨ac, bd, ad, bc, h1, h2, h3, h4, h5, h6⟩
    exact (quiet_cconv .f64 e .f32).bind fun x hx => (quiet_cconv .f64 f .f32).bind fun y hy =>
      Quiet.pure ⟨x, y, rfl, a', b', c', d', ac, bd, e, ad, bc, f, ha, hb, hc, hd, h1, h2, h3, h4, h5, h6, hx, hy⟩

/-- '/' of two complex64 numbers, where the divisor's first part is the greater one: gc's own road in float64, both parts narrowed. Elsewhere nothing is said. -/
def CQuo (a b c d x y : Nat) : Prop :=
  ∃ a' b' c' d', FCv .f32 a .f64 a' ∧ FCv .f32 b .f64 b' ∧ FCv .f32 c .f64 c' ∧ FCv .f32 d .f64 d' ∧
    (absGe c' d' = true → ∃ ratio rd denom br n1 e ar n2 f, FRes .quo .f64 d' c' ratio ∧ FRes .mul .f64 ratio d' rd ∧ FRes .add .f64 c' rd denom ∧
      FRes .mul .f64 b' ratio br ∧ FRes .add .f64 a' br n1 ∧ FRes .quo .f64 n1 denom e ∧ FRes .mul .f64 a' ratio ar ∧ FRes .sub .f64 b' ar n2 ∧ FRes .quo .f64 n2 denom f ∧
      ((Op.Complex.isNaN e && Op.Complex.isNaN f) = false → FCv .f64 e .f32 x ∧ FCv .f64 f .f32 y))

theorem quiet_cmp {P : Program} (op : BinOp) (hop : op = .geq ∨ op = .eql) (k : FloatKind) (x y : Nat) : Quiet P (Op.Complex.cmp op k x y) fun _ => True := by
  intro w
  rcases hop with rfl | rfl
  · exact ⟨k.format.order x y == some .gt || k.format.order x y == some .eq, 0, by simp [Op.Complex.cmp, Op.floatCmp, asBool, World.drewN_zero], trivial⟩
  · exact ⟨k.format.order x y == some .eq, 0, by simp [Op.Complex.cmp, Op.floatCmp, asBool, World.drewN_zero], trivial⟩
theorem quiet_geq {P : Program} (x y : Nat) : Quiet P (Op.Complex.cmp .geq .f64 (Op.Complex.abs x) (Op.Complex.abs y)) fun r => r = absGe x y :=
  fun w => ⟨_, 0, run_ccmp_geq w x y, rfl⟩

section
open Op.Complex
/-- what stands behind the two quotients: gc's corrections where both are NaN -/
def quoTail (a b c d e f : Nat) : Sem (Nat × Nat) := do
  let zero := (← cmp .eql .f64 c 0) && (← cmp .eql .f64 d 0)
  if !(isNaN e && isNaN f) then pure (e, f)
  else if zero && (!isNaN a || !isNaN b) then
    pure (← mul (copysign inf c) a, ← mul (copysign inf c) b)
  else if (isInf a || isInf b) && isFinite c && isFinite d then
    corrected inf (inf2one a) (inf2one b) c d
  else if (isInf c || isInf d) && isFinite a && isFinite b then
    corrected 0 a b (inf2one c) (inf2one d)
  else pure (e, f)

theorem quotient_eq (a b c d : Nat) : quotient a b c d = (do
    if ← cmp .geq .f64 (abs c) (abs d) then do
      let ratio ← quo d c
      let denom ← add c (← mul ratio d)
      quoTail a b c d (← quo (← add a (← mul b ratio)) denom) (← quo (← sub b (← mul a ratio)) denom)
    else do
      let ratio ← quo c d
      let denom ← add d (← mul ratio c)
      quoTail a b c d (← quo (← add (← mul a ratio) b) denom) (← quo (← sub (← mul b ratio) a) denom)) := rfl

theorem quiet_quoTail {P : Program} (a b c d e f : Nat) : Quiet P (quoTail a b c d e f) fun p => (isNaN e && isNaN f) = false → p = (e, f) := by
  have mul : ∀ x y : Nat, Quiet P (Op.Complex.mul x y) fun r => FRes .mul .f64 x y r := fun x y => quiet_carith (by simp [IsArith]) .f64 x y
  have sub : ∀ x y : Nat, Quiet P (Op.Complex.sub x y) fun r => FRes .sub .f64 x y r := fun x y => quiet_carith (by simp [IsArith]) .f64 x y
  have add : ∀ x y : Nat, Quiet P (Op.Complex.add x y) fun r => FRes .add .f64 x y r := fun x y => quiet_carith (by simp [IsArith]) .f64 x y
  have cor : ∀ s x1 x2 x3 x4 : Nat, Quiet P (Op.Complex.corrected s x1 x2 x3 x4) fun _ => True := by
    intro s x1 x2 x3 x4
    unfold Op.Complex.corrected
    exact (mul x1 x3).bind fun p1 _ => (mul x2 x4).bind fun p2 _ => (add p1 p2).bind fun p3 _ => (mul s p3).bind fun p4 _ => (mul x2 x3).bind fun p5 _ => (mul x1 x4).bind fun p6 _ =>
      (sub p5 p6).bind fun p7 _ => (mul s p7).bind fun p8 _ => Quiet.pure trivial
  unfold quoTail
  refine (quiet_cmp .eql (.inr rfl) .f64 c 0).bind fun z1 _ => (quiet_cmp .eql (.inr rfl) .f64 d 0).bind fun z2 _ => ?_
  dsimp only
  by_cases hnn : (!(isNaN e && isNaN f)) = true
  · rw [if_pos hnn]
    exact Quiet.pure fun _ => rfl
  · have hb : ¬ (isNaN e && isNaN f) = false := by simpa using hnn
    rw [if_neg hnn]
    split
    · exact (mul _ a).bind fun _ _ => (mul _ b).bind fun _ _ => Quiet.pure fun h => absurd h hb
    · split
      · exact (cor _ _ _ _ _).mono fun p _ h => absurd h hb
      · split
        · exact (cor _ _ _ _ _).mono fun p _ h => absurd h hb
        · exact Quiet.pure fun h => absurd h hb
end

theorem quiet_cquo {P : Program} (a b c d : Nat) :
    Quiet P (Op.complexOp .quo .f32 a b c d) fun v => ∃ x y, v = .complex .f32 x y ∧ CQuo a b c d x y := by
  have mul : ∀ x y : Nat, Quiet P (Op.Complex.mul x y) fun r => FRes .mul .f64 x y r := fun x y => quiet_carith (by simp [IsArith]) .f64 x y
  have sub : ∀ x y : Nat, Quiet P (Op.Complex.sub x y) fun r => FRes .sub .f64 x y r := fun x y => quiet_carith (by simp [IsArith]) .f64 x y
  have add : ∀ x y : Nat, Quiet P (Op.Complex.add x y) fun r => FRes .add .f64 x y r := fun x y => quiet_carith (by simp [IsArith]) .f64 x y
  have quo : ∀ x y : Nat, Quiet P (Op.Complex.quo x y) fun r => FRes .quo .f64 x y r := fun x y => quiet_carith (by simp [IsArith]) .f64 x y
  unfold Op.complexOp
  simp only
  refine (quiet_cconv .f32 a .f64).bind fun a' ha => (quiet_cconv .f32 b .f64).bind fun b' hb => (quiet_cconv .f32 c .f64).bind fun c' hc => (quiet_cconv .f32 d .f64).bind fun d' hd => ?_
  refine Quiet.bind (R := fun (p : Nat × Nat) => (absGe c' d' = true → ∃ ratio rd denom br n1 e ar n2 f, FRes .quo .f64 d' c' ratio ∧ FRes .mul .f64 ratio d' rd ∧ FRes .add .f64 c' rd denom ∧
      FRes .mul .f64 b' ratio br ∧ FRes .add .f64 a' br n1 ∧ FRes .quo .f64 n1 denom e ∧ FRes .mul .f64 a' ratio ar ∧ FRes .sub .f64 b' ar n2 ∧ FRes .quo .f64 n2 denom f ∧
      ((Op.Complex.isNaN e && Op.Complex.isNaN f) = false → p = (e, f)))) ?_ ?_
  · show Quiet P (Op.Complex.quotient a' b' c' d') _
    rw [quotient_eq]
    refine (quiet_geq c' d').bind ?_
    rintro g rfl
    by_cases hg : absGe c' d' = true
    · rw [if_pos hg]
      exact (quo d' c').bind fun ratio h1 => (mul ratio d').bind fun rd h2 => (add c' rd).bind fun denom h3 => (mul b' ratio).bind fun br h4 => (add a' br).bind fun n1 h5 =>
        (quo n1 denom).bind fun e h6 => (mul a' ratio).bind fun ar h7 => (sub b' ar).bind fun n2 h8 => (quo n2 denom).bind fun f h9 =>
        (quiet_quoTail a' b' c' d' e f).mono fun p hp _ => ⟨ratio, rd, denom, br, n1, e, ar, n2, f, h1, h2, h3, h4, h5, h6, h7, h8, h9, hp⟩
    · rw [if_neg hg]
      exact (quo c' d').bind fun ratio _ => (mul ratio c').bind fun rc _ => (add d' rc).bind fun denom _ => (mul a' ratio).bind fun ar _ => (add ar b').bind fun n1 _ =>
        (quo n1 denom).bind fun e _ => (mul b' ratio).bind fun br _ => (sub br a').bind fun n2 _ => (quo n2 denom).bind fun f _ =>
        (quiet_quoTail a' b' c' d' e f).mono fun p hp h => absurd h hg
  · rintro ⟨e, f⟩ hp
    refine (quiet_cconv .f64 e .f32).bind fun x hx => (quiet_cconv .f64 f .f32).bind fun y hy => Quiet.pure ⟨x, y, rfl, a', b', c', d', ha, hb, hc, hd, fun hg => ?_⟩
    obtain ⟨ratio, rd, denom, br, n1, e1, ar, n2, f1, h1, h2, h3, h4, h5, h6, h7, h8, h9, hn⟩ := hp hg
    refine ⟨ratio, rd, denom, br, n1, e1, ar, n2, f1, h1, h2, h3, h4, h5, h6, h7, h8, h9, fun hnn => ?_⟩
    have := hn hnn
    injection this with i1 i2
    subst i1; subst i2
    exact ⟨hx, hy⟩

/-! ### the same as equations: what the walk rewrites by -/
noncomputable def Quiet.val {α : Type} {P : Program} {s : Sem α} {R : α → Prop} (h : Quiet P s R) (w : World) : α := Classical.choose (h w)
noncomputable def Quiet.num {α : Type} {P : Program} {s : Sem α} {R : α → Prop} (h : Quiet P s R) (w : World) : Nat := Classical.choose (Classical.choose_spec (h w))
theorem Quiet.run {α : Type} {P : Program} {s : Sem α} {R : α → Prop} (h : Quiet P s R) (w : World) : s.run P w = .ok (h.val w) (w.drewN (h.num w)) :=
  (Classical.choose_spec (Classical.choose_spec (h w))).1
theorem Quiet.res {α : Type} {P : Program} {s : Sem α} {R : α → Prop} (h : Quiet P s R) (w : World) : R (h.val w) :=
  (Classical.choose_spec (Classical.choose_spec (h w))).2

/-- a word, out of a value -/
def fl : Value → Nat
  | .float _ r => r
  | _ => 0
def cre : Value → Nat
  | .complex _ r _ => r
  | _ => 0
def cim : Value → Nat
  | .complex _ _ r => r
  | _ => 0

theorem isArith_add : IsArith .add := .inl rfl
theorem isArith_sub : IsArith .sub := .inr (.inl rfl)
theorem isArith_mul : IsArith .mul := .inr (.inr (.inl rfl))
theorem isArith_quo : IsArith .quo := .inr (.inr (.inr rfl))

noncomputable def faR (P : Program) (w : World) (k : FloatKind) (x y : Nat) : Nat := fl ((quiet_floatArith (P := P) isArith_add k x y).val w)
noncomputable def faN (P : Program) (w : World) (k : FloatKind) (x y : Nat) : Nat := (quiet_floatArith (P := P) isArith_add k x y).num w
noncomputable def fsR (P : Program) (w : World) (k : FloatKind) (x y : Nat) : Nat := fl ((quiet_floatArith (P := P) isArith_sub k x y).val w)
noncomputable def fsN (P : Program) (w : World) (k : FloatKind) (x y : Nat) : Nat := (quiet_floatArith (P := P) isArith_sub k x y).num w
noncomputable def fmR (P : Program) (w : World) (k : FloatKind) (x y : Nat) : Nat := fl ((quiet_floatArith (P := P) isArith_mul k x y).val w)
noncomputable def fmN (P : Program) (w : World) (k : FloatKind) (x y : Nat) : Nat := (quiet_floatArith (P := P) isArith_mul k x y).num w
noncomputable def fqR (P : Program) (w : World) (k : FloatKind) (x y : Nat) : Nat := fl ((quiet_floatArith (P := P) isArith_quo k x y).val w)
noncomputable def fqN (P : Program) (w : World) (k : FloatKind) (x y : Nat) : Nat := (quiet_floatArith (P := P) isArith_quo k x y).num w

section
variable {P : Program} (w : World)
theorem fl_run {s : Sem Value} {k : FloatKind} {R : Nat → Prop} (h : Quiet P s fun v => ∃ r, v = .float k r ∧ R r) :
    s.run P w = .ok (.float k (fl (h.val w))) (w.drewN (h.num w)) ∧ R (fl (h.val w)) := by
  obtain ⟨r, hr, hR⟩ := h.res w
  have := h.run w
  rw [hr] at this ⊢
  exact ⟨this, hR⟩
theorem c_run {s : Sem Value} {k : FloatKind} {R : Nat → Nat → Prop} (h : Quiet P s fun v => ∃ x y, v = .complex k x y ∧ R x y) :
    s.run P w = .ok (.complex k (cre (h.val w)) (cim (h.val w))) (w.drewN (h.num w)) ∧ R (cre (h.val w)) (cim (h.val w)) := by
  obtain ⟨x, y, hr, hR⟩ := h.res w
  have := h.run w
  rw [hr] at this ⊢
  exact ⟨this, hR⟩

@[go_sem low] theorem run_fadd (t : TypeId) (k : FloatKind) (x y : Nat) : (binOp .add t (.float k x) (.float k y)).run P w = .ok (.float k (faR P w k x y)) (w.drewN (faN P w k x y)) := by
  have e : binOp .add t (.float k x) (.float k y) = Op.floatArith .add k x y := by simp [binOp]
  rw [e]; exact (fl_run w (quiet_floatArith (P := P) isArith_add k x y)).1
@[go_sem low] theorem run_fsub (t : TypeId) (k : FloatKind) (x y : Nat) : (binOp .sub t (.float k x) (.float k y)).run P w = .ok (.float k (fsR P w k x y)) (w.drewN (fsN P w k x y)) := by
  have e : binOp .sub t (.float k x) (.float k y) = Op.floatArith .sub k x y := by simp [binOp]
  rw [e]; exact (fl_run w (quiet_floatArith (P := P) isArith_sub k x y)).1
@[go_sem low] theorem run_fmul (t : TypeId) (k : FloatKind) (x y : Nat) : (binOp .mul t (.float k x) (.float k y)).run P w = .ok (.float k (fmR P w k x y)) (w.drewN (fmN P w k x y)) := by
  have e : binOp .mul t (.float k x) (.float k y) = Op.floatArith .mul k x y := by simp [binOp]
  rw [e]; exact (fl_run w (quiet_floatArith (P := P) isArith_mul k x y)).1
@[go_sem low] theorem run_fquo (t : TypeId) (k : FloatKind) (x y : Nat) : (binOp .quo t (.float k x) (.float k y)).run P w = .ok (.float k (fqR P w k x y)) (w.drewN (fqN P w k x y)) := by
  have e : binOp .quo t (.float k x) (.float k y) = Op.floatArith .quo k x y := by simp [binOp]
  rw [e]; exact (fl_run w (quiet_floatArith (P := P) isArith_quo k x y)).1
theorem fa_res (k : FloatKind) (x y : Nat) : FRes .add k x y (faR P w k x y) := (fl_run w (quiet_floatArith (P := P) isArith_add k x y)).2
theorem fs_res (k : FloatKind) (x y : Nat) : FRes .sub k x y (fsR P w k x y) := (fl_run w (quiet_floatArith (P := P) isArith_sub k x y)).2
theorem fm_res (k : FloatKind) (x y : Nat) : FRes .mul k x y (fmR P w k x y) := (fl_run w (quiet_floatArith (P := P) isArith_mul k x y)).2
theorem fq_res (k : FloatKind) (x y : Nat) : FRes .quo k x y (fqR P w k x y) := (fl_run w (quiet_floatArith (P := P) isArith_quo k x y)).2
end

/-! complex '+', '-', '*', '/' -/
noncomputable def caV (P : Program) (w : World) (k : FloatKind) (a b c d : Nat) : Value := (quiet_csum (P := P) (op := .add) (.inl rfl) k a b c d).val w
noncomputable def caN (P : Program) (w : World) (k : FloatKind) (a b c d : Nat) : Nat := (quiet_csum (P := P) (op := .add) (.inl rfl) k a b c d).num w
noncomputable def csV (P : Program) (w : World) (k : FloatKind) (a b c d : Nat) : Value := (quiet_csum (P := P) (op := .sub) (.inr rfl) k a b c d).val w
noncomputable def csN (P : Program) (w : World) (k : FloatKind) (a b c d : Nat) : Nat := (quiet_csum (P := P) (op := .sub) (.inr rfl) k a b c d).num w
noncomputable def cmV (P : Program) (w : World) (a b c d : Nat) : Value := (quiet_cmul (P := P) a b c d).val w
noncomputable def cmN (P : Program) (w : World) (a b c d : Nat) : Nat := (quiet_cmul (P := P) a b c d).num w
noncomputable def cqV (P : Program) (w : World) (a b c d : Nat) : Value := (quiet_cquo (P := P) a b c d).val w
noncomputable def cqN (P : Program) (w : World) (a b c d : Nat) : Nat := (quiet_cquo (P := P) a b c d).num w
section
variable {P : Program} (w : World)
@[go_sem low] theorem run_cadd (t : TypeId) (k : FloatKind) (a b c d : Nat) : (binOp .add t (.complex k a b) (.complex k c d)).run P w = .ok (.complex k (cre (caV P w k a b c d)) (cim (caV P w k a b c d))) (w.drewN (caN P w k a b c d)) := by
  have e : binOp .add t (.complex k a b) (.complex k c d) = Op.complexOp .add k a b c d := by simp [binOp]
  rw [e]; exact (c_run (R := fun x y => FRes .add k a c x ∧ FRes .add k b d y) w (quiet_csum (P := P) (op := .add) (.inl rfl) k a b c d)).1
@[go_sem low] theorem run_csub (t : TypeId) (k : FloatKind) (a b c d : Nat) : (binOp .sub t (.complex k a b) (.complex k c d)).run P w = .ok (.complex k (cre (csV P w k a b c d)) (cim (csV P w k a b c d))) (w.drewN (csN P w k a b c d)) := by
  have e : binOp .sub t (.complex k a b) (.complex k c d) = Op.complexOp .sub k a b c d := by simp [binOp]
  rw [e]; exact (c_run (R := fun x y => FRes .sub k a c x ∧ FRes .sub k b d y) w (quiet_csum (P := P) (op := .sub) (.inr rfl) k a b c d)).1
@[go_sem low] theorem run_cmul (t : TypeId) (a b c d : Nat) : (binOp .mul t (.complex .f32 a b) (.complex .f32 c d)).run P w = .ok (.complex .f32 (cre (cmV P w a b c d)) (cim (cmV P w a b c d))) (w.drewN (cmN P w a b c d)) := by
  have e : binOp .mul t (.complex .f32 a b) (.complex .f32 c d) = Op.complexOp .mul .f32 a b c d := by simp [binOp]
  rw [e]; exact (c_run (R := CMul a b c d) w (quiet_cmul (P := P) a b c d)).1
@[go_sem low] theorem run_cquo (t : TypeId) (a b c d : Nat) : (binOp .quo t (.complex .f32 a b) (.complex .f32 c d)).run P w = .ok (.complex .f32 (cre (cqV P w a b c d)) (cim (cqV P w a b c d))) (w.drewN (cqN P w a b c d)) := by
  have e : binOp .quo t (.complex .f32 a b) (.complex .f32 c d) = Op.complexOp .quo .f32 a b c d := by simp [binOp]
  rw [e]; exact (c_run (R := CQuo a b c d) w (quiet_cquo (P := P) a b c d)).1
theorem ca_res (k : FloatKind) (a b c d : Nat) : FRes .add k a c (cre (caV P w k a b c d)) ∧ FRes .add k b d (cim (caV P w k a b c d)) := (c_run (R := fun x y => FRes .add k a c x ∧ FRes .add k b d y) w (quiet_csum (P := P) (op := .add) (.inl rfl) k a b c d)).2
theorem cs_res (k : FloatKind) (a b c d : Nat) : FRes .sub k a c (cre (csV P w k a b c d)) ∧ FRes .sub k b d (cim (csV P w k a b c d)) := (c_run (R := fun x y => FRes .sub k a c x ∧ FRes .sub k b d y) w (quiet_csum (P := P) (op := .sub) (.inr rfl) k a b c d)).2
theorem cm_res (a b c d : Nat) : CMul a b c d (cre (cmV P w a b c d)) (cim (cmV P w a b c d)) := (c_run (R := CMul a b c d) w (quiet_cmul (P := P) a b c d)).2
theorem cq_res (a b c d : Nat) : CQuo a b c d (cre (cqV P w a b c d)) (cim (cqV P w a b c d)) := (c_run (R := CQuo a b c d) w (quiet_cquo (P := P) a b c d)).2
end

/-! conversions -/
noncomputable def fcR (P : Program) (w : World) (s : FloatKind) (b : Nat) (k : FloatKind) : Nat := fl ((quiet_floatToFloat (P := P) s b k).val w)
noncomputable def fcN (P : Program) (w : World) (s : FloatKind) (b : Nat) (k : FloatKind) : Nat := (quiet_floatToFloat (P := P) s b k).num w
noncomputable def ccV (P : Program) (w : World) (s : FloatKind) (a b : Nat) (k : FloatKind) : Value := (quiet_complexToComplex (P := P) s a b k).val w
noncomputable def ccN (P : Program) (w : World) (s : FloatKind) (a b : Nat) (k : FloatKind) : Nat := (quiet_complexToComplex (P := P) s a b k).num w
section
variable {P : Program} (w : World)
theorem run_convert_ff (src dst : TypeId) (s k : FloatKind) (b : Nat) (hs : (P.underlying src).isSome = true) (hd : P.underlying dst = some (.float k)) :
    (convert src dst (.float s b)).run P w = (Conv.floatToFloat s b k).run P w := by
  obtain ⟨u, hs'⟩ := Option.isSome_iff_exists.1 hs
  cases u <;> simp [convert, run_underlying hs', run_underlying hd]
theorem run_convert_cc (src dst : TypeId) (s k : FloatKind) (a b : Nat) (hs : (P.underlying src).isSome = true) (hd : P.underlying dst = some (.complex k)) :
    (convert src dst (.complex s a b)).run P w = (Conv.complexToComplex s a b k).run P w := by
  obtain ⟨u, hs'⟩ := Option.isSome_iff_exists.1 hs
  cases u <;> simp [convert, run_underlying hs', run_underlying hd]
/-- a conversion to the kind that it has -/
@[go_sem low] theorem run_convert_f_same (src dst : TypeId) (k : FloatKind) (b : Nat) (hs : (P.underlying src).isSome = true) (hd : P.underlying dst = some (.float k)) :
    (convert src dst (.float k b)).run P w = .ok (.float k b) w := by
  rw [run_convert_ff w src dst k k b hs hd]; simp [Conv.floatToFloat]
@[go_sem low] theorem run_convert_c_same (src dst : TypeId) (k : FloatKind) (a b : Nat) (hs : (P.underlying src).isSome = true) (hd : P.underlying dst = some (.complex k)) :
    (convert src dst (.complex k a b)).run P w = .ok (.complex k a b) w := by
  rw [run_convert_cc w src dst k k a b hs hd]; simp [Conv.complexToComplex, Conv.floatToFloat]
@[go_sem low] theorem run_convert_f_up (src dst : TypeId) (b : Nat) (hs : (P.underlying src).isSome = true) (hd : P.underlying dst = some (.float .f64)) :
    (convert src dst (.float .f32 b)).run P w = .ok (.float .f64 (fcR P w .f32 b .f64)) (w.drewN (fcN P w .f32 b .f64)) := by
  rw [run_convert_ff w src dst .f32 .f64 b hs hd]; exact (fl_run w (quiet_floatToFloat (P := P) .f32 b .f64)).1
@[go_sem low] theorem run_convert_f_down (src dst : TypeId) (b : Nat) (hs : (P.underlying src).isSome = true) (hd : P.underlying dst = some (.float .f32)) :
    (convert src dst (.float .f64 b)).run P w = .ok (.float .f32 (fcR P w .f64 b .f32)) (w.drewN (fcN P w .f64 b .f32)) := by
  rw [run_convert_ff w src dst .f64 .f32 b hs hd]; exact (fl_run w (quiet_floatToFloat (P := P) .f64 b .f32)).1
@[go_sem low] theorem run_convert_c_up (src dst : TypeId) (a b : Nat) (hs : (P.underlying src).isSome = true) (hd : P.underlying dst = some (.complex .f64)) :
    (convert src dst (.complex .f32 a b)).run P w = .ok (.complex .f64 (cre (ccV P w .f32 a b .f64)) (cim (ccV P w .f32 a b .f64))) (w.drewN (ccN P w .f32 a b .f64)) := by
  rw [run_convert_cc w src dst .f32 .f64 a b hs hd]; exact (c_run (R := fun x y => FCv .f32 a .f64 x ∧ FCv .f32 b .f64 y) w (quiet_complexToComplex (P := P) .f32 a b .f64)).1
@[go_sem low] theorem run_convert_c_down (src dst : TypeId) (a b : Nat) (hs : (P.underlying src).isSome = true) (hd : P.underlying dst = some (.complex .f32)) :
    (convert src dst (.complex .f64 a b)).run P w = .ok (.complex .f32 (cre (ccV P w .f64 a b .f32)) (cim (ccV P w .f64 a b .f32))) (w.drewN (ccN P w .f64 a b .f32)) := by
  rw [run_convert_cc w src dst .f64 .f32 a b hs hd]; exact (c_run (R := fun x y => FCv .f64 a .f32 x ∧ FCv .f64 b .f32 y) w (quiet_complexToComplex (P := P) .f64 a b .f32)).1
theorem fc_res (s : FloatKind) (b : Nat) (k : FloatKind) : FCv s b k (fcR P w s b k) := (fl_run w (quiet_floatToFloat (P := P) s b k)).2
theorem cc_res (s : FloatKind) (a b : Nat) (k : FloatKind) : FCv s a k (cre (ccV P w s a b k)) ∧ FCv s b k (cim (ccV P w s a b k)) := (c_run (R := fun x y => FCv s a k x ∧ FCv s b k y) w (quiet_complexToComplex (P := P) s a b k)).2
end

/-! float to int -/
/-- What 'int(x)' may give: the number without what is behind its point, where that fits; else some number of the kind. -/
def FInt (s : FloatKind) (b : Nat) (k : IntKind) (n : Int) : Prop :=
  match floatToIntVal s b k with
  | some v => n = v
  | none => ∃ t : Int, n = k.wrap t

theorem quiet_floatToInt {P : Program} (s : FloatKind) (b : Nat) (k : IntKind) :
    Quiet P (Conv.floatToInt s b k) fun v => ∃ n, v = .int k n ∧ FInt s b k n := by
  intro w
  have hq : (Question.floatToInt s b k).forced = false := rfl
  unfold FInt floatToIntVal
  cases h : (s.decode b).toInt .zero with
  | none =>
    refine ⟨.int k (k.wrap ((Question.floatToInt s b k).cut (w.tape w.drawn (.floatToInt s b k)))), 1, by simp [Conv.floatToInt, h, hq, World.drewN], _, rfl, _, rfl⟩
  | some n =>
    by_cases hb : k.min ≤ n ∧ n ≤ k.max
    · exact ⟨.int k n, 0, by simp [Conv.floatToInt, h, hb, World.drewN_zero], n, rfl, by simp [hb]⟩
    · refine ⟨.int k (k.wrap ((Question.floatToInt s b k).cut (w.tape w.drawn (.floatToInt s b k)))), 1, by simp [Conv.floatToInt, h, hb, hq, World.drewN], _, rfl, ?_⟩
      simp only [hb, if_false]
      exact ⟨_, rfl⟩

def iv : Value → Int
  | .int _ n => n
  | _ => 0
noncomputable def fiR (P : Program) (w : World) (s : FloatKind) (b : Nat) (k : IntKind) : Int := iv ((quiet_floatToInt (P := P) s b k).val w)
noncomputable def fiN (P : Program) (w : World) (s : FloatKind) (b : Nat) (k : IntKind) : Nat := (quiet_floatToInt (P := P) s b k).num w
section
variable {P : Program} (w : World)
theorem fi_run (s : FloatKind) (b : Nat) (k : IntKind) :
    (Conv.floatToInt s b k).run P w = .ok (.int k (fiR P w s b k)) (w.drewN (fiN P w s b k)) ∧ FInt s b k (fiR P w s b k) := by
  obtain ⟨r, hr, hR⟩ := (quiet_floatToInt (P := P) s b k).res w
  have := (quiet_floatToInt (P := P) s b k).run w
  unfold fiR fiN
  rw [hr] at this ⊢
  exact ⟨this, hR⟩
@[go_sem low] theorem run_convert_fi (src dst : TypeId) (s : FloatKind) (k : IntKind) (b : Nat) (hs : (P.underlying src).isSome = true) (hd : P.underlying dst = some (.int k)) :
    (convert src dst (.float s b)).run P w = .ok (.int k (fiR P w s b k)) (w.drewN (fiN P w s b k)) := by
  have e : (convert src dst (.float s b)).run P w = (Conv.floatToInt s b k).run P w := by
    obtain ⟨u, hs'⟩ := Option.isSome_iff_exists.1 hs
    cases u <;> simp [convert, run_underlying hs', run_underlying hd]
  rw [e]; exact (fi_run w s b k).1
theorem fi_res (s : FloatKind) (b : Nat) (k : IntKind) : FInt s b k (fiR P w s b k) := (fi_run w s b k).2
end

@[go_sem] theorem unary_neg_float (k : FloatKind) (b : Nat) : Op.unary .neg (.float k b) = pure (.float k (Op.negFloat k b)) := rfl
@[go_sem] theorem unary_neg_complex (k : FloatKind) (a b : Nat) : Op.unary .neg (.complex k a b) = pure (.complex k (Op.negFloat k a) (Op.negFloat k b)) := rfl
end Go.FR
