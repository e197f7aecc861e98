/- The laws' own comparisons of numbers and of signals, where all numbers are finite and stand for the same. -/
import Derived.Test.YtmnnblhooodnhaaEn
namespace Go.Proofs.Ytmnnblhooodnhaa
open Go.RowKit Go.FR Go.FV

/-- Both parts are finite. -/
def FinP (p : Nat × Nat) : Prop := finB p.1 = true ∧ finB p.2 = true
/-- Two numbers stand for the same (0 and -0 do). -/
def EqP (p q : Nat × Nat) : Prop := V Ieee.single p.1 = V Ieee.single q.1 ∧ V Ieee.single p.2 = V Ieee.single q.2
theorem EqP.rfl' (p : Nat × Nat) : EqP p p := ⟨rfl, rfl⟩
/-- Two signals stand for the same. -/
structure EqS (xs ys : List (Nat × Nat)) : Prop where
  len : xs.length = ys.length
  fin : ∀ i (h : i < xs.length) (h' : i < ys.length), FinP xs[i] ∧ FinP ys[i] ∧ EqP xs[i] ys[i]
theorem EqS.rfl' {xs : List (Nat × Nat)} (h : ∀ p ∈ xs, FinP p) : EqS xs xs := ⟨rfl, fun _ h1 _ => ⟨h _ (List.getElem_mem h1), h _ (List.getElem_mem h1), EqP.rfl' _⟩⟩
theorem EqS.nil : EqS [] [] := ⟨rfl, fun _ h => by simp at h⟩
theorem EqS.refl_ok {xs : List (Nat × Nat)} (h : okB xs = true) : EqS xs xs := EqS.rfl' (okB_iff.1 h).2

theorem order_eq64 {x y : Nat} (hx : Fin Ieee.double x) (hy : Fin Ieee.double y) (h : V Ieee.double x = V Ieee.double y) : (FloatKind.f64.format.order x y == some .eq) = true := by
  have := (order_fin hx hy).1.2 h
  rw [fmt64, this]; rfl
theorem order_eq32 {x y : Nat} (hx : Fin Ieee.single x) (hy : Fin Ieee.single y) (h : V Ieee.single x = V Ieee.single y) : (FloatKind.f32.format.order x y == some .eq) = true := by
  have := (order_fin hx hy).1.2 h
  rw [fmt32, this]; rfl

set_option maxHeartbeats 400000 in
theorem samePart_any (x y : Nat) (w : World) (hx : Fin Ieee.double x) (hy : Fin Ieee.double y) (h : V Ieee.double x = V Ieee.double y) :
    Calls Try.prog 39 #[.float .f64 x, .float .f64 y] w fun e w' => e = .returned (.bool true) ∧ w = w' := by
  have e := order_eq64 hx hy h
  clear hx hy h
  go_enter Try.func39, Try.ntmps39
  go_wp2
  go_ret
  exact ⟨rfl, rfl⟩
set_option maxHeartbeats 400000 in
theorem sameBits_any (p q : Nat × Nat) (w : World) (hp : FinP p) (hq : FinP q) (h : EqP p q) :
    Calls Try.prog 16 #[cx p, cx q] w fun e w' => e = .returned (.bool true) ∧ ∃ m, w' = w.drewN m := by
  obtain ⟨a, b⟩ := p
  obtain ⟨c, d⟩ := q
  obtain ⟨p1, p2⟩ := hp
  obtain ⟨q1, q2⟩ := hq
  obtain ⟨h1, h2⟩ := h
  simp only at p1 p2 q1 q2 h1 h2
  have ea := up_eq p1
  have eb := up_eq p2
  have ec := up_eq q1
  have ed := up_eq q2
  obtain ⟨_, fa, va⟩ := up64_val p1
  obtain ⟨_, fb, vb⟩ := up64_val p2
  obtain ⟨_, fc, vc⟩ := up64_val q1
  obtain ⟨_, fd, vd⟩ := up64_val q2
  have k1 : V Ieee.double (up64 a) = V Ieee.double (up64 c) := by rw [va, vc, h1]
  have k2 : V Ieee.double (up64 b) = V Ieee.double (up64 d) := by rw [vb, vd, h2]
  clear va vb vc vd h1 h2 p1 p2 q1 q2
  generalize up64 a = a' at *
  generalize up64 b = b' at *
  generalize up64 c = c' at *
  generalize up64 d = d' at *
  unfold cx
  go_enter Try.func16, Try.ntmps16
  go_wp2_with (go_at_call 39; refine (samePart_any _ _ _ (by assumption) (by assumption) (by assumption)).mono ?_; rintro e w' ⟨rfl, rfl⟩)
  go_ret
  exact ⟨rfl, 0, rfl⟩
end Go.Proofs.Ytmnnblhooodnhaa
