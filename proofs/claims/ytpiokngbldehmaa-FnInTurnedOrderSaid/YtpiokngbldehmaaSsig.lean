/- The laws' own comparisons of numbers and of signals, where all numbers are finite and stand for the same. -/
import Derived.Test.YtpiokngbldehmaaEn
namespace Go.Proofs.Ytpiokngbldehmaa
open Go.RowKit Go.FR Go.FV

/-- Both parts are finite. -/
def FinP (p : Nat × Nat) : Prop := finB p.1 = true ∧ finB p.2 = true
/-- Two numbers stand for the same (0 and -0 do). -/
def EqP (p q : Nat × Nat) : Prop := V Ieee.single p.1 = V Ieee.single q.1 ∧ V Ieee.single p.2 = V Ieee.single q.2
theorem EqP.rfl' (p : Nat × Nat) : EqP p p := ⟨rfl, rfl⟩
/-- Two signals stand for the same. -/
structure EqS (xs ys : List (Nat × Nat)) : Prop where
  len : xs.length = ys.length
  fin : ∀ i (h : i < xs.length) (h' : i < ys.length), FinP xs[i] ∧ FinP ys[i] ∧ EqP xs[i] ys[i]
theorem EqS.rfl' {xs : List (Nat × Nat)} (h : ∀ p ∈ xs, FinP p) : EqS xs xs := ⟨rfl, fun _ h1 _ => ⟨h _ (List.getElem_mem h1), h _ (List.getElem_mem h1), EqP.rfl' _⟩⟩
theorem EqS.nil : EqS [] [] := ⟨rfl, fun _ h => by simp at h⟩
theorem EqS.refl_ok {xs : List (Nat × Nat)} (h : okB xs = true) : EqS xs xs := EqS.rfl' (okB_iff.1 h).2

theorem order_eq64 {x y : Nat} (hx : Fin Ieee.double x) (hy : Fin Ieee.double y) (h : V Ieee.double x = V Ieee.double y) : (FloatKind.f64.format.order x y == some .eq) = true := by
  have := (order_fin hx hy).1.2 h
  rw [fmt64, this]; rfl
theorem order_eq32 {x y : Nat} (hx : Fin Ieee.single x) (hy : Fin Ieee.single y) (h : V Ieee.single x = V Ieee.single y) : (FloatKind.f32.format.order x y == some .eq) = true := by
  have := (order_fin hx hy).1.2 h
  rw [fmt32, this]; rfl

set_option maxHeartbeats 400000 in
theorem samePart_any (x y : Nat) (w : World) (hx : Fin Ieee.double x) (hy : Fin Ieee.double y) (h : V Ieee.double x = V Ieee.double y) :
    Calls Try.prog 26 #[.float .f64 x, .float .f64 y] w fun e w' => e = .returned (.bool true) ∧ w = w' := by
  have e := order_eq64 hx hy h
  clear hx hy h
  go_enter Try.func26, Try.ntmps26
  go_wp2
  go_ret
  exact ⟨rfl, rfl⟩
set_option maxHeartbeats 400000 in
theorem sameBits_any (p q : Nat × Nat) (w : World) (hp : FinP p) (hq : FinP q) (h : EqP p q) :
    Calls Try.prog 40 #[cx p, cx q] w fun e w' => e = .returned (.bool true) ∧ ∃ m, w' = w.drewN m := by
  obtain ⟨a, b⟩ := p
  obtain ⟨c, d⟩ := q
  obtain ⟨p1, p2⟩ := hp
  obtain ⟨q1, q2⟩ := hq
  obtain ⟨h1, h2⟩ := h
  simp only at p1 p2 q1 q2 h1 h2
  have ea := up_eq p1
  have eb := up_eq p2
  have ec := up_eq q1
  have ed := up_eq q2
  obtain ⟨_, fa, va⟩ := up64_val p1
  obtain ⟨_, fb, vb⟩ := up64_val p2
  obtain ⟨_, fc, vc⟩ := up64_val q1
  obtain ⟨_, fd, vd⟩ := up64_val q2
  have k1 : V Ieee.double (up64 a) = V Ieee.double (up64 c) := by rw [va, vc, h1]
  have k2 : V Ieee.double (up64 b) = V Ieee.double (up64 d) := by rw [vb, vd, h2]
  clear va vb vc vd h1 h2 p1 p2 q1 q2
  generalize up64 a = a' at *
  generalize up64 b = b' at *
  generalize up64 c = c' at *
  generalize up64 d = d' at *
  unfold cx
  go_enter Try.func40, Try.ntmps40
  go_wp2_with (go_at_call 26; refine (samePart_any _ _ _ (by assumption) (by assumption) (by assumption)).mono ?_; rintro e w' ⟨rfl, rfl⟩)
  go_ret
  exact ⟨rfl, 0, rfl⟩
set_option maxHeartbeats 1000000 in
theorem sameSignal_any {A A' : Option Addr} {n c n' c' : Nat} {xs ys : List (Nat × Nat)} (w : World) (h : Sg w A n c xs) (h' : Sg w A' n' c' ys) (he : EqS xs ys) (hn : n ≤ 1000) :
    Calls Try.prog 13 #[.slice A n c, .slice A' n' c'] w fun e w' => e = .returned (.bool true) ∧ ∃ m, w' = w.drewN m := by
  have hnn : n' = n := by have := he.len; have := h.len; have := h'.len; omega
  subst hnn
  by_cases h0 : n' = 0
  · subst h0
    go_enter Try.func13, Try.ntmps13
    go_wp2
    refine wp_loop_rounds 1 ?_
    rw [rounds_succ]
    go_wp2
    go_ret
    exact ⟨rfl, 0, rfl⟩
  · obtain ⟨g, off, rfl, hg, hc⟩ := h.at_ (by omega)
    obtain ⟨g', off', rfl, hg', hc'⟩ := h'.at_ (by omega)
    have hl := h.len
    have hl' := h'.len
    have HC := Lib.hid hc
    have HC' := Lib.hid hc'
    have HE := Lib.hid he
    clear h h' hc hc' he
    go_enter Try.func13, Try.ntmps13
    go_wp2
    go_loopw [5] (fun i wr => ∃ k : Nat, k ≤ n' ∧ i = .int .i64 k ∧ ∃ m, wr = w.drewN m) (fun i _ => n' - (intOf i).toNat)
    case atStart => exact ⟨0, by omega, rfl, 0, rfl⟩
    case round =>
      obtain ⟨k, hk, rfl, m, hw⟩ := hrel
      by_cases hlt : k < n'
      · have hx : k < xs.length := by omega
        have hx' : k < ys.length := by omega
        have c1 : wr.cell? ⟨g, off + k, none⟩ = some (cx xs[k]) := by rw [hw]; exact HC.out k hx
        have c2 : wr.cell? ⟨g', off' + k, none⟩ = some (cx ys[k]) := by rw [hw]; exact HC'.out k hx'
        have hE := Lib.hid (HE.out.fin k hx hx')
        have HW := Lib.hid hw
        generalize xs[k] = p at *
        generalize ys[k] = q at *
        clear HC HC' HE hw
        obtain ⟨p1, p2⟩ := p
        obtain ⟨q1, q2⟩ := q
        unfold cx at c1 c2
        simp only at c1 c2
        go_wp2
        go_quiet ((go_at_call 40; exact Calls.quiet_of (sameBits_any (p1, p2) (q1, q2) _ hE.out.1 hE.out.2.1 hE.out.2.2)))
        go_wp2
        go_roundw
        case rel => exact ⟨k + 1, by omega, by go_num, m + nq, by rw [HW.out, World.drewN_drewN]⟩
        case measure => simp [intOf]; omega
      · have HW := Lib.hid hw
        clear HC HC' HE hw
        go_wp2
        go_ret
        exact ⟨rfl, m, HW.out⟩
end Go.Proofs.Ytpiokngbldehmaa
