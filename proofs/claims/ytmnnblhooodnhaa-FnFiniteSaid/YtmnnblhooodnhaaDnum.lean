/- The draws of FnFinite and FnMilli, and the walks of these laws. -/
import Derived.Test.YtmnnblhooodnhaaNum
import Derived.Test.YtmnnblhooodnhaaAlive
import Derived.Test.YtmnnblhooodnhaaFin
namespace Go.Proofs.Ytmnnblhooodnhaa
open Go.RowKit Go.FR Go.FV

set_option maxHeartbeats 400000 in
theorem drawFinite_any {a : Option Addr} {len cap : Nat} {z : List Int} (w : World) (h : CodeIs w a len cap z) :
    Calls Try.prog 10 #[.slice a len cap] w fun e w' => ∃ p, e = .returned (cx p) ∧ Below w.heap.size w w' := by
  have HC := Lib.hid h
  clear h
  go_enter Try.func10, Try.ntmps10
  go_wp2_with fail
  refine (open_any _ HC.out).mono ?_
  rintro e w1 ⟨s, rfl, hr, hB, hb⟩
  go_wp2_with fail
  refine (num_any _ _ hr (by omega) (by omega) (by omega)).mono ?_
  rintro e w2 ⟨p, rfl, hp, hr2, hu⟩
  have hb2 := hu.below hb hB hb.size
  clear hr hr2 hu hb hp
  go_wp2
  go_ret
  exact ⟨p, rfl, hb2⟩

set_option maxHeartbeats 800000 in
theorem law_FnFinite (a : Option Addr) (len cap : Nat) (z : List Int) (w : World) (h : CodeIs w a len cap z) :
    Calls Try.prog 3 #[.slice a len cap] w fun e w' => e = .returned (.bool true) ∧ Below w.heap.size w w' := by
  have HC := Lib.hid h
  clear h
  by_cases hbig : 1048576 < len
  · go_enter Try.func3, Try.ntmps3
    go_wp2
    go_ret
    exact ⟨rfl, Below.refl _ _⟩
  go_enter Try.func3, Try.ntmps3
  go_wp2_with fail
  refine (drawFinite_any _ HC.out).mono ?_
  rintro e w1 ⟨⟨x, y⟩, rfl, hb⟩
  unfold cx
  cases hf : (finB x && finB y)
  · have hf' : (finB y && finB x) = false := by rw [Bool.and_comm]; exact hf
    go_wp2_with (first | (go_at_call 11; refine (finite_any _ _ _).mono ?_; rintro e w' ⟨rfl, n, rfl⟩; simp only [hf, hf']) | (go_at_call 12; refine (sfinite_any _ _ _).mono ?_; rintro e w' ⟨rfl, n, rfl⟩; simp only [hf, hf']) | (go_at_call 13; refine (alive_any _).mono ?_; rintro e w' ⟨rfl, n, rfl⟩))
    go_ret
    exact ⟨rfl, below_drewN' hb _⟩
  · have hf' : (finB y && finB x) = true := by rw [Bool.and_comm]; exact hf
    have hxy : finB x = true ∧ finB y = true := by simpa using hf
    have e1 : (FloatKind.f32.format.order x x == some .eq) = true := by rw [(order_fin (f := FloatKind.f32.format) hxy.1 hxy.1).1.2 rfl]; rfl
    have e2 : (FloatKind.f32.format.order y y == some .eq) = true := by rw [(order_fin (f := FloatKind.f32.format) hxy.2 hxy.2).1.2 rfl]; rfl
    clear hxy
    go_wp2_with (first | (go_at_call 11; refine (finite_any _ _ _).mono ?_; rintro e w' ⟨rfl, n, rfl⟩; simp only [hf, hf']) | (go_at_call 12; refine (sfinite_any _ _ _).mono ?_; rintro e w' ⟨rfl, n, rfl⟩; simp only [hf, hf']) | (go_at_call 13; refine (alive_any _).mono ?_; rintro e w' ⟨rfl, n, rfl⟩))
    go_ret
    exact ⟨rfl, below_drewN' hb _⟩
end Go.Proofs.Ytmnnblhooodnhaa
