/- The draws of whole signals. -/
import Derived.Test.YtapncffjfaddgaaPoints
namespace Go.Proofs.Ytapncffjfaddgaa
open Go.RowKit Go.FR Go.FV

/-- What a draw of one signal leaves: the signal is the call's own; nothing that was there has changed. -/
def Drawn (w : World) (e : Ending) (w' : World) : Prop := ∃ A k c xs, e = .returned (.slice A k c) ∧ Own w' w.heap.size A k c xs ∧ SigOk xs ∧ k ≤ 17 ∧ Below w.heap.size w w'






set_option maxHeartbeats 400000 in
theorem drawTransformOf_any {a : Option Addr} {len cap : Nat} {z : List Int} (w : World) (h : CodeIs w a len cap z) :
    Calls Try.prog 21 #[.slice a len cap] w (Drawn w) := by
  have HC := Lib.hid h
  clear h
  go_enter Try.func21, Try.ntmps21
  go_wp2_with fail
  refine (open_any _ HC.out).mono ?_
  rintro e w1 ⟨s, rfl, hr, hB, hb⟩
  go_wp2_with fail
  refine (sized_any 9 _ hr (by omega) (by omega) (by omega)).mono ?_
  rintro e w3 ⟨A, k, c, xs, rfl, ho, hs, hk, hr3, hu3⟩
  have hb3 : Below w.heap.size w w3 := hu3.below hb hB hb.size
  have h1 := hb.size
  have hk17 : k ≤ 17 := by unfold SizeN at hk; omega
  have H := Lib.hid (And.intro ho (And.intro hs hb3))
  clear hr hr3 hu3 hb ho hs hb3 hk
  go_wp2
  go_ret
  exact ⟨A, k, c, xs, rfl, H.out.1.mono (by omega), H.out.2.1, by omega, H.out.2.2⟩

set_option maxHeartbeats 400000 in
theorem drawBackOf_any {a : Option Addr} {len cap : Nat} {z : List Int} (w : World) (h : CodeIs w a len cap z) :
    Calls Try.prog 15 #[.slice a len cap] w (Drawn w) := by
  have HC := Lib.hid h
  clear h
  go_enter Try.func15, Try.ntmps15
  go_wp2_with fail
  refine (open_any _ HC.out).mono ?_
  rintro e w1 ⟨s, rfl, hr, hB, hb⟩
  go_wp2_with fail
  refine (sized_any 9 _ hr (by omega) (by omega) (by omega)).mono ?_
  rintro e w3 ⟨A, k, c, xs, rfl, ho, hs, hk, hr3, hu3⟩
  have hb3 : Below w.heap.size w w3 := hu3.below hb hB hb.size
  have h1 := hb.size
  have hk17 : k ≤ 17 := by unfold SizeN at hk; omega
  have H := Lib.hid (And.intro ho (And.intro hs hb3))
  clear hr hr3 hu3 hb ho hs hb3 hk
  go_wp2
  go_ret
  exact ⟨A, k, c, xs, rfl, H.out.1.mono (by omega), H.out.2.1, by omega, H.out.2.2⟩

end Go.Proofs.Ytapncffjfaddgaa
