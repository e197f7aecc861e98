/- The draws of whole signals. -/
import Derived.Test.YtpiokngbldehmaaPoints
namespace Go.Proofs.Ytpiokngbldehmaa
open Go.RowKit Go.FR Go.FV

/-- What a draw of one signal leaves: the signal is the call's own; nothing that was there has changed. -/
def Drawn (w : World) (e : Ending) (w' : World) : Prop := ∃ A k c xs, e = .returned (.slice A k c) ∧ Own w' w.heap.size A k c xs ∧ SigOk xs ∧ k ≤ 17 ∧ Below w.heap.size w w'

set_option maxHeartbeats 400000 in
theorem drawSignalOk_any {a : Option Addr} {len cap : Nat} {z : List Int} (w : World) (h : CodeIs w a len cap z) :
    Calls Try.prog 28 #[.slice a len cap] w (Drawn w) := by
  have HC := Lib.hid h
  clear h
  go_enter Try.func28, Try.ntmps28
  go_wp2_with fail
  refine (open_any _ HC.out).mono ?_
  rintro e w1 ⟨s, rfl, hr, hB, hb⟩
  go_wp2_with fail
  refine (points_any _ hr (by omega)).mono ?_
  rintro e w2 ⟨v, rfl, hv, hr2, hu2⟩
  go_wp2_with fail
  refine (signal_any v 3 _ hr2 (by omega) (by omega) (by omega) (by omega)).mono ?_
  rintro e w3 ⟨A, k, c, xs, rfl, ho, hs, hk, hr3, hu3⟩
  have hb3 : Below w.heap.size w w3 := (hu2.trans hu3).below hb hB hb.size
  have h1 := hb.size
  have h2 := hu2.size
  have H := Lib.hid (And.intro ho (And.intro hs hb3))
  clear hr hr2 hr3 hu2 hu3 hb ho hs hb3
  go_wp2
  go_ret
  exact ⟨A, k, c, xs, rfl, H.out.1.mono (by omega), H.out.2.1, by omega, H.out.2.2⟩

set_option maxHeartbeats 400000 in
theorem drawTurnedOf_any {a : Option Addr} {len cap : Nat} {z : List Int} (w : World) (h : CodeIs w a len cap z) :
    Calls Try.prog 22 #[.slice a len cap] w (Drawn w) := by
  have HC := Lib.hid h
  clear h
  go_enter Try.func22, Try.ntmps22
  go_wp2_with fail
  refine (open_any _ HC.out).mono ?_
  rintro e w1 ⟨s, rfl, hr, hB, hb⟩
  go_wp2_with fail
  refine (points_any _ hr (by omega)).mono ?_
  rintro e w2 ⟨v, rfl, hv, hr2, hu2⟩
  go_wp2_with fail
  refine (signal_any v 9 _ hr2 (by omega) (by omega) (by omega) (by omega)).mono ?_
  rintro e w3 ⟨A, k, c, xs, rfl, ho, hs, hk, hr3, hu3⟩
  have hb3 : Below w.heap.size w w3 := (hu2.trans hu3).below hb hB hb.size
  have h1 := hb.size
  have h2 := hu2.size
  have H := Lib.hid (And.intro ho (And.intro hs hb3))
  clear hr hr2 hr3 hu2 hu3 hb ho hs hb3
  go_wp2
  go_ret
  exact ⟨A, k, c, xs, rfl, H.out.1.mono (by omega), H.out.2.1, by omega, H.out.2.2⟩

set_option maxHeartbeats 400000 in
theorem drawEnergyOf_any {a : Option Addr} {len cap : Nat} {z : List Int} (w : World) (h : CodeIs w a len cap z) :
    Calls Try.prog 25 #[.slice a len cap] w (Drawn w) := by
  have HC := Lib.hid h
  clear h
  go_enter Try.func25, Try.ntmps25
  go_wp2_with fail
  refine (open_any _ HC.out).mono ?_
  rintro e w1 ⟨s, rfl, hr, hB, hb⟩
  go_wp2_with fail
  refine (points_any _ hr (by omega)).mono ?_
  rintro e w2 ⟨v, rfl, hv, hr2, hu2⟩
  go_wp2_with fail
  refine (signal_any v 6 _ hr2 (by omega) (by omega) (by omega) (by omega)).mono ?_
  rintro e w3 ⟨A, k, c, xs, rfl, ho, hs, hk, hr3, hu3⟩
  have hb3 : Below w.heap.size w w3 := (hu2.trans hu3).below hb hB hb.size
  have h1 := hb.size
  have h2 := hu2.size
  have H := Lib.hid (And.intro ho (And.intro hs hb3))
  clear hr hr2 hr3 hu2 hu3 hb ho hs hb3
  go_wp2
  go_ret
  exact ⟨A, k, c, xs, rfl, H.out.1.mono (by omega), H.out.2.1, by omega, H.out.2.2⟩

set_option maxHeartbeats 400000 in
theorem drawSizeOk_any {a : Option Addr} {len cap : Nat} {z : List Int} (w : World) (h : CodeIs w a len cap z) :
    Calls Try.prog 30 #[.slice a len cap] w (Drawn w) := by
  have HC := Lib.hid h
  clear h
  go_enter Try.func30, Try.ntmps30
  go_wp2_with fail
  refine (open_any _ HC.out).mono ?_
  rintro e w1 ⟨s, rfl, hr, hB, hb⟩
  go_wp2_with fail
  refine (sized_any 3 _ hr (by omega) (by omega) (by omega)).mono ?_
  rintro e w3 ⟨A, k, c, xs, rfl, ho, hs, hk, hr3, hu3⟩
  have hb3 : Below w.heap.size w w3 := hu3.below hb hB hb.size
  have h1 := hb.size
  have hk17 : k ≤ 17 := by unfold SizeN at hk; omega
  have H := Lib.hid (And.intro ho (And.intro hs hb3))
  clear hr hr3 hu3 hb ho hs hb3 hk
  go_wp2
  go_ret
  exact ⟨A, k, c, xs, rfl, H.out.1.mono (by omega), H.out.2.1, by omega, H.out.2.2⟩

set_option maxHeartbeats 400000 in
theorem drawInTurnedOrder_any {a : Option Addr} {len cap : Nat} {z : List Int} (w : World) (h : CodeIs w a len cap z) :
    Calls Try.prog 33 #[.slice a len cap] w (Drawn w) := by
  have HC := Lib.hid h
  clear h
  go_enter Try.func33, Try.ntmps33
  go_wp2_with fail
  refine (open_any _ HC.out).mono ?_
  rintro e w1 ⟨s, rfl, hr, hB, hb⟩
  go_wp2_with fail
  refine (sized_any 6 _ hr (by omega) (by omega) (by omega)).mono ?_
  rintro e w3 ⟨A, k, c, xs, rfl, ho, hs, hk, hr3, hu3⟩
  have hb3 : Below w.heap.size w w3 := hu3.below hb hB hb.size
  have h1 := hb.size
  have hk17 : k ≤ 17 := by unfold SizeN at hk; omega
  have H := Lib.hid (And.intro ho (And.intro hs hb3))
  clear hr hr3 hu3 hb ho hs hb3 hk
  go_wp2
  go_ret
  exact ⟨A, k, c, xs, rfl, H.out.1.mono (by omega), H.out.2.1, by omega, H.out.2.2⟩



end Go.Proofs.Ytpiokngbldehmaa
