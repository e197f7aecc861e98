/- The draws of a number of points, and of a whole signal. -/
import Derived.Test.YtpiokngbldehmaaDraws
import Derived.Test.YtpiokngbldehmaaAlive
namespace Go.Proofs.Ytpiokngbldehmaa
open Go.RowKit Go.FR Go.FV

def pointsA : Array Value := #[.int .i64 0, .int .i64 1, .int .i64 2, .int .i64 4, .int .i64 4, .int .i64 8, .int .i64 16, .int .i64 3, .int .i64 5]
theorem pointsA_at (j : Nat) (h : j < 9) : ∃ x : Nat, pointsA[j]? = some (.int .i64 x) ∧ x ≤ 16 := by
  rcases (by omega : j = 0 ∨ j = 1 ∨ j = 2 ∨ j = 3 ∨ j = 4 ∨ j = 5 ∨ j = 6 ∨ j = 7 ∨ j = 8) with rfl | rfl | rfl | rfl | rfl | rfl | rfl | rfl | rfl
  · exact ⟨0, rfl, by omega⟩
  · exact ⟨1, rfl, by omega⟩
  · exact ⟨2, rfl, by omega⟩
  · exact ⟨4, rfl, by omega⟩
  · exact ⟨4, rfl, by omega⟩
  · exact ⟨8, rfl, by omega⟩
  · exact ⟨16, rfl, by omega⟩
  · exact ⟨3, rfl, by omega⟩
  · exact ⟨5, rfl, by omega⟩

set_option maxHeartbeats 800000 in
theorem points_any {s : Src} {q : Nat} (w : World) (h : Rdr w s q) (hq : q < 900000) :
    Calls Try.prog 44 #[.pointer (some ⟨s.B, 0, none⟩)] w fun e w' => ∃ v : Nat, e = .returned (.int .i64 v) ∧ v ≤ 16 ∧ Rdr w' s (q + 1) ∧ Upd s.B w w' := by
  go_enter Try.func44, Try.ntmps44
  go_wp2_with fail
  have hblk : Blk (w.alloc (.cells pointsA 3)) w.heap.size 3 pointsA := Blk.new _ _ _
  have hlt := h.lt
  refine (pick_any _ _ (h.alloc (.cells pointsA 3)) (by omega)).mono ?_
  rintro e w2 ⟨u, rfl, u0, u1, hr2, ho2⟩
  have hblk2 := hblk.only ho2 (by omega)
  have hu2 := ((Upd.refl s.B w).alloc (.cells pointsA 3)).only ho2
  obtain ⟨j, rfl⟩ := Int.eq_ofNat_of_zero_le u0
  have hj := u1 (by omega)
  obtain ⟨x, hx, hxm⟩ := pointsA_at j (by omega)
  have hcell : w2.cell? ⟨w.heap.size, j, none⟩ = some (.int .i64 x) := by rw [hblk2.cell]; exact hx
  clear hblk hblk2 ho2 hx h u1
  go_wp2
  go_ret
  exact ⟨x, rfl, hxm, hr2, hu2⟩
def sizeA : Array Value := #[.int .i64 1, .int .i64 2, .int .i64 4, .int .i64 4, .int .i64 8, .int .i64 16]
/-- The sizes of signals that can be transformed. -/
def SizeN (x : Nat) : Prop := x = 1 ∨ x = 2 ∨ x = 4 ∨ x = 8 ∨ x = 16
theorem sizeA_at (j : Nat) (h : j < 6) : ∃ x : Nat, sizeA[j]? = some (.int .i64 x) ∧ SizeN x := by
  unfold SizeN
  rcases (by omega : j = 0 ∨ j = 1 ∨ j = 2 ∨ j = 3 ∨ j = 4 ∨ j = 5) with rfl | rfl | rfl | rfl | rfl | rfl
  · exact ⟨1, rfl, by omega⟩
  · exact ⟨2, rfl, by omega⟩
  · exact ⟨4, rfl, by omega⟩
  · exact ⟨4, rfl, by omega⟩
  · exact ⟨8, rfl, by omega⟩
  · exact ⟨16, rfl, by omega⟩

set_option maxHeartbeats 800000 in
theorem size_any {s : Src} {q : Nat} (w : World) (h : Rdr w s q) (hq : q < 900000) :
    Calls Try.prog 59 #[.pointer (some ⟨s.B, 0, none⟩)] w fun e w' => ∃ v : Nat, e = .returned (.int .i64 v) ∧ SizeN v ∧ Rdr w' s (q + 1) ∧ Upd s.B w w' := by
  go_enter Try.func59, Try.ntmps59
  go_wp2_with fail
  have hblk : Blk (w.alloc (.cells sizeA 3)) w.heap.size 3 sizeA := Blk.new _ _ _
  have hlt := h.lt
  refine (pick_any _ _ (h.alloc (.cells sizeA 3)) (by omega)).mono ?_
  rintro e w2 ⟨u, rfl, u0, u1, hr2, ho2⟩
  have hblk2 := hblk.only ho2 (by omega)
  have hu2 := ((Upd.refl s.B w).alloc (.cells sizeA 3)).only ho2
  obtain ⟨j, rfl⟩ := Int.eq_ofNat_of_zero_le u0
  have hj := u1 (by omega)
  obtain ⟨x, hx, hxm⟩ := sizeA_at j (by omega)
  have hcell : w2.cell? ⟨w.heap.size, j, none⟩ = some (.int .i64 x) := by rw [hblk2.cell]; exact hx
  have HX := Lib.hid hxm
  clear hblk hblk2 ho2 hx h u1 hxm
  go_wp2
  go_ret
  exact ⟨x, rfl, HX.out, hr2, hu2⟩

set_option maxHeartbeats 800000 in
theorem sized_any {s : Src} {q : Nat} (m : Int) (w : World) (h : Rdr w s q) (hq : q < 600000) (hm0 : -1000 ≤ m) (hm1 : m ≤ 1000) :
    Calls Try.prog 50 #[.pointer (some ⟨s.B, 0, none⟩), .int .i64 m] w fun e w' => ∃ A k c xs, e = .returned (.slice A k c) ∧ Own w' w.heap.size A k c xs ∧ SigOk xs ∧ (SizeN k ∨ k = 3 ∨ k = 17) ∧ Rdr w' s (q + 300) ∧ Upd s.B w w' := by
  go_enter Try.func50, Try.ntmps50
  go_wp2_with fail
  refine (size_any _ h (by omega)).mono ?_
  rintro e w2 ⟨v, rfl, hv, hr2, hu2⟩
  have hvb : v ≤ 16 := by unfold SizeN at hv; omega
  have HV := Lib.hid hv
  have HU := Lib.hid hu2
  clear h hv hu2
  go_wp2_with fail
  refine (odd_any m _ hr2 (by omega) hm0 hm1).mono ?_
  rintro e w3 ⟨b, rfl, hr3, ho3⟩
  have HU3 := Lib.hid (HU.out.only ho3)
  clear hr2 HU ho3
  cases b
  · go_wp2_with fail
    refine (signal_any v m _ hr3 (by omega) (by omega) hm0 hm1).mono ?_
    rintro e w4 ⟨A, k, c, xs, rfl, ho4, hs4, hk4, hr4, hu4⟩
    have H := Lib.hid (And.intro ho4 (And.intro hs4 (And.intro hk4 (And.intro hr4 hu4))))
    clear ho4 hs4 hk4 hr4 hu4
    go_wp2
    go_ret
    obtain ⟨ho4, hs4, hk4, hr4, hu4⟩ := H.out
    refine ⟨A, k, c, xs, rfl, ho4.mono HU3.out.size, hs4, ?_, hr4.mono (by omega), HU3.out.trans hu4⟩
    rcases hk4 with rfl | rfl
    · exact .inl HV.out
    · exact .inr (.inr rfl)
  · go_wp2_with fail
    refine (signal_any 3 m _ hr3 (by omega) (by omega) hm0 hm1).mono ?_
    rintro e w4 ⟨A, k, c, xs, rfl, ho4, hs4, hk4, hr4, hu4⟩
    have H := Lib.hid (And.intro ho4 (And.intro hs4 (And.intro hk4 (And.intro hr4 hu4))))
    clear ho4 hs4 hk4 hr4 hu4
    go_wp2
    go_ret
    obtain ⟨ho4, hs4, hk4, hr4, hu4⟩ := H.out
    refine ⟨A, k, c, xs, rfl, ho4.mono HU3.out.size, hs4, ?_, hr4.mono (by omega), HU3.out.trans hu4⟩
    rcases hk4 with rfl | rfl
    · exact .inr (.inl rfl)
    · exact .inr (.inr rfl)
end Go.Proofs.Ytpiokngbldehmaa
