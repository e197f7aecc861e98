/- The draw of FnProductsOf, and its law's walk. -/
import Derived.Test.YtmnnblhooodnhaaPick
import Derived.Test.YtmnnblhooodnhaaInts
import Derived.Test.YtmnnblhooodnhaaAlive
namespace Go.Proofs.Ytmnnblhooodnhaa
open Go.RowKit

def prodA : Array Value := #[.int .i64 1, .int .i64 2, .int .i64 4, .int .i64 8, .int .i64 16, .int .i64 0, .int .i64 3, .int .i64 32]
theorem prodA_at (j : Nat) (h : j < 8) : ∃ x : Int, prodA[j]? = some (.int .i64 x) ∧ 0 ≤ x ∧ x ≤ 32 := by
  rcases (by omega : j = 0 ∨ j = 1 ∨ j = 2 ∨ j = 3 ∨ j = 4 ∨ j = 5 ∨ j = 6 ∨ j = 7) with rfl | rfl | rfl | rfl | rfl | rfl | rfl | rfl
  all_goals exact ⟨_, rfl, by decide, by decide⟩

set_option maxHeartbeats 400000 in
theorem drawProducts_any {a : Option Addr} {len cap : Nat} {z : List Int} (w : World) (h : CodeIs w a len cap z) :
    Calls Try.prog 28 #[.slice a len cap] w fun e w' => ∃ v : Int, e = .returned (.int .i64 v) ∧ 0 ≤ v ∧ v ≤ 32 ∧ Below w.heap.size w w' := by
  have hc : CodeIs w a len cap z := h
  have HC := Lib.hid hc
  clear h hc
  go_enter Try.func28, Try.ntmps28
  go_wp2_with fail
  have hblk : Blk (w.alloc (.cells prodA 3)) w.heap.size 3 prodA := Blk.new _ _ _
  refine (open_any _ (HC.out.alloc (.cells prodA 3))).mono ?_
  rintro e w1 ⟨s, rfl, hr, hB, hb⟩
  have hb0 : Below w.heap.size w w1 := ((Below.refl _ _).alloc (Nat.le_refl _) (.cells prodA 3)).trans (hb.mono (by simp))
  have hblk1 := hblk.below hb (by simp)
  have hB' : w.heap.size < s.B := by simp at hB; omega
  clear hblk hb hB
  go_wp2_with fail
  refine (pick_any _ _ hr (by omega)).mono ?_
  rintro e w2 ⟨v, rfl, h0, h1, hr2, ho⟩
  have hblk2 := hblk1.only ho (by omega)
  have hb2 := ho.below hb0 (by omega)
  obtain ⟨j, rfl⟩ := Int.eq_ofNat_of_zero_le h0
  have hj := h1 (by omega)
  obtain ⟨x, hx, x0, x1⟩ := prodA_at j (by omega)
  have hcell : w2.cell? ⟨w.heap.size, j, none⟩ = some (.int .i64 x) := by rw [hblk2.cell]; exact hx
  clear hblk1 hblk2 ho hx hr hr2 hb0 h1
  go_wp2
  go_ret
  exact ⟨x, rfl, x0, x1, hb2⟩
def sizesA : Array Value := #[.int .i64 1, .int .i64 2, .int .i64 4, .int .i64 8, .int .i64 16]
def fastsA : Array Value := #[.int .i64 0, .int .i64 1, .int .i64 4, .int .i64 12, .int .i64 32]

set_option maxHeartbeats 2000000 in
theorem law_FnProductsOf (a : Option Addr) (len cap : Nat) (z : List Int) (w : World) (h : CodeIs w a len cap z) :
    Calls Try.prog 8 #[.slice a len cap] w fun e w' => e = .returned (.bool true) ∧ Below w.heap.size w w' := by
  have HC := Lib.hid h
  clear h
  by_cases hbig : 1048576 < len
  · go_enter Try.func8, Try.ntmps8
    go_wp2
    go_ret
    exact ⟨rfl, Below.refl _ _⟩
  go_enter Try.func8, Try.ntmps8
  go_wp2_with fail
  refine (drawProducts_any _ HC.out).mono ?_
  rintro e w1 ⟨p, rfl, p0, p1, hb⟩
  cases hp : powB p
  · have hf := fastN_no hp
    obtain ⟨hf1, hf2⟩ := hf
    have h1 : fastN p < 0 := by omega
    have h2 : (fastN p == -1) = true := by rw [hf1]; rfl
    have h3 : (slowN p == -1) = true := by rw [hf2]; rfl
    clear hf1 hf2 hp
    go_wp2_with (first | (go_at_call 29; refine (products_any _ _).mono ?_; rintro e w' ⟨rfl, rfl⟩) | (go_at_call 30; refine (sproducts_any _ _).mono ?_; rintro e w' ⟨rfl, rfl⟩) | (go_at_call 13; refine (alive_any _).mono ?_; rintro e w' ⟨rfl, n, rfl⟩))
    go_ret
    exact ⟨rfl, below_drewN' hb _⟩
  · have h1 : ¬ fastN p < 0 := by rcases powB_cases hp with rfl | rfl | rfl | rfl | rfl <;> decide
    have h2 : (slowN p == p * p) = true := by rcases powB_cases hp with rfl | rfl | rfl | rfl | rfl <;> decide
    have h3 : fastN p ≤ slowN p := by rcases powB_cases hp with rfl | rfl | rfl | rfl | rfl <;> decide
    have h4 : p * p ≤ 1024 ∧ 0 ≤ p * p := by rcases powB_cases hp with rfl | rfl | rfl | rfl | rfl <;> decide
    obtain ⟨h4, h5⟩ := h4
    go_wp2_with (first | (go_at_call 29; refine (products_any _ _).mono ?_; rintro e w' ⟨rfl, rfl⟩) | (go_at_call 30; refine (sproducts_any _ _).mono ?_; rintro e w' ⟨rfl, rfl⟩))
    have hblk : Blk (w1.alloc (.cells sizesA 3)) w1.heap.size 3 sizesA := Blk.new _ _ _
    have hb' : Below w.heap.size w (w1.alloc (.cells sizesA 3)) := hb.alloc hb.size _
    have hsz : w1.heap.size < (w1.alloc (.cells sizesA 3)).heap.size := by simp
    go_loopw [9] (fun i wr => ∃ k : Nat, k ≤ 5 ∧ i = .int .i64 k ∧ Below w.heap.size w wr ∧ Blk wr w1.heap.size 3 sizesA) (fun i _ => 5 - (intOf i).toNat)
    case atStart => exact ⟨0, by omega, rfl, hb', hblk⟩
    case round =>
      obtain ⟨k, hk, rfl, hbr, hblr⟩ := hrel
      clear hblk hb' hsz
      have H2 := Lib.hid h2
      have H3 := Lib.hid h3
      have HP := Lib.hid (powB_cases hp)
      clear h2 h3 hp
      have hlt := hblr.lt
      rcases (by omega : k = 0 ∨ k = 1 ∨ k = 2 ∨ k = 3 ∨ k = 4 ∨ k = 5) with rfl | rfl | rfl | rfl | rfl | rfl
      · have hcell : wr.cell? ⟨w1.heap.size, 0, none⟩ = some (.int .i64 1) := by rw [hblr.cell]; rfl
        by_cases he : p = 1
        · subst he
          go_wp2
          go_roundw
          case rel => exact ⟨1, by omega, rfl, hbr.alloc hbr.size _, hblr.below ((Below.refl _ _).alloc (Nat.le_refl _) _) hlt⟩
          case measure => simp [intOf]
        · have he' : ((1 : Int) == p) = false := by simp; omega
          go_wp2
          go_roundw
          case rel => exact ⟨1, by omega, rfl, hbr, hblr⟩
          case measure => simp [intOf]
      · have hcell : wr.cell? ⟨w1.heap.size, 1, none⟩ = some (.int .i64 2) := by rw [hblr.cell]; rfl
        by_cases he : p = 2
        · subst he
          go_wp2
          go_roundw
          case rel => exact ⟨2, by omega, rfl, hbr.alloc hbr.size _, hblr.below ((Below.refl _ _).alloc (Nat.le_refl _) _) hlt⟩
          case measure => simp [intOf]
        · have he' : ((2 : Int) == p) = false := by simp; omega
          go_wp2
          go_roundw
          case rel => exact ⟨2, by omega, rfl, hbr, hblr⟩
          case measure => simp [intOf]
      · have hcell : wr.cell? ⟨w1.heap.size, 2, none⟩ = some (.int .i64 4) := by rw [hblr.cell]; rfl
        by_cases he : p = 4
        · subst he
          go_wp2
          go_roundw
          case rel => exact ⟨3, by omega, rfl, hbr.alloc hbr.size _, hblr.below ((Below.refl _ _).alloc (Nat.le_refl _) _) hlt⟩
          case measure => simp [intOf]
        · have he' : ((4 : Int) == p) = false := by simp; omega
          go_wp2
          go_roundw
          case rel => exact ⟨3, by omega, rfl, hbr, hblr⟩
          case measure => simp [intOf]
      · have hcell : wr.cell? ⟨w1.heap.size, 3, none⟩ = some (.int .i64 8) := by rw [hblr.cell]; rfl
        by_cases he : p = 8
        · subst he
          go_wp2
          go_roundw
          case rel => exact ⟨4, by omega, rfl, hbr.alloc hbr.size _, hblr.below ((Below.refl _ _).alloc (Nat.le_refl _) _) hlt⟩
          case measure => simp [intOf]
        · have he' : ((8 : Int) == p) = false := by simp; omega
          go_wp2
          go_roundw
          case rel => exact ⟨4, by omega, rfl, hbr, hblr⟩
          case measure => simp [intOf]
      · have hcell : wr.cell? ⟨w1.heap.size, 4, none⟩ = some (.int .i64 16) := by rw [hblr.cell]; rfl
        by_cases he : p = 16
        · subst he
          go_wp2
          go_roundw
          case rel => exact ⟨5, by omega, rfl, hbr.alloc hbr.size _, hblr.below ((Below.refl _ _).alloc (Nat.le_refl _) _) hlt⟩
          case measure => simp [intOf]
        · have he' : ((16 : Int) == p) = false := by simp; omega
          go_wp2
          go_roundw
          case rel => exact ⟨5, by omega, rfl, hbr, hblr⟩
          case measure => simp [intOf]
      · have h2 := H2.out
        have h3 := H3.out
        clear HP hblr hlt
        go_wp2
        go_ret
        exact ⟨rfl, hbr⟩
end Go.Proofs.Ytmnnblhooodnhaa
