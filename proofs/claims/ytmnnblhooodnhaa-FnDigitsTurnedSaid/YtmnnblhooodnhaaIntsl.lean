/- Lists of whole numbers in memory; hasInt. -/
import Derived.Test.YtmnnblhooodnhaaOwn1
namespace Go.Proofs.Ytmnnblhooodnhaa
open Go.RowKit

theorem info_i : (Try.prog.info? 3).map (fun i => (i.zero, i.size, i.bytes)) = some (some (.int .i64 0), 1, 8) := by kernel_rfl

/-- The slice owns these numbers. -/
def OwnI (w : World) (B : Nat) (A : Option Addr) (n c : Nat) (xs : List Int) : Prop := w.ownsRow B 3 1 (.slice A n c) n (xs.map (Value.int .i64))
theorem OwnI.len {w : World} {B : Nat} {A : Option Addr} {n c : Nat} {xs : List Int} (h : OwnI w B A n c xs) : xs.length = n := by
  have := h.1
  simpa using this
theorem OwnI.form {w : World} {B n c : Nat} {A : Option Addr} {xs : List Int} (h : OwnI w B A n c xs) : (A = none ∧ n = 0 ∧ c = 0) ∨ ∃ g, A = some ⟨g, 0, none⟩ := by
  rcases h.2 with ⟨h', hn⟩ | ⟨g, cap, cur, h', _⟩
  · left
    simp only [Value.slice.injEq] at h'
    exact ⟨h'.1, hn, h'.2.2⟩
  · right
    simp only [Value.slice.injEq] at h'
    exact ⟨g, h'.1⟩
theorem OwnI.cell_at {w : World} {B g n c : Nat} {xs : List Int} (h : OwnI w B (some ⟨g, 0, none⟩) n c xs) (i : Nat) (hi : i < xs.length) : w.cell? ⟨g, i, none⟩ = some (.int .i64 xs[i]) := by
  have hl := h.len
  have hc := World.ownsRow.cellAt h i (by omega)
  rw [hc]
  simp [hi]
theorem OwnI.made (w : World) (cs : Array Value) (xs : List Int) (h : cs = (xs.map (Value.int .i64)).toArray) (hm : xs.length ≤ maxLen) : OwnI (w.alloc (.cells cs 3)) w.heap.size (some ⟨w.heap.size, 0, none⟩) xs.length xs.length xs := by
  refine ⟨by simp, .inr ⟨w.heap.size, xs.length, cs, rfl, Nat.le_refl _, heap_alloc_new w _, Nat.le_refl _, hm, by rw [h]; simp, ?_⟩⟩
  rw [h, Nat.mul_one, List.take_of_length_le (by simp)]

set_option maxHeartbeats 400000 in
theorem hasInt_no {B n c : Nat} {A : Option Addr} {xs : List Int} (m : Int) (w : World) (h : OwnI w B A n c xs) (hn : n ≤ 1000) (hm : ∀ x ∈ xs, x ≠ m) :
    Calls Try.prog 34 #[.slice A n c, .int .i64 m] w fun e w' => e = .returned (.bool false) ∧ w = w' := by
  have hl := h.len
  rcases h.form with ⟨rfl, rfl, rfl⟩ | ⟨g, rfl⟩
  · go_enter Try.func34, Try.ntmps34
    go_wp2
    refine wp_loop_rounds 1 ?_
    rw [rounds_succ]
    go_wp2
    go_ret
    exact ⟨rfl, rfl⟩
  · have HO := Lib.hid h
    have HM := Lib.hid hm
    clear h hm
    go_enter Try.func34, Try.ntmps34
    go_wp2
    go_loop [5] (fun i => ∃ k : Nat, k ≤ n ∧ i = .int .i64 k) (fun i => n - (intOf i).toNat)
    case atStart => exact ⟨0, by omega, rfl⟩
    case round =>
      obtain ⟨k, hk, rfl⟩ := hrel
      by_cases hlt : k < n
      · have hc := HO.out.cell_at k (by omega)
        have hne := HM.out xs[k] (List.getElem_mem _)
        have hb : (xs[k] == m) = false := by simpa using hne
        generalize xs[k] = x at *
        clear hne hl
        go_wp2
        go_round
        case rel => exact ⟨k + 1, by omega, by go_num⟩
        case measure => simp [intOf]; omega
      · clear hl
        go_wp2
        go_ret
        exact ⟨rfl, rfl⟩
end Go.Proofs.Ytmnnblhooodnhaa
