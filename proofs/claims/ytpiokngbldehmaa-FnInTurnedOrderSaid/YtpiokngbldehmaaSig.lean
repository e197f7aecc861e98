/- Signals in memory: slices of complex64 numbers. -/
import Derived.Test.YtpiokngbldehmaaMem
namespace Go.Proofs.Ytpiokngbldehmaa
open Go.RowKit

theorem info_c : (Try.prog.info? 33).map (fun i => (i.zero, i.size, i.bytes)) = some (some (.complex .f32 0 0), 1, 8) := by kernel_rfl

theorem run_store_c (P : Program) (w : World) (a : Addr) (m : Mode) (k : FloatKind) (x y : Nat) : (store a (.complex k x y) m).run P w = stored P w a (.complex k x y) m := run_store P w a _ m rfl
attribute [go_sem] run_store_c

/-- The slice of address A, length n, capacity c reads, in w, as the list of numbers xs. -/
structure Sg (w : World) (A : Option Addr) (n c : Nat) (xs : List (Nat × Nat)) : Prop where
  len : xs.length = n
  cap : n ≤ c
  at_ : 0 < n → ∃ g off, A = some ⟨g, off, none⟩ ∧ g < w.heap.size ∧ ∀ i (h : i < xs.length), w.cell? ⟨g, off + i, none⟩ = some (cx xs[i])

/-- It is the call's own: it lies at the head of a block from B on, which may be written, or is nil and empty. -/
def Own (w : World) (B : Nat) (A : Option Addr) (n c : Nat) (xs : List (Nat × Nat)) : Prop :=
  w.ownsRow B 33 1 (.slice A n c) n (xs.map cx)

theorem Own.len {w : World} {B : Nat} {A : Option Addr} {n c : Nat} {xs : List (Nat × Nat)} (h : Own w B A n c xs) : xs.length = n := by
  have := h.1
  simpa using this
theorem Own.sg {w : World} {B : Nat} {A : Option Addr} {n c : Nat} {xs : List (Nat × Nat)} (h : Own w B A n c xs) : Sg w A n c xs := by
  have hl := h.len
  obtain ⟨h1, h2⟩ := h
  rcases h2 with ⟨hv, hn⟩ | ⟨g, cap, cur, hv, hg, hh, hnc, hcm, hcs, htake⟩
  · subst hn
    simp at hv
    exact ⟨hl, by omega, fun h => by omega⟩
  · simp only [Value.slice.injEq, true_and] at hv
    obtain ⟨rfl, rfl⟩ := hv
    refine ⟨hl, hnc, fun hn => ⟨g, 0, rfl, lt_of_block hh, fun i hi => ?_⟩⟩
    have hc := World.ownsRow.cellAt (w := w) (base := B) (e := 33) (size := 1) (g := g) (cap := c) (n := n) (xs := xs.map cx) ⟨h1, .inr ⟨g, c, cur, rfl, hg, hh, hnc, hcm, hcs, htake⟩⟩ i (by omega)
    rw [Nat.zero_add, hc]
    simp [hi]
/-- A made or filled block of just these numbers. -/
theorem Own.of_blk {w : World} {B g n : Nat} {xs : List (Nat × Nat)} (h : Blk w g 33 (xs.map cx).toArray) (hB : B ≤ g) (hl : xs.length = n) (hm : n ≤ maxLen) : Own w B (some ⟨g, 0, none⟩) n n xs := by
  refine ⟨by simpa using hl, .inr ⟨g, n, _, rfl, hB, h, Nat.le_refl _, hm, by simpa using hl, ?_⟩⟩
  rw [List.take_of_length_le (by simp; omega)]
theorem Own.nil (w : World) (B : Nat) : Own w B none 0 0 [] := ⟨by simp, .inl ⟨rfl, rfl⟩⟩
theorem Own.drewN {w : World} {B : Nat} {A : Option Addr} {n c : Nat} {xs : List (Nat × Nat)} (h : Own w B A n c xs) (k : Nat) : Own (w.drewN k) B A n c xs := h
theorem Own.mono {w : World} {B B' : Nat} {A : Option Addr} {n c : Nat} {xs : List (Nat × Nat)} (h : Own w B A n c xs) (hB : B' ≤ B) : Own w B' A n c xs := by
  obtain ⟨h1, h2⟩ := h
  refine ⟨h1, ?_⟩
  rcases h2 with h2 | ⟨g, cap, cur, hv, hg, r⟩
  · exact .inl h2
  · exact .inr ⟨g, cap, cur, hv, by omega, r⟩
/-- It stays what it is where nothing that was there changes. -/
theorem Own.below {w w' : World} {B : Nat} {A : Option Addr} {n c : Nat} {xs : List (Nat × Nat)} (h : Own w B A n c xs) (hb : Below w.heap.size w w') : Own w' B A n c xs := by
  obtain ⟨h1, h2⟩ := h
  refine ⟨h1, ?_⟩
  rcases h2 with h2 | ⟨g, cap, cur, hv, hg, hh, r⟩
  · exact .inl h2
  · exact .inr ⟨g, cap, cur, hv, hg, (hb.block g (lt_of_block hh)).trans hh, r⟩
theorem Sg.below {w w' : World} {A : Option Addr} {n c : Nat} {xs : List (Nat × Nat)} (h : Sg w A n c xs) (hb : Below w.heap.size w w') : Sg w' A n c xs :=
  ⟨h.len, h.cap, fun hn => by
    obtain ⟨g, off, hA, hg, hc⟩ := h.at_ hn
    exact ⟨g, off, hA, by have := hb.size; omega, fun i hi => (hb.cell (p := ⟨g, off + i, none⟩) hg).trans (hc i hi)⟩⟩
theorem Sg.drewN {w : World} {A : Option Addr} {n c : Nat} {xs : List (Nat × Nat)} (h : Sg w A n c xs) (k : Nat) : Sg (w.drewN k) A n c xs :=
  ⟨h.len, h.cap, h.at_⟩
theorem Sg.keep {w w' : World} {A : Option Addr} {n c : Nat} {xs : List (Nat × Nat)} (h : Sg w A n c xs) (hs : w.heap.size ≤ w'.heap.size) (hb : ∀ k, k < w.heap.size → w'.heap[k]? = w.heap[k]?) : Sg w' A n c xs :=
  ⟨h.len, h.cap, fun hn => by
    obtain ⟨g, off, hA, hg, hc⟩ := h.at_ hn
    exact ⟨g, off, hA, by omega, fun i hi => (World.cell?_of_block (w := w) (w' := w') (a := ⟨g, off + i, none⟩) (hb g hg)).trans (hc i hi)⟩⟩
theorem Sg.empty (w : World) (A : Option Addr) (c : Nat) : Sg w A 0 c [] := ⟨rfl, Nat.zero_le _, fun h => by omega⟩
theorem Sg.nil {w : World} {A : Option Addr} {c : Nat} {xs : List (Nat × Nat)} (h : Sg w A 0 c xs) : xs = [] := List.eq_nil_of_length_eq_zero h.len
theorem Own.cell_at {w : World} {B g n c : Nat} {xs : List (Nat × Nat)} (h : Own w B (some ⟨g, 0, none⟩) n c xs) (i : Nat) (hi : i < xs.length) : w.cell? ⟨g, i, none⟩ = some (cx xs[i]) := by
  have hl := h.len
  have hc := World.ownsRow.cellAt h i (by omega)
  rw [hc]
  simp [hi]
theorem Own.free {w : World} {B g n c : Nat} {xs : List (Nat × Nat)} (h : Own w B (some ⟨g, 0, none⟩) n c xs) (i : Nat) : w.frozen? ⟨g, i, none⟩ = false := World.ownsRow.frozenAt h i
theorem Own.from_ {w : World} {B g n c : Nat} {xs : List (Nat × Nat)} (h : Own w B (some ⟨g, 0, none⟩) n c xs) : B ≤ g := by
  rcases h.2 with ⟨h', _⟩ | ⟨g', cap, cur, h', hb, _⟩
  · simp at h'
  · simp only [Value.slice.injEq, Option.some.injEq, Addr.mk.injEq, and_true, true_and] at h'
    rw [h'.1]; exact hb
theorem Own.lt_ {w : World} {B g n c : Nat} {xs : List (Nat × Nat)} (h : Own w B (some ⟨g, 0, none⟩) n c xs) : g < w.heap.size :=
  (World.ownsRow.lt h g (by simp [Value.ownBlock])).2
theorem Own.form {w : World} {B n c : Nat} {A : Option Addr} {xs : List (Nat × Nat)} (h : Own w B A n c xs) : (A = none ∧ n = 0 ∧ c = 0) ∨ ∃ g, A = some ⟨g, 0, none⟩ ∧ n ≤ c ∧ c ≤ maxLen := by
  rcases h.2 with ⟨h', hn⟩ | ⟨g, cap, cur, h', _, _, h1, h2, _⟩
  · left
    simp only [Value.slice.injEq] at h'
    exact ⟨h'.1, hn, h'.2.2⟩
  · right
    simp only [Value.slice.injEq, true_and] at h'
    exact ⟨g, h'.1, by omega, by omega⟩
theorem Own.set_ {w : World} {B g n c : Nat} {xs : List (Nat × Nat)} (h : Own w B (some ⟨g, 0, none⟩) n c xs) (i : Nat) (p : Nat × Nat) :
    Own (w.setCell ⟨g, i, none⟩ (cx p)) B (some ⟨g, 0, none⟩) n c (xs.set i p) := by
  have := (World.ownsRow.stored h i (cx p)).1
  unfold Own
  rw [List.map_set]
  exact this
/-- What a make of n zero numbers leaves. -/
theorem Own.made {w w1 : World} {n : Nat} (h : w1.ownsRow w.heap.size 33 1 (.slice (some ⟨w.heap.size, 0, none⟩) n n) n (madeCells (Value.complex .f32 0 0).cells (n * 1)).toList) (hg : w.grownBy w1 none) :
    Own w1 w.heap.size (some ⟨w.heap.size, 0, none⟩) n n (List.replicate n (0, 0)) ∧ Below w.heap.size w w1 := by
  constructor
  · unfold Own
    have e : (List.replicate n ((0, 0) : Nat × Nat)).map cx = (madeCells (Value.complex .f32 0 0).cells (n * 1)).toList := by
      have : (Value.complex .f32 0 0).cells = #[.complex .f32 0 0] := rfl
      rw [this, Nat.mul_one, toList_madeCells_one, List.map_replicate]; rfl
    rw [e]; exact h
  · exact (Below.refl _ _).grown hg (Nat.le_refl _) (fun k hk => by cases hk)
end Go.Proofs.Ytpiokngbldehmaa
