/- Words for memory: what a slice reads as, what only one block's change leaves, a reader of drawn bytes. -/
import Derived.Test.YtpiokngbldehmaaChecked
import Derived.WalkKit
import Derived.WalkSpells
import Derived.WalkLawsBesides
import Derived.Deep.QuietTactic
import Derived.BigQuiet
import Derived.Lib.Hide
import Derived.OneCell
namespace Go.Proofs.Ytpiokngbldehmaa
open Go.RowKit

theorem ret_bool {a b : Bool} (h : a = b) : Ending.returned (.bool a) = .returned (.bool b) := by rw [h]
theorem ret_int {k : IntKind} {a b : Int} (h : a = b) : Ending.returned (.int k a) = .returned (.int k b) := by rw [h]

theorem ret_eq {a b : Value} (h : a = b) : Ending.returned a = .returned b := by rw [h]
/-- A complex64 number by the words of its parts. -/
def cx (p : Nat × Nat) : Value := .complex .f32 p.1 p.2

/-- Behind a call only block B has changed (and the count of draws). -/
structure Only (B : Nat) (w w' : World) : Prop where
  os : w'.os = w.os
  tape : w'.tape = w.tape
  output : w'.output = w.output
  size : w'.heap.size = w.heap.size
  block : ∀ k, k ≠ B → w'.heap[k]? = w.heap[k]?

theorem Only.refl (B : Nat) (w : World) : Only B w w := ⟨rfl, rfl, rfl, rfl, fun _ _ => rfl⟩
theorem Only.trans {B : Nat} {a b c : World} (h : Only B a b) (k : Only B b c) : Only B a c :=
  ⟨k.os.trans h.os, k.tape.trans h.tape, k.output.trans h.output, k.size.trans h.size, fun i hi => (k.block i hi).trans (h.block i hi)⟩
theorem Only.drewN {B : Nat} {a w : World} (h : Only B a w) (n : Nat) : Only B a (w.drewN n) := ⟨h.os, h.tape, h.output, h.size, h.block⟩
theorem Only.setCell {B : Nat} (w : World) (o : Nat) (u : Value) : Only B w (w.setCell ⟨B, o, none⟩ u) :=
  ⟨rfl, rfl, rfl, by simp [World.setCell], fun k hk => Below.heap_setCell w _ u k hk⟩
theorem Only.below {B S : Nat} {a w w' : World} (h : Below S a w) (k : Only B w w') (hB : S ≤ B) : Below S a w' :=
  h.trans ⟨k.os, k.tape, k.output, by rw [k.size]; exact Nat.le_refl _, fun i hi => k.block i (by omega)⟩
theorem below_drewN' {B : Nat} {a w : World} (h : Below B a w) (n : Nat) : Below B a (w.drewN n) := ⟨h.os, h.tape, h.output, h.size, h.block⟩
theorem below_drewN_left {B : Nat} {a w : World} {n : Nat} (h : Below B (a.drewN n) w) : Below B a w := ⟨h.os, h.tape, h.output, h.size, h.block⟩

theorem Only.cell {B : Nat} {w w' : World} (h : Only B w w') {p : Addr} (hp : p.block ≠ B) : w'.cell? p = w.cell? p := World.cell?_of_block (h.block p.block hp)

/-- Behind a call only block B of those that were there has changed; there may be new ones. -/
structure Upd (B : Nat) (w w' : World) : Prop where
  os : w'.os = w.os
  tape : w'.tape = w.tape
  output : w'.output = w.output
  size : w.heap.size ≤ w'.heap.size
  block : ∀ k, k < w.heap.size → k ≠ B → w'.heap[k]? = w.heap[k]?
theorem Upd.refl (B : Nat) (w : World) : Upd B w w := ⟨rfl, rfl, rfl, Nat.le_refl _, fun _ _ _ => rfl⟩
theorem Upd.trans {B : Nat} {a b c : World} (h : Upd B a b) (k : Upd B b c) : Upd B a c :=
  ⟨k.os.trans h.os, k.tape.trans h.tape, k.output.trans h.output, Nat.le_trans h.size k.size, fun i hi hne => (k.block i (Nat.lt_of_lt_of_le hi h.size) hne).trans (h.block i hi hne)⟩
theorem Only.upd {B : Nat} {w w' : World} (h : Only B w w') : Upd B w w' := ⟨h.os, h.tape, h.output, by rw [h.size]; exact Nat.le_refl _, fun k _ hk => h.block k hk⟩
theorem upd_of_below {B : Nat} {w w' : World} (h : Below w.heap.size w w') : Upd B w w' := ⟨h.os, h.tape, h.output, h.size, fun k hk _ => h.block k hk⟩
theorem Upd.drewN {B : Nat} {a w : World} (h : Upd B a w) (n : Nat) : Upd B a (w.drewN n) := ⟨h.os, h.tape, h.output, h.size, h.block⟩
theorem Upd.alloc {B : Nat} {a w : World} (h : Upd B a w) (o : Obj) : Upd B a (w.alloc o) := h.trans (upd_of_below ((Below.refl _ _).alloc (Nat.le_refl _) o))
theorem Upd.only {B : Nat} {a w w' : World} (h : Upd B a w) (k : Only B w w') : Upd B a w' := h.trans k.upd
theorem Upd.below {B S : Nat} {a w w' : World} (h : Below S a w) (k : Upd B w w') (hB : S ≤ B) (hS : S ≤ w.heap.size) : Below S a w' :=
  h.trans ⟨k.os, k.tape, k.output, k.size, fun i hi => k.block i (by omega) (by omega)⟩

/-- Block g is just these cells of that type, none of them frozen. -/
def Blk (w : World) (g : Nat) (t : TypeId) (cs : Array Value) : Prop := w.heap[g]? = some (.cells cs t (0, 0))
section
variable {w w' : World} {g : Nat} {t : TypeId} {cs : Array Value}
theorem Blk.lt (h : Blk w g t cs) : g < w.heap.size := lt_of_block h
theorem Blk.cell (h : Blk w g t cs) (i : Nat) : w.cell? ⟨g, i, none⟩ = cs[i]? := cell_of_row w g i cs t (0, 0) h
theorem Blk.frozen (h : Blk w g t cs) (i : Nat) : w.frozen? ⟨g, i, none⟩ = false := by
  unfold Blk at h
  simp [World.frozen?, h]
theorem Blk.new (w : World) (t : TypeId) (cs : Array Value) : Blk (w.alloc (.cells cs t)) w.heap.size t cs := heap_alloc_new w _
theorem Blk.drewN (h : Blk w g t cs) (n : Nat) : Blk (w.drewN n) g t cs := h
theorem Blk.setCell (h : Blk w g t cs) (i : Nat) (u : Value) : Blk (w.setCell ⟨g, i, none⟩ u) g t (cs.setIfInBounds i u) := by
  unfold Blk at h ⊢
  simp [World.setCell, Array.getElem?_modify, h]
theorem Blk.only {B : Nat} (h : Blk w g t cs) (hb : Only B w w') (hg : g ≠ B) : Blk w' g t cs := (hb.block g hg).trans h
theorem Blk.upd {B : Nat} (h : Blk w g t cs) (hb : Upd B w w') (hg : g ≠ B) : Blk w' g t cs := (hb.block g h.lt hg).trans h
theorem Blk.below {B : Nat} (h : Blk w g t cs) (hb : Below B w w') (hg : g < B) : Blk w' g t cs := (hb.block g hg).trans h
end

/-- WHERE A READER OF DRAWN BYTES LIES AND WHAT IT READS: its block; its slice of bytes (header, place, bytes). -/
structure Src where
  B : Nat
  A : Option Addr
  n : Nat
  c : Nat
  b : Nat
  off : Nat
  f : Nat → Int

/-- The reader stands in the world; its count is at most q. -/
structure Rdr (w : World) (s : Src) (q : Nat) : Prop where
  blk : ∃ p : Nat, p ≤ q ∧ Blk w s.B 61 #[.slice s.A s.n s.c, .int .i64 p]
  len : s.n ≤ 2000
  at_ : 0 < s.n → s.A = some ⟨s.b, s.off, none⟩
  ne_ : s.b ≠ s.B
  bytes : ∀ i, i < s.n → w.cell? ⟨s.b, s.off + i, none⟩ = some (.int .u8 (s.f i))
  small : ∀ i, 0 ≤ s.f i ∧ s.f i ≤ 255

theorem Rdr.mono {w : World} {s : Src} {q q' : Nat} (h : Rdr w s q) (hq : q ≤ q') : Rdr w s q' :=
  ⟨let ⟨p, h1, h2⟩ := h.blk; ⟨p, by omega, h2⟩, h.len, h.at_, h.ne_, h.bytes, h.small⟩
theorem Rdr.drewN {w : World} {s : Src} {q : Nat} (h : Rdr w s q) (n : Nat) : Rdr (w.drewN n) s q := ⟨h.blk, h.len, h.at_, h.ne_, h.bytes, h.small⟩
theorem Rdr.lt {w : World} {s : Src} {q : Nat} (h : Rdr w s q) : s.B < w.heap.size := let ⟨_, _, h2⟩ := h.blk; h2.lt
theorem lt_of_cell_ {w : World} {b o : Nat} {v : Value} (h : w.cell? ⟨b, o, none⟩ = some v) : b < w.heap.size := by
  rcases Nat.lt_or_ge b w.heap.size with h' | h'
  · exact h'
  · simp [World.cell?, Array.getElem?_eq_none h'] at h
/-- The reader stands on, where its block and its bytes' block are as they were. -/
theorem Rdr.keep {w w' : World} {s : Src} {q : Nat} (h : Rdr w s q) (hb : ∀ k, k < w.heap.size → w'.heap[k]? = w.heap[k]?) : Rdr w' s q :=
  ⟨let ⟨p, h1, h2⟩ := h.blk; ⟨p, h1, (hb s.B h2.lt).trans h2⟩, h.len, h.at_, h.ne_,
    fun i hi => by
      have hc := h.bytes i hi
      rw [World.cell?_of_block (w := w) (w' := w') (hb s.b (lt_of_cell_ hc))]
      exact hc, h.small⟩
theorem Rdr.alloc {w : World} {s : Src} {q : Nat} (h : Rdr w s q) (o : Obj) : Rdr (w.alloc o) s q := h.keep fun k hk => Below.heap_alloc w o k hk
theorem Rdr.below {w w' : World} {s : Src} {q : Nat} (h : Rdr w s q) (hb : Below w.heap.size w w') : Rdr w' s q := h.keep hb.block

/-- A slice of bytes that came in. -/
def CodeIs (w : World) (a : Option Addr) (len cap : Nat) (z : List Int) : Prop :=
  (a = none ∧ len = 0 ∧ cap = 0 ∧ z = []) ∨
  ∃ x, a = some x ∧ len ≤ cap ∧ cap ≤ maxLen ∧ z.length = cap ∧ (∀ i, i < z.length → w.cell? (x.add i) = some (.int .u8 (z.getD i 0))) ∧ ∀ n ∈ z, (Lit.int .u8 n).wf = true
theorem CodeIs.below {w w' : World} {a : Option Addr} {len cap : Nat} {z : List Int} (h : CodeIs w a len cap z) (hb : Below w.heap.size w w') : CodeIs w' a len cap z := by
  rcases h with h | ⟨x, h1, h2, h3, h4, h5, h6⟩
  · exact .inl h
  · refine .inr ⟨x, h1, h2, h3, h4, fun i hi => ?_, h6⟩
    have hc := h5 i hi
    rw [World.cell?_of_block (w := w) (hb.block _ (World.block_lt_of_cell? w _ hc))]
    exact hc
theorem CodeIs.alloc {w : World} {a : Option Addr} {len cap : Nat} {z : List Int} (h : CodeIs w a len cap z) (o : Obj) : CodeIs (w.alloc o) a len cap z :=
  h.below ((Below.refl _ _).alloc (Nat.le_refl _) o)
end Go.Proofs.Ytpiokngbldehmaa
