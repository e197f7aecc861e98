/- One value appended to a slice of the call's own. -/
import Derived.Test.YtpiokngbldehmaaMem
namespace Go.Proofs.Ytpiokngbldehmaa
open Go.RowKit

/-- 'out = append(out, u)': what it leaves. -/
theorem wpList_append_one {P : Program} {w : World} {ops : Array Oper} {rest : List Oper} {o : Oper} {a : Act} {Q : Exit → Act → World → Prop} (hgd : o.guard = none) (s x : Operand) (t : TypeId)
    (ho : o.op = .call { callee := .builtin .append, args := #[s, x], argTypes := #[t, t] })
    (base : Nat) (e : TypeId) (i : TypeInfo) (z : Value) (bytes : Nat) (ht : P.underlying t = some (.slice e)) (hi : P.info? e = some i) (hz : i.zero = some z)
    (hsize : i.size = 1) (hby : i.bytes = bytes) (hzs : z.cells.size = 1)
    (A : Option Addr) (n c : Nat) (xs : List Value) (u : Value) (hs : a.eval s = .slice A n c) (hown : w.ownsRow base e 1 (.slice A n c) n xs)
    (hx : a.eval x = .slice (some ⟨w.heap.size, 0, none⟩) 1 1) (h1 : u.oneCell' = true)
    (h63 : n + 1 ≤ 1000000) (hb8 : bytes ≤ 64) (hbase : base ≤ w.heap.size)
    (h : ∀ A' c' w', w'.ownsRow base e 1 (.slice A' (n + 1) c') (n + 1) (xs ++ [u]) → Below base w w' → w.grownBy w' (Value.ownBlock (.slice A n c)) → wpList P ops Q rest (a.put o.dst (.slice A' (n + 1) c')) w') :
    wpList P ops Q (o :: rest) a (w.alloc (.cells #[u] e)) := by
  refine wpList_append_own (w.alloc (.cells #[u] e)) hgd s x t ho base e i z 1 bytes ht hi hz hsize hby hzs (by omega) _ n xs hs (hown.alloc _) ⟨w.heap.size, 0, none⟩ 1 1 [u] hx rfl ?_ ?_ ?_ ?_ ?_ ?_
  · intro j v hj
    match j, hj with
    | 0, hj =>
      simp at hj
      subst hj
      rw [Addr.add_lit, World.cell?_alloc_at _ _ _ _ rfl]; rfl
  · intro v hv
    simp at hv
    subst hv
    exact h1
  · unfold maxLen; omega
  · have : (n + 1) * bytes ≤ 1000000 * 64 := Nat.mul_le_mul h63 hb8
    omega
  · simp; omega
  · intro v' w' hown' hgr _
    have hf : ∃ A' c', v' = .slice A' (n + 1) c' := by
      rcases hown'.2 with ⟨_, hn⟩ | ⟨g, cap, cur, rfl, _⟩
      · omega
      · exact ⟨_, _, rfl⟩
    obtain ⟨A', c', rfl⟩ := hf
    have hg2 : w.grownBy w' (Value.ownBlock (.slice A n c)) :=
      ⟨hgr.os, hgr.tape, hgr.output, Nat.le_trans (by simp) hgr.size, fun k hk hne => (hgr.block k (by simp; omega) hne).trans (Below.heap_alloc w _ k hk)⟩
    refine h A' c' w' hown' ?_ hg2
    exact (Below.refl _ _).grown hg2 hbase (fun k hk => by
      have := World.ownsRow.lt hown k hk
      exact this.1)
end Go.Proofs.Ytpiokngbldehmaa
