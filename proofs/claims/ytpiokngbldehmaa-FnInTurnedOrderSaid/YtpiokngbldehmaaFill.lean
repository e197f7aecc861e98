/- Lists filled place by place; what an append leaves. -/
import Derived.Test.YtpiokngbldehmaaOwn1
import Derived.Test.YtpiokngbldehmaaSig
import Derived.Deep.RegionHeld3
import Derived.Deep.AppendLies
import Derived.Deep.DrawnRows
namespace Go.Proofs.Ytpiokngbldehmaa
open Go.RowKit

/-- A list filled place by place. -/
theorem filled {xs ys : List (Nat × Nat)} {f : Nat × Nat → Nat × Nat} (hl : ys.length = xs.length) (h : ∀ i (hi : i < xs.length), ys[i]? = some (f xs[i])) : ys = xs.map f := by
  apply List.ext_getElem?
  intro i
  by_cases hi : i < xs.length
  · rw [h i hi]; simp [hi]
  · rw [List.getElem?_eq_none (by omega), List.getElem?_eq_none (by simp; omega)]

/-- What an append to the call's own slice leaves of what was there. -/
theorem below_grow {S : Nat} {w w5 w9 : World} {o : Obj} {v : Value} {e sz n : Nat} {xs : List Value} (hb : Below S w w5) (hown : w5.ownsRow S e sz v n xs) (hgr : (w5.alloc o).drew.grownBy w9 v.ownBlock) (hS : S ≤ w5.heap.size := by omega) : Below S w w9 := by
  have hg2 : w5.grownBy w9 v.ownBlock :=
    ⟨hgr.os, hgr.tape, hgr.output, Nat.le_trans (by simp) hgr.size, fun k hk hne => (hgr.block k (by simp; omega) hne).trans (Below.heap_alloc w5 _ k hk)⟩
  exact hb.trans ((Below.refl _ _).grown hg2 hS (fun k hk => (World.ownsRow.lt hown k hk).1))

end Go.Proofs.Ytpiokngbldehmaa
