/- TurnOf, the program's and the reference's: both give the table's number. -/
import Derived.Test.YtapncffjfaddgaaInts
import Derived.Laws.CopyOwn
namespace Go.Proofs.Ytapncffjfaddgaa
open Go.RowKit

/-- The words of 0.9238795, 0.38268343, 0.70710677 and of their negatives; the table of turns. -/
def turnL : List (Nat × Nat) :=
  [(1065353216, 0), (1064076126, 1053028117), (1060439283, 1060439283), (1053028117, 1064076126),
   (0, 1065353216), (3200511765, 1064076126), (3207922931, 1060439283), (3211559774, 1053028117),
   (3212836864, 0), (3211559774, 3200511765), (3207922931, 3207922931), (3200511765, 3211559774),
   (0, 3212836864), (1053028117, 3211559774), (1060439283, 3207922931), (1064076126, 3200511765)]
def turnT (i : Nat) : Nat × Nat := turnL.getD i (0, 0)
/-- What TurnOf gives. -/
def turnF (k : Int) : Nat × Nat := if -9999 ≤ k ∧ k ≤ 9999 then turnT (k % 16).toNat else (0, 0)

/-- Go's remainder, raised by the divisor where it is below 0, is the one that is never below 0. -/
theorem tmod_raised (n s : Int) (hs : 1 ≤ s) : (n.tmod s < 0 → n.tmod s + s = n % s) ∧ (¬ n.tmod s < 0 → n.tmod s = n % s) ∧ -s < n.tmod s ∧ n.tmod s < s := by
  have h0 := Int.emod_nonneg n (by omega : s ≠ 0)
  have h1 := Int.emod_lt_of_pos n (by omega : 0 < s)
  have hd := Int.mul_tdiv_add_tmod n s
  have he := Int.mul_ediv_add_emod n s
  rcases Int.le_total 0 n with hn | hn
  · have e : n.tmod s = n % s := Int.tmod_eq_emod_of_nonneg hn
    rw [e]; omega
  · have e : n.tmod s = - ((-n) % s) := by
      have h := Int.neg_tmod (-n) s
      rw [Int.neg_neg] at h
      rw [h, Int.tmod_eq_emod_of_nonneg (by omega)]
    have g0 := Int.emod_nonneg (-n) (by omega : s ≠ 0)
    have g1 := Int.emod_lt_of_pos (-n) (by omega : 0 < s)
    have key : (n % s) = (if (-n) % s = 0 then 0 else s - (-n) % s) := by
      have h2 := Int.mul_ediv_add_emod (-n) s
      by_cases hz : (-n) % s = 0
      · rw [if_pos hz, Int.emod_eq_zero_of_dvd]
        have : s ∣ -n := Int.dvd_of_emod_eq_zero hz
        exact Int.dvd_neg.1 this
      · rw [if_neg hz]
        have e3 : n = (s - (-n) % s) + s * (-((-n) / s) - 1) := by
          rw [Int.mul_sub, Int.mul_neg]; omega
        rw [e3, Int.add_mul_emod_self_left, ← e3]
        exact Int.emod_eq_of_lt (by omega) (by omega)
    rw [e, key]
    split <;> omega

set_option maxHeartbeats 400000 in
theorem remainder_any (n s : Int) (w : World) (hs : 1 ≤ s) (hs1 : s ≤ 1000000) (r : Int) (hr : n % s = r) :
    Calls Try.prog 43 #[.int .i64 n, .int .i64 s] w fun e w' => e = .returned (.int .i64 r) ∧ w = w' := by
  have hz : ¬ (s = 0) := by omega
  obtain ⟨k1, k2, k3, k4⟩ := tmod_raised n s hs
  by_cases hneg : n.tmod s < 0
  · have e2 : n.tmod s + s = r := by rw [k1 hneg, hr]
    have E := Lib.hid e2
    clear k1 k2 e2 hr
    go_enter Try.func43, Try.ntmps43
    go_wp2
    go_ret
    exact ⟨ret_int E.out, rfl⟩
  · have e2 : n.tmod s = r := by rw [k2 hneg, hr]
    have E := Lib.hid e2
    clear k1 k2 e2 hr
    go_enter Try.func43, Try.ntmps43
    go_wp2
    go_ret
    exact ⟨ret_int E.out, rfl⟩

/-- A whole array stored into the block that has just been made for it. -/
theorem wpList_store_new {P : Program} {ops : Array Oper} {rest : List Oper} {o : Oper} {a : Act} {w : World} {Q : Exit → Act → World → Prop} {old : Array Value} {t : TypeId} (hgd : o.guard = none) (ty : TypeId) (x y : Operand) (ho : o.op = .store ty x y)
    (cells : Array Value) (hx : a.eval x = .pointer (some ⟨w.heap.size, 0, none⟩)) (hy : a.eval y = .agg cells)
    (hi : (P.info? ty).map (·.size) = some cells.size) (hold : old.size = cells.size) (h1 : cells.all (·.oneCell') = true)
    (h : ∀ w1, Blk w1 w.heap.size t cells → Below w.heap.size w w1 → w.heap.size < w1.heap.size → wpList P ops Q rest (a.put o.dst undef) w1) : wpList P ops Q (o :: rest) a (w.alloc (.cells old t)) := by
  refine wpList_store_row hgd ty x y ho w.heap.size cells hx hy t old (heap_alloc_new w _) hi hold h1 (h _ (setRow_heap _ _ _ _ _ _ (heap_alloc_new w _)) ?_ (by simp [World.setRow]))
  exact below_setRow ((Below.refl _ _).alloc (Nat.le_refl _) _) (Nat.le_refl _) _

def turnA : Array Value := (turnL.map cx).toArray
theorem turnA_at (i : Nat) (h : i < 16) : turnA[i]? = some (cx (turnT i)) := by
  have : i = 0 ∨ i = 1 ∨ i = 2 ∨ i = 3 ∨ i = 4 ∨ i = 5 ∨ i = 6 ∨ i = 7 ∨ i = 8 ∨ i = 9 ∨ i = 10 ∨ i = 11 ∨ i = 12 ∨ i = 13 ∨ i = 14 ∨ i = 15 := by omega
  rcases this with rfl | rfl | rfl | rfl | rfl | rfl | rfl | rfl | rfl | rfl | rfl | rfl | rfl | rfl | rfl | rfl <;> rfl

set_option maxHeartbeats 400000 in
theorem turn_yes (k : Int) (w : World) (h0 : -9999 ≤ k) (h1 : k ≤ 9999) :
    Calls Try.prog 51 #[.int .i64 k] w fun e w' => e = .returned (cx (turnT (k % 16).toNat)) ∧ Below w.heap.size w w' := by
  obtain ⟨i, hi⟩ := Int.eq_ofNat_of_zero_le (Int.emod_nonneg k (by omega : (16 : Int) ≠ 0))
  have hlt : i < 16 := by have := Int.emod_lt_of_pos k (by omega : (0 : Int) < 16); omega
  rw [show (k % 16).toNat = i from by omega]
  have hat := turnA_at i hlt
  generalize cx (turnT i) = v at *
  have HI := Lib.hid hi
  clear hi
  go_enter Try.func51, Try.ntmps51
  go_wp2_with (refine wpList_store_new rfl 71 (.tmp 3) (.tmp 10) rfl turnA (by rfl) (by rfl) (by kernel_rfl) (by kernel_rfl) (by kernel_rfl) ?_)
  intro w1 hb hbel hsz
  have hc : w1.cell? ⟨w.heap.size, i, none⟩ = some v := by rw [hb.cell]; exact hat
  clear hat
  go_wp2_with (go_at_call 43; refine (remainder_any _ _ _ (by omega) (by omega) i HI.out).mono ?_; rintro e w' ⟨rfl, rfl⟩)
  go_ret
  exact ⟨rfl, hbel⟩
set_option maxHeartbeats 400000 in
theorem turn_no (k : Int) (w : World) (h : k < -9999 ∨ 9999 < k) :
    Calls Try.prog 51 #[.int .i64 k] w fun e w' => e = .returned (cx (0, 0)) ∧ Below w.heap.size w w' := by
  by_cases h1 : k < -9999
  · go_enter Try.func51, Try.ntmps51
    go_wp2
    go_ret
    exact ⟨rfl, Below.refl _ _⟩
  · have h2 : 9999 < k := by omega
    clear h
    go_enter Try.func51, Try.ntmps51
    go_wp2
    go_ret
    exact ⟨rfl, Below.refl _ _⟩
theorem turn_any (k : Int) (w : World) :
    Calls Try.prog 51 #[.int .i64 k] w fun e w' => e = .returned (cx (turnF k)) ∧ Below w.heap.size w w' := by
  unfold turnF
  by_cases h : -9999 ≤ k ∧ k ≤ 9999
  · rw [if_pos h]; exact turn_yes k w h.1 h.2
  · rw [if_neg h]; exact turn_no k w (by omega)
set_option maxHeartbeats 400000 in
theorem table_any (w : World) : Calls Try.prog 44 #[] w fun e w' => e = .returned (.slice (some ⟨w.heap.size, 0, none⟩) 16 16) ∧ Blk w' w.heap.size 26 turnA ∧ Below w.heap.size w w' := by
  go_enter Try.func44, Try.ntmps44
  go_wp2
  go_ret
  exact ⟨rfl, Blk.new _ _ _, (Below.refl _ _).alloc (Nat.le_refl _) _⟩

set_option maxHeartbeats 400000 in
theorem sturn_yes (k : Int) (w : World) (h0 : -9999 ≤ k) (h1 : k ≤ 9999) :
    Calls Try.prog 25 #[.int .i64 k] w fun e w' => e = .returned (cx (turnT (k % 16).toNat)) ∧ Below w.heap.size w w' := by
  obtain ⟨i, hi⟩ := Int.eq_ofNat_of_zero_le (Int.emod_nonneg k (by omega : (16 : Int) ≠ 0))
  have hlt : i < 16 := by have := Int.emod_lt_of_pos k (by omega : (0 : Int) < 16); omega
  rw [show (k % 16).toNat = i from by omega]
  have hat := turnA_at i hlt
  generalize cx (turnT i) = v at *
  obtain ⟨k1, k2, k3, k4⟩ := tmod_raised k 16 (by omega)
  have key : (k.tmod 16 + 16).tmod 16 = i := by
    rw [Int.tmod_eq_emod_of_nonneg (by omega)]
    by_cases hn : k.tmod 16 < 0
    · have := k1 hn; omega
    · have := k2 hn; omega
  have key2 : (k.tmod 16) % 16 = i := by
    by_cases hn : k.tmod 16 < 0
    · have := k1 hn; omega
    · have := k2 hn; omega
  have hin : inB k (-9999) 9999 = true := by unfold inB; rw [decide_eq_true]; omega
  generalize hq : k.tmod 16 = q at *
  have hz0 : (0 : Int) ≤ i := by omega
  have hz1 : (i : Int) < 16 := by omega
  clear k1 k2 hi
  go_enter Try.func25, Try.ntmps25
  go_wp2_with (first | (go_at_call 36; refine (l1In_any _ _ _ _).mono ?_; rintro e w' ⟨rfl, rfl⟩) | (go_at_call 44; refine (table_any _).mono ?_; rintro e w1 ⟨rfl, hb, hbel⟩; have hc : w1.cell? ⟨w.heap.size, i, none⟩ = some v := (by rw [hb.cell]; exact hat)))
  go_ret
  exact ⟨rfl, hbel⟩
set_option maxHeartbeats 400000 in
theorem sturn_no (k : Int) (w : World) (h : k < -9999 ∨ 9999 < k) :
    Calls Try.prog 25 #[.int .i64 k] w fun e w' => e = .returned (cx (0, 0)) ∧ Below w.heap.size w w' := by
  have hin : inB k (-9999) 9999 = false := by unfold inB; rw [decide_eq_false]; omega
  clear h
  go_enter Try.func25, Try.ntmps25
  go_wp2_with (go_at_call 36; refine (l1In_any _ _ _ _).mono ?_; rintro e w' ⟨rfl, rfl⟩)
  go_ret
  exact ⟨rfl, Below.refl _ _⟩
theorem sturn_any (k : Int) (w : World) :
    Calls Try.prog 25 #[.int .i64 k] w fun e w' => e = .returned (cx (turnF k)) ∧ Below w.heap.size w w' := by
  unfold turnF
  by_cases h : -9999 ≤ k ∧ k ≤ 9999
  · rw [if_pos h]; exact sturn_yes k w h.1 h.2
  · rw [if_neg h]; exact sturn_no k w (by omega)
end Go.Proofs.Ytapncffjfaddgaa
