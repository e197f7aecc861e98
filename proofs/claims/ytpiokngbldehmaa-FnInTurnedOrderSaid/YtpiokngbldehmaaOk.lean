/- SignalOk, the program's and the reference's, of any signal in memory. -/
import Derived.Test.YtpiokngbldehmaaSig
import Derived.Test.YtpiokngbldehmaaFin
namespace Go.Proofs.Ytpiokngbldehmaa
open Go.RowKit Go.FR Go.FV

/-- What SignalOk reports. -/
def okB (xs : List (Nat × Nat)) : Bool := decide (xs.length ≤ 16) && xs.all fun p => finB p.1 && finB p.2
theorem okB_true {xs : List (Nat × Nat)} (h1 : xs.length ≤ 16) (h2 : ∀ p ∈ xs, (finB p.1 && finB p.2) = true) : okB xs = true := by
  unfold okB
  rw [decide_eq_true h1, List.all_eq_true.2 h2]; rfl
theorem okB_long {xs : List (Nat × Nat)} (h1 : 16 < xs.length) : okB xs = false := by
  unfold okB
  rw [decide_eq_false (by omega)]; rfl
theorem okB_bad {xs : List (Nat × Nat)} {p : Nat × Nat} (h1 : p ∈ xs) (h2 : (finB p.1 && finB p.2) = false) : okB xs = false := by
  unfold okB
  rw [List.all_eq_false.2 ⟨p, h1, by rw [h2]; decide⟩, Bool.and_false]
theorem okB_iff {xs : List (Nat × Nat)} : okB xs = true ↔ xs.length ≤ 16 ∧ ∀ p ∈ xs, finB p.1 = true ∧ finB p.2 = true := by
  unfold okB
  rw [Bool.and_eq_true, decide_eq_true_eq, List.all_eq_true]
  simp only [Bool.and_eq_true]
theorem okB_nil : okB [] = true := rfl

set_option maxHeartbeats 1000000 in
theorem ok_any {A : Option Addr} {n c : Nat} {xs : List (Nat × Nat)} (w : World) (h : Sg w A n c xs) (hm : n ≤ 1048576) :
    Calls Try.prog 16 #[.slice A n c] w fun e w' => e = .returned (.bool (okB xs)) ∧ ∃ m, w' = w.drewN m := by
  have hl := h.len
  by_cases hbig : 16 < n
  · have hk := okB_long (xs := xs) (by omega)
    rw [hk]
    go_enter Try.func16, Try.ntmps16
    go_wp2
    go_ret
    exact ⟨rfl, 0, rfl⟩
  by_cases h0 : n = 0
  · subst h0
    have : xs = [] := h.nil
    subst this
    rw [okB_nil]
    go_enter Try.func16, Try.ntmps16
    go_wp2
    refine wp_loop_rounds 1 ?_
    rw [rounds_succ]
    go_wp2
    go_ret
    exact ⟨rfl, 0, rfl⟩
  · obtain ⟨g, off, rfl, hg, hc⟩ := h.at_ (by omega)
    clear h
    go_enter Try.func16, Try.ntmps16
    go_wp2
    go_loopw [10] (fun i wr => ∃ k : Nat, k ≤ n ∧ i = .int .i64 k ∧ (∀ j (hj : j < xs.length), j < k → (finB xs[j].1 && finB xs[j].2) = true) ∧ ∃ m, wr = w.drewN m) (fun i _ => n - (intOf i).toNat)
    case atStart => exact ⟨0, by omega, rfl, fun j hj h => by omega, 0, rfl⟩
    case round =>
      obtain ⟨k, hk, rfl, hall, m, hw⟩ := hrel
      by_cases hlt : k < n
      · have hx : k < xs.length := by omega
        have c1 : wr.cell? ⟨g, off + k, none⟩ = some (cx xs[k]) := by rw [hw]; exact hc k hx
        have HW := Lib.hid hw
        have HA := Lib.hid hall
        cases hf : (finB xs[k].1 && finB xs[k].2)
        · have hno := okB_bad (List.getElem_mem hx) hf
          have HNO := Lib.hid hno
          clear hno
          generalize hp : xs[k] = p at *
          unfold cx at c1
          clear hc hw hall hp
          go_wp2_with (go_at_call 38; refine (finite_any _ _ _).mono ?_; rintro e w' ⟨rfl, m2, rfl⟩; rw [hf])
          go_ret
          exact ⟨by rw [HNO.out]; rfl, m + m2, by rw [HW.out, World.drewN_drewN]⟩
        · have hnext : ∀ j (hj : j < xs.length), j < k + 1 → (finB xs[j].1 && finB xs[j].2) = true := by
            intro j hj h
            rcases (by omega : j < k ∨ j = k) with h' | h'
            · exact hall j hj h'
            · subst h'; exact hf
          have HN := Lib.hid hnext
          generalize hp : xs[k] = p at *
          unfold cx at c1
          clear hc hw hall hnext hp
          go_wp2_with (go_at_call 38; refine (finite_any _ _ _).mono ?_; rintro e w' ⟨rfl, m2, rfl⟩; rw [hf])
          go_roundw
          case rel => exact ⟨k + 1, by omega, by go_num, HN.out, m + m2, by rw [HW.out, World.drewN_drewN]⟩
          case measure => simp [intOf]; omega
      · have HW := Lib.hid hw
        have hyes : okB xs = true := by
          refine okB_true (by omega) fun p hp => ?_
          obtain ⟨j, hj, rfl⟩ := List.getElem_of_mem hp
          exact hall j hj (by omega)
        have HY := Lib.hid hyes
        clear hw hc hall hyes
        go_wp2
        go_ret
        exact ⟨by rw [HY.out]; rfl, m, HW.out⟩

/-- What l1All reports. -/
def allB (xs : List (Nat × Nat)) : Bool := xs.all fun p => finB p.1 && finB p.2
theorem allB_bad {xs : List (Nat × Nat)} {p : Nat × Nat} (h1 : p ∈ xs) (h2 : (finB p.1 && finB p.2) = false) : allB xs = false := by
  unfold allB
  exact List.all_eq_false.2 ⟨p, h1, by rw [h2]; decide⟩
theorem allB_true {xs : List (Nat × Nat)} (h2 : ∀ p ∈ xs, (finB p.1 && finB p.2) = true) : allB xs = true := List.all_eq_true.2 h2

set_option maxHeartbeats 1000000 in
theorem sall_any {A : Option Addr} {n c : Nat} {xs : List (Nat × Nat)} (w : World) (h : Sg w A n c xs) (hm : n ≤ 1048576) :
    Calls Try.prog 49 #[.slice A n c] w fun e w' => e = .returned (.bool (allB xs)) ∧ ∃ m, w' = w.drewN m := by
  have hl := h.len
  by_cases h0 : n = 0
  · subst h0
    have : xs = [] := h.nil
    subst this
    have : allB [] = true := rfl
    rw [this]
    go_enter Try.func49, Try.ntmps49
    go_wp2
    refine wp_loop_rounds 1 ?_
    rw [rounds_succ]
    go_wp2
    go_ret
    exact ⟨rfl, 0, rfl⟩
  · obtain ⟨g, off, rfl, hg, hc⟩ := h.at_ (by omega)
    clear h
    go_enter Try.func49, Try.ntmps49
    go_wp2
    go_loopw [3] (fun i wr => ∃ k : Nat, k ≤ n ∧ i = .int .i64 k ∧ (∀ j (hj : j < xs.length), j < k → (finB xs[j].1 && finB xs[j].2) = true) ∧ ∃ m, wr = w.drewN m) (fun i _ => n - (intOf i).toNat)
    case atStart => exact ⟨0, by omega, rfl, fun j hj h => by omega, 0, rfl⟩
    case round =>
      obtain ⟨k, hk, rfl, hall, m, hw⟩ := hrel
      by_cases hlt : k < n
      · have hx : k < xs.length := by omega
        have c1 : wr.cell? ⟨g, off + k, none⟩ = some (cx xs[k]) := by rw [hw]; exact hc k hx
        have HW := Lib.hid hw
        have HA := Lib.hid hall
        cases hf : (finB xs[k].1 && finB xs[k].2)
        · have hno := allB_bad (List.getElem_mem hx) hf
          have HNO := Lib.hid hno
          clear hno
          generalize hp : xs[k] = p at *
          unfold cx at c1
          clear hc hw hall hp
          go_wp2_with (go_at_call 58; refine (sfinite_any _ _ _).mono ?_; rintro e w' ⟨rfl, m2, rfl⟩; rw [hf])
          go_ret
          exact ⟨by rw [HNO.out]; rfl, m + m2, by rw [HW.out, World.drewN_drewN]⟩
        · have hnext : ∀ j (hj : j < xs.length), j < k + 1 → (finB xs[j].1 && finB xs[j].2) = true := by
            intro j hj h
            rcases (by omega : j < k ∨ j = k) with h' | h'
            · exact hall j hj h'
            · subst h'; exact hf
          have HN := Lib.hid hnext
          generalize hp : xs[k] = p at *
          unfold cx at c1
          clear hc hw hall hnext hp
          go_wp2_with (go_at_call 58; refine (sfinite_any _ _ _).mono ?_; rintro e w' ⟨rfl, m2, rfl⟩; rw [hf])
          go_roundw
          case rel => exact ⟨k + 1, by omega, by go_num, HN.out, m + m2, by rw [HW.out, World.drewN_drewN]⟩
          case measure => simp [intOf]; omega
      · have HW := Lib.hid hw
        have hyes : allB xs = true := by
          refine allB_true fun p hp => ?_
          obtain ⟨j, hj, rfl⟩ := List.getElem_of_mem hp
          exact hall j hj (by omega)
        have HY := Lib.hid hyes
        clear hw hc hall hyes
        go_wp2
        go_ret
        exact ⟨by rw [HY.out]; rfl, m, HW.out⟩

theorem sok_any {A : Option Addr} {n c : Nat} {xs : List (Nat × Nat)} (w : World) (h : Sg w A n c xs) (hm : n ≤ 1048576) :
    Calls Try.prog 29 #[.slice A n c] w fun e w' => e = .returned (.bool (okB xs)) ∧ ∃ m, w' = w.drewN m := by
  have hl := h.len
  have HS := Lib.hid h
  clear h
  by_cases hbig : 16 < n
  · have hk := okB_long (xs := xs) (by omega)
    rw [hk]
    go_enter Try.func29, Try.ntmps29
    go_wp2
    go_ret
    exact ⟨rfl, 0, rfl⟩
  · have hk : okB xs = allB xs := by unfold okB allB; rw [decide_eq_true (by omega), Bool.true_and]
    rw [hk]
    clear hk
    go_enter Try.func29, Try.ntmps29
    go_wp2_with (go_at_call 49; refine (sall_any _ HS.out hm).mono ?_; rintro e w' ⟨rfl, m2, rfl⟩)
    go_ret
    exact ⟨rfl, _, rfl⟩
end Go.Proofs.Ytpiokngbldehmaa
