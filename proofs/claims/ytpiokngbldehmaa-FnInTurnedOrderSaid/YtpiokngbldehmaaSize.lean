/- SizeOk, the program's and the reference's, of any signal in memory. -/
import Derived.Test.YtpiokngbldehmaaOk
import Derived.Test.YtpiokngbldehmaaInts
namespace Go.Proofs.Ytpiokngbldehmaa
open Go.RowKit Go.FR Go.FV

/-- What SizeOk reports. -/
def sizB (n : Nat) (xs : List (Nat × Nat)) : Bool := powB n && okB xs
theorem sizB_iff {n : Nat} {xs : List (Nat × Nat)} : sizB n xs = true ↔ powB n = true ∧ okB xs = true := by unfold sizB; rw [Bool.and_eq_true]

set_option maxHeartbeats 400000 in
theorem siz_any {A : Option Addr} {n c : Nat} {xs : List (Nat × Nat)} (w : World) (h : Sg w A n c xs) (hm : n ≤ 1048576) :
    Calls Try.prog 31 #[.slice A n c] w fun e w' => e = .returned (.bool (sizB n xs)) ∧ ∃ m, w' = w.drewN m := by
  unfold sizB
  have H := Lib.hid h
  clear h
  cases hp : powB n
  · go_enter Try.func31, Try.ntmps31
    go_wp2_with (go_at_call 51; refine (pow_any _ _).mono ?_; rintro e w' ⟨rfl, rfl⟩; rw [hp])
    go_ret
    exact ⟨rfl, 0, rfl⟩
  · go_enter Try.func31, Try.ntmps31
    go_wp2_with (first | (go_at_call 51; refine (pow_any _ _).mono ?_; rintro e w' ⟨rfl, rfl⟩; rw [hp]) | (go_at_call 16; refine (ok_any _ H.out hm).mono ?_; rintro e w' ⟨rfl, m, rfl⟩))
    go_ret
    exact ⟨rfl, _, rfl⟩
set_option maxHeartbeats 800000 in
theorem ssiz_any {A : Option Addr} {n c : Nat} {xs : List (Nat × Nat)} (w : World) (h : Sg w A n c xs) (hm : n ≤ 1048576) :
    Calls Try.prog 32 #[.slice A n c] w fun e w' => e = .returned (.bool (sizB n xs)) ∧ ∃ m, w' = w.drewN m := by
  have H := Lib.hid h
  clear h
  cases hk : okB xs
  · have e : sizB n xs = false := by unfold sizB; rw [hk, Bool.and_false]
    rw [e]
    go_enter Try.func32, Try.ntmps32
    go_wp2_with (go_at_call 29; refine (sok_any _ H.out hm).mono ?_; rintro e w' ⟨rfl, m, rfl⟩; rw [hk])
    go_ret
    exact ⟨rfl, _, rfl⟩
  · have e : sizB n xs = powB n := by unfold sizB; rw [hk, Bool.and_true]
    rw [e]
    have HK := Lib.hid hk
    by_cases h1 : n = 1
    · subst h1
      go_enter Try.func32, Try.ntmps32
      go_wp2_with (go_at_call 29; refine (sok_any _ H.out hm).mono ?_; rintro e w' ⟨rfl, m, rfl⟩; rw [HK.out])
      go_ret
      exact ⟨rfl, _, rfl⟩
    by_cases h2 : n = 2
    · subst h2
      go_enter Try.func32, Try.ntmps32
      go_wp2_with (go_at_call 29; refine (sok_any _ H.out hm).mono ?_; rintro e w' ⟨rfl, m, rfl⟩; rw [HK.out])
      go_ret
      exact ⟨rfl, _, rfl⟩
    by_cases h4 : n = 4
    · subst h4
      go_enter Try.func32, Try.ntmps32
      go_wp2_with (go_at_call 29; refine (sok_any _ H.out hm).mono ?_; rintro e w' ⟨rfl, m, rfl⟩; rw [HK.out])
      go_ret
      exact ⟨rfl, _, rfl⟩
    by_cases h8 : n = 8
    · subst h8
      go_enter Try.func32, Try.ntmps32
      go_wp2_with (go_at_call 29; refine (sok_any _ H.out hm).mono ?_; rintro e w' ⟨rfl, m, rfl⟩; rw [HK.out])
      go_ret
      exact ⟨rfl, _, rfl⟩
    · have hp : powB n = ((n : Int) == 16) := by
        unfold powB
        by_cases h16 : n = 16
        · subst h16; rfl
        · rw [decide_eq_false (by omega)]; symm; simp; omega
      have e1 : ((n : Int) == 1) = false := by simp; omega
      have e2 : ((n : Int) == 2) = false := by simp; omega
      have e4 : ((n : Int) == 4) = false := by simp; omega
      have e8 : ((n : Int) == 8) = false := by simp; omega
      rw [hp]
      go_enter Try.func32, Try.ntmps32
      go_wp2_with (go_at_call 29; refine (sok_any _ H.out hm).mono ?_; rintro e w' ⟨rfl, m, rfl⟩; rw [HK.out])
      go_ret
      exact ⟨rfl, _, rfl⟩
end Go.Proofs.Ytpiokngbldehmaa
