/- MovedOf, the program's and the reference's, of any signal in memory. -/
import Derived.Test.YtapncffjfaddgaaFill
import Derived.Test.YtapncffjfaddgaaSsig
import Derived.Test.YtapncffjfaddgaaTurn
import Derived.Deep.RegionHeld3
import Derived.Deep.DrawnRows
namespace Go.Proofs.Ytapncffjfaddgaa
open Go.RowKit Go.FR Go.FV

/-- The place to which place k of n comes, moved by so many. -/
def mvI (by_ : Int) (n k : Nat) : Nat := (((k : Int) + by_) % (n : Int)).toNat
/-- A list moved round. -/
def mvM (by_ : Int) (xs : List (Nat × Nat)) : List (Nat × Nat) := (List.range xs.length).map fun i => xs.getD (mvI (-by_) xs.length i) (0, 0)
/-- What MovedOf gives. -/
def mvL (by_ : Int) (xs : List (Nat × Nat)) : List (Nat × Nat) := if okB xs = true ∧ -99 ≤ by_ ∧ by_ ≤ 99 then mvM by_ xs else []

theorem mvI_lt (b : Int) {n : Nat} (k : Nat) (h : 0 < n) : mvI b n k < n := by
  unfold mvI
  have h1 := Int.emod_nonneg ((k : Int) + b) (by omega : (n : Int) ≠ 0)
  have h2 := Int.emod_lt_of_pos ((k : Int) + b) (by omega : (0 : Int) < n)
  omega
theorem mvI_cast (b : Int) {n : Nat} (k : Nat) (h : 0 < n) : ((mvI b n k : Nat) : Int) = ((k : Int) + b) % (n : Int) := by
  unfold mvI
  have h1 := Int.emod_nonneg ((k : Int) + b) (by omega : (n : Int) ≠ 0)
  omega
/-- Moved and moved back. -/
theorem mvI_back (b : Int) {n : Nat} (k : Nat) (hk : k < n) : mvI (-b) n (mvI b n k) = k := by
  have h0 : 0 < n := by omega
  have e1 := mvI_cast b k h0
  have e2 := mvI_cast (-b) (mvI b n k) h0
  rw [e1] at e2
  have e3 : (((k : Int) + b) % (n : Int) + -b) % (n : Int) = (k : Int) := by
    rw [Int.emod_add_emod]
    have : (k : Int) + b + -b = k := by omega
    rw [this]
    exact Int.emod_eq_of_lt (by omega) (by omega)
  rw [e3] at e2
  omega
theorem mvI_forth (b : Int) {n : Nat} (k : Nat) (hk : k < n) : mvI b n (mvI (-b) n k) = k := by
  have := mvI_back (-b) k hk
  rwa [Int.neg_neg] at this
theorem mvM_len (b : Int) (xs : List (Nat × Nat)) : (mvM b xs).length = xs.length := by simp [mvM]
theorem mvM_at (b : Int) (xs : List (Nat × Nat)) (i : Nat) (hi : i < xs.length) : (mvM b xs)[i]? = some (xs.getD (mvI (-b) xs.length i) (0, 0)) := by
  unfold mvM; simp [hi]
/-- A list into which each number has been laid at its new place. -/
theorem moved_fill {xs ys : List (Nat × Nat)} {b : Int} (hl : ys.length = xs.length) (h : ∀ j (hj : j < xs.length), ys[mvI b xs.length j]? = some xs[j]) : ys = mvM b xs := by
  apply List.ext_getElem?
  intro i
  by_cases hi : i < xs.length
  · rw [mvM_at b xs i hi]
    have hj := mvI_lt (-b) i (by omega : 0 < xs.length)
    have := h _ hj
    rw [mvI_forth b i hi] at this
    rw [this]; simp [hj]
  · rw [List.getElem?_eq_none (by omega), List.getElem?_eq_none (by rw [mvM_len]; omega)]

set_option maxHeartbeats 1600000 in
theorem moved_any {A : Option Addr} {n c : Nat} {xs : List (Nat × Nat)} (b : Int) (w : World) (h : Sg w A n c xs) (hm : n ≤ 1048576) (hb0 : -1000 ≤ b) (hb1 : b ≤ 1000) :
    Calls Try.prog 24 #[.slice A n c, .int .i64 b] w fun e w' => ∃ A' n' c', e = .returned (.slice A' n' c') ∧ n' ≤ 16 ∧ Own w' w.heap.size A' n' c' (mvL b xs) ∧ Below w.heap.size w w' := by
  have hl := h.len
  have HS := Lib.hid h
  by_cases hcond : okB xs = true ∧ -99 ≤ b ∧ b ≤ 99
  · have hv : mvL b xs = mvM b xs := by unfold mvL; rw [if_pos hcond]
    obtain ⟨hok, c1, c2⟩ := hcond
    obtain ⟨hle, _⟩ := okB_iff.1 hok
    have HO := Lib.hid hok
    have HV := Lib.hid hv
    obtain ⟨i0, hi0, hz0, hz1, hz2⟩ := info_parts info_c
    clear hok hv
    by_cases h0 : n = 0
    · subst h0
      have : xs = [] := h.nil
      subst this
      clear h
      go_enter Try.func24, Try.ntmps24
      go_wp2_with (first | (go_at_call 19; refine (ok_any _ HS.out hm).mono ?_; rintro e w2 ⟨rfl, m2, rfl⟩; rw [HO.out]) | (at_make; refine wpList_make_full _ rfl _ _ 23 rfl (w.drewN m2).heap.size 26 i0 (.complex .f32 0 0) 1 Try.underlying23 hi0 hz0 hz1 .i64 .i64 _ _ 0 rfl rfl rfl rfl (by rw [hz2]; omega) (by unfold maxLen; omega) (Nat.le_refl _) ?_; intro w9 hown9 hgr9; obtain ⟨ho9, hb9⟩ := Own.made hown9 hgr9; have HO9 := Lib.hid ho9; have HB9 := Lib.hid hb9; clear hown9 hgr9 ho9 hb9))
      refine wp_loop_rounds 1 ?_
      rw [rounds_succ]
      go_wp2
      go_ret
      exact ⟨_, 0, 0, rfl, by omega, by rw [HV.out]; exact HO9.out, below_drewN_left HB9.out⟩
    · obtain ⟨g, off, rfl, hg, hc⟩ := h.at_ (by omega)
      have HC := Lib.hid hc
      clear h hc
      go_enter Try.func24, Try.ntmps24
      go_wp2_with (first | (go_at_call 19; refine (ok_any _ HS.out hm).mono ?_; rintro e w2 ⟨rfl, m2, rfl⟩; rw [HO.out]) | (at_make; refine wpList_make_full _ rfl _ _ 23 rfl (w.drewN m2).heap.size 26 i0 (.complex .f32 0 0) 1 Try.underlying23 hi0 hz0 hz1 .i64 .i64 _ _ n rfl rfl rfl rfl (by rw [hz2]; omega) (by unfold maxLen; omega) (Nat.le_refl _) ?_; intro w9 hown9 hgr9; obtain ⟨ho9, hb9⟩ := Own.made hown9 hgr9; have HO9 := Lib.hid ho9; have HB9 := Lib.hid (below_drewN_left hb9); clear hown9 hgr9 ho9 hb9))
      go_loopw [24] (fun i wr => ∃ k : Nat, k ≤ n ∧ i = .int .i64 k ∧ Below w.heap.size w wr ∧ ∃ ys, Own wr w.heap.size (some ⟨w.heap.size, 0, none⟩) n n ys ∧ ∀ j (hj : j < xs.length), j < k → ys[mvI b xs.length j]? = some xs[j]) (fun i _ => n - (intOf i).toNat)
      case atStart => exact ⟨0, by omega, rfl, HB9.out, _, HO9.out, fun j hj h => by omega⟩
      case round =>
        obtain ⟨k, hk, rfl, hbel, ys, ho, hys⟩ := hrel
        by_cases hlt : k < n
        · have hx : k < xs.length := by omega
          have hly := ho.len
          have hq := mvI_cast b k (by omega : 0 < n)
          have hql := mvI_lt b k (by omega : 0 < n)
          have c1 : wr.cell? ⟨g, off + k, none⟩ = some (cx xs[k]) := by rw [hbel.cell (p := ⟨g, off + k, none⟩) hg]; exact HC.out k hx
          have hys' : ∀ j (hj : j < xs.length), j < k + 1 → (ys.set (mvI b n k) xs[k])[mvI b xs.length j]? = some xs[j] := by
            intro j hj hjk
            have hold := fun h => hys j hj h
            rw [hl] at hold ⊢
            by_cases e : j = k
            · subst e; rw [List.getElem?_set_self (by omega)]
            · rw [List.getElem?_set_ne (fun e2 => e (by
                have a1 := mvI_back b k hlt
                have a2 := mvI_back b j (by omega : j < n)
                rw [e2, a2] at a1; exact a1))]
              exact hold (by omega)
          generalize mvI b n k = q at *
          have c2 := ho.cell_at q (by omega)
          have hfr := ho.free q
          have ho' := ho.set_ q xs[k]
          have hb' : Below w.heap.size w (wr.setCell ⟨w.heap.size, q, none⟩ (cx xs[k])) := hbel.setCell (p := ⟨w.heap.size, q, none⟩) (Nat.le_refl _) _
          have HO' := Lib.hid ho'
          have HB' := Lib.hid hb'
          have HY' := Lib.hid hys'
          have HQ := Lib.hid hq.symm
          generalize ys[q] = old at c2
          clear ho hys hbel ho' hb' hys' HC HB9 HO9 HS HV HO hq
          generalize hp : xs[k] = p at *
          obtain ⟨p1, p2⟩ := p
          obtain ⟨o1, o2⟩ := old
          unfold cx at c1 c2 HO' HB'
          simp only at c1 c2 HO' HB'
          go_wp2_with (go_at_call 43; refine (remainder_any _ _ _ (by omega) (by omega) q HQ.out).mono ?_; rintro e w' ⟨rfl, rfl⟩)
          go_roundw
          case rel => exact ⟨k + 1, by omega, by go_num, HB'.out, _, HO'.out, HY'.out⟩
          case measure => simp [intOf]; omega
        · have hkn : k = n := by omega
          subst hkn
          have hys2 := moved_fill (b := b) (by rw [ho.len, hl]) (fun i hi => hys i hi (by omega))
          have HO' := Lib.hid ho
          have HB' := Lib.hid hbel
          have HY' := Lib.hid hys2
          clear ho hbel hys2 hys HC HB9 HO9
          go_wp2
          go_ret
          exact ⟨_, k, k, rfl, by omega, by rw [HV.out, ← HY'.out]; exact HO'.out, HB'.out⟩
  · have hv : mvL b xs = [] := by unfold mvL; rw [if_neg hcond]
    rw [hv]
    clear hv h
    cases hok : okB xs
    · have HO := Lib.hid hok
      clear hok hcond
      go_enter Try.func24, Try.ntmps24
      go_wp2_with (go_at_call 19; refine (ok_any _ HS.out hm).mono ?_; rintro e w' ⟨rfl, m2, rfl⟩; rw [HO.out])
      go_ret
      exact ⟨none, 0, 0, rfl, by omega, Own.nil _ _, below_drewN' (Below.refl _ _) _⟩
    · have HO := Lib.hid hok
      have hbb : b < -99 ∨ 99 < b := by rw [hok] at hcond; simp at hcond; omega
      clear hok hcond
      rcases hbb with hbb | hbb
      · go_enter Try.func24, Try.ntmps24
        go_wp2_with (go_at_call 19; refine (ok_any _ HS.out hm).mono ?_; rintro e w' ⟨rfl, m2, rfl⟩; rw [HO.out])
        go_ret
        exact ⟨none, 0, 0, rfl, by omega, Own.nil _ _, below_drewN' (Below.refl _ _) _⟩
      · go_enter Try.func24, Try.ntmps24
        go_wp2_with (go_at_call 19; refine (ok_any _ HS.out hm).mono ?_; rintro e w' ⟨rfl, m2, rfl⟩; rw [HO.out])
        go_ret
        exact ⟨none, 0, 0, rfl, by omega, Own.nil _ _, below_drewN' (Below.refl _ _) _⟩
/-- The reference's way to the new place. -/
theorem mv_tmod (b : Int) (n k : Nat) (h : 0 < n) : ∃ r : Int, ((k : Int) + b).tmod n = r ∧ -(n : Int) < r ∧ r < n ∧ (r + n).tmod n = (mvI b n k : Int) := by
  obtain ⟨k1, k2, k3, k4⟩ := tmod_raised ((k : Int) + b) n (by omega)
  refine ⟨_, rfl, k3, k4, ?_⟩
  rw [mvI_cast b k h]
  have h1 := Int.emod_nonneg ((k : Int) + b) (by omega : (n : Int) ≠ 0)
  have h2 := Int.emod_lt_of_pos ((k : Int) + b) (by omega : (0 : Int) < n)
  rw [Int.tmod_eq_emod_of_nonneg (by omega)]
  by_cases hn : ((k : Int) + b).tmod n < 0
  · rw [k1 hn]
    exact Int.emod_eq_of_lt h1 h2
  · rw [k2 hn, Int.add_emod_right]
    exact Int.emod_eq_of_lt h1 h2
end Go.Proofs.Ytapncffjfaddgaa
