/- InTurnedOrder, the program's and the reference's, of any signal in memory. -/
import Derived.Test.YtpiokngbldehmaaFill
import Derived.Test.YtpiokngbldehmaaSsig
import Derived.Test.YtpiokngbldehmaaSize
import Derived.Test.YtpiokngbldehmaaDigits
import Derived.Deep.RegionHeld3
import Derived.Deep.DrawnRows
namespace Go.Proofs.Ytpiokngbldehmaa
open Go.RowKit Go.FR Go.FV

/-- The place to which place k of n comes. -/
def toI (n k : Nat) : Nat := (digT (n : Int) (k : Int)).toNat
def toM (xs : List (Nat × Nat)) : List (Nat × Nat) := (List.range xs.length).map fun i => xs.getD (toI xs.length i) (0, 0)
/-- What InTurnedOrder gives. -/
def toL (n : Nat) (xs : List (Nat × Nat)) : List (Nat × Nat) := if sizB n xs = true then toM xs else []

theorem toI_all : ∀ n ∈ [1, 2, 4, 8, 16], ∀ k : Nat, k < n → toI n k < n ∧ toI n (toI n k) = k ∧ digF (n : Int) (k : Int) = (toI n k : Int) := by decide +kernel
theorem pow_mem {n : Nat} (h : powB n = true) : n ∈ [1, 2, 4, 8, 16] := by
  rcases powB_cases h with h | h | h | h | h
  · have : n = 1 := by omega
    subst this; decide
  · have : n = 2 := by omega
    subst this; decide
  · have : n = 4 := by omega
    subst this; decide
  · have : n = 8 := by omega
    subst this; decide
  · have : n = 16 := by omega
    subst this; decide
theorem toM_len (xs : List (Nat × Nat)) : (toM xs).length = xs.length := by simp [toM]
theorem toM_at (xs : List (Nat × Nat)) (i : Nat) (hi : i < xs.length) : (toM xs)[i]? = some (xs.getD (toI xs.length i) (0, 0)) := by
  unfold toM; simp [hi]
theorem ordered_fill {xs ys : List (Nat × Nat)} (hp : powB xs.length = true) (hl : ys.length = xs.length) (h : ∀ j (hj : j < xs.length), ys[toI xs.length j]? = some xs[j]) : ys = toM xs := by
  apply List.ext_getElem?
  intro i
  by_cases hi : i < xs.length
  · rw [toM_at xs i hi]
    obtain ⟨a1, a2, _⟩ := toI_all _ (pow_mem hp) i hi
    have := h _ a1
    rw [a2] at this
    rw [this]; simp [a1]
  · rw [List.getElem?_eq_none (by omega), List.getElem?_eq_none (by rw [toM_len]; omega)]

set_option maxHeartbeats 1600000 in
theorem order_any {A : Option Addr} {n c : Nat} {xs : List (Nat × Nat)} (w : World) (h : Sg w A n c xs) (hm : n ≤ 1048576) :
    Calls Try.prog 34 #[.slice A n c] w fun e w' => ∃ A' n' c', e = .returned (.slice A' n' c') ∧ n' ≤ 16 ∧ Own w' w.heap.size A' n' c' (toL n xs) ∧ Below w.heap.size w w' ∧ c' = n' := by
  have hl := h.len
  have HS := Lib.hid h
  cases hsz : sizB n xs
  · have hv : toL n xs = [] := by unfold toL; rw [hsz]; rfl
    have HO := Lib.hid hsz
    rw [hv]
    clear h hsz hv
    go_enter Try.func34, Try.ntmps34
    go_wp2_with (go_at_call 31; refine (siz_any _ HS.out hm).mono ?_; rintro e w' ⟨rfl, m2, rfl⟩; rw [HO.out])
    go_ret
    exact ⟨none, 0, 0, rfl, by omega, Own.nil _ _, below_drewN' (Below.refl _ _) _, rfl⟩
  · have hv : toL n xs = toM xs := by unfold toL; rw [hsz]; rfl
    obtain ⟨hp, hok⟩ := sizB_iff.1 hsz
    obtain ⟨hle, _⟩ := okB_iff.1 hok
    have hn0 : 0 < n := by have := powB_cases hp; omega
    have HO := Lib.hid hsz
    have HV := Lib.hid hv
    have HP := Lib.hid hp
    obtain ⟨i0, hi0, hz0, hz1, hz2⟩ := info_parts info_c
    clear hok hv hsz hp
    obtain ⟨g, off, rfl, hg, hc⟩ := h.at_ (by omega)
    have HC := Lib.hid hc
    clear h hc
    go_enter Try.func34, Try.ntmps34
    go_wp2_with (first | (go_at_call 31; refine (siz_any _ HS.out hm).mono ?_; rintro e w2 ⟨rfl, m2, rfl⟩; rw [HO.out]) | (at_make; refine wpList_make_full _ rfl _ _ 23 rfl (w.drewN m2).heap.size 33 i0 (.complex .f32 0 0) 1 Try.underlying23 hi0 hz0 hz1 .i64 .i64 _ _ n rfl rfl rfl rfl (by rw [hz2]; omega) (by unfold maxLen; omega) (Nat.le_refl _) ?_; intro w9 hown9 hgr9; obtain ⟨ho9, hb9⟩ := Own.made hown9 hgr9; have HO9 := Lib.hid ho9; have HB9 := Lib.hid (below_drewN_left hb9); clear hown9 hgr9 ho9 hb9))
    go_loopw [14] (fun i wr => ∃ k : Nat, k ≤ n ∧ i = .int .i64 k ∧ Below w.heap.size w wr ∧ ∃ ys, Own wr w.heap.size (some ⟨w.heap.size, 0, none⟩) n n ys ∧ ∀ j (hj : j < xs.length), j < k → ys[toI xs.length j]? = some xs[j]) (fun i _ => n - (intOf i).toNat)
    case atStart => exact ⟨0, by omega, rfl, HB9.out, _, HO9.out, fun j hj h => by omega⟩
    case round =>
      obtain ⟨k, hk, rfl, hbel, ys, ho, hys⟩ := hrel
      by_cases hlt : k < n
      · have hx : k < xs.length := by omega
        have hly := ho.len
        obtain ⟨ql, qb, qd⟩ := toI_all _ (pow_mem HP.out) k hlt
        have c1 : wr.cell? ⟨g, off + k, none⟩ = some (cx xs[k]) := by rw [hbel.cell (p := ⟨g, off + k, none⟩) hg]; exact HC.out k hx
        have hys' : ∀ j (hj : j < xs.length), j < k + 1 → (ys.set (toI n k) xs[k])[toI xs.length j]? = some xs[j] := by
          intro j hj hjk
          have hold := fun h => hys j hj h
          rw [hl] at hold ⊢
          by_cases e : j = k
          · subst e; rw [List.getElem?_set_self (by omega)]
          · rw [List.getElem?_set_ne (fun e2 => e (by
              have a2 := (toI_all _ (pow_mem HP.out) j (by omega)).2.1
              rw [← e2, qb] at a2; exact a2.symm))]
            exact hold (by omega)
        generalize toI n k = q at *
        have c2 := ho.cell_at q (by omega)
        have hfr := ho.free q
        have ho' := ho.set_ q xs[k]
        have hb' : Below w.heap.size w (wr.setCell ⟨w.heap.size, q, none⟩ (cx xs[k])) := hbel.setCell (p := ⟨w.heap.size, q, none⟩) (Nat.le_refl _) _
        have HO' := Lib.hid ho'
        have HB' := Lib.hid hb'
        have HY' := Lib.hid hys'
        have HQ := Lib.hid qd
        generalize ys[q] = old at c2
        clear ho hys hbel ho' hb' hys' HC HB9 HO9 HS HV HO qd qb HP
        generalize hp : xs[k] = p at *
        obtain ⟨p1, p2⟩ := p
        obtain ⟨o1, o2⟩ := old
        unfold cx at c1 c2 HO' HB'
        simp only at c1 c2 HO' HB'
        have hb1' : (0 : Int) ≤ (q : Int) := by omega
        have hb2' : (q : Int) < (n : Int) := by omega
        have hb3' : (0 : Int) ≤ (k : Int) := by omega
        have hb4' : (k : Int) < (n : Int) := by omega
        go_wp2_with (go_at_call 52; refine (digits_any _ _ _).mono ?_; rintro e w' ⟨rfl, rfl⟩; rw [HQ.out])
        go_roundw
        case rel => exact ⟨k + 1, by omega, by go_num, HB'.out, _, HO'.out, HY'.out⟩
        case measure => simp [intOf]; omega
      · have hkn : k = n := by omega
        subst hkn
        have hys2 := ordered_fill (by rw [hl]; exact HP.out) (by rw [ho.len, hl]) (fun i hi => hys i hi (by omega))
        have HO' := Lib.hid ho
        have HB' := Lib.hid hbel
        have HY' := Lib.hid hys2
        clear ho hbel hys2 hys HC HB9 HO9 HP
        go_wp2
        go_ret
        exact ⟨_, k, k, rfl, by omega, by rw [HV.out, ← HY'.out]; exact HO'.out, HB'.out, rfl⟩
set_option maxHeartbeats 1600000 in
theorem sorder_any {A : Option Addr} {n c : Nat} {xs : List (Nat × Nat)} (w : World) (h : Sg w A n c xs) (hm : n ≤ 1048576) :
    Calls Try.prog 35 #[.slice A n c] w fun e w' => ∃ A' n' c', e = .returned (.slice A' n' c') ∧ n' ≤ 16 ∧ Own w' w.heap.size A' n' c' (toL n xs) ∧ Below w.heap.size w w' ∧ c' = n' := by
  have hl := h.len
  have HS := Lib.hid h
  cases hsz : sizB n xs
  · have hv : toL n xs = [] := by unfold toL; rw [hsz]; rfl
    have HO := Lib.hid hsz
    rw [hv]
    clear h hsz hv
    go_enter Try.func35, Try.ntmps35
    go_wp2_with (go_at_call 32; refine (ssiz_any _ HS.out hm).mono ?_; rintro e w' ⟨rfl, m2, rfl⟩; rw [HO.out])
    go_ret
    exact ⟨_, 0, 0, rfl, by omega, Own.of_blk (Blk.new _ _ _) (Nat.le_refl _) rfl (Nat.zero_le _), (below_drewN' (Below.refl _ _) _).alloc (Nat.le_refl _) _, rfl⟩
  · have hv : toL n xs = toM xs := by unfold toL; rw [hsz]; rfl
    obtain ⟨hp, hok⟩ := sizB_iff.1 hsz
    obtain ⟨hle, _⟩ := okB_iff.1 hok
    have hn0 : 0 < n := by have := powB_cases hp; omega
    have HO := Lib.hid hsz
    have HV := Lib.hid hv
    have HP := Lib.hid hp
    obtain ⟨i0, hi0, hz0, hz1, hz2⟩ := info_parts info_c
    clear hok hv hsz hp
    obtain ⟨g, off, rfl, hg, hc⟩ := h.at_ (by omega)
    have HC := Lib.hid hc
    clear h hc
    go_enter Try.func35, Try.ntmps35
    go_wp2_with (first | (go_at_call 32; refine (ssiz_any _ HS.out hm).mono ?_; rintro e w2 ⟨rfl, m2, rfl⟩; rw [HO.out]) | (at_make; refine wpList_make_full _ rfl _ _ 23 rfl (w.drewN m2).heap.size 33 i0 (.complex .f32 0 0) 1 Try.underlying23 hi0 hz0 hz1 .i64 .i64 _ _ n rfl rfl rfl rfl (by rw [hz2]; omega) (by unfold maxLen; omega) (Nat.le_refl _) ?_; intro w9 hown9 hgr9; obtain ⟨ho9, hb9⟩ := Own.made hown9 hgr9; have HO9 := Lib.hid ho9; have HB9 := Lib.hid (below_drewN_left hb9); clear hown9 hgr9 ho9 hb9))
    go_loopw [4] (fun i wr => ∃ k : Nat, k ≤ n ∧ i = .int .i64 k ∧ Below w.heap.size w wr ∧ ∃ ys, Own wr w.heap.size (some ⟨w.heap.size, 0, none⟩) n n ys ∧ ∀ j (hj : j < xs.length), j < k → ys[toI xs.length j]? = some xs[j]) (fun i _ => n - (intOf i).toNat)
    case atStart => exact ⟨0, by omega, rfl, HB9.out, _, HO9.out, fun j hj h => by omega⟩
    case round =>
      obtain ⟨k, hk, rfl, hbel, ys, ho, hys⟩ := hrel
      by_cases hlt : k < n
      · have hx : k < xs.length := by omega
        have hly := ho.len
        obtain ⟨ql, qb, qd⟩ := toI_all _ (pow_mem HP.out) k hlt
        have c1 : wr.cell? ⟨g, off + k, none⟩ = some (cx xs[k]) := by rw [hbel.cell (p := ⟨g, off + k, none⟩) hg]; exact HC.out k hx
        have hys' : ∀ j (hj : j < xs.length), j < k + 1 → (ys.set (toI n k) xs[k])[toI xs.length j]? = some xs[j] := by
          intro j hj hjk
          have hold := fun h => hys j hj h
          rw [hl] at hold ⊢
          by_cases e : j = k
          · subst e; rw [List.getElem?_set_self (by omega)]
          · rw [List.getElem?_set_ne (fun e2 => e (by
              have a2 := (toI_all _ (pow_mem HP.out) j (by omega)).2.1
              rw [← e2, qb] at a2; exact a2.symm))]
            exact hold (by omega)
        generalize toI n k = q at *
        have c2 := ho.cell_at q (by omega)
        have hfr := ho.free q
        have ho' := ho.set_ q xs[k]
        have hb' : Below w.heap.size w (wr.setCell ⟨w.heap.size, q, none⟩ (cx xs[k])) := hbel.setCell (p := ⟨w.heap.size, q, none⟩) (Nat.le_refl _) _
        have HO' := Lib.hid ho'
        have HB' := Lib.hid hb'
        have HY' := Lib.hid hys'
        have HQ := Lib.hid qd
        generalize ys[q] = old at c2
        clear ho hys hbel ho' hb' hys' HC HB9 HO9 HS HV HO qd qb HP
        generalize hp : xs[k] = p at *
        obtain ⟨p1, p2⟩ := p
        obtain ⟨o1, o2⟩ := old
        unfold cx at c1 c2 HO' HB'
        simp only at c1 c2 HO' HB'
        have hb1' : (0 : Int) ≤ (q : Int) := by omega
        have hb2' : (q : Int) < (n : Int) := by omega
        have hb3' : (0 : Int) ≤ (k : Int) := by omega
        have hb4' : (k : Int) < (n : Int) := by omega
        have hkeep : (wr.setCell ⟨w.heap.size, q, none⟩ (.complex .f32 p1 p2)).cell? ⟨g, off + k, none⟩ = some (.complex .f32 p1 p2) := by
          rw [World.cell?_setCell_other _ _ _ _ (fun e => absurd (congrArg Addr.block e) (by simp; omega))]; exact c1
        go_wp2
        go_region_held3 (fun w' => w'.cell? ⟨g, off + k, none⟩ = some (.complex .f32 p1 p2)) (first | go_keep | exact hkeep) (first | (go_at_call 53; refine (sdigits_any _ _ _).mono ?_; rintro e w' ⟨rfl, rfl⟩; rw [HQ.out]))
        all_goals go_wp2
        all_goals exact ⟨⟨k + 1, by omega, by go_num, below_drewN' HB'.out 1, _, HO'.out, HY'.out⟩, by simp [intOf]; omega⟩
      · have hkn : k = n := by omega
        subst hkn
        have hys2 := ordered_fill (by rw [hl]; exact HP.out) (by rw [ho.len, hl]) (fun i hi => hys i hi (by omega))
        have HO' := Lib.hid ho
        have HB' := Lib.hid hbel
        have HY' := Lib.hid hys2
        clear ho hbel hys2 hys HC HB9 HO9 HP
        go_wp2
        go_ret
        exact ⟨_, k, k, rfl, by omega, by rw [HV.out, ← HY'.out]; exact HO'.out, HB'.out, rfl⟩
end Go.Proofs.Ytpiokngbldehmaa
