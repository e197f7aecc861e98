/- The law FnInTurnedOrder. -/
import Derived.Test.YtpiokngbldehmaaOrder
import Derived.Test.YtpiokngbldehmaaDsig
import Derived.Test.YtpiokngbldehmaaLsok
import Derived.Deep.AppendLies
import Derived.Deep.RegionHeld3
import Derived.Deep.RegionHeld
import Derived.Deep.DrawnRows
namespace Go.Proofs.Ytpiokngbldehmaa
open Go.RowKit Go.FR Go.FV

/-- The numbers at the first even places. -/
def evP (xs : List (Nat × Nat)) (j : Nat) : List (Nat × Nat) := (List.range j).map fun i => xs.getD (2 * i) (0, 0)
theorem evP_succ (xs : List (Nat × Nat)) (j : Nat) (h : 2 * j < xs.length) : evP xs (j + 1) = evP xs j ++ [xs[2 * j]] := by
  unfold evP
  rw [List.range_succ, List.map_append]
  simp [h]
theorem evP_ok {xs : List (Nat × Nat)} {j : Nat} (h : okB xs = true) (hj : 2 * j ≤ xs.length) : okB (evP xs j) = true := by
  have h' := okB_iff.1 h
  rw [okB_iff]
  refine ⟨by unfold evP; simp; omega, fun p hp => ?_⟩
  unfold evP at hp
  obtain ⟨i, hi, rfl⟩ := List.mem_map.1 hp
  have hi' := List.mem_range.1 hi
  have hlt : 2 * i < xs.length := by omega
  rw [List.getD_eq_getElem?_getD, List.getElem?_eq_getElem hlt]
  exact h'.2 _ (List.getElem_mem hlt)
theorem toM_ok {xs : List (Nat × Nat)} (hp : powB xs.length = true) (h : okB xs = true) : okB (toM xs) = true := by
  have h' := okB_iff.1 h
  rw [okB_iff]
  refine ⟨by rw [toM_len]; exact h'.1, fun p hq => ?_⟩
  unfold toM at hq
  obtain ⟨i, hi, rfl⟩ := List.mem_map.1 hq
  have hi' := List.mem_range.1 hi
  have hlt := (toI_all _ (pow_mem hp) i hi').1
  rw [List.getD_eq_getElem?_getD, List.getElem?_eq_getElem hlt]
  exact h'.2 _ (List.getElem_mem hlt)
theorem toM_twice {xs : List (Nat × Nat)} (hp : powB xs.length = true) : toM (toM xs) = xs := by
  apply List.ext_getElem?
  intro i
  by_cases hi : i < xs.length
  · rw [toM_at _ i (by rw [toM_len]; exact hi), toM_len]
    obtain ⟨a1, a2, _⟩ := toI_all _ (pow_mem hp) i hi
    rw [List.getD_eq_getElem?_getD, toM_at _ _ a1, a2]
    simp [hi]
  · rw [List.getElem?_eq_none (by rw [toM_len, toM_len]; omega), List.getElem?_eq_none (by omega)]
theorem toI_half : ∀ n ∈ [2, 4, 8, 16], ∀ i : Nat, i < n / 2 → toI n i = 2 * toI (n / 2) i ∧ toI (n / 2) i < n / 2 := by decide +kernel
theorem toM_half {xs : List (Nat × Nat)} (hp : powB xs.length = true) (h2 : 2 ≤ xs.length) : (toM xs).take (xs.length / 2) = toM (evP xs (xs.length / 2)) := by
  have hm : xs.length ∈ [2, 4, 8, 16] := by
    have := pow_mem hp
    simp only [List.mem_cons, List.not_mem_nil, or_false] at this ⊢
    omega
  have hel : (evP xs (xs.length / 2)).length = xs.length / 2 := by simp [evP]
  apply List.ext_getElem?
  intro i
  by_cases hi : i < xs.length / 2
  · obtain ⟨a1, a2⟩ := toI_half _ hm i hi
    rw [List.getElem?_take_of_lt hi, toM_at xs i (by omega), toM_at _ i (by rw [hel]; exact hi), hel, a1]
    unfold evP
    simp [a2]
  · rw [List.getElem?_eq_none (by simp; omega), List.getElem?_eq_none (by rw [toM_len, hel]; omega)]

section
variable {P : Program} {ops : Array Oper} {Q : Exit → Act → World → Prop} {md : Region.Mode} {S : World → Prop}
/-- Take an operation that is wanted first; where its value goes is said outright, so that the state stays laid out. -/
theorem takeH {i : Nat} {oi : Oper} {v : Value} {fuel : Nat} {listed : Array Bool} {a : Act} {w : World} (d : Option Nat) (hi : ops[i]? = some oi) (hd : oi.dst = d)
    (hs : Region.noSelect ops = true) (hf : Region.free md ops listed i = true) (hr : (Region.ready md ops listed).contains i = true)
    (hQ : ∀ c a w, Q (.panic c) (a.put d v) w → Q (.panic c) a w) (hw : Region.wanted oi (yielded ops a.tmps) = true) (hy : ∀ w, S w → (execOp a.eval oi).run P w = .ok (.value v) w) (hS : S w)
    (h : wpAnyH P md ops Q S fuel (listed.setIfInBounds i true) (a.put d v) w) : wpAnyH P md ops Q S (fuel + 1) listed a w := by
  subst hd
  exact wpAnyH_take hi hs hf hr hQ (Or.inl ⟨hw, hy⟩) hS h
/-- Leave out an operation whose guard is off. -/
theorem skipH {i : Nat} {oi : Oper} {fuel : Nat} {listed : Array Bool} {a : Act} {w : World} (d : Option Nat) (hi : ops[i]? = some oi) (hd : oi.dst = d)
    (hs : Region.noSelect ops = true) (hf : Region.free md ops listed i = true) (hr : (Region.ready md ops listed).contains i = true)
    (hQ : ∀ c a w, Q (.panic c) (a.put d undef) w → Q (.panic c) a w) (hw : Region.wanted oi (yielded ops a.tmps) = false) (hS : S w)
    (h : wpAnyH P md ops Q S fuel (listed.setIfInBounds i true) (a.put d undef) w) : wpAnyH P md ops Q S (fuel + 1) listed a w := by
  subst hd
  exact wpAnyH_take hi hs hf hr hQ (Or.inr ⟨hw, rfl⟩) hS h
end

set_option maxHeartbeats 40000000 in
theorem law_FnInTurnedOrder (a : Option Addr) (len cap : Nat) (z : List Int) (w : World) (h : CodeIs w a len cap z) :
    Calls Try.prog 9 #[.slice a len cap] w fun e w' => e = .returned (.bool true) ∧ Below w.heap.size w w' := by
  have HC := Lib.hid h
  clear h
  by_cases hbig : 1048576 < len
  · go_enter Try.func9, Try.ntmps9
    go_wp2
    go_ret
    exact ⟨rfl, Below.refl _ _⟩
  go_enter Try.func9, Try.ntmps9
  go_wp2_with fail
  refine (drawInTurnedOrder_any _ HC.out).mono ?_
  rintro e w1 ⟨A, k, c, xs, rfl, ho, hsg, hk, hb⟩
  have hl := ho.len
  have hform := ho.form
  have HB := Lib.hid hb
  have HS := Lib.hid ho.sg
  clear ho hb HC hsg
  go_wp2_with fail
  refine (order_any _ HS.out (by omega)).mono ?_
  rintro e w2 ⟨A2, k2, c2, rfl, hk2, ho2, hb2, hcn2⟩
  have HCN := Lib.hid hcn2
  clear hcn2
  have HO2 := Lib.hid ho2
  have HB2 := Lib.hid hb2
  have hl2 := ho2.len
  clear ho2 hb2
  go_wp2_with fail
  refine (sorder_any _ (HS.out.below HB2.out) (by omega)).mono ?_
  rintro e w3 ⟨A3, k3, c3, rfl, hk3, ho3, hb3, hcn3⟩
  clear hcn3
  have HO3 := Lib.hid ho3
  have HB3 := Lib.hid hb3
  clear ho3 hb3
  have HS3 := Lib.hid ((HS.out.below HB2.out).below HB3.out)
  have HY3 := Lib.hid ((HO2.out.below HB3.out).sg)
  have HBB := Lib.hid (HB.out.trans ((HB2.out.trans (HB3.out.mono HB2.out.size)).mono HB.out.size) : Below w.heap.size w w3)
  cases hsz : sizB k xs
  · have hv : toL k xs = [] := by unfold toL; rw [hsz]; rfl
    have HV := Lib.hid hv
    have HZ := Lib.hid hsz
    rw [hv] at hl2
    simp only [List.length_nil] at hl2
    subst hl2
    clear hv hsz
    go_wp2_with fail
    refine (sameSignal_any _ HY3.out HO3.out.sg (by rw [HV.out]; exact EqS.nil) (by omega)).mono ?_
    rintro e w' ⟨rfl, m1, rfl⟩
    go_wp2_with fail
    refine (siz_any _ (HS3.out.drewN _) (by omega)).mono ?_
    rintro e w' ⟨rfl, m2, rfl⟩
    rw [HZ.out]
    go_wp2_with fail
    refine (alive_any _).mono ?_
    rintro e w' ⟨rfl, m3, rfl⟩
    go_wp2
    go_ret
    exact ⟨rfl, below_drewN' HBB.out _⟩
  · have hv : toL k xs = toM xs := by unfold toL; rw [hsz]; rfl
    obtain ⟨hp, hok⟩ := sizB_iff.1 hsz
    have hpl : powB xs.length = true := by rw [hl]; exact hp
    have hok2 := toM_ok hpl hok
    have hk0 : 0 < k := by have := powB_cases hp; omega
    have hkk : k2 = k := by rw [← hl2, hv, toM_len, hl]
    subst hkk
    have HV := Lib.hid hv
    have HP := Lib.hid hp
    have HPL := Lib.hid hpl
    have HK := Lib.hid hok
    have HE := Lib.hid hok2
    have HL := Lib.hid hl
    clear hv hsz hp hpl hok hok2 hl2
    have hkne : ((k2 : Int) == 0) = false := by simp; omega
    rcases hform with ⟨_, h', _⟩ | ⟨g, rfl, hcap, _⟩
    · omega
    go_wp2_with fail
    refine (sameSignal_any _ HY3.out HO3.out.sg (by rw [HV.out]; exact EqS.refl_ok HE.out) (by omega)).mono ?_
    rintro e w4 ⟨rfl, m1, hw4⟩
    have HS4 := Lib.hid (by rw [hw4]; exact HS3.out.drewN m1 : Sg w4 (some ⟨g, 0, none⟩) k2 c xs)
    have HY4 := Lib.hid (by rw [hw4, ← HV.out]; exact HY3.out.drewN m1 : Sg w4 A2 k2 c2 (toM xs))
    have HB4 := Lib.hid (by rw [hw4]; exact below_drewN' HBB.out m1 : Below w.heap.size w w4)
    clear hw4
    obtain ⟨i0, hi0, hz0, hz1, hz2⟩ := info_parts info_c
    have hO0 : Own (w4.alloc (.cells #[] 33)) w4.heap.size (some ⟨w4.heap.size, 0, none⟩) 0 0 [] := Own.of_blk (Blk.new _ _ _) (Nat.le_refl _) rfl (Nat.zero_le _)
    have hB0 : Below w4.heap.size w4 (w4.alloc (.cells #[] 33)) := (Below.refl _ _).alloc (Nat.le_refl _) _
    have HO0 := Lib.hid hO0
    have HB0 := Lib.hid hB0
    obtain ⟨g', off', hA, hg, hc⟩ := HS4.out.at_ hk0
    simp only [Option.some.injEq, Addr.mk.injEq, and_true] at hA
    obtain ⟨rfl, rfl⟩ := hA
    have HCC := Lib.hid hc
    clear hO0 hB0 hc
    go_wp2
    go_loopw [5, 6] (fun sv i wr => ∃ (j : Nat) (A' : Option Addr) (c' : Nat), 2 * j ≤ k2 + 1 ∧ i = .int .i64 ((2 * j : Nat) : Int) ∧ sv = .slice A' j c' ∧ Own wr w4.heap.size A' j c' (evP xs j) ∧ Below w4.heap.size w4 wr) (fun _ i _ => k2 + 2 - (intOf i).toNat)
    case atStart => exact ⟨0, _, 0, by omega, rfl, rfl, HO0.out, HB0.out⟩
    case round =>
      obtain ⟨j, A', c', hj, rfl, rfl, hown, hbel⟩ := hrel
      have hszz := hbel.size
      by_cases hlt : 2 * j < k2
      · have hx : 2 * j < xs.length := by omega
        have c1 : wr.cell? ⟨g, 2 * j, none⟩ = some (cx xs[2 * j]) := by
          rw [hbel.cell (p := ⟨g, 2 * j, none⟩) hg]
          have := HCC.out (2 * j) hx
          rw [Nat.zero_add] at this
          exact this
        have hnext := evP_succ xs j hx
        have HX := Lib.hid hnext
        have HW := Lib.hid hown
        have HBL := Lib.hid hbel
        clear hnext hown hbel HCC HO0 HB0 HY4 HS4 HY3 HS3
        generalize xs[2 * j] = p at *
        obtain ⟨p1, p2⟩ := p
        unfold cx at c1
        simp only at c1
        generalize hi2 : 2 * j = i2 at *
        go_wp2_with (at_builtin; refine wpList_append_one rfl _ _ 23 rfl w4.heap.size 33 i0 (.complex .f32 0 0) 8 Try.underlying23 hi0 hz0 hz1 hz2 rfl A' j c' ((evP xs j).map cx) (cx (p1, p2)) rfl HW.out rfl rfl (by omega) (by omega) hszz ?_; intro A'' c'' w9 hown3 hb3 hg3)
        go_roundw
        case rel => exact ⟨j + 1, A'', c'', by omega, by rw [← hi2]; rfl, rfl, by rw [HX.out]; unfold Own; rw [List.map_append]; exact hown3, HBL.out.trans hb3⟩
        case measure => simp [intOf]; omega
      · have HW := Lib.hid hown
        have HBL := Lib.hid hbel
        have HS5 := Lib.hid (HS4.out.below hbel)
        have HY5 := Lib.hid (HY4.out.below hbel)
        have HB5 := Lib.hid (HB4.out.trans (hbel.mono HB4.out.size) : Below w.heap.size w wr)
        clear hown hbel HCC HO0 HB0 HY4 HS4 HY3 HS3 HBB HB HB2 HB3 HO2 HO3 HV HB4
        have v6 : toL k2 (toM xs) = xs := by
          have : sizB k2 (toM xs) = true := by rw [sizB_iff]; exact ⟨HP.out, HE.out⟩
          unfold toL
          rw [this, if_pos rfl, toM_twice HPL.out]
        have V6 := Lib.hid v6
        clear v6
        have hbd : (0 : Int) ≤ (k2 : Int) := by omega
        by_cases h2 : k2 < 2
        · obtain rfl : k2 = 1 := by omega
          obtain rfl : c2 = 1 := HCN.out
          obtain rfl : j = 1 := by omega
          obtain ⟨g2, off2, rfl, hg2, _⟩ := HY5.out.at_ hk0
          go_wp2
          refine wp_region_held_drew (S := fun _ => True) (by kernel_rfl) trivial (fun _ => ?_)
          refine takeH (i := 0) (v := ?_) (some 42) rfl (by kernel_rfl) (by kernel_rfl) (by kernel_rfl) (by kernel_rfl) (fun _ _ _ h => h) (by kernel_rfl) ?_ trivial ?_
          rotate_left
          · intro w0 _
            go_simp
            try with_reducible rfl
          simp only [Act.put, List.setIfInBounds_toArray, List.set_cons_zero, List.set_cons_succ]
          refine takeH (i := 2) (v := ?_) (some 44) rfl (by kernel_rfl) (by kernel_rfl) (by kernel_rfl) (by kernel_rfl) (fun _ _ _ h => h) (by kernel_rfl) ?_ trivial ?_
          rotate_left
          · intro w0 _
            go_simp
            try with_reducible rfl
          simp only [Act.put, List.setIfInBounds_toArray, List.set_cons_zero, List.set_cons_succ]
          refine wpAnyH_ready (rs := [1]) (by kernel_rfl) (by simp) ?_
          refine AllReadyH.cons rfl (fun K hK => ?_) AllReadyH.nil
          go_simp
          refine (order_any _ (HY5.out.drewN 1) (by omega)).mono ?_
          rintro e w6 ⟨A6, k6, c6, rfl, hk6, ho6, hb6, hq6⟩
          have HO6 := Lib.hid ho6
          have HB6 := Lib.hid hb6
          clear ho6 hb6 hq6
          try go_wp2_with fail
          refine hK.out _ _ trivial (fun _ => ?_)
          clear hK K
          refine wpAnyH_ready (rs := [3]) (by kernel_rfl) (by simp) ?_
          refine AllReadyH.cons rfl (fun K hK => ?_) AllReadyH.nil
          go_simp
          refine (sameSignal_any _ HO6.out.sg ((HS5.out.drewN 1).below HB6.out) (by rw [V6.out]; exact EqS.refl_ok HK.out) (by omega)).mono ?_
          rintro e w7 ⟨rfl, m7, hw7⟩
          have HB7 := Lib.hid (by rw [hw7]; exact below_drewN' ((below_drewN' HB5.out 1).trans (HB6.out.mono HB5.out.size)) m7 : Below w.heap.size w w7)
          clear hw7
          try go_wp2_with fail
          refine hK.out _ _ trivial (fun _ => ?_)
          clear hK K
          refine takeH (i := 4) (v := ?_) (some 46) rfl (by kernel_rfl) (by kernel_rfl) (by kernel_rfl) (by kernel_rfl) (fun _ _ _ h => h) (by kernel_rfl) ?_ trivial ?_
          rotate_left
          · intro w0 _
            go_simp
            try with_reducible rfl
          simp only [Act.put, List.setIfInBounds_toArray, List.set_cons_zero, List.set_cons_succ]
          refine takeH (i := 5) (v := ?_) (some 47) rfl (by kernel_rfl) (by kernel_rfl) (by kernel_rfl) (by kernel_rfl) (fun _ _ _ h => h) (by kernel_rfl) ?_ trivial ?_
          rotate_left
          · intro w0 _
            go_simp
            try with_reducible rfl
          simp only [Act.put, List.setIfInBounds_toArray, List.set_cons_zero, List.set_cons_succ]
          refine takeH (i := 6) (v := ?_) (some 48) rfl (by kernel_rfl) (by kernel_rfl) (by kernel_rfl) (by kernel_rfl) (fun _ _ _ h => h) (by kernel_rfl) ?_ trivial ?_
          rotate_left
          · intro w0 _
            go_simp
            try with_reducible rfl
          simp only [Act.put, List.setIfInBounds_toArray, List.set_cons_zero, List.set_cons_succ]
          refine takeH (i := 7) (v := ?_) (some 49) rfl (by kernel_rfl) (by kernel_rfl) (by kernel_rfl) (by kernel_rfl) (fun _ _ _ h => h) (by kernel_rfl) ?_ trivial ?_
          rotate_left
          · intro w0 _
            go_simp
            try with_reducible rfl
          simp only [Act.put, List.setIfInBounds_toArray, List.set_cons_zero, List.set_cons_succ]
          refine takeH (i := 8) (v := ?_) (some 50) rfl (by kernel_rfl) (by kernel_rfl) (by kernel_rfl) (by kernel_rfl) (fun _ _ _ h => h) (by kernel_rfl) ?_ trivial ?_
          rotate_left
          · intro w0 _
            go_simp
            try with_reducible rfl
          simp only [Act.put, List.setIfInBounds_toArray, List.set_cons_zero, List.set_cons_succ]
          refine skipH (i := 9) (some 51) rfl (by kernel_rfl) (by kernel_rfl) (by kernel_rfl) (by kernel_rfl) (fun _ _ _ h => h) (by kernel_rfl) trivial ?_
          simp only [Act.put, List.setIfInBounds_toArray, List.set_cons_zero, List.set_cons_succ]
          refine skipH (i := 10) (some 52) rfl (by kernel_rfl) (by kernel_rfl) (by kernel_rfl) (by kernel_rfl) (fun _ _ _ h => h) (by kernel_rfl) trivial ?_
          simp only [Act.put, List.setIfInBounds_toArray, List.set_cons_zero, List.set_cons_succ]
          refine skipH (i := 11) (some 53) rfl (by kernel_rfl) (by kernel_rfl) (by kernel_rfl) (by kernel_rfl) (fun _ _ _ h => h) (by kernel_rfl) trivial ?_
          simp only [Act.put, List.setIfInBounds_toArray, List.set_cons_zero, List.set_cons_succ]
          refine skipH (i := 12) (some 54) rfl (by kernel_rfl) (by kernel_rfl) (by kernel_rfl) (by kernel_rfl) (fun _ _ _ h => h) (by kernel_rfl) trivial ?_
          simp only [Act.put, List.setIfInBounds_toArray, List.set_cons_zero, List.set_cons_succ]
          refine skipH (i := 13) (some 55) rfl (by kernel_rfl) (by kernel_rfl) (by kernel_rfl) (by kernel_rfl) (fun _ _ _ h => h) (by kernel_rfl) trivial ?_
          simp only [Act.put, List.setIfInBounds_toArray, List.set_cons_zero, List.set_cons_succ]
          refine skipH (i := 14) (some 56) rfl (by kernel_rfl) (by kernel_rfl) (by kernel_rfl) (by kernel_rfl) (fun _ _ _ h => h) (by kernel_rfl) trivial ?_
          simp only [Act.put, List.setIfInBounds_toArray, List.set_cons_zero, List.set_cons_succ]
          refine skipH (i := 15) (some 57) rfl (by kernel_rfl) (by kernel_rfl) (by kernel_rfl) (by kernel_rfl) (fun _ _ _ h => h) (by kernel_rfl) trivial ?_
          simp only [Act.put, List.setIfInBounds_toArray, List.set_cons_zero, List.set_cons_succ]
          refine skipH (i := 16) (some 58) rfl (by kernel_rfl) (by kernel_rfl) (by kernel_rfl) (by kernel_rfl) (fun _ _ _ h => h) (by kernel_rfl) trivial ?_
          simp only [Act.put, List.setIfInBounds_toArray, List.set_cons_zero, List.set_cons_succ]
          refine takeH (i := 17) (v := ?_) (some 59) rfl (by kernel_rfl) (by kernel_rfl) (by kernel_rfl) (by kernel_rfl) (fun _ _ _ h => h) (by kernel_rfl) ?_ trivial ?_
          rotate_left
          · intro w0 _
            go_simp
            try with_reducible rfl
          simp only [Act.put, List.setIfInBounds_toArray, List.set_cons_zero, List.set_cons_succ]
          refine takeH (i := 18) (v := ?_) (some 60) rfl (by kernel_rfl) (by kernel_rfl) (by kernel_rfl) (by kernel_rfl) (fun _ _ _ h => h) (by kernel_rfl) ?_ trivial ?_
          rotate_left
          · intro w0 _
            go_simp
            try with_reducible rfl
          simp only [Act.put, List.setIfInBounds_toArray, List.set_cons_zero, List.set_cons_succ]
          refine takeH (i := 19) (v := ?_) (some 2) rfl (by kernel_rfl) (by kernel_rfl) (by kernel_rfl) (by kernel_rfl) (fun _ _ _ h => h) (by kernel_rfl) ?_ trivial ?_
          rotate_left
          · intro w0 _
            go_simp
            try with_reducible rfl
          simp only [Act.put, List.setIfInBounds_toArray, List.set_cons_zero, List.set_cons_succ]
          refine wpAnyH_done (by kernel_rfl) ?_ _
          go_wp2
          go_ret
          exact ⟨rfl, HB7.out⟩
        · have hj2 : j = k2 / 2 := by
            have := pow_mem HP.out
            simp only [List.mem_cons, List.not_mem_nil, or_false] at this
            omega
          obtain ⟨g2, off2, rfl, hg2, _⟩ := HY5.out.at_ hk0
          have hcap2 := HY5.out.cap
          have hcs : (k2 = 2 ∧ j = 1) ∨ (k2 = 4 ∧ j = 2) ∨ (k2 = 8 ∧ j = 4) ∨ (k2 = 16 ∧ j = 8) := by
            have := pow_mem HP.out
            simp only [List.mem_cons, List.not_mem_nil, or_false] at this
            omega
          have hp2 : powB (j : Int) = true := by
            rcases hcs with ⟨_, rfl⟩ | ⟨_, rfl⟩ | ⟨_, rfl⟩ | ⟨_, rfl⟩ <;> decide
          have hev := evP_ok (j := j) HK.out (by rw [HL.out]; omega)
          have v8 : toL j (evP xs j) = (toM xs).take j := by
            have hsz : sizB j (evP xs j) = true := by rw [sizB_iff]; exact ⟨hp2, hev⟩
            unfold toL
            rw [hsz, if_pos rfl]
            have := toM_half HPL.out (by rw [HL.out]; omega)
            rw [HL.out, ← hj2] at this
            exact this.symm
          have V8 := Lib.hid v8
          have HT := Lib.hid (okB_take j HE.out)
          clear v8 hev hp2 hj2
          rcases hcs with ⟨rfl, rfl⟩ | ⟨rfl, rfl⟩ | ⟨rfl, rfl⟩ | ⟨rfl, rfl⟩
          · obtain rfl : c2 = 2 := HCN.out
            go_wp2
            go_region_held (fun _ => True) (first | trivial | go_keep) (first
              | (go_at_call_of 34 g2
                 refine (order_any _ (HY5.out.drewN 1) (by omega)).mono ?_
                 rintro e w6 ⟨A6, k6, c6, rfl, hk6, ho6, hb6, hq6⟩
                 have HO6 := Lib.hid ho6
                 have HB6 := Lib.hid hb6
                 clear ho6 hb6 hq6)
              | (go_at_call_of 13 A6
                 refine (sameSignal_any _ HO6.out.sg ((HS5.out.drewN 1).below HB6.out) (by rw [V6.out]; exact EqS.refl_ok HK.out) (by omega)).mono ?_
                 rintro e w7 ⟨rfl, m7, hw7⟩
                 have HW7 := Lib.hid (by rw [hw7]; exact ((HW.out.drewN 1).below HB6.out).drewN m7 : Own w7 w4.heap.size A' (1) c' (evP xs (1)))
                 have HY7 := Lib.hid (by rw [hw7]; exact ((HY5.out.drewN 1).below HB6.out).drewN m7 : Sg w7 (some ⟨g2, off2, none⟩) 2 2 (toM xs))
                 have HB7 := Lib.hid (by rw [hw7]; exact below_drewN' ((below_drewN' HB5.out 1).trans (HB6.out.mono HB5.out.size)) m7 : Below w.heap.size w w7)
                 clear hw7)
              | (go_at_call_of 34 A'
                 refine (order_any _ HW7.out.sg (by omega)).mono ?_
                 rintro e w8 ⟨A8, k8, c8, rfl, hk8, ho8, hb8, hq8⟩
                 have HO8 := Lib.hid ho8
                 have HB8 := Lib.hid hb8
                 clear ho8 hb8 hq8)
              | (go_at_call_of 13 A8
                 refine (sameSignal_any _ ((HY7.out.take (1) (by omega)).below HB8.out) HO8.out.sg (by rw [V8.out]; exact EqS.refl_ok HT.out) (by omega)).mono ?_
                 rintro e w9 ⟨rfl, m9, rfl⟩))
            all_goals go_wp2
            all_goals
              go_ret
              exact ⟨rfl, below_drewN' (HB7.out.trans (HB8.out.mono HB7.out.size)) _⟩
          · obtain rfl : c2 = 4 := HCN.out
            go_wp2
            go_region_held (fun _ => True) (first | trivial | go_keep) (first
              | (go_at_call_of 34 g2
                 refine (order_any _ (HY5.out.drewN 1) (by omega)).mono ?_
                 rintro e w6 ⟨A6, k6, c6, rfl, hk6, ho6, hb6, hq6⟩
                 have HO6 := Lib.hid ho6
                 have HB6 := Lib.hid hb6
                 clear ho6 hb6 hq6)
              | (go_at_call_of 13 A6
                 refine (sameSignal_any _ HO6.out.sg ((HS5.out.drewN 1).below HB6.out) (by rw [V6.out]; exact EqS.refl_ok HK.out) (by omega)).mono ?_
                 rintro e w7 ⟨rfl, m7, hw7⟩
                 have HW7 := Lib.hid (by rw [hw7]; exact ((HW.out.drewN 1).below HB6.out).drewN m7 : Own w7 w4.heap.size A' (2) c' (evP xs (2)))
                 have HY7 := Lib.hid (by rw [hw7]; exact ((HY5.out.drewN 1).below HB6.out).drewN m7 : Sg w7 (some ⟨g2, off2, none⟩) 4 4 (toM xs))
                 have HB7 := Lib.hid (by rw [hw7]; exact below_drewN' ((below_drewN' HB5.out 1).trans (HB6.out.mono HB5.out.size)) m7 : Below w.heap.size w w7)
                 clear hw7)
              | (go_at_call_of 34 A'
                 refine (order_any _ HW7.out.sg (by omega)).mono ?_
                 rintro e w8 ⟨A8, k8, c8, rfl, hk8, ho8, hb8, hq8⟩
                 have HO8 := Lib.hid ho8
                 have HB8 := Lib.hid hb8
                 clear ho8 hb8 hq8)
              | (go_at_call_of 13 A8
                 refine (sameSignal_any _ ((HY7.out.take (2) (by omega)).below HB8.out) HO8.out.sg (by rw [V8.out]; exact EqS.refl_ok HT.out) (by omega)).mono ?_
                 rintro e w9 ⟨rfl, m9, rfl⟩))
            all_goals go_wp2
            all_goals
              go_ret
              exact ⟨rfl, below_drewN' (HB7.out.trans (HB8.out.mono HB7.out.size)) _⟩
          · obtain rfl : c2 = 8 := HCN.out
            go_wp2
            go_region_held (fun _ => True) (first | trivial | go_keep) (first
              | (go_at_call_of 34 g2
                 refine (order_any _ (HY5.out.drewN 1) (by omega)).mono ?_
                 rintro e w6 ⟨A6, k6, c6, rfl, hk6, ho6, hb6, hq6⟩
                 have HO6 := Lib.hid ho6
                 have HB6 := Lib.hid hb6
                 clear ho6 hb6 hq6)
              | (go_at_call_of 13 A6
                 refine (sameSignal_any _ HO6.out.sg ((HS5.out.drewN 1).below HB6.out) (by rw [V6.out]; exact EqS.refl_ok HK.out) (by omega)).mono ?_
                 rintro e w7 ⟨rfl, m7, hw7⟩
                 have HW7 := Lib.hid (by rw [hw7]; exact ((HW.out.drewN 1).below HB6.out).drewN m7 : Own w7 w4.heap.size A' (4) c' (evP xs (4)))
                 have HY7 := Lib.hid (by rw [hw7]; exact ((HY5.out.drewN 1).below HB6.out).drewN m7 : Sg w7 (some ⟨g2, off2, none⟩) 8 8 (toM xs))
                 have HB7 := Lib.hid (by rw [hw7]; exact below_drewN' ((below_drewN' HB5.out 1).trans (HB6.out.mono HB5.out.size)) m7 : Below w.heap.size w w7)
                 clear hw7)
              | (go_at_call_of 34 A'
                 refine (order_any _ HW7.out.sg (by omega)).mono ?_
                 rintro e w8 ⟨A8, k8, c8, rfl, hk8, ho8, hb8, hq8⟩
                 have HO8 := Lib.hid ho8
                 have HB8 := Lib.hid hb8
                 clear ho8 hb8 hq8)
              | (go_at_call_of 13 A8
                 refine (sameSignal_any _ ((HY7.out.take (4) (by omega)).below HB8.out) HO8.out.sg (by rw [V8.out]; exact EqS.refl_ok HT.out) (by omega)).mono ?_
                 rintro e w9 ⟨rfl, m9, rfl⟩))
            all_goals go_wp2
            all_goals
              go_ret
              exact ⟨rfl, below_drewN' (HB7.out.trans (HB8.out.mono HB7.out.size)) _⟩
          · obtain rfl : c2 = 16 := HCN.out
            go_wp2
            go_region_held (fun _ => True) (first | trivial | go_keep) (first
              | (go_at_call_of 34 g2
                 refine (order_any _ (HY5.out.drewN 1) (by omega)).mono ?_
                 rintro e w6 ⟨A6, k6, c6, rfl, hk6, ho6, hb6, hq6⟩
                 have HO6 := Lib.hid ho6
                 have HB6 := Lib.hid hb6
                 clear ho6 hb6 hq6)
              | (go_at_call_of 13 A6
                 refine (sameSignal_any _ HO6.out.sg ((HS5.out.drewN 1).below HB6.out) (by rw [V6.out]; exact EqS.refl_ok HK.out) (by omega)).mono ?_
                 rintro e w7 ⟨rfl, m7, hw7⟩
                 have HW7 := Lib.hid (by rw [hw7]; exact ((HW.out.drewN 1).below HB6.out).drewN m7 : Own w7 w4.heap.size A' (8) c' (evP xs (8)))
                 have HY7 := Lib.hid (by rw [hw7]; exact ((HY5.out.drewN 1).below HB6.out).drewN m7 : Sg w7 (some ⟨g2, off2, none⟩) 16 16 (toM xs))
                 have HB7 := Lib.hid (by rw [hw7]; exact below_drewN' ((below_drewN' HB5.out 1).trans (HB6.out.mono HB5.out.size)) m7 : Below w.heap.size w w7)
                 clear hw7)
              | (go_at_call_of 34 A'
                 refine (order_any _ HW7.out.sg (by omega)).mono ?_
                 rintro e w8 ⟨A8, k8, c8, rfl, hk8, ho8, hb8, hq8⟩
                 have HO8 := Lib.hid ho8
                 have HB8 := Lib.hid hb8
                 clear ho8 hb8 hq8)
              | (go_at_call_of 13 A8
                 refine (sameSignal_any _ ((HY7.out.take (8) (by omega)).below HB8.out) HO8.out.sg (by rw [V8.out]; exact EqS.refl_ok HT.out) (by omega)).mono ?_
                 rintro e w9 ⟨rfl, m9, rfl⟩))
            all_goals go_wp2
            all_goals
              go_ret
              exact ⟨rfl, below_drewN' (HB7.out.trans (HB8.out.mono HB7.out.size)) _⟩
end Go.Proofs.Ytpiokngbldehmaa
