/- TimesOf of the program, where every product is finite. -/
import Derived.Test.YtapncffjfaddgaaZp
import Derived.Test.YtapncffjfaddgaaFill
namespace Go.Proofs.Ytapncffjfaddgaa
open Go.RowKit Go.FR Go.FV

set_option maxHeartbeats 3200000 in
theorem times_any {A : Option Addr} {n c : Nat} {xs : List (Nat × Nat)} (z1 z2 : Nat) (w : World) (h : Sg w A n c xs) (hm : n ≤ 1048576) (hok : okB xs = true) (hz : (finB z1 && finB z2) = true) (hp : ∀ p ∈ xs, MulOk p (z1, z2)) :
    Calls Try.prog 20 #[.slice A n c, .complex .f32 z1 z2] w fun e w' => ∃ A' c', e = .returned (.tuple #[.slice A' n c', .bool true]) ∧ Own w' w.heap.size A' n c' (xs.map fun p => mlW p (z1, z2)) ∧ Below w.heap.size w w' := by
  have hl := h.len
  have HS := Lib.hid h
  obtain ⟨hle, _⟩ := okB_iff.1 hok
  have HO := Lib.hid hok
  have HZ := Lib.hid hz
  have HP := Lib.hid hp
  obtain ⟨i0, hi0, hz0, hz1, hz2⟩ := info_parts info_c
  clear hok hp hz
  by_cases h0 : n = 0
  · subst h0
    have : xs = [] := h.nil
    subst this
    clear h
    go_enter Try.func20, Try.ntmps20
    go_wp2_with fail
    refine (ok_any _ HS.out hm).mono ?_
    rintro e w' ⟨rfl, m2, rfl⟩
    rw [HO.out]
    go_wp2_with fail
    refine (finite_any _ _ _).mono ?_
    rintro e w' ⟨rfl, m3, rfl⟩
    rw [HZ.out]
    go_wp2_with (at_make; refine wpList_make_full _ rfl _ _ 23 rfl _ 26 i0 (.complex .f32 0 0) 1 Try.underlying23 hi0 hz0 hz1 .i64 .i64 _ _ 0 rfl rfl rfl rfl (by rw [hz2]; omega) (by unfold maxLen; omega) (Nat.le_refl _) ?_; intro w9 hown9 hgr9; obtain ⟨ho9, hb9⟩ := Own.made hown9 hgr9; have HO9 := Lib.hid ho9; have HB9 := Lib.hid (below_drewN_left hb9); clear hown9 hgr9 ho9 hb9)
    refine wp_loop_rounds 1 ?_
    rw [rounds_succ]
    go_wp2
    go_ret2
    exact ⟨_, 0, rfl, HO9.out, HB9.out⟩
  · obtain ⟨g, off, rfl, hg, hc⟩ := h.at_ (by omega)
    have HC := Lib.hid hc
    clear h hc
    go_enter Try.func20, Try.ntmps20
    go_wp2_with fail
    refine (ok_any _ HS.out hm).mono ?_
    rintro e w' ⟨rfl, m2, rfl⟩
    rw [HO.out]
    go_wp2_with fail
    refine (finite_any _ _ _).mono ?_
    rintro e w' ⟨rfl, m3, rfl⟩
    rw [HZ.out]
    go_wp2_with (at_make; refine wpList_make_full _ rfl _ _ 23 rfl _ 26 i0 (.complex .f32 0 0) 1 Try.underlying23 hi0 hz0 hz1 .i64 .i64 _ _ n rfl rfl rfl rfl (by rw [hz2]; omega) (by unfold maxLen; omega) (Nat.le_refl _) ?_; intro w9 hown9 hgr9; obtain ⟨ho9, hb9⟩ := Own.made hown9 hgr9; have HO9 := Lib.hid ho9; have HB9 := Lib.hid (below_drewN_left hb9); clear hown9 hgr9 ho9 hb9)
    go_loopw [22] (fun i wr => ∃ k : Nat, k ≤ n ∧ i = .int .i64 k ∧ Below w.heap.size w wr ∧ ∃ zs, Own wr w.heap.size (some ⟨w.heap.size, 0, none⟩) n n zs ∧ ∀ j (hj : j < xs.length), j < k → zs[j]? = some (mlW xs[j] (z1, z2))) (fun i _ => n - (intOf i).toNat)
    case atStart => exact ⟨0, by omega, rfl, HB9.out, _, HO9.out, fun j hj h => by omega⟩
    case round =>
      obtain ⟨k, hk, rfl, hbel, zs, ho, hzs⟩ := hrel
      by_cases hlt : k < n
      · have hx : k < xs.length := by omega
        have hlz := ho.len
        have c1 : wr.cell? ⟨g, off + k, none⟩ = some (cx xs[k]) := by rw [hbel.cell (p := ⟨g, off + k, none⟩) hg]; exact HC.out k hx
        have c3 := ho.cell_at k (by omega)
        have hfr := ho.free k
        have hmo := HP.out _ (List.getElem_mem hx)
        have hfin : (finB (mlW xs[k] (z1, z2)).1 && finB (mlW xs[k] (z1, z2)).2) = true := by rw [hmo.2.1, hmo.2.2]; rfl
        have ho' := ho.set_ k (mlW xs[k] (z1, z2))
        have hb' : Below w.heap.size w (wr.setCell ⟨w.heap.size, k, none⟩ (cx (mlW xs[k] (z1, z2)))) := hbel.setCell (p := ⟨w.heap.size, k, none⟩) (Nat.le_refl _) _
        have emul := fun w => hmo.run (P := Try.prog) w 26
        have HO' := Lib.hid ho'
        have HB' := Lib.hid hb'
        generalize zs[k] = old at c3
        have c4 : (wr.setCell ⟨w.heap.size, k, none⟩ (cx (mlW xs[k] (z1, z2)))).cell? ⟨w.heap.size, k, none⟩ = some (cx (mlW xs[k] (z1, z2))) := by
          have := HO'.out.cell_at k (by simp; omega)
          rw [this]; simp
        have hzs' : ∀ j (hj : j < xs.length), j < k + 1 → (zs.set k (mlW xs[k] (z1, z2)))[j]? = some (mlW xs[j] (z1, z2)) := by
          intro j hj hjk
          by_cases e : j = k
          · subst e; rw [List.getElem?_set_self (by omega)]
          · rw [List.getElem?_set_ne (by omega)]; exact hzs j hj (by omega)
        have HZ' := Lib.hid hzs'
        clear ho hzs hbel ho' hb' HC HB9 HO9 HS HO HP HZ hzs' hmo
        generalize mlW xs[k] (z1, z2) = r at *
        generalize xs[k] = p at *
        obtain ⟨p1, p2⟩ := p
        obtain ⟨r1, r2⟩ := r
        obtain ⟨o1, o2⟩ := old
        unfold cx at c1 c3 c4 HO' HB'
        simp only at c1 c3 c4 HO' HB' emul hfin
        go_wp2_with (go_at_call 14; refine (finite_any _ _ _).mono ?_; rintro e w' ⟨rfl, m4, rfl⟩; rw [hfin])
        go_roundw
        case rel => exact ⟨k + 1, by omega, by go_num, below_drewN' HB'.out _, _, HO'.out, HZ'.out⟩
        case measure => simp [intOf]; omega
      · have hkn : k = n := by omega
        subst hkn
        have hm3 := filled (f := fun p => mlW p (z1, z2)) (by rw [ho.len, hl]) (fun i hi => hzs i hi (by omega))
        have HO' := Lib.hid ho
        have HB' := Lib.hid hbel
        have HM := Lib.hid hm3
        clear ho hbel hm3 hzs HC HB9 HO9
        go_wp2
        go_ret2
        exact ⟨_, k, rfl, by rw [← HM.out]; exact HO'.out, HB'.out⟩
end Go.Proofs.Ytapncffjfaddgaa
