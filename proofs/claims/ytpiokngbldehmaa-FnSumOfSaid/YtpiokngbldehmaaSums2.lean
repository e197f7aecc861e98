/- SumOf, the reference's, of any two signals in memory. -/
import Derived.Test.YtpiokngbldehmaaSums
namespace Go.Proofs.Ytpiokngbldehmaa
open Go.RowKit Go.FR Go.FV

set_option maxHeartbeats 400000 in
theorem told_yes {A : Option Addr} {n c : Nat} {xs : List (Nat × Nat)} (w : World) (h : Sg w A n c xs) (hm : n ≤ 1048576) (ha : allB xs = true) :
    Calls Try.prog 39 #[.slice A n c] w fun e w' => e = .returned (.tuple #[.slice A n c, .bool true]) ∧ ∃ m, w' = w.drewN m := by
  have HS := Lib.hid h
  have HA := Lib.hid ha
  clear h ha
  go_enter Try.func39, Try.ntmps39
  go_wp2_with (go_at_call 49; refine (sall_any _ HS.out hm).mono ?_; rintro e w' ⟨rfl, m2, rfl⟩; rw [HA.out])
  go_ret2
  exact ⟨rfl, _, rfl⟩
set_option maxHeartbeats 400000 in
theorem told_no {A : Option Addr} {n c : Nat} {xs : List (Nat × Nat)} (w : World) (h : Sg w A n c xs) (hm : n ≤ 1048576) (ha : allB xs = false) :
    Calls Try.prog 39 #[.slice A n c] w fun e w' => ∃ A' c', e = .returned (.tuple #[.slice A' 0 c', .bool false]) ∧ Own w' w.heap.size A' 0 c' [] ∧ Below w.heap.size w w' := by
  have HS := Lib.hid h
  have HA := Lib.hid ha
  clear h ha
  go_enter Try.func39, Try.ntmps39
  go_wp2_with (go_at_call 49; refine (sall_any _ HS.out hm).mono ?_; rintro e w' ⟨rfl, m2, rfl⟩; rw [HA.out])
  go_ret2
  exact ⟨_, _, rfl, Own.of_blk (Blk.new _ _ _) (Nat.le_refl _) rfl (Nat.zero_le _), (below_drewN' (Below.refl _ _) _).alloc (Nat.le_refl _) _⟩

set_option maxHeartbeats 3200000 in
theorem ssum_any {A A2 : Option Addr} {n c n2 c2 : Nat} {xs ys : List (Nat × Nat)} (w : World) (h : Sg w A n c xs) (h2 : Sg w A2 n2 c2 ys) (hm : n ≤ 1048576) (hm2 : n2 ≤ 1048576) :
    Calls Try.prog 12 #[.slice A n c, .slice A2 n2 c2] w fun e w' => ∃ A' n' c', e = .returned (.tuple #[.slice A' n' c', .bool (suB xs ys)]) ∧ n' ≤ 16 ∧ Own w' w.heap.size A' n' c' (suL xs ys) ∧ Below w.heap.size w w' := by
  have hl := h.len
  have hl2 := h2.len
  have HS := Lib.hid h
  have HS2 := Lib.hid h2
  cases hok : okB xs
  · have hb : suB xs ys = false := by unfold suB; rw [hok]; rfl
    have hv : suL xs ys = [] := by unfold suL; rw [hb]; rfl
    have HO := Lib.hid hok
    have HB := Lib.hid hb
    rw [hv]
    clear h h2 hok hv hb
    go_enter Try.func12, Try.ntmps12
    go_wp2_with (go_at_call 29; refine (sok_any _ HS.out hm).mono ?_; rintro e w' ⟨rfl, m2, rfl⟩; rw [HO.out])
    go_ret2
    exact ⟨_, 0, 0, by rw [HB.out]; rfl, by omega, Own.of_blk (Blk.new _ _ _) (Nat.le_refl _) rfl (Nat.zero_le _), (below_drewN' (Below.refl _ _) _).alloc (Nat.le_refl _) _⟩
  cases hok2 : okB ys
  · have hb : suB xs ys = false := by unfold suB; rw [hok2, Bool.false_and, Bool.and_false]
    have hv : suL xs ys = [] := by unfold suL; rw [hb]; rfl
    have HO := Lib.hid hok
    have HO2 := Lib.hid hok2
    have HB := Lib.hid hb
    rw [hv]
    clear h h2 hok hok2 hv hb
    go_enter Try.func12, Try.ntmps12
    go_wp2_with fail
    refine (sok_any _ HS.out hm).mono ?_
    rintro e w' ⟨rfl, m2, rfl⟩
    rw [HO.out]
    go_wp2_with fail
    refine (sok_any _ (HS2.out.drewN _) hm2).mono ?_
    rintro e w' ⟨rfl, m3, rfl⟩
    rw [HO2.out]
    go_wp2
    go_ret2
    exact ⟨_, 0, 0, by rw [HB.out]; rfl, by omega, Own.of_blk (Blk.new _ _ _) (Nat.le_refl _) rfl (Nat.zero_le _), (below_drewN' (Below.refl _ _) _).alloc (Nat.le_refl _) _⟩
  by_cases hne : n = n2
  · subst hne
    obtain ⟨hle, hf⟩ := okB_iff.1 hok
    obtain ⟨hle2, hf2⟩ := okB_iff.1 hok2
    have HO := Lib.hid hok
    have HO2 := Lib.hid hok2
    have HF := Lib.hid hf
    have HF2 := Lib.hid hf2
    obtain ⟨i0, hi0, hz0, hz1, hz2⟩ := info_parts info_c
    have heq : ((n : Int) == (n : Int)) = true := by simp
    have hbb : suB xs ys = allB (suM xs ys) := by unfold suB; rw [hok, hok2, decide_eq_true (by omega)]; rfl
    have HBB := Lib.hid hbb
    clear hbb
    by_cases h0 : n = 0
    · subst h0
      have e1 : xs = [] := h.nil
      have e2 : ys = [] := h2.nil
      subst e1; subst e2
      clear h h2 hok hok2 hf hf2
      go_enter Try.func12, Try.ntmps12
      go_wp2_with fail
      refine (sok_any _ HS.out hm).mono ?_
      rintro e w' ⟨rfl, m2, rfl⟩
      rw [HO.out]
      go_wp2_with fail
      refine (sok_any _ (HS2.out.drewN _) hm2).mono ?_
      rintro e w' ⟨rfl, m3, rfl⟩
      rw [HO2.out]
      go_wp2
      refine wp_loop_rounds 1 ?_
      rw [rounds_succ]
      go_wp2_with fail
      refine (told_yes (xs := []) _ (Sg.empty _ _ _) (by omega) rfl).mono ?_
      rintro e w' ⟨rfl, m4, rfl⟩
      go_wp2
      go_ret2
      exact ⟨_, 0, 0, rfl, by omega, Own.of_blk (Blk.new _ _ _) (Nat.le_refl _) rfl (Nat.zero_le _), below_drewN' ((below_drewN' (Below.refl _ _) _).alloc (Nat.le_refl _) _) _⟩
    · obtain ⟨g, off, rfl, hg, hc⟩ := h.at_ (by omega)
      obtain ⟨g2, off2, rfl, hg2, hc2⟩ := h2.at_ (by omega)
      have HC := Lib.hid hc
      have HC2 := Lib.hid hc2
      clear h h2 hc hc2 hok hok2 hf hf2
      go_enter Try.func12, Try.ntmps12
      go_wp2_with fail
      refine (sok_any _ HS.out hm).mono ?_
      rintro e w' ⟨rfl, m2, rfl⟩
      rw [HO.out]
      go_wp2_with fail
      refine (sok_any _ (HS2.out.drewN _) hm2).mono ?_
      rintro e w' ⟨rfl, m3, rfl⟩
      rw [HO2.out]
      go_wp2
      have hO0 : ∀ mm, Own ((w.drewN mm).alloc (.cells #[] 33)) w.heap.size (some ⟨w.heap.size, 0, none⟩) 0 0 [] := fun mm => Own.of_blk (Blk.new (w.drewN mm) _ _) (Nat.le_refl _) rfl (Nat.zero_le _)
      have hB0 : ∀ mm, Below w.heap.size w ((w.drewN mm).alloc (.cells #[] 33)) := fun mm => (below_drewN' (Below.refl _ _) mm).alloc (Nat.le_refl _) _
      have HO0 := Lib.hid hO0
      have HB0 := Lib.hid hB0
      clear hO0 hB0
      go_loopw [6, 7] (fun sv i wr => ∃ (k : Nat) (A' : Option Addr) (c' : Nat), k ≤ n ∧ i = .int .i64 k ∧ sv = .slice A' k c' ∧ Own wr w.heap.size A' k c' (suM (xs.take k) (ys.take k)) ∧ Below w.heap.size w wr) (fun _ i _ => n - (intOf i).toNat)
      case atStart => exact ⟨0, _, 0, by omega, rfl, rfl, HO0.out _, HB0.out _⟩
      case round =>
        obtain ⟨k, A', c', hk, rfl, rfl, hown, hbel⟩ := hrel
        have hsz := hbel.size
        by_cases hlt : k < n
        · have hx : k < xs.length := by omega
          have hy : k < ys.length := by omega
          have c1 : wr.cell? ⟨g, off + k, none⟩ = some (cx xs[k]) := by rw [hbel.cell (p := ⟨g, off + k, none⟩) hg]; exact HC.out k hx
          have c2 : wr.cell? ⟨g2, off2 + k, none⟩ = some (cx ys[k]) := by rw [hbel.cell (p := ⟨g2, off2 + k, none⟩) hg2]; exact HC2.out k hy
          have hnext : suM (xs.take (k + 1)) (ys.take (k + 1)) = suM (xs.take k) (ys.take k) ++ [adW xs[k] ys[k]] := by
            unfold suM
            rw [List.take_succ_eq_append_getElem hx, List.take_succ_eq_append_getElem hy, List.zipWith_append (by simp; omega)]; rfl
          have f1 := HF.out _ (List.getElem_mem hx)
          have f2 := HF2.out _ (List.getElem_mem hy)
          have eadd := fun w => run_adW (P := Try.prog) w 33 f1 f2
          have hown5 : wr.ownsRow w.heap.size 33 1 (.slice A' k c') k ((suM (xs.take k) (ys.take k)).map cx) := hown
          have hfar : (Value.slice A' k c').ownBlock ≠ some g := fun e => by
            have := (World.ownsRow.lt hown5 g e).1
            omega
          have hfar2 : (Value.slice A' k c').ownBlock ≠ some g2 := fun e => by
            have := (World.ownsRow.lt hown5 g2 e).1
            omega
          have hg5 : g < wr.heap.size := by omega
          have hg6 : g2 < wr.heap.size := by omega
          have HX := Lib.hid hnext
          have HB := Lib.hid hbel
          clear hnext hown hbel HC HC2 HS HS2 HB0 HO0 HO HO2 HF HF2 HBB f1 f2
          generalize adW xs[k] ys[k] = r at *
          generalize xs[k] = p at *
          generalize ys[k] = q at *
          obtain ⟨p1, p2⟩ := p
          obtain ⟨q1, q2⟩ := q
          obtain ⟨r1, r2⟩ := r
          unfold cx at c1 c2
          simp only at c1 c2 eadd
          go_wp2
          go_region_held3 (fun w' => w'.cell? ⟨g, off + k, none⟩ = some (.complex .f32 p1 p2) ∧ w'.cell? ⟨g2, off2 + k, none⟩ = some (.complex .f32 q1 q2))
            (first
              | go_keep
              | (go_split_ands
                 refine ⟨?_, ?_⟩
                 · (rw [hgrow.cell_far _ (by simp; omega) (Ne.symm hfar)]; assumption)
                 · (rw [hgrow.cell_far _ (by simp; omega) (Ne.symm hfar2)]; assumption)))
            ((refine step_append_lies _ (by rfl) _ _ _ (by rfl) w.heap.size 33 i0 _ 1 8 Try.underlying23 hi0 hz0 hz1 hz2 rfl (by omega) (.slice A' k c') k ((suM (xs.take k) (ys.take k)).map cx) (by rfl) ((hown5.alloc _).drew)
                ⟨wr.heap.size, 0, none⟩ 1 1 [cx (r1, r2)] (by rfl) (by rfl) (World.news_of_block (cs := #[cx (r1, r2)]) (t := 33) (fr := (0, 0)) (heap_alloc_new wr _)) (by simp [cx, Value.oneCell'])
                (by omega) (by unfold maxLen; omega) (by omega) (by simp; omega) (wr.heap.size + 1) (by simp) ?_; intro gg cap w9 hown9 hgrow hat hlt9))
          all_goals go_wp2
          all_goals exact ⟨⟨k + 1, _, cap, by omega, by go_num, rfl, by rw [HX.out]; unfold Own; rw [List.map_append]; exact hown9, below_grow HB.out hown5 hgrow⟩, by simp [intOf]; omega⟩
        · have hkn : k = n := by omega
          subst hkn
          have t1 : xs.take k = xs := List.take_of_length_le (by omega)
          have t2 : ys.take k = ys := List.take_of_length_le (by omega)
          rw [t1, t2] at hown
          have HW := Lib.hid hown
          have HB := Lib.hid hbel
          clear hown hbel t1 t2 HC HC2 HB0 HO0
          cases hall : allB (suM xs ys)
          · have hb : suB xs ys = false := by rw [HBB.out, hall]
            have hv : suL xs ys = [] := by unfold suL; rw [hb]; rfl
            have HBF := Lib.hid hb
            have HV := Lib.hid hv
            have HA := Lib.hid hall
            clear hb hv hall
            go_wp2_with fail
            refine (told_no _ HW.out.sg (by omega) HA.out).mono ?_
            rintro e w' ⟨A9, c9, rfl, ho9, hb9⟩
            have HO9 := Lib.hid ho9
            have HB9 := Lib.hid hb9
            clear ho9 hb9
            go_wp2
            go_ret2
            exact ⟨A9, 0, c9, by rw [HBF.out]; rfl, by omega, by rw [HV.out]; exact HO9.out.mono hsz, HB.out.trans (HB9.out.mono hsz)⟩
          · have hb : suB xs ys = true := by rw [HBB.out, hall]
            have hv : suL xs ys = suM xs ys := by unfold suL; rw [hb]; rfl
            have HBF := Lib.hid hb
            have HV := Lib.hid hv
            have HA := Lib.hid hall
            clear hb hv hall
            go_wp2_with fail
            refine (told_yes _ HW.out.sg (by omega) HA.out).mono ?_
            rintro e w' ⟨rfl, m9, rfl⟩
            go_wp2
            go_ret2
            exact ⟨A', k, c', by rw [HBF.out]; rfl, by omega, by rw [HV.out]; exact HW.out.drewN _, below_drewN' HB.out _⟩
  · have hb : suB xs ys = false := by unfold suB; rw [decide_eq_false (by omega), Bool.false_and, Bool.and_false, Bool.and_false]
    have hv : suL xs ys = [] := by unfold suL; rw [hb]; rfl
    have heq : ((n : Int) == (n2 : Int)) = false := by simp; omega
    have HO := Lib.hid hok
    have HO2 := Lib.hid hok2
    have HB := Lib.hid hb
    rw [hv]
    clear h h2 hok hok2 hv hb
    go_enter Try.func12, Try.ntmps12
    go_wp2_with fail
    refine (sok_any _ HS.out hm).mono ?_
    rintro e w' ⟨rfl, m2, rfl⟩
    rw [HO.out]
    go_wp2_with fail
    refine (sok_any _ (HS2.out.drewN _) hm2).mono ?_
    rintro e w' ⟨rfl, m3, rfl⟩
    rw [HO2.out]
    go_wp2
    go_ret2
    exact ⟨_, 0, 0, by rw [HB.out]; rfl, by omega, Own.of_blk (Blk.new _ _ _) (Nat.le_refl _) rfl (Nat.zero_le _), (below_drewN' (Below.refl _ _) _).alloc (Nat.le_refl _) _⟩
end Go.Proofs.Ytpiokngbldehmaa
