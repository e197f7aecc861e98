/- BackOf, the reference's. -/
import Derived.Test.YtapncffjfaddgaaBack
namespace Go.Proofs.Ytapncffjfaddgaa
open Go.RowKit Go.FR Go.FV

theorem bkL_take (n : Nat) (xs : List (Nat × Nat)) (k : Nat) : (List.range (k + 1)).map (fun k => bkW n xs k) = (List.range k).map (fun k => bkW n xs k) ++ [bkW n xs k] := by
  rw [List.range_succ, List.map_append]; rfl

set_option maxHeartbeats 1600000 in
theorem sback_any {A : Option Addr} {n c : Nat} {xs : List (Nat × Nat)} (w : World) (h : Sg w A n c xs) (hm : n ≤ 1048576) (hok : BkOk n xs) :
    Calls Try.prog 17 #[.slice A n c] w fun e w' => ∃ A' n' c', e = .returned (.tuple #[.slice A' n' c', .bool (sizB n xs)]) ∧ n' ≤ 16 ∧ Own w' w.heap.size A' n' c' (bkF n xs) ∧ Below w.heap.size w w' := by
  have hl := h.len
  have hO0 : Own (w.alloc (.cells #[] 26)) w.heap.size (some ⟨w.heap.size, 0, none⟩) 0 0 [] := Own.of_blk (Blk.new _ _ _) (Nat.le_refl _) rfl (Nat.zero_le _)
  have hB0 : Below w.heap.size w (w.alloc (.cells #[] 26)) := (Below.refl _ _).alloc (Nat.le_refl _) _
  have HS := Lib.hid (h.below hB0)
  have HO0 := Lib.hid hO0
  have HB0 := Lib.hid hB0
  clear hO0 hB0
  cases hsz : sizB n xs
  · have hv : bkF n xs = [] := by unfold bkF; rw [hsz]; rfl
    have HO := Lib.hid hsz
    rw [hv]
    clear h hsz hv hok
    go_enter Try.func17, Try.ntmps17
    go_wp2_with (go_at_call 29; refine (ssiz_any _ HS.out hm).mono ?_; rintro e w' ⟨rfl, m2, rfl⟩; rw [HO.out])
    go_ret2
    exact ⟨_, 0, 0, rfl, by omega, HO0.out.drewN _, below_drewN' HB0.out _⟩
  · have hv : bkF n xs = bkL n xs := by unfold bkF; rw [hsz]; rfl
    obtain ⟨hp, hk⟩ := sizB_iff.1 hsz
    obtain ⟨hle, _⟩ := okB_iff.1 hk
    have hn0 : 0 < n := by have := powB_cases hp; omega
    have HO := Lib.hid hsz
    have HV := Lib.hid hv
    have HT := Lib.hid (hok hsz)
    have HM := Lib.hid (pow_mem' hp)
    obtain ⟨i0, hi0, hz0, hz1, hz2⟩ := info_parts info_c
    obtain ⟨st, hst, hst1⟩ : ∃ st : Nat, st = 16 / n ∧ st ≤ 16 := ⟨16 / n, rfl, Nat.div_le_self _ _⟩
    have hdiv : (16 : Int).tdiv (n : Int) = (st : Int) := by rw [hst, Int.tdiv_eq_ediv_of_nonneg (by omega)]; rfl
    have hdiv2 : (16 : Int) / (n : Int) = (st : Int) := by rw [hst]; rfl
    have hnz : ¬ ((n : Int) = 0) := by omega
    have HS2 := Lib.hid h
    clear hk hv hsz hp hok h
    go_enter Try.func17, Try.ntmps17
    go_wp2_with fail
    refine (ssiz_any _ HS.out hm).mono ?_
    rintro e w2 ⟨rfl, m2, hw2⟩
    rw [HO.out]
    have HO2 := Lib.hid (by rw [hw2]; exact HO0.out.drewN m2 : Own w2 w.heap.size (some ⟨w.heap.size, 0, none⟩) 0 0 [])
    have HB2 := Lib.hid (by rw [hw2]; exact below_drewN' HB0.out m2 : Below w.heap.size w w2)
    have hsz2 := HB2.out.size
    clear hw2 HS HO0 HB0
    go_wp2
    go_loopw [4, 6] (fun sv i wr => ∃ (k : Nat) (A' : Option Addr) (c' : Nat), k ≤ n ∧ i = .int .i64 k ∧ sv = .slice A' k c' ∧ Own wr w.heap.size A' k c' ((List.range k).map fun k => bkW n xs k) ∧ Below w.heap.size w wr) (fun _ i _ => n - (intOf i).toNat)
    case atStart => exact ⟨0, _, 0, by omega, rfl, rfl, HO2.out, HB2.out⟩
    case round =>
      obtain ⟨k, A', c', hk, rfl, rfl, hown, hbel⟩ := hrel
      by_cases hlt : k < n
      · obtain ⟨ht, hqo⟩ := HT.out k hlt
        have hbb := bkB_bound n k (by omega) hlt
        have equo := fun w => run_quW (P := Try.prog) w 26 HM.out hqo
        have hfq : (finB (bkW n xs k).1 && finB (bkW n xs k).2) = true := by unfold bkW; rw [hqo.2.1, hqo.2.2]; rfl
        have hs : Sg wr A n c xs := HS2.out.below hbel
        have hbe : (k : Int) * (st : Int) = bkB n k := by unfold bkB; rw [← hst, Int.mul_comm]
        obtain ⟨b, hbd⟩ : ∃ b, bkB n k = b := ⟨_, rfl⟩
        have hwx : bkW n xs k = quW (tsW b xs n) n := by unfold bkW; rw [hbd]
        rw [hbd] at hbe hbb ht equo
        rw [← hwx] at equo
        have hts : ∀ w', Below wr.heap.size wr w' → Below w.heap.size w w' ∧ Own w' w.heap.size A' k c' ((List.range k).map fun k => bkW n xs k) := fun w' hb => ⟨hbel.trans (hb.mono hbel.size), hown.below hb⟩
        have HTS := Lib.hid hts
        have HSS := Lib.hid hs
        have HTT := Lib.hid ht
        have HX := Lib.hid (bkL_take n xs k)
        clear hbd hst
        clear hts hs ht hqo hwx HT HV HO HB2 HO2 HS2 hown hbel
        go_wp2_with fail
        refine (l2sum_any b _ HSS.out (by omega) (by omega) hbb HTT.out).mono ?_
        rintro e w5 ⟨rfl, hb5⟩
        obtain ⟨hb7, ho6⟩ := HTS.out w5 hb5
        have HO6 := Lib.hid ho6
        have HB7 := Lib.hid hb7
        have hs7 := hb7.size
        clear ho6 hb7 hb5 HTT HSS HTS
        generalize bkW n xs k = v at *
        generalize tsW b xs n = r at *
        obtain ⟨r1, r2⟩ := r
        obtain ⟨v1, v2⟩ := v
        unfold cx
        simp only at equo hfq ⊢
        go_wp2_with fail
        refine (sfinite_any v1 v2 _).mono ?_
        rintro e w' ⟨rfl, m7, rfl⟩
        rw [hfq]
        go_wp2_with (at_builtin; refine wpList_append_one rfl _ _ 23 rfl w.heap.size 26 i0 (.complex .f32 0 0) 8 Try.underlying23 hi0 hz0 hz1 hz2 rfl A' k c' (((List.range k).map fun k => bkW n xs k).map cx) (cx (v1, v2)) rfl (HO6.out.drewN _) rfl rfl (by omega) (by omega) hs7 ?_; intro A'' c'' w9 hown3 hb3 hg3)
        go_roundw
        case rel => exact ⟨k + 1, A'', c'', by omega, by go_num, rfl, by rw [HX.out]; unfold Own; rw [List.map_append]; exact hown3, HB7.out.trans (below_drewN_left hb3)⟩
        case measure => simp [intOf]; omega
      · have hkn : k = n := by omega
        subst hkn
        have HO' := Lib.hid hown
        have HB' := Lib.hid hbel
        clear hown hbel HT
        go_wp2
        go_ret2
        exact ⟨_, k, c', rfl, by omega, by rw [HV.out]; exact HO'.out, HB'.out⟩
end Go.Proofs.Ytapncffjfaddgaa
