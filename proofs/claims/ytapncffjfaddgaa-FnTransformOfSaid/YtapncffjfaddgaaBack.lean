/- BackOf, the program's and the reference's, of any signal whose products, sums and quotients are all finite. -/
import Derived.Test.YtapncffjfaddgaaTrans2
import Derived.Test.YtapncffjfaddgaaQuo
namespace Go.Proofs.Ytapncffjfaddgaa
open Go.RowKit Go.FR Go.FV

def bkB (n k : Nat) : Int := ((16 / n : Nat) : Int) * (k : Int)
def bkW (n : Nat) (xs : List (Nat × Nat)) (k : Nat) : Nat × Nat := quW (tsW (bkB n k) xs n) n
def bkL (n : Nat) (xs : List (Nat × Nat)) : List (Nat × Nat) := (List.range n).map fun k => bkW n xs k
def bkF (n : Nat) (xs : List (Nat × Nat)) : List (Nat × Nat) := if sizB n xs = true then bkL n xs else []
/-- The quotient runs, and is finite. -/
def QuOk (p : Nat × Nat) (N : Nat) : Prop := quoC p.1 p.2 (ptW N) 0 = some ((quW p N).1, (quW p N).2) ∧ FinP (quW p N)
def BkOk (n : Nat) (xs : List (Nat × Nat)) : Prop := sizB n xs = true → ∀ k, k < n → TsOk (bkB n k) xs ∧ QuOk (tsW (bkB n k) xs n) n
theorem bkL_len (n : Nat) (xs : List (Nat × Nat)) : (bkL n xs).length = n := by simp [bkL]
theorem bkL_at (n : Nat) (xs : List (Nat × Nat)) (i : Nat) (h : i < n) : (bkL n xs)[i]? = some (bkW n xs i) := by unfold bkL; simp [h]
theorem bkB_bound (n k : Nat) (h : n ≤ 16) (hk : k < n) : -320 ≤ bkB n k ∧ bkB n k ≤ 320 := by
  unfold bkB
  have h1 : 16 / n ≤ 16 := Nat.div_le_self _ _
  have h2 : (16 / n) * k ≤ 16 * 16 := Nat.mul_le_mul h1 (by omega)
  rw [← Int.natCast_mul]
  omega
theorem run_quW {P : Program} (w : World) (t : TypeId) {p : Nat × Nat} {N : Nat} (hN : N ∈ [1, 2, 4, 8, 16]) (h : QuOk p N) :
    (binOp .quo t (.complex .f32 p.1 p.2) (.complex .f32 (floatOfInt .f32 (N : Int)) 0)).run P w = .ok (.complex .f32 (quW p N).1 (quW p N).2) w := by
  obtain ⟨g1, g2, g3, g4, _⟩ := pt_facts N hN
  refine run_quoC w t (fun q hq => ?_) h.1
  obtain ⟨q1, q2⟩ := conv_parts hq
  have z := zero_fin .f32
  rw [fmt32] at z
  have e1 := (up64_val g1).1
  have e2 := (up64_val z.1).1
  have e1' : floatToFloatBits .f32 (floatOfInt .f32 (N : Int)) .f64 = some (up64 (ptW N)) := e1
  rw [e1'] at q1
  rw [e2] at q2
  injection q1 with q1
  injection q2 with q2
  rw [← q1, ← q2]; exact g3
theorem pow_mem' {n : Nat} (h : powB n = true) : n ∈ [1, 2, 4, 8, 16] := by
  rcases powB_cases h with h | h | h | h | h
  · have : n = 1 := by omega
    subst this; decide
  · have : n = 2 := by omega
    subst this; decide
  · have : n = 4 := by omega
    subst this; decide
  · have : n = 8 := by omega
    subst this; decide
  · have : n = 16 := by omega
    subst this; decide

set_option maxHeartbeats 1600000 in
theorem back_any {A : Option Addr} {n c : Nat} {xs : List (Nat × Nat)} (w : World) (h : Sg w A n c xs) (hm : n ≤ 1048576) (hok : BkOk n xs) :
    Calls Try.prog 16 #[.slice A n c] w fun e w' => ∃ A' n' c', e = .returned (.tuple #[.slice A' n' c', .bool (sizB n xs)]) ∧ n' ≤ 16 ∧ Own w' w.heap.size A' n' c' (bkF n xs) ∧ Below w.heap.size w w' := by
  have hl := h.len
  have HS := Lib.hid h
  cases hsz : sizB n xs
  · have hv : bkF n xs = [] := by unfold bkF; rw [hsz]; rfl
    have HO := Lib.hid hsz
    rw [hv]
    clear h hsz hv hok
    go_enter Try.func16, Try.ntmps16
    go_wp2_with (go_at_call 34; refine (siz_any _ HS.out hm).mono ?_; rintro e w' ⟨rfl, m2, rfl⟩; rw [HO.out])
    go_ret2
    exact ⟨none, 0, 0, rfl, by omega, Own.nil _ _, below_drewN' (Below.refl _ _) _⟩
  · have hv : bkF n xs = bkL n xs := by unfold bkF; rw [hsz]; rfl
    obtain ⟨hp, hk⟩ := sizB_iff.1 hsz
    obtain ⟨hle, _⟩ := okB_iff.1 hk
    have hn0 : 0 < n := by have := powB_cases hp; omega
    have HO := Lib.hid hsz
    have HV := Lib.hid hv
    have HP := Lib.hid (sizN hp)
    have HM := Lib.hid (pow_mem' hp)
    have HT := Lib.hid (hok hsz)
    obtain ⟨i0, hi0, hz0, hz1, hz2⟩ := info_parts info_c
    clear hk hv hsz hp hok
    obtain ⟨g, off, rfl, hg, hc⟩ := h.at_ (by omega)
    clear h hc
    go_enter Try.func16, Try.ntmps16
    go_wp2_with (first | (go_at_call 34; refine (siz_any _ HS.out hm).mono ?_; rintro e w2 ⟨rfl, m2, rfl⟩; rw [HO.out]) | (at_make; refine wpList_make_full _ rfl _ _ 23 rfl (w.drewN m2).heap.size 26 i0 (.complex .f32 0 0) 1 Try.underlying23 hi0 hz0 hz1 .i64 .i64 _ _ n rfl rfl rfl rfl (by rw [hz2]; omega) (by unfold maxLen; omega) (Nat.le_refl _) ?_; intro w9 hown9 hgr9; obtain ⟨ho9, hb9⟩ := Own.made hown9 hgr9; have HO9 := Lib.hid ho9; have HB9 := Lib.hid (below_drewN_left hb9); clear hown9 hgr9 ho9 hb9))
    go_loopw [21] (fun i wr => ∃ k : Nat, k ≤ n ∧ i = .int .i64 k ∧ Below w.heap.size w wr ∧ ∃ ys, Own wr w.heap.size (some ⟨w.heap.size, 0, none⟩) n n ys ∧ ∀ j, j < k → ys[j]? = some (bkW n xs j)) (fun i _ => n - (intOf i).toNat)
    case atStart => exact ⟨0, by omega, rfl, HB9.out, _, HO9.out, fun j h => by omega⟩
    case round =>
      obtain ⟨k, hk, rfl, hbel, ys, ho, hys⟩ := hrel
      by_cases hlt : k < n
      · have hly := ho.len
        obtain ⟨ht, hq⟩ := HT.out k hlt
        have hs : Sg wr (some ⟨g, off, none⟩) n c xs := HS.out.below hbel
        have hys' : ∀ j, j < k + 1 → (ys.set k (quW (tsW (bkB n k) xs n) n))[j]? = some (bkW n xs j) := by
          intro j hjk
          by_cases e : j = k
          · subst e; rw [List.getElem?_set_self (by omega)]; rfl
          · rw [List.getElem?_set_ne (by omega)]; exact hys j (by omega)
        have hts : ∀ w', Below wr.heap.size wr w' → Below w.heap.size w w' ∧ Own w' w.heap.size (some ⟨w.heap.size, 0, none⟩) n n ys := fun w' hb => ⟨hbel.trans (hb.mono hbel.size), ho.below hb⟩
        have HTS := Lib.hid hts
        have HSS := Lib.hid hs
        have HY' := Lib.hid hys'
        have equo := fun w => run_quW (P := Try.prog) w 26 HM.out hq
        have hfq : (finB (quW (tsW (bkB n k) xs n) n).1 && finB (quW (tsW (bkB n k) xs n) n).2) = true := by rw [hq.2.1, hq.2.2]; rfl
        unfold bkB at ht
        have HTT := Lib.hid ht
        clear ho hys hbel hys' hts hs ht HB9 HO9 HS HV HO HT hq
        go_wp2_with fail
        refine (tsum_any (k : Int) _ HSS.out HP.out (by omega) (by omega) HTT.out).mono ?_
        rintro e w5 ⟨rfl, hb5⟩
        obtain ⟨hb6, ho6⟩ := HTS.out w5 hb5
        have c2 := ho6.cell_at k (by omega)
        have hfr := ho6.free k
        have ho' := ho6.set_ k (bkW n xs k)
        have hb' : Below w.heap.size w (w5.setCell ⟨w.heap.size, k, none⟩ (cx (bkW n xs k))) := hb6.setCell (p := ⟨w.heap.size, k, none⟩) (Nat.le_refl _) _
        have HO' := Lib.hid ho'
        have HB' := Lib.hid hb'
        generalize ys[k] = old at c2
        have c4 : (w5.setCell ⟨w.heap.size, k, none⟩ (cx (bkW n xs k))).cell? ⟨w.heap.size, k, none⟩ = some (cx (bkW n xs k)) := by
          have := HO'.out.cell_at k (by simp; omega)
          rw [this]; simp
        clear ho6 hb6 hb5 ho' hb' HTT HSS HTS
        rw [show ((16 / n : Nat) : Int) * (k : Int) = bkB n k from rfl]
        unfold bkW at HO' HB' c4
        generalize quW (tsW (bkB n k) xs n) n = r at *
        generalize tsW (bkB n k) xs n = s at *
        obtain ⟨r1, r2⟩ := r
        obtain ⟨s1, s2⟩ := s
        obtain ⟨o1, o2⟩ := old
        unfold cx at c2 c4 HO' HB' ⊢
        simp only at c2 c4 HO' HB' equo hfq ⊢
        go_wp2_with fail
        refine (finite_any r1 r2 _).mono ?_
        rintro e w' ⟨rfl, m7, rfl⟩
        rw [hfq]
        go_wp2
        go_roundw
        case rel => exact ⟨k + 1, by omega, by go_num, below_drewN' HB'.out _, _, HO'.out, HY'.out⟩
        case measure => simp [intOf]; omega
      · have hkn : k = n := by omega
        subst hkn
        have hys2 : ys = bkL k xs := built_list ho.len hys
        have HO' := Lib.hid ho
        have HB' := Lib.hid hbel
        have HY' := Lib.hid hys2
        clear ho hbel hys2 hys HB9 HO9 HT
        go_wp2
        go_ret2
        exact ⟨_, k, k, rfl, by omega, by rw [HV.out, ← HY'.out]; exact HO'.out, HB'.out⟩
end Go.Proofs.Ytapncffjfaddgaa
