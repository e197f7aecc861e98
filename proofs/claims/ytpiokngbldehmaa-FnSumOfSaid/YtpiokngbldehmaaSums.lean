/- SumOf, the program's and the reference's, of any two signals in memory. -/
import Derived.Test.YtpiokngbldehmaaTurned
import Derived.Test.YtpiokngbldehmaaCw
namespace Go.FV
open Ieee Go.FR
/-- The sum of two complex64 numbers, by words. -/
def adW (p q : Nat × Nat) : Nat × Nat := (cSumBits .add .f32 p.1 p.2 q.1 q.2).getD (0, 0)
theorem adW_some {p q : Nat × Nat} (h1 : finB p.1 = true ∧ finB p.2 = true) (h2 : finB q.1 = true ∧ finB q.2 = true) : cSumBits .add .f32 p.1 p.2 q.1 q.2 = some ((adW p q).1, (adW p q).2) := by
  obtain ⟨x, y, h, _⟩ := addC_spec h1.1 h1.2 h2.1 h2.2
  unfold adW; rw [h]; rfl
theorem run_adW {P : Program} (w : World) (t : TypeId) {p q : Nat × Nat} (h1 : finB p.1 = true ∧ finB p.2 = true) (h2 : finB q.1 = true ∧ finB q.2 = true) :
    (binOp .add t (.complex .f32 p.1 p.2) (.complex .f32 q.1 q.2)).run P w = .ok (.complex .f32 (adW p q).1 (adW p q).2) w :=
  run_complex_sum w .add (.inl rfl) t .f32 _ _ _ _ _ _ (adW_some h1 h2)
theorem sum_comm {a b : Datum} (ha : isNum a = true) (hb : isNum b = true) : a.sum b = b.sum a := by
  cases a <;> simp [isNum] at ha
  cases b <;> simp [isNum] at hb
  rename_i s m i t n j
  simp only [Datum.sum, Option.some.injEq]
  rw [Int.min_comm j i, Int.add_comm (signed t n _), Bool.and_comm t s]
theorem add_comm32 {x y : Nat} (hx : finB x = true) (hy : finB y = true) : floatBits .add .f32 x y = floatBits .add .f32 y x := by
  show single.add x y = single.add y x
  unfold Format.add
  rw [sum_comm hx hy]
theorem adW_comm {p q : Nat × Nat} (h1 : finB p.1 = true ∧ finB p.2 = true) (h2 : finB q.1 = true ∧ finB q.2 = true) : adW p q = adW q p := by
  unfold adW cSumBits
  rw [add_comm32 h1.1 h2.1, add_comm32 h1.2 h2.2]
end Go.FV
namespace Go.Proofs.Ytpiokngbldehmaa
open Go.RowKit Go.FR Go.FV

def suM (xs ys : List (Nat × Nat)) : List (Nat × Nat) := List.zipWith adW xs ys
/-- Whether SumOf is told. -/
def suB (xs ys : List (Nat × Nat)) : Bool := okB xs && (okB ys && (decide (xs.length = ys.length) && allB (suM xs ys)))
/-- What SumOf gives. -/
def suL (xs ys : List (Nat × Nat)) : List (Nat × Nat) := if suB xs ys = true then suM xs ys else []
theorem suM_len {xs ys : List (Nat × Nat)} (h : xs.length = ys.length) : (suM xs ys).length = xs.length := by simp [suM, h]
theorem suM_at {xs ys : List (Nat × Nat)} (i : Nat) (h1 : i < xs.length) (h2 : i < ys.length) : (suM xs ys)[i]? = some (adW xs[i] ys[i]) := by
  unfold suM; simp [List.getElem?_zipWith, h1, h2]
theorem suB_iff {xs ys : List (Nat × Nat)} : suB xs ys = true ↔ okB xs = true ∧ okB ys = true ∧ xs.length = ys.length ∧ allB (suM xs ys) = true := by
  unfold suB
  rw [Bool.and_eq_true, Bool.and_eq_true, Bool.and_eq_true, decide_eq_true_eq]
theorem suB_bad {xs ys : List (Nat × Nat)} (i : Nat) (h1 : i < xs.length) (h2 : i < ys.length) (h : (finB (adW xs[i] ys[i]).1 && finB (adW xs[i] ys[i]).2) = false) : suB xs ys = false := by
  have hm : adW xs[i] ys[i] ∈ suM xs ys := List.mem_of_getElem? (suM_at i h1 h2)
  have := allB_bad hm h
  unfold suB
  rw [this, Bool.and_false, Bool.and_false, Bool.and_false]
theorem summed {xs ys zs : List (Nat × Nat)} (he : xs.length = ys.length) (hl : zs.length = xs.length) (h : ∀ i (h1 : i < xs.length) (h2 : i < ys.length), zs[i]? = some (adW xs[i] ys[i])) : zs = suM xs ys := by
  apply List.ext_getElem?
  intro i
  by_cases hi : i < xs.length
  · rw [h i hi (by omega), suM_at i hi (by omega)]
  · rw [List.getElem?_eq_none (by omega), List.getElem?_eq_none (by rw [suM_len he]; omega)]
theorem allB_all {xs : List (Nat × Nat)} (h : ∀ i (h1 : i < xs.length), (finB xs[i].1 && finB xs[i].2) = true) : allB xs = true :=
  allB_true fun p hp => by obtain ⟨i, hi, rfl⟩ := List.getElem_of_mem hp; exact h i hi

set_option maxHeartbeats 3200000 in
theorem sum_any {A A2 : Option Addr} {n c n2 c2 : Nat} {xs ys : List (Nat × Nat)} (w : World) (h : Sg w A n c xs) (h2 : Sg w A2 n2 c2 ys) (hm : n ≤ 1048576) (hm2 : n2 ≤ 1048576) :
    Calls Try.prog 11 #[.slice A n c, .slice A2 n2 c2] w fun e w' => ∃ A' n' c', e = .returned (.tuple #[.slice A' n' c', .bool (suB xs ys)]) ∧ n' ≤ 16 ∧ Own w' w.heap.size A' n' c' (suL xs ys) ∧ Below w.heap.size w w' := by
  have hl := h.len
  have hl2 := h2.len
  have HS := Lib.hid h
  have HS2 := Lib.hid h2
  cases hok : okB xs
  · have hb : suB xs ys = false := by unfold suB; rw [hok]; rfl
    have hv : suL xs ys = [] := by unfold suL; rw [hb]; rfl
    have HO := Lib.hid hok
    have HB := Lib.hid hb
    rw [hv]
    clear h h2 hok hv hb
    go_enter Try.func11, Try.ntmps11
    go_wp2_with (go_at_call 16; refine (ok_any _ HS.out hm).mono ?_; rintro e w' ⟨rfl, m2, rfl⟩; rw [HO.out])
    go_ret2
    exact ⟨none, 0, 0, by rw [HB.out]; rfl, by omega, Own.nil _ _, below_drewN' (Below.refl _ _) _⟩
  cases hok2 : okB ys
  · have hb : suB xs ys = false := by unfold suB; rw [hok2, Bool.false_and, Bool.and_false]
    have hv : suL xs ys = [] := by unfold suL; rw [hb]; rfl
    have HO := Lib.hid hok
    have HO2 := Lib.hid hok2
    have HB := Lib.hid hb
    rw [hv]
    clear h h2 hok hok2 hv hb
    go_enter Try.func11, Try.ntmps11
    go_wp2_with fail
    refine (ok_any _ HS.out hm).mono ?_
    rintro e w' ⟨rfl, m2, rfl⟩
    rw [HO.out]
    go_wp2_with fail
    refine (ok_any _ (HS2.out.drewN _) hm2).mono ?_
    rintro e w' ⟨rfl, m3, rfl⟩
    rw [HO2.out]
    go_wp2
    go_ret2
    exact ⟨none, 0, 0, by rw [HB.out]; rfl, by omega, Own.nil _ _, below_drewN' (Below.refl _ _) _⟩
  by_cases hne : n = n2
  · subst hne
    obtain ⟨hle, hf⟩ := okB_iff.1 hok
    obtain ⟨hle2, hf2⟩ := okB_iff.1 hok2
    have HO := Lib.hid hok
    have HO2 := Lib.hid hok2
    have HF := Lib.hid hf
    have HF2 := Lib.hid hf2
    obtain ⟨i0, hi0, hz0, hz1, hz2⟩ := info_parts info_c
    have heq : ((n : Int) == (n : Int)) = true := by simp
    by_cases h0 : n = 0
    · subst h0
      have e1 : xs = [] := h.nil
      have e2 : ys = [] := h2.nil
      subst e1; subst e2
      clear h h2 hok hok2 hf hf2
      go_enter Try.func11, Try.ntmps11
      go_wp2_with fail
      refine (ok_any _ HS.out hm).mono ?_
      rintro e w' ⟨rfl, m2, rfl⟩
      rw [HO.out]
      go_wp2_with fail
      refine (ok_any _ (HS2.out.drewN _) hm2).mono ?_
      rintro e w' ⟨rfl, m3, rfl⟩
      rw [HO2.out]
      go_wp2_with (at_make; refine wpList_make_full _ rfl _ _ 23 rfl _ 33 i0 (.complex .f32 0 0) 1 Try.underlying23 hi0 hz0 hz1 .i64 .i64 _ _ 0 rfl rfl rfl rfl (by rw [hz2]; omega) (by unfold maxLen; omega) (Nat.le_refl _) ?_; intro w9 hown9 hgr9; obtain ⟨ho9, hb9⟩ := Own.made hown9 hgr9; have HO9 := Lib.hid ho9; have HB9 := Lib.hid (below_drewN_left hb9); clear hown9 hgr9 ho9 hb9)
      refine wp_loop_rounds 1 ?_
      rw [rounds_succ]
      go_wp2
      go_ret2
      exact ⟨_, 0, 0, rfl, by omega, HO9.out, HB9.out⟩
    · obtain ⟨g, off, rfl, hg, hc⟩ := h.at_ (by omega)
      obtain ⟨g2, off2, rfl, hg2, hc2⟩ := h2.at_ (by omega)
      have HC := Lib.hid hc
      have HC2 := Lib.hid hc2
      clear h h2 hc hc2 hok hok2 hf hf2
      go_enter Try.func11, Try.ntmps11
      go_wp2_with fail
      refine (ok_any _ HS.out hm).mono ?_
      rintro e w' ⟨rfl, m2, rfl⟩
      rw [HO.out]
      go_wp2_with fail
      refine (ok_any _ (HS2.out.drewN _) hm2).mono ?_
      rintro e w' ⟨rfl, m3, rfl⟩
      rw [HO2.out]
      go_wp2_with (at_make; refine wpList_make_full _ rfl _ _ 23 rfl _ 33 i0 (.complex .f32 0 0) 1 Try.underlying23 hi0 hz0 hz1 .i64 .i64 _ _ n rfl rfl rfl rfl (by rw [hz2]; omega) (by unfold maxLen; omega) (Nat.le_refl _) ?_; intro w9 hown9 hgr9; obtain ⟨ho9, hb9⟩ := Own.made hown9 hgr9; have HO9 := Lib.hid ho9; have HB9 := Lib.hid (below_drewN_left hb9); clear hown9 hgr9 ho9 hb9)
      go_loopw [29] (fun i wr => ∃ k : Nat, k ≤ n ∧ i = .int .i64 k ∧ Below w.heap.size w wr ∧ ∃ zs, Own wr w.heap.size (some ⟨w.heap.size, 0, none⟩) n n zs ∧ ∀ j (hj : j < xs.length) (hj2 : j < ys.length), j < k → zs[j]? = some (adW xs[j] ys[j]) ∧ (finB (adW xs[j] ys[j]).1 && finB (adW xs[j] ys[j]).2) = true) (fun i _ => n - (intOf i).toNat)
      case atStart => exact ⟨0, by omega, rfl, HB9.out, _, HO9.out, fun j hj hj2 h => by omega⟩
      case round =>
        obtain ⟨k, hk, rfl, hbel, zs, ho, hzs⟩ := hrel
        by_cases hlt : k < n
        · have hx : k < xs.length := by omega
          have hy : k < ys.length := by omega
          have hlz := ho.len
          have c1 : wr.cell? ⟨g, off + k, none⟩ = some (cx xs[k]) := by rw [hbel.cell (p := ⟨g, off + k, none⟩) hg]; exact HC.out k hx
          have c2 : wr.cell? ⟨g2, off2 + k, none⟩ = some (cx ys[k]) := by rw [hbel.cell (p := ⟨g2, off2 + k, none⟩) hg2]; exact HC2.out k hy
          have c3 := ho.cell_at k (by omega)
          have hfr := ho.free k
          have ho' := ho.set_ k (adW xs[k] ys[k])
          have hb' : Below w.heap.size w (wr.setCell ⟨w.heap.size, k, none⟩ (cx (adW xs[k] ys[k]))) := hbel.setCell (p := ⟨w.heap.size, k, none⟩) (Nat.le_refl _) _
          have f1 := HF.out _ (List.getElem_mem hx)
          have f2 := HF2.out _ (List.getElem_mem hy)
          have eadd := fun w => run_adW (P := Try.prog) w 33 f1 f2
          have HO' := Lib.hid ho'
          have HB' := Lib.hid hb'
          generalize zs[k] = old at c3
          have c4 : (wr.setCell ⟨w.heap.size, k, none⟩ (cx (adW xs[k] ys[k]))).cell? ⟨w.heap.size, k, none⟩ = some (cx (adW xs[k] ys[k])) := by
            have := HO'.out.cell_at k (by simp; omega)
            rw [this]; simp
          cases hfin : (finB (adW xs[k] ys[k]).1 && finB (adW xs[k] ys[k]).2)
          · have hb := suB_bad k hx hy hfin
            have hv : suL xs ys = [] := by unfold suL; rw [hb]; rfl
            have HBB := Lib.hid hb
            have HV := Lib.hid hv
            clear ho hzs hbel ho' hb' HC HC2 HB9 HO9 HS HS2 HO HO2 HF HF2 hb hv f1 f2
            generalize adW xs[k] ys[k] = r at *
            generalize xs[k] = p at *
            generalize ys[k] = q at *
            obtain ⟨p1, p2⟩ := p
            obtain ⟨q1, q2⟩ := q
            obtain ⟨r1, r2⟩ := r
            obtain ⟨o1, o2⟩ := old
            unfold cx at c1 c2 c3 c4 HO' HB'
            simp only at c1 c2 c3 c4 HO' HB' eadd hfin
            go_wp2_with (go_at_call 38; refine (finite_any _ _ _).mono ?_; rintro e w' ⟨rfl, m4, rfl⟩; rw [hfin])
            go_ret2
            exact ⟨none, 0, 0, by rw [HBB.out]; rfl, by omega, by rw [HV.out]; exact Own.nil _ _, below_drewN' HB'.out _⟩
          · have hzs' : ∀ j (hj : j < xs.length) (hj2 : j < ys.length), j < k + 1 → (zs.set k (adW xs[k] ys[k]))[j]? = some (adW xs[j] ys[j]) ∧ (finB (adW xs[j] ys[j]).1 && finB (adW xs[j] ys[j]).2) = true := by
              intro j hj hj2 hjk
              by_cases e : j = k
              · subst e; rw [List.getElem?_set_self (by omega)]; exact ⟨rfl, hfin⟩
              · rw [List.getElem?_set_ne (by omega)]; exact hzs j hj hj2 (by omega)
            have HZ' := Lib.hid hzs'
            clear ho hzs hbel ho' hb' HC HC2 HB9 HO9 HS HS2 HO HO2 HF HF2 hzs' f1 f2
            generalize adW xs[k] ys[k] = r at *
            generalize xs[k] = p at *
            generalize ys[k] = q at *
            obtain ⟨p1, p2⟩ := p
            obtain ⟨q1, q2⟩ := q
            obtain ⟨r1, r2⟩ := r
            obtain ⟨o1, o2⟩ := old
            unfold cx at c1 c2 c3 c4 HO' HB'
            simp only at c1 c2 c3 c4 HO' HB' eadd hfin
            go_wp2_with (go_at_call 38; refine (finite_any _ _ _).mono ?_; rintro e w' ⟨rfl, m4, rfl⟩; rw [hfin])
            go_roundw
            case rel => exact ⟨k + 1, by omega, by go_num, below_drewN' HB'.out _, _, HO'.out, HZ'.out⟩
            case measure => simp [intOf]; omega
        · have hkn : k = n := by omega
          subst hkn
          have hm3 := summed (by rw [hl, hl2]) (by rw [ho.len, hl]) (fun i h1 h2 => (hzs i h1 h2 (by omega)).1)
          have hb : suB xs ys = true := by
            rw [suB_iff]
            refine ⟨HO.out, HO2.out, by rw [hl, hl2], ?_⟩
            refine allB_true fun p hp => ?_
            obtain ⟨i, hi, rfl⟩ := List.getElem_of_mem hp
            have hi1 : i < xs.length := by rw [suM_len (by rw [hl, hl2])] at hi; exact hi
            have hg := suM_at (xs := xs) (ys := ys) i hi1 (by omega)
            rw [List.getElem?_eq_getElem hi] at hg
            injection hg with hg
            rw [hg]
            exact (hzs i hi1 (by omega) (by omega)).2
          have hv : suL xs ys = suM xs ys := by unfold suL; rw [hb]; rfl
          have HO' := Lib.hid ho
          have HB' := Lib.hid hbel
          have HM := Lib.hid hm3
          have HBB := Lib.hid hb
          have HV := Lib.hid hv
          clear ho hbel hm3 hzs HC HC2 HB9 HO9 hb hv
          go_wp2
          go_ret2
          exact ⟨_, k, k, by rw [HBB.out]; rfl, by omega, by rw [HV.out, ← HM.out]; exact HO'.out, HB'.out⟩
  · have hb : suB xs ys = false := by unfold suB; rw [decide_eq_false (by omega), Bool.false_and, Bool.and_false, Bool.and_false]
    have hv : suL xs ys = [] := by unfold suL; rw [hb]; rfl
    have heq : ((n : Int) == (n2 : Int)) = false := by simp; omega
    have HO := Lib.hid hok
    have HO2 := Lib.hid hok2
    have HB := Lib.hid hb
    rw [hv]
    clear h h2 hok hok2 hv hb
    go_enter Try.func11, Try.ntmps11
    go_wp2_with fail
    refine (ok_any _ HS.out hm).mono ?_
    rintro e w' ⟨rfl, m2, rfl⟩
    rw [HO.out]
    go_wp2_with fail
    refine (ok_any _ (HS2.out.drewN _) hm2).mono ?_
    rintro e w' ⟨rfl, m3, rfl⟩
    rw [HO2.out]
    go_wp2
    go_ret2
    exact ⟨none, 0, 0, by rw [HB.out]; rfl, by omega, Own.nil _ _, below_drewN' (Below.refl _ _) _⟩
end Go.Proofs.Ytpiokngbldehmaa
