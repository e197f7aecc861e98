/- TransformOf, the program's and the reference's, of any signal whose products and sums are all finite. -/
import Derived.Test.YtapncffjfaddgaaTsum
import Derived.Test.YtapncffjfaddgaaSize
namespace Go.Proofs.Ytapncffjfaddgaa
open Go.RowKit Go.FR Go.FV

/-- By how many sixteenths number k of a transform turns from point to point. -/
def trB (n k : Nat) : Int := ((16 / n : Nat) : Int) * (-(k : Int))
def trL (n : Nat) (xs : List (Nat × Nat)) : List (Nat × Nat) := (List.range n).map fun k => tsW (trB n k) xs n
/-- What TransformOf gives. -/
def trF (n : Nat) (xs : List (Nat × Nat)) : List (Nat × Nat) := if sizB n xs = true then trL n xs else []
def TrOk (n : Nat) (xs : List (Nat × Nat)) : Prop := sizB n xs = true → ∀ k, k < n → TsOk (trB n k) xs
theorem trL_len (n : Nat) (xs : List (Nat × Nat)) : (trL n xs).length = n := by simp [trL]
theorem trL_at (n : Nat) (xs : List (Nat × Nat)) (i : Nat) (h : i < n) : (trL n xs)[i]? = some (tsW (trB n i) xs n) := by unfold trL; simp [h]
theorem trB_bound (n k : Nat) (h : n ≤ 16) (hk : k < n) : -320 ≤ trB n k ∧ trB n k ≤ 320 := by
  unfold trB
  have h1 : 16 / n ≤ 16 := Nat.div_le_self _ _
  have h2 : (16 / n) * k ≤ 16 * 16 := Nat.mul_le_mul h1 (by omega)
  rw [Int.mul_neg, ← Int.natCast_mul]
  omega
theorem sizN {n : Nat} (h : powB n = true) : SizeN n := by
  unfold SizeN
  have := powB_cases h
  omega
theorem built_list {n : Nat} {ys : List (Nat × Nat)} {f : Nat → Nat × Nat} (hl : ys.length = n) (h : ∀ i, i < n → ys[i]? = some (f i)) : ys = (List.range n).map f := by
  apply List.ext_getElem?
  intro i
  by_cases hi : i < n
  · rw [h i hi]; simp [hi]
  · rw [List.getElem?_eq_none (by omega), List.getElem?_eq_none (by simp; omega)]

set_option maxHeartbeats 1600000 in
theorem trans_any {A : Option Addr} {n c : Nat} {xs : List (Nat × Nat)} (w : World) (h : Sg w A n c xs) (hm : n ≤ 1048576) (hok : TrOk n xs) :
    Calls Try.prog 12 #[.slice A n c] w fun e w' => ∃ A' n' c', e = .returned (.tuple #[.slice A' n' c', .bool (sizB n xs)]) ∧ n' ≤ 16 ∧ Own w' w.heap.size A' n' c' (trF n xs) ∧ Below w.heap.size w w' := by
  have hl := h.len
  have HS := Lib.hid h
  cases hsz : sizB n xs
  · have hv : trF n xs = [] := by unfold trF; rw [hsz]; rfl
    have HO := Lib.hid hsz
    rw [hv]
    clear h hsz hv hok
    go_enter Try.func12, Try.ntmps12
    go_wp2_with (go_at_call 34; refine (siz_any _ HS.out hm).mono ?_; rintro e w' ⟨rfl, m2, rfl⟩; rw [HO.out])
    go_ret2
    exact ⟨none, 0, 0, rfl, by omega, Own.nil _ _, below_drewN' (Below.refl _ _) _⟩
  · have hv : trF n xs = trL n xs := by unfold trF; rw [hsz]; rfl
    obtain ⟨hp, hk⟩ := sizB_iff.1 hsz
    obtain ⟨hle, _⟩ := okB_iff.1 hk
    have hn0 : 0 < n := by have := powB_cases hp; omega
    have HO := Lib.hid hsz
    have HV := Lib.hid hv
    have HP := Lib.hid (sizN hp)
    have HT := Lib.hid (hok hsz)
    obtain ⟨i0, hi0, hz0, hz1, hz2⟩ := info_parts info_c
    clear hk hv hsz hp hok
    obtain ⟨g, off, rfl, hg, hc⟩ := h.at_ (by omega)
    clear h hc
    go_enter Try.func12, Try.ntmps12
    go_wp2_with (first | (go_at_call 34; refine (siz_any _ HS.out hm).mono ?_; rintro e w2 ⟨rfl, m2, rfl⟩; rw [HO.out]) | (at_make; refine wpList_make_full _ rfl _ _ 23 rfl (w.drewN m2).heap.size 26 i0 (.complex .f32 0 0) 1 Try.underlying23 hi0 hz0 hz1 .i64 .i64 _ _ n rfl rfl rfl rfl (by rw [hz2]; omega) (by unfold maxLen; omega) (Nat.le_refl _) ?_; intro w9 hown9 hgr9; obtain ⟨ho9, hb9⟩ := Own.made hown9 hgr9; have HO9 := Lib.hid ho9; have HB9 := Lib.hid (below_drewN_left hb9); clear hown9 hgr9 ho9 hb9))
    go_loopw [16] (fun i wr => ∃ k : Nat, k ≤ n ∧ i = .int .i64 k ∧ Below w.heap.size w wr ∧ ∃ ys, Own wr w.heap.size (some ⟨w.heap.size, 0, none⟩) n n ys ∧ ∀ j, j < k → ys[j]? = some (tsW (trB n j) xs n)) (fun i _ => n - (intOf i).toNat)
    case atStart => exact ⟨0, by omega, rfl, HB9.out, _, HO9.out, fun j h => by omega⟩
    case round =>
      obtain ⟨k, hk, rfl, hbel, ys, ho, hys⟩ := hrel
      by_cases hlt : k < n
      · have hly := ho.len
        have ht := HT.out k hlt
        have hs : Sg wr (some ⟨g, off, none⟩) n c xs := HS.out.below hbel
        have hys' : ∀ j, j < k + 1 → (ys.set k (tsW (trB n k) xs n))[j]? = some (tsW (trB n j) xs n) := by
          intro j hjk
          by_cases e : j = k
          · subst e; rw [List.getElem?_set_self (by omega)]
          · rw [List.getElem?_set_ne (by omega)]; exact hys j (by omega)
        have hts : ∀ w', Below wr.heap.size wr w' → Below w.heap.size w w' ∧ Own w' w.heap.size (some ⟨w.heap.size, 0, none⟩) n n ys := fun w' hb => ⟨hbel.trans (hb.mono hbel.size), ho.below hb⟩
        have HTS := Lib.hid hts
        have HSS := Lib.hid hs
        have HY' := Lib.hid hys'
        unfold trB at ht
        have HTT := Lib.hid ht
        clear ho hys hbel hys' hts hs ht HB9 HO9 HS HV HO HT
        go_wp2_with fail
        refine (tsum_any (-(k : Int)) _ HSS.out HP.out (by omega) (by omega) HTT.out).mono ?_
        rintro e w5 ⟨rfl, hb5⟩
        obtain ⟨hb6, ho6⟩ := HTS.out w5 hb5
        have c2 := ho6.cell_at k (by omega)
        have hfr := ho6.free k
        have ho' := ho6.set_ k (tsW (trB n k) xs n)
        have hb' : Below w.heap.size w (w5.setCell ⟨w.heap.size, k, none⟩ (cx (tsW (trB n k) xs n))) := hb6.setCell (p := ⟨w.heap.size, k, none⟩) (Nat.le_refl _) _
        have HO' := Lib.hid ho'
        have HB' := Lib.hid hb'
        generalize ys[k] = old at c2
        clear ho6 hb6 hb5 ho' hb' HTT HSS HTS
        rw [show ((16 / n : Nat) : Int) * (-(k : Int)) = trB n k from rfl]
        generalize tsW (trB n k) xs n = r at *
        obtain ⟨r1, r2⟩ := r
        obtain ⟨o1, o2⟩ := old
        unfold cx at c2 HO' HB' ⊢
        simp only at c2 HO' HB' ⊢
        go_wp2
        go_roundw
        case rel => exact ⟨k + 1, by omega, by go_num, HB'.out, _, HO'.out, HY'.out⟩
        case measure => simp [intOf]; omega
      · have hkn : k = n := by omega
        subst hkn
        have hys2 : ys = trL k xs := built_list ho.len hys
        have HO' := Lib.hid ho
        have HB' := Lib.hid hbel
        have HY' := Lib.hid hys2
        clear ho hbel hys2 hys HB9 HO9 HT
        go_wp2
        go_ret2
        exact ⟨_, k, k, rfl, by omega, by rw [HV.out, ← HY'.out]; exact HO'.out, HB'.out⟩
end Go.Proofs.Ytapncffjfaddgaa
