/- TurnedOf, the program's and the reference's, of any signal in memory. -/
import Derived.Test.YtpiokngbldehmaaNeg
import Derived.Test.YtpiokngbldehmaaSsig
import Derived.Test.YtpiokngbldehmaaOwn1
import Derived.Deep.RegionHeld3
import Derived.Deep.AppendLies
import Derived.Deep.DrawnRows
namespace Go.Proofs.Ytpiokngbldehmaa
open Go.RowKit Go.FR Go.FV

/-- A number with its second part negative. -/
def tuW (p : Nat × Nat) : Nat × Nat := (p.1, Op.negFloat .f32 p.2)
/-- What TurnedOf gives. -/
def tuL (xs : List (Nat × Nat)) : List (Nat × Nat) := if okB xs = true then xs.map tuW else []

/-- A list filled place by place. -/
theorem filled {xs ys : List (Nat × Nat)} {f : Nat × Nat → Nat × Nat} (hl : ys.length = xs.length) (h : ∀ i (hi : i < xs.length), ys[i]? = some (f xs[i])) : ys = xs.map f := by
  apply List.ext_getElem?
  intro i
  by_cases hi : i < xs.length
  · rw [h i hi]; simp [hi]
  · rw [List.getElem?_eq_none (by omega), List.getElem?_eq_none (by simp; omega)]

/-- What an append to the call's own slice leaves of what was there. -/
theorem below_grow {S : Nat} {w w5 w9 : World} {o : Obj} {v : Value} {e sz n : Nat} {xs : List Value} (hb : Below S w w5) (hown : w5.ownsRow S e sz v n xs) (hgr : (w5.alloc o).drew.grownBy w9 v.ownBlock) (hS : S ≤ w5.heap.size := by omega) : Below S w w9 := by
  have hg2 : w5.grownBy w9 v.ownBlock :=
    ⟨hgr.os, hgr.tape, hgr.output, Nat.le_trans (by simp) hgr.size, fun k hk hne => (hgr.block k (by simp; omega) hne).trans (Below.heap_alloc w5 _ k hk)⟩
  exact hb.trans ((Below.refl _ _).grown hg2 hS (fun k hk => (World.ownsRow.lt hown k hk).1))

set_option maxHeartbeats 400000 in
theorem secneg_any (a b : Nat) (w : World) :
    Calls Try.prog 48 #[.complex .f32 a b] w fun e w' => e = .returned (.complex .f32 a (Op.negFloat .f32 b)) ∧ w = w' := by
  go_enter Try.func48, Try.ntmps48
  go_wp2
  go_ret
  exact ⟨rfl, rfl⟩

set_option maxHeartbeats 1600000 in
theorem turned_any {A : Option Addr} {n c : Nat} {xs : List (Nat × Nat)} (w : World) (h : Sg w A n c xs) (hm : n ≤ 1048576) :
    Calls Try.prog 23 #[.slice A n c] w fun e w' => ∃ A' n' c', e = .returned (.slice A' n' c') ∧ n' ≤ 16 ∧ Own w' w.heap.size A' n' c' (tuL xs) ∧ Below w.heap.size w w' := by
  have hl := h.len
  have HS := Lib.hid h
  cases hok : okB xs
  · have hv : tuL xs = [] := by unfold tuL; rw [hok]; rfl
    have HO := Lib.hid hok
    rw [hv]
    clear h hok hv
    go_enter Try.func23, Try.ntmps23
    go_wp2_with (go_at_call 16; refine (ok_any _ HS.out hm).mono ?_; rintro e w' ⟨rfl, m2, rfl⟩; rw [HO.out])
    go_ret
    exact ⟨none, 0, 0, rfl, by omega, Own.nil _ _, below_drewN' (Below.refl _ _) _⟩
  have hv : tuL xs = xs.map tuW := by unfold tuL; rw [hok]; rfl
  obtain ⟨hle, _⟩ := okB_iff.1 hok
  have HO := Lib.hid hok
  have HV := Lib.hid hv
  obtain ⟨i0, hi0, hz0, hz1, hz2⟩ := info_parts info_c
  clear hok hv
  by_cases h0 : n = 0
  · subst h0
    have : xs = [] := h.nil
    subst this
    clear h
    go_enter Try.func23, Try.ntmps23
    go_wp2_with (first | (go_at_call 16; refine (ok_any _ HS.out hm).mono ?_; rintro e w2 ⟨rfl, m2, rfl⟩; rw [HO.out]) | (at_make; refine wpList_make_full _ rfl _ _ 23 rfl (w.drewN m2).heap.size 33 i0 (.complex .f32 0 0) 1 Try.underlying23 hi0 hz0 hz1 .i64 .i64 _ _ 0 rfl rfl rfl rfl (by rw [hz2]; omega) (by unfold maxLen; omega) (Nat.le_refl _) ?_; intro w9 hown9 hgr9; obtain ⟨ho9, hb9⟩ := Own.made hown9 hgr9; have HO9 := Lib.hid ho9; have HB9 := Lib.hid hb9; clear hown9 hgr9 ho9 hb9))
    refine wp_loop_rounds 1 ?_
    rw [rounds_succ]
    go_wp2
    go_ret
    exact ⟨_, 0, 0, rfl, by omega, by rw [HV.out]; exact HO9.out, below_drewN_left HB9.out⟩
  · obtain ⟨g, off, rfl, hg, hc⟩ := h.at_ (by omega)
    have HC := Lib.hid hc
    clear h hc
    go_enter Try.func23, Try.ntmps23
    go_wp2_with (first | (go_at_call 16; refine (ok_any _ HS.out hm).mono ?_; rintro e w2 ⟨rfl, m2, rfl⟩; rw [HO.out]) | (at_make; refine wpList_make_full _ rfl _ _ 23 rfl (w.drewN m2).heap.size 33 i0 (.complex .f32 0 0) 1 Try.underlying23 hi0 hz0 hz1 .i64 .i64 _ _ n rfl rfl rfl rfl (by rw [hz2]; omega) (by unfold maxLen; omega) (Nat.le_refl _) ?_; intro w9 hown9 hgr9; obtain ⟨ho9, hb9⟩ := Own.made hown9 hgr9; have HO9 := Lib.hid ho9; have HB9 := Lib.hid (below_drewN_left hb9); clear hown9 hgr9 ho9 hb9))
    go_loopw [14] (fun i wr => ∃ k : Nat, k ≤ n ∧ i = .int .i64 k ∧ Below w.heap.size w wr ∧ ∃ ys, Own wr w.heap.size (some ⟨w.heap.size, 0, none⟩) n n ys ∧ ∀ j (hj : j < xs.length), j < k → ys[j]? = some (tuW xs[j])) (fun i _ => n - (intOf i).toNat)
    case atStart => exact ⟨0, by omega, rfl, HB9.out, _, HO9.out, fun j hj h => by omega⟩
    case round =>
      obtain ⟨k, hk, rfl, hbel, ys, ho, hys⟩ := hrel
      by_cases hlt : k < n
      · have hx : k < xs.length := by omega
        have hly := ho.len
        have c1 : wr.cell? ⟨g, off + k, none⟩ = some (cx xs[k]) := by rw [hbel.cell (p := ⟨g, off + k, none⟩) hg]; exact HC.out k hx
        have c2 := ho.cell_at k (by omega)
        have hfr := ho.free k
        have hys' : ∀ j (hj : j < xs.length), j < k + 1 → (ys.set k (tuW xs[k]))[j]? = some (tuW xs[j]) := by
          intro j hj hjk
          by_cases e : j = k
          · subst e; rw [List.getElem?_set_self (by omega)]
          · rw [List.getElem?_set_ne (by omega)]; exact hys j hj (by omega)
        have ho' := ho.set_ k (tuW xs[k])
        have hb' : Below w.heap.size w (wr.setCell ⟨w.heap.size, k, none⟩ (cx (tuW xs[k]))) := hbel.setCell (p := ⟨w.heap.size, k, none⟩) (Nat.le_refl _) _
        have HO' := Lib.hid ho'
        have HB' := Lib.hid hb'
        have HY' := Lib.hid hys'
        generalize ys[k] = old at c2
        clear ho hys hbel ho' hb' hys' HC HB9 HO9 HS HV HO
        generalize hp : xs[k] = p at *
        obtain ⟨p1, p2⟩ := p
        obtain ⟨o1, o2⟩ := old
        unfold cx at c1 c2
        simp only at c1 c2
        unfold tuW cx at HO' HB'
        simp only at HO' HB'
        go_wp2_with (go_at_call 48; refine (secneg_any _ _ _).mono ?_; rintro e w' ⟨rfl, rfl⟩)
        go_roundw
        case rel => exact ⟨k + 1, by omega, by go_num, HB'.out, _, HO'.out, HY'.out⟩
        case measure => simp [intOf]; omega
      · have hkn : k = n := by omega
        subst hkn
        have hys2 := filled (f := tuW) (by rw [ho.len, hl]) (fun i hi => hys i hi (by omega))
        have HO' := Lib.hid ho
        have HB' := Lib.hid hbel
        have HY' := Lib.hid hys2
        clear ho hbel hys2 hys HC HB9 HO9
        go_wp2
        go_ret
        exact ⟨_, k, k, rfl, by omega, by rw [HV.out, ← HY'.out]; exact HO'.out, HB'.out⟩
set_option maxHeartbeats 1600000 in
theorem sturned_any {A : Option Addr} {n c : Nat} {xs : List (Nat × Nat)} (w : World) (h : Sg w A n c xs) (hm : n ≤ 1048576) :
    Calls Try.prog 24 #[.slice A n c] w fun e w' => ∃ A' n' c', e = .returned (.slice A' n' c') ∧ n' ≤ 16 ∧ Own w' w.heap.size A' n' c' (tuL xs) ∧ Below w.heap.size w w' := by
  have hl := h.len
  have HS := Lib.hid h
  by_cases h0 : n = 0
  · subst h0
    have : xs = [] := h.nil
    subst this
    have hv : tuL [] = [] := rfl
    rw [hv]
    clear h hv
    go_enter Try.func24, Try.ntmps24
    go_wp2
    refine wp_loop_rounds 1 ?_
    rw [rounds_succ]
    go_wp2
    go_ret
    exact ⟨_, 0, 0, rfl, by omega, Own.of_blk (Blk.new _ _ _) (Nat.le_refl _) rfl (Nat.zero_le _), (Below.refl _ _).alloc (Nat.le_refl _) _⟩
  cases hok : okB xs
  · have hv : tuL xs = [] := by unfold tuL; rw [hok]; rfl
    have HO := Lib.hid hok
    rw [hv]
    have HA := Lib.hid (h.below ((Below.refl _ _).alloc (Nat.le_refl _) (.cells #[] 33)))
    clear h hok hv
    go_enter Try.func24, Try.ntmps24
    go_wp2
    refine wp_loop_rounds 1 ?_
    rw [rounds_succ]
    go_wp2_with (go_at_call 29; refine (sok_any _ HA.out hm).mono ?_; rintro e w' ⟨rfl, m2, rfl⟩; rw [HO.out])
    go_ret
    exact ⟨_, 0, 0, rfl, by omega, Own.drewN (Own.of_blk (Blk.new _ _ _) (Nat.le_refl _) rfl (Nat.zero_le _)) _, below_drewN' ((Below.refl _ _).alloc (Nat.le_refl _) _) _⟩
  · have hv : tuL xs = xs.map tuW := by unfold tuL; rw [hok]; rfl
    obtain ⟨hle, _⟩ := okB_iff.1 hok
    have HO := Lib.hid hok
    have HV := Lib.hid hv
    obtain ⟨i0, hi0, hz0, hz1, hz2⟩ := info_parts info_c
    clear hok hv
    obtain ⟨g, off, rfl, hg, hc⟩ := h.at_ (by omega)
    have HC := Lib.hid hc
    clear h hc
    have hO0 : Own (w.alloc (.cells #[] 33)) w.heap.size (some ⟨w.heap.size, 0, none⟩) 0 0 [] := Own.of_blk (Blk.new _ _ _) (Nat.le_refl _) rfl (Nat.zero_le _)
    have hB0 : Below w.heap.size w (w.alloc (.cells #[] 33)) := (Below.refl _ _).alloc (Nat.le_refl _) _
    have HO0 := Lib.hid hO0
    have HB0 := Lib.hid hB0
    clear hO0 hB0
    go_enter Try.func24, Try.ntmps24
    go_wp2
    go_loopw [3, 4] (fun sv i wr => ∃ (k : Nat) (A' : Option Addr) (c' : Nat), k ≤ n ∧ i = .int .i64 k ∧ sv = .slice A' k c' ∧ Own wr w.heap.size A' k c' ((xs.take k).map tuW) ∧ Below w.heap.size w wr) (fun _ i _ => n - (intOf i).toNat)
    case atStart => exact ⟨0, _, 0, by omega, rfl, rfl, HO0.out, HB0.out⟩
    case round =>
      obtain ⟨k, A', c', hk, rfl, rfl, hown, hbel⟩ := hrel
      have HW := Lib.hid hown
      have HB := Lib.hid hbel
      have hs : Sg wr (some ⟨g, off, none⟩) n c xs := HS.out.below hbel
      have HS2 := Lib.hid hs
      have hsz := hbel.size
      by_cases hlt : k < n
      · have hx : k < xs.length := by omega
        have c1 : wr.cell? ⟨g, off + k, none⟩ = some (cx xs[k]) := by rw [hbel.cell (p := ⟨g, off + k, none⟩) hg]; exact HC.out k hx
        have hnext : (xs.take (k + 1)).map tuW = (xs.take k).map tuW ++ [(xs[k].1, Op.negFloat .f32 xs[k].2)] := by
          rw [List.take_succ_eq_append_getElem hx, List.map_append]; rfl
        have HX := Lib.hid hnext
        clear hnext hown hbel hs HC HS HB0 HO0 HV
        generalize xs[k] = p at *
        obtain ⟨p1, p2⟩ := p
        unfold cx at c1
        simp only at c1
        simp only at HX
        go_wp2_with fail
        refine (sok_any _ HS2.out hm).mono ?_
        rintro e w5 ⟨rfl, m2, hw5⟩
        rw [HO.out]
        have hown5 : w5.ownsRow w.heap.size 33 1 (.slice A' k c') k (((xs.take k).map tuW).map cx) := by rw [hw5]; exact HW.out
        have c5 : w5.cell? ⟨g, off + k, none⟩ = some (.complex .f32 p1 p2) := by rw [hw5]; exact c1
        have hb5 : Below w.heap.size w w5 := by rw [hw5]; exact below_drewN' HB.out _
        have hs5 := hb5.size
        have hfar : (Value.slice A' k c').ownBlock ≠ some g := fun e => by
          have := (World.ownsRow.lt hown5 g e).1
          omega
        have hg5 : g < w5.heap.size := by omega
        have HB5 := Lib.hid hb5
        clear hb5 hw5 c1 HW HB HS2
        go_wp2_with fail
        go_region_held3 (fun w' => w'.cell? ⟨g, off + k, none⟩ = some (.complex .f32 p1 p2))
          (first
            | go_keep
            | (rw [hgrow.cell_far _ (by simp; omega) (Ne.symm hfar)]; assumption))
          ((refine step_append_lies _ (by rfl) _ _ _ (by rfl) w.heap.size 33 i0 _ 1 8 Try.underlying23 hi0 hz0 hz1 hz2 rfl (by omega) (.slice A' k c') k (((xs.take k).map tuW).map cx) (by rfl) ((hown5.alloc _).drew)
              ⟨w5.heap.size, 0, none⟩ 1 1 [cx (p1, Op.negFloat .f32 p2)] (by rfl) (by rfl) (World.news_of_block (cs := #[cx (p1, Op.negFloat .f32 p2)]) (t := 33) (fr := (0, 0)) (heap_alloc_new w5 _)) (by simp [cx, Value.oneCell'])
              (by omega) (by unfold maxLen; omega) (by omega) (by simp; omega) (w5.heap.size + 1) (by simp) ?_; intro gg cap w9 hown9 hgrow hat hlt9))
        go_wp2
        all_goals exact ⟨⟨k + 1, _, cap, by omega, by go_num, rfl, by rw [HX.out]; unfold Own; rw [List.map_append]; exact hown9, below_grow HB5.out hown5 hgrow⟩, by simp [intOf]; omega⟩
      · have hkn : k = n := by omega
        subst hkn
        have htk : xs.take k = xs := List.take_of_length_le (by omega)
        rw [htk] at HW
        clear hown hbel hs HC HS HB0 HO0 htk
        go_wp2
        go_ret
        exact ⟨_, k, c', rfl, by omega, by rw [HV.out]; exact HW.out, HB.out⟩
end Go.Proofs.Ytpiokngbldehmaa
