/- The draws of signals. -/
import Derived.Test.YtpiokngbldehmaaSig
import Derived.Test.YtpiokngbldehmaaNum
import Derived.Test.YtpiokngbldehmaaOwn1
namespace Go.Proofs.Ytpiokngbldehmaa
open Go.RowKit Go.FR Go.FV

/-- A signal all whose numbers are small. -/
def SigSm (xs : List (Nat × Nat)) : Prop := ∀ p ∈ xs, NumSm p
/-- A drawn signal: all small, but for one that is drawn anew. -/
def SigOk (xs : List (Nat × Nat)) : Prop := SigSm xs ∨ ∃ ys i p, SigSm ys ∧ NumOk p ∧ xs = ys.set i p
theorem SigSm.append {xs : List (Nat × Nat)} {p : Nat × Nat} (h : SigSm xs) (hp : NumSm p) : SigSm (xs ++ [p]) := by
  intro q hq
  rcases List.mem_append.1 hq with hq | hq
  · exact h q hq
  · rw [List.mem_singleton.1 hq]; exact hp
theorem sigSm_zeros (n : Nat) : SigSm (List.replicate n (0, 0)) := by
  intro q hq
  rw [List.eq_of_mem_replicate hq]
  exact ⟨by decide +kernel, by decide +kernel⟩

/-- It stays what it is where of what was there only an older block changes. -/
theorem Own.upd {w w' : World} {b B : Nat} {A : Option Addr} {n c : Nat} {xs : List (Nat × Nat)} (h : Own w B A n c xs) (hb : Upd b w w') (hB : b < B) : Own w' B A n c xs := by
  obtain ⟨h1, h2⟩ := h
  refine ⟨h1, ?_⟩
  rcases h2 with h2 | ⟨g, cap, cur, hv, hg, hh, r⟩
  · exact .inl h2
  · exact .inr ⟨g, cap, cur, hv, hg, (hb.block g (lt_of_block hh) (by omega)).trans hh, r⟩
theorem Upd.then_below {b : Nat} {a w w' : World} (h : Upd b a w) (k : Below a.heap.size w w') : Upd b a w' :=
  ⟨k.os.trans h.os, k.tape.trans h.tape, k.output.trans h.output, Nat.le_trans h.size k.size, fun i hi hne => (k.block i hi).trans (h.block i hi hne)⟩
theorem Rdr.byte_lt {w : World} {s : Src} {q : Nat} (h : Rdr w s q) : 0 < s.n → s.b < w.heap.size := fun hn => lt_of_cell_ (h.bytes 0 hn)
theorem Rdr.under {B : Nat} {w w' : World} {s : Src} {q : Nat} (h : Rdr w s q) (hb : Below B w w') (h1 : s.B < B) (h2 : 0 < s.n → s.b < B) : Rdr w' s q :=
  ⟨let ⟨p, hp, hk⟩ := h.blk; ⟨p, hp, (hb.block s.B h1).trans hk⟩, h.len, h.at_, h.ne_,
    fun i hi => by
      rw [World.cell?_of_block (w := w) (w' := w') (hb.block s.b (h2 (by omega)))]
      exact h.bytes i hi, h.small⟩
theorem tens_in (i : Int) (h0 : 0 ≤ i) (h1 : i < 21) : (i - 10) * 1000 ∈ partL := partL_tens i h0 h1

set_option maxHeartbeats 3200000 in
theorem signal_any {s : Src} {q : Nat} (points : Nat) (m : Int) (w : World) (h : Rdr w s q) (hq : q < 700000) (hp : points ≤ 17) (hm0 : -1000 ≤ m) (hm1 : m ≤ 1000) :
    Calls Try.prog 43 #[.pointer (some ⟨s.B, 0, none⟩), .int .i64 points, .int .i64 m] w fun e w' => ∃ A k c xs, e = .returned (.slice A k c) ∧ Own w' w.heap.size A k c xs ∧ SigOk xs ∧ (k = points ∨ k = 17) ∧ Rdr w' s (q + 200) ∧ Upd s.B w w' := by
  have hlt := h.lt
  have hbl := Lib.hid h.byte_lt
  obtain ⟨i0, hi0, hz0, hz1, hz2⟩ := info_parts info_c
  go_enter Try.func43, Try.ntmps43
  go_wp2_with fail
  refine (pick_any _ _ (h.alloc (.cells #[] 33)) (by omega)).mono ?_
  rintro e w1 ⟨u, rfl, u0, u1, hr1, ho1⟩
  have u2 := u1 (by omega)
  have hO1 : Own (w.alloc (.cells #[] 33)) w.heap.size (some ⟨w.heap.size, 0, none⟩) 0 0 [] := Own.of_blk (Blk.new _ _ _) (Nat.le_refl _) rfl (Nat.zero_le _)
  have hU1 := ((Upd.refl s.B w).alloc (.cells #[] 33)).only ho1
  have hO2 := Lib.hid (hO1.upd ho1.upd hlt)
  have hU2 := Lib.hid hU1
  have hR2 := Lib.hid hr1
  clear hO1 hU1 hr1 ho1 h u1
  go_wp2_with fail
  go_loopw [7, 9] (fun sv i wr => ∃ (k : Nat) (A : Option Addr) (c : Nat) (xs : List (Nat × Nat)), k ≤ points ∧ i = .int .i64 k ∧ sv = .slice A k c ∧ Own wr w.heap.size A k c xs ∧ SigSm xs ∧ Rdr wr s (q + 1 + 4 * k) ∧ Upd s.B w wr) (fun _ i _ => points - (intOf i).toNat)
  case atStart => exact ⟨0, _, 0, [], by omega, rfl, rfl, hO2.out, (fun p hp => by cases hp), hR2.out, hU2.out⟩
  case round =>
    obtain ⟨k, A, c, xs, hk, rfl, rfl, hown, hsm, hr, hu⟩ := hrel
    clear hO2 hU2 hR2
    by_cases hlt2 : k < points
    · have HS := Lib.hid hsm
      clear hsm
      rcases (by omega : u = 0 ∨ u = 1 ∨ u = 2) with rfl | rfl | rfl
      · go_wp2_with fail
        refine (pick_any _ _ hr (by omega)).mono ?_
        rintro e w2 ⟨a1, rfl, a10, a11, hr2, ho2⟩
        have a12 := a11 (by omega)
        have hown2 := hown.upd ho2.upd hlt
        have hu2 := hu.only ho2
        clear hr ho2 a11 hown hu
        go_wp2_with fail
        refine (pick_any _ _ hr2 (by omega)).mono ?_
        rintro e w3 ⟨a2, rfl, a20, a21, hr3, ho3⟩
        have a22 := a21 (by omega)
        have hown3 := hown2.upd ho3.upd hlt
        have hu3 := hu2.only ho3
        clear hr2 ho3 a21 hown2 hu2
        have hN := milliF_small (tens_in a1 a10 a12) (tens_in a2 a20 a22)
        go_wp2_with fail
        refine (smilli_any _ _ _).mono ?_
        rintro e w4 ⟨rfl, n4, rfl⟩
        generalize milliF ((a1 - 10) * 1000) ((a2 - 10) * 1000) = pp at *
        obtain ⟨X, Y⟩ := pp
        have HN := Lib.hid hN
        have HW := Lib.hid (hown3.drewN n4)
        have hbs := hu3.size
        have hu3 := Lib.hid (hu3.drewN n4)
        have hr3 := Lib.hid (hr3.drewN n4)
        unfold cx
        simp only
        clear hN hown3 a10 a12 a20 a22
        go_wp2_with (at_builtin; refine wpList_append_one rfl _ _ 23 rfl w.heap.size 33 i0 (.complex .f32 0 0) 8 Try.underlying23 hi0 hz0 hz1 hz2 rfl A k c (xs.map cx) (cx (X, Y)) rfl HW.out rfl rfl (by omega) (by omega) hbs ?_; intro A' c' w9 hown3 hb3 hg3)
        go_roundw
        case rel => exact ⟨k + 1, A', c', xs ++ [(X, Y)], by omega, by go_num, rfl, by unfold Own; rw [List.map_append]; exact hown3, HS.out.append HN.out, (hr3.out.under hb3 hlt hbl.out).mono (by omega), hu3.out.then_below hb3⟩
        case measure => simp [intOf]; omega
      · go_wp2_with fail
        refine (pick_any _ _ hr (by omega)).mono ?_
        rintro e w3 ⟨a1, rfl, a10, a11, hr3, ho2⟩
        have a12 := a11 (by omega)
        have hown3 := hown.upd ho2.upd hlt
        have hu3 := hu.only ho2
        clear hr ho2 a11 hown hu
        have hN := milliF_small (partL_quarter a1 a10 a12) (show (0 : Int) ∈ partL by decide)
        go_wp2_with fail
        refine (smilli_any _ _ _).mono ?_
        rintro e w4 ⟨rfl, n4, rfl⟩
        generalize milliF ((a1 - 4) * 250) 0 = pp at *
        obtain ⟨X, Y⟩ := pp
        have HN := Lib.hid hN
        have HW := Lib.hid (hown3.drewN n4)
        have hbs := hu3.size
        have hu3 := Lib.hid (hu3.drewN n4)
        have hr3 := Lib.hid (hr3.drewN n4)
        unfold cx
        simp only
        clear hN hown3 a10 a12
        go_wp2_with (at_builtin; refine wpList_append_one rfl _ _ 23 rfl w.heap.size 33 i0 (.complex .f32 0 0) 8 Try.underlying23 hi0 hz0 hz1 hz2 rfl A k c (xs.map cx) (cx (X, Y)) rfl HW.out rfl rfl (by omega) (by omega) hbs ?_; intro A' c' w9 hown3 hb3 hg3)
        go_roundw
        case rel => exact ⟨k + 1, A', c', xs ++ [(X, Y)], by omega, by go_num, rfl, by unfold Own; rw [List.map_append]; exact hown3, HS.out.append HN.out, (hr3.out.under hb3 hlt hbl.out).mono (by omega), hu3.out.then_below hb3⟩
        case measure => simp [intOf]; omega
      · go_wp2_with fail
        refine (num_small _ hr (by omega)).mono ?_
        rintro e w3 ⟨pp, rfl, hN, hr3, ho2⟩
        have hown3 := hown.upd ho2 hlt
        have hu3 := hu.trans ho2
        clear hr ho2 hown hu
        obtain ⟨X, Y⟩ := pp
        have HN := Lib.hid hN
        have HW := Lib.hid hown3
        have hbs := hu3.size
        have hu3 := Lib.hid hu3
        have hr3 := Lib.hid hr3
        unfold cx
        simp only
        clear hN hown3
        go_wp2_with (at_builtin; refine wpList_append_one rfl _ _ 23 rfl w.heap.size 33 i0 (.complex .f32 0 0) 8 Try.underlying23 hi0 hz0 hz1 hz2 rfl A k c (xs.map cx) (cx (X, Y)) rfl HW.out rfl rfl (by omega) (by omega) hbs ?_; intro A' c' w9 hown3 hb3 hg3)
        go_roundw
        case rel => exact ⟨k + 1, A', c', xs ++ [(X, Y)], by omega, by go_num, rfl, by unfold Own; rw [List.map_append]; exact hown3, HS.out.append HN.out, (hr3.out.under hb3 hlt hbl.out).mono (by omega), hu3.out.then_below hb3⟩
        case measure => simp [intOf]; omega
    · have hkp : k = points := by omega
      subst hkp
      have HS := Lib.hid hsm
      have HO := Lib.hid hown
      have HU := Lib.hid hu
      have hus := hu.size
      clear hsm hlt2 hk hown hu
      go_wp2_with fail
      refine (odd_any m _ hr (by omega) hm0 hm1).mono ?_
      rintro e w2 ⟨b, rfl, hr2, ho2⟩
      have hO2 := HO.out.upd ho2.upd hlt
      have hU2 := HU.out.only ho2
      clear HO HU hr ho2
      have HO := Lib.hid hO2
      have HU := Lib.hid hU2
      clear hO2 hU2
      cases b
      · go_wp2
        go_ret
        exact ⟨A, k, c, xs, rfl, HO.out, .inl HS.out, .inl rfl, hr2.mono (by omega), HU.out⟩
      · by_cases hk0 : k = 0
        · subst hk0
          go_wp2_with (at_make; refine wpList_make_full _ rfl _ _ 23 rfl w2.heap.size 33 i0 (.complex .f32 0 0) 1 Try.underlying23 hi0 hz0 hz1 .i64 .i64 _ _ 17 rfl rfl rfl rfl (by rw [hz2]; omega) (by unfold maxLen; omega) (Nat.le_refl _) ?_; intro w9 hown9 hgr9; obtain ⟨ho9, hb9⟩ := Own.made hown9 hgr9; have HO9 := Lib.hid ho9; have HB9 := Lib.hid hb9; clear hown9 hgr9 ho9 hb9)
          go_ret
          exact ⟨_, 17, 17, _, rfl, HO9.out.mono HU.out.size, .inl (sigSm_zeros 17), .inr rfl, (hr2.below HB9.out).mono (by omega), HU.out.trans (upd_of_below HB9.out)⟩
        · have hk1 : ((k : Int) == 0) = false := by simpa using hk0
          go_wp2_with fail
          refine (pick_any _ _ hr2 (by omega)).mono ?_
          rintro e w3 ⟨a1, rfl, a10, a11, hr3, ho3⟩
          have a12 := a11 (by omega)
          have hO3 := Lib.hid (HO.out.upd ho3.upd hlt)
          have hU3 := Lib.hid (HU.out.only ho3)
          clear HO HU hr2 ho3 a11
          rcases (by omega : a1 = 0 ∨ 0 < a1) with rfl | hpos
          · have ha1 : ((0 : Int) == 0) = true := rfl
            go_wp2_with (at_make; refine wpList_make_full _ rfl _ _ 23 rfl w3.heap.size 33 i0 (.complex .f32 0 0) 1 Try.underlying23 hi0 hz0 hz1 .i64 .i64 _ _ 17 rfl rfl rfl rfl (by rw [hz2]; omega) (by unfold maxLen; omega) (Nat.le_refl _) ?_; intro w9 hown9 hgr9; obtain ⟨ho9, hb9⟩ := Own.made hown9 hgr9; have HO9 := Lib.hid ho9; have HB9 := Lib.hid hb9; clear hown9 hgr9 ho9 hb9)
            go_ret
            exact ⟨_, 17, 17, _, rfl, HO9.out.mono hU3.out.size, .inl (sigSm_zeros 17), .inr rfl, (hr3.below HB9.out).mono (by omega), hU3.out.trans (upd_of_below HB9.out)⟩
          · have ha1 : (a1 == 0) = false := by simp; omega
            go_wp2_with fail
            refine (pick_any _ _ hr3 (by omega)).mono ?_
            rintro e w4 ⟨v, rfl, v0, v1, hr4, ho4⟩
            have v2 := v1 (by omega)
            have hO4 := Lib.hid (hO3.out.upd ho4.upd hlt)
            have hU4 := Lib.hid (hU3.out.only ho4)
            clear hO3 hU3 hr3 ho4 v1
            go_wp2_with fail
            refine (num_any _ _ hr4 (by omega) (by omega) (by omega)).mono ?_
            rintro e w5 ⟨⟨X, Y⟩, rfl, hN, hr5, hu5⟩
            have HN := Lib.hid hN
            have ho5 := hO4.out.upd hu5 hlt
            have hU5 := Lib.hid (hU4.out.trans hu5)
            clear hO4 hU4 hr4 hu5 hN
            obtain ⟨j, rfl⟩ := Int.eq_ofNat_of_zero_le v0
            have hxl := ho5.len
            rcases ho5.form with ⟨_, h0', _⟩ | ⟨g, rfl, hkc, _⟩
            · exact absurd h0' hk0
            have hc1 := ho5.cell_at j (by omega)
            have hf1 := ho5.free j
            have hgB := ho5.from_
            have HO5 := Lib.hid ho5
            unfold cx at hc1
            generalize xs[j] = old at *
            clear ho5
            unfold cx
            simp only
            have hB9 : Below w.heap.size w5 (w5.setCell ⟨g, j, none⟩ (cx (X, Y))) := (Below.refl _ _).setCell (p := ⟨g, j, none⟩) hgB _
            go_wp2
            go_ret
            exact ⟨_, k, c, xs.set j (X, Y), rfl, HO5.out.set_ j (X, Y), .inr ⟨xs, j, (X, Y), HS.out, HN.out, rfl⟩, .inl rfl, (hr5.under hB9 hlt hbl.out).mono (by omega), hU5.out.then_below hB9⟩
end Go.Proofs.Ytpiokngbldehmaa
