/- The draw of FnMilliOf, and its law's walk. -/
import Derived.Test.YtmnnblhooodnhaaMof
import Derived.Test.YtmnnblhooodnhaaNear
import Derived.Test.YtmnnblhooodnhaaAlive
namespace Go.Proofs.Ytmnnblhooodnhaa
open Go.RowKit Go.FR Go.FV

set_option maxHeartbeats 400000 in
theorem drawMilliOf_any {a : Option Addr} {len cap : Nat} {z : List Int} (w : World) (h : CodeIs w a len cap z) :
    Calls Try.prog 19 #[.slice a len cap] w fun e w' => ∃ p, e = .returned (cx p) ∧ NumOk p ∧ Below w.heap.size w w' := by
  have HC := Lib.hid h
  clear h
  go_enter Try.func19, Try.ntmps19
  go_wp2_with fail
  refine (open_any _ HC.out).mono ?_
  rintro e w1 ⟨s, rfl, hr, hB, hb⟩
  go_wp2_with fail
  refine (num_any _ _ hr (by omega) (by omega) (by omega)).mono ?_
  rintro e w2 ⟨p, rfl, hp, hr2, hu⟩
  have hb2 := hu.below hb hB hb.size
  have HP := Lib.hid hp
  clear hr hr2 hu hb hp
  go_wp2
  go_ret
  exact ⟨p, rfl, HP.out, hb2⟩

/-- A rounded part is rounded, and near. -/
theorem smallL_back : ∀ x ∈ smallL, (-9999999 ≤ rd x ∧ rd x ≤ 9999999) ∧ finB (milliW (rd x)) = true ∧ goodW (milliW (rd x)) = true ∧ rd (milliW (rd x)) = rd x ∧ nearB x (milliW (rd x)) 4564560351926583034 = true := by decide +kernel

set_option maxHeartbeats 1600000 in
theorem law_FnMilliOf (a : Option Addr) (len cap : Nat) (z : List Int) (w : World) (h : CodeIs w a len cap z) :
    Calls Try.prog 5 #[.slice a len cap] w fun e w' => e = .returned (.bool true) ∧ Below w.heap.size w w' := by
  have HC := Lib.hid h
  clear h
  by_cases hbig : 1048576 < len
  · go_enter Try.func5, Try.ntmps5
    go_wp2
    go_ret
    exact ⟨rfl, Below.refl _ _⟩
  go_enter Try.func5, Try.ntmps5
  go_wp2_with fail
  refine (drawMilliOf_any _ HC.out).mono ?_
  rintro e w1 ⟨p, rfl, hp, hb⟩
  have HB := Lib.hid hb
  clear HC hb
  rcases hp with hs | hh
  · have hm := moV_small hs
    have HS := Lib.hid hs
    have HM := Lib.hid hm
    obtain ⟨x, y⟩ := p
    obtain ⟨hx, hy⟩ := hs
    simp only at hx hy
    obtain ⟨i1, f1, g1, r1, m1⟩ := smallL_back x hx
    obtain ⟨i2, f2, g2, r2, m2⟩ := smallL_back y hy
    have hF : milliF (rd x) (rd y) = (milliW (rd x), milliW (rd y)) := by unfold milliF; rw [if_pos (by omega)]
    have hN : nearF x y (milliW (rd x)) (milliW (rd y)) 4564560351926583034 = true := by
      unfold nearF
      rw [m1, m2, f1, f2, smallL_fin x hx, smallL_fin y hy]; rfl
    have hβ : FV.Fin Ieee.double 4564560351926583034 := by unfold FV.Fin; decide +kernel
    have HF := Lib.hid hF
    have HN := Lib.hid hN
    have R1 := Lib.hid r1
    have R2 := Lib.hid r2
    have HZ := Lib.hid hβ
    clear hx hy i1 i2 r1 r2 m1 m2 hF hN hm hβ
    generalize hrx : rd x = rx at *
    generalize hry : rd y = ry at *
    generalize hX : milliW rx = X at *
    generalize hY : milliW ry = Y at *
    clear hX hY hrx hry
    unfold cx
    simp only
    have exx : (rx == rx) = true := by simp
    have eyy : (ry == ry) = true := by simp
    go_wp2_with fail
    refine (mof_small (x, y) _ HS.out).mono ?_
    rintro e w' ⟨rfl, n, rfl⟩
    rw [HM.out]
    go_wp2_with fail
    refine (smof_small (x, y) _ HS.out).mono ?_
    rintro e w' ⟨rfl, n2, rfl⟩
    rw [HM.out]
    clear HS HM
    go_wp2_with fail
    refine (milli_any _ _ _).mono ?_
    rintro e w' ⟨rfl, n3, rfl⟩
    rw [HF.out]
    unfold cx
    simp only
    clear HF
    go_wp2_with fail
    refine (mof_good X Y _ f1 f2 g1 g2).mono ?_
    rintro e w' ⟨rfl, n4, rfl⟩
    rw [R1.out, R2.out]
    clear R1 R2 f1 f2 g1 g2
    go_wp2_with fail
    refine (near_any _ _ _ _ _ _ HZ.out).mono ?_
    rintro e w' ⟨rfl, n5, rfl⟩
    rw [HN.out]
    clear HN HZ
    go_wp2
    go_ret
    exact ⟨rfl, below_drewN' HB.out _⟩
  · have hm := moV_huge hh
    have HH := Lib.hid hh
    have HM := Lib.hid hm
    clear hh hm
    obtain ⟨x, y⟩ := p
    unfold cx
    simp only
    go_wp2_with fail
    refine (mof_huge (x, y) _ HH.out).mono ?_
    rintro e w' ⟨rfl, n, rfl⟩
    rw [HM.out]
    go_wp2_with fail
    refine (smof_huge (x, y) _ HH.out).mono ?_
    rintro e w' ⟨rfl, n2, rfl⟩
    rw [HM.out]
    clear HH HM
    go_wp2_with fail
    refine (alive_any _).mono ?_
    rintro e w' ⟨rfl, n3, rfl⟩
    go_wp2
    go_ret
    exact ⟨rfl, below_drewN' HB.out _⟩
end Go.Proofs.Ytmnnblhooodnhaa
