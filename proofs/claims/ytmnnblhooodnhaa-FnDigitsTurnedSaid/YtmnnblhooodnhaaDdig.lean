/- The draw of FnDigitsTurned, and its law's walk. -/
import Derived.Test.YtmnnblhooodnhaaPick
import Derived.Test.YtmnnblhooodnhaaDigits
import Derived.Test.YtmnnblhooodnhaaIntsl
import Derived.Test.YtmnnblhooodnhaaAlive
namespace Go.Proofs.Ytmnnblhooodnhaa
open Go.RowKit

def digA : Array Value := #[.int .i64 1, .int .i64 2, .int .i64 4, .int .i64 8, .int .i64 16, .int .i64 3]
theorem digA_at (j : Nat) (h : j < 6) : ∃ x : Int, digA[j]? = some (.int .i64 x) ∧ 1 ≤ x ∧ x ≤ 16 := by
  rcases (by omega : j = 0 ∨ j = 1 ∨ j = 2 ∨ j = 3 ∨ j = 4 ∨ j = 5) with rfl | rfl | rfl | rfl | rfl | rfl
  all_goals exact ⟨_, rfl, by decide, by decide⟩

set_option maxHeartbeats 800000 in
theorem drawDigits_any {a : Option Addr} {len cap : Nat} {z : List Int} (w : World) (h : CodeIs w a len cap z) :
    Calls Try.prog 31 #[.slice a len cap] w fun e w' => ∃ p v : Int, e = .returned (.tuple #[.int .i64 p, .int .i64 v]) ∧ 1 ≤ p ∧ p ≤ 16 ∧ -1 ≤ v ∧ v ≤ 16 ∧ Below w.heap.size w w' := by
  have HC := Lib.hid h
  clear h
  go_enter Try.func31, Try.ntmps31
  go_wp2_with fail
  refine (open_any _ HC.out).mono ?_
  rintro e w1 ⟨s, rfl, hr, hB, hb⟩
  go_wp2_with fail
  have hblk : Blk (w1.alloc (.cells digA 3)) w1.heap.size 3 digA := Blk.new _ _ _
  have hB' : s.B < w1.heap.size := hr.lt
  refine (pick_any _ _ (hr.alloc (.cells digA 3)) (by omega)).mono ?_
  rintro e w2 ⟨v, rfl, h0, h1, hr2, ho⟩
  have hblk2 := hblk.only ho (by omega)
  have hb2 : Below w.heap.size w w2 := ho.below (hb.alloc hb.size (.cells digA 3)) hB
  obtain ⟨j, rfl⟩ := Int.eq_ofNat_of_zero_le h0
  have hj := h1 (by omega)
  obtain ⟨p, hx, x0, x1⟩ := digA_at j (by omega)
  have hcell : w2.cell? ⟨w1.heap.size, j, none⟩ = some (.int .i64 p) := by rw [hblk2.cell]; exact hx
  clear hblk hblk2 ho hx hr h1 hb
  go_wp2_with fail
  refine (pick_any _ _ hr2 (by omega)).mono ?_
  rintro e w3 ⟨u, rfl, u0, u1, hr3, ho3⟩
  have u2 := u1 (by omega)
  have hb3 := ho3.below hb2 hB
  clear u1 hr2 ho3 hb2 hcell
  go_wp2_with fail
  refine (pick_any _ _ hr3 (by omega)).mono ?_
  rintro e w4 ⟨y, rfl, y0, y1, hr4, ho4⟩
  have y2 := y1 (by omega)
  have hb4 := ho4.below hb3 hB
  clear y1 hr3 hr4 ho4 hb3
  go_wp2
  go_ret2
  exact ⟨p, _, rfl, x0, x1, by omega, by omega, hb4⟩

/-- Turned twice it is the place; no two places are turned to the same one. -/
theorem digT_back (p : Int) (hp : powB p = true) (a : Int) (h0 : 0 ≤ a) (h1 : a < p) : 0 ≤ digT p a ∧ digT p a < p ∧ digT p (digT p a) = a := by
  obtain ⟨n, rfl⟩ := Int.eq_ofNat_of_zero_le h0
  have key : ∀ p ∈ [(1 : Int), 2, 4, 8, 16], ∀ n : Nat, n < 16 → (n : Int) < p → 0 ≤ digT p n ∧ digT p n < p ∧ digT p (digT p n) = n := by decide +kernel
  have hm : p ∈ [(1 : Int), 2, 4, 8, 16] := by rcases powB_cases hp with rfl | rfl | rfl | rfl | rfl <;> decide
  have hb : n < 16 := by rcases powB_cases hp with rfl | rfl | rfl | rfl | rfl <;> omega
  exact key p hm n hb h1
theorem digT_inj (p : Int) (hp : powB p = true) (i k : Int) (hi : 0 ≤ i) (hi1 : i < p) (hk : 0 ≤ k) (hk1 : k < p) (hne : i ≠ k) : digT p i ≠ digT p k := by
  intro h
  have e1 := (digT_back p hp i hi hi1).2.2
  have e2 := (digT_back p hp k hk hk1).2.2
  rw [h] at e1
  exact hne (e1.symm.trans e2)

set_option maxHeartbeats 2000000 in
theorem law_FnDigitsTurned (a : Option Addr) (len cap : Nat) (z : List Int) (w : World) (h : CodeIs w a len cap z) :
    Calls Try.prog 9 #[.slice a len cap] w fun e w' => e = .returned (.bool true) ∧ Below w.heap.size w w' := by
  have HC := Lib.hid h
  clear h
  by_cases hbig : 1048576 < len
  · go_enter Try.func9, Try.ntmps9
    go_wp2
    go_ret
    exact ⟨rfl, Below.refl _ _⟩
  obtain ⟨i0, hi0, hz0, hz1, hz2⟩ := info_parts info_i
  go_enter Try.func9, Try.ntmps9
  go_wp2_with fail
  refine (drawDigits_any _ HC.out).mono ?_
  rintro e w1 ⟨p, v, rfl, p0, p1, v0, v1, hb⟩
  by_cases hok : powB p = true ∧ 0 ≤ v ∧ v < p
  · obtain ⟨hp, hv0, hv1⟩ := hok
    have hd : ∀ k : Int, 0 ≤ k → k < p → digF p k = digT p k := fun k hk hk1 => by unfold digF; rw [if_pos ⟨hp, hk, hk1⟩]
    have hdv := hd v hv0 hv1
    obtain ⟨t0, t1, t2⟩ := digT_back p hp v hv0 hv1
    have hdt := hd (digT p v) t0 t1
    rw [t2] at hdt
    rw [← hdv] at hdt t0 t1
    generalize hq : digF p v = q at *
    have hn : ¬ q < 0 := by omega
    have heq : (digF p q == v) = true := by rw [hdt]; simp
    obtain ⟨N, rfl⟩ := Int.eq_ofNat_of_zero_le (by omega : 0 ≤ p)
    have HD := Lib.hid hd
    have HP := Lib.hid hp
    have HQ := Lib.hid hq
    clear hd hp hdv t2 hdt hq
    go_wp2_with (first | (go_at_call 32; refine (digits_any _ _ _).mono ?_; rintro e w' ⟨rfl, rfl⟩; rw [HQ.out]) | (go_at_call 33; refine (sdigits_any _ _ _).mono ?_; rintro e w' ⟨rfl, rfl⟩; rw [HQ.out]))
    have ho0 : OwnI (w1.alloc (.cells #[] 3)) w1.heap.size (some ⟨w1.heap.size, 0, none⟩) 0 0 [] := OwnI.made w1 #[] [] rfl (Nat.zero_le _)
    have hb0 : Below w1.heap.size w1 (w1.alloc (.cells #[] 3)) := (Below.refl _ _).alloc (Nat.le_refl _) _
    have HO := Lib.hid ho0
    have HB0 := Lib.hid hb0
    clear ho0 hb0
    go_loopw [6, 7] (fun sv i wr => ∃ (k : Nat) (A : Option Addr) (c : Nat), k ≤ N ∧ i = .int .i64 k ∧ sv = .slice A k c ∧ OwnI wr w1.heap.size A k c ((List.range k).map fun (i : Nat) => digT N i) ∧ Below w1.heap.size w1 wr) (fun _ i _ => N - (intOf i).toNat)
    case atStart => exact ⟨0, _, 0, by omega, rfl, rfl, HO.out, HB0.out⟩
    case round =>
      obtain ⟨k, A, c, hk, rfl, rfl, hown, hbel⟩ := hrel
      by_cases hlt : k < N
      · have hdk : digF N k = digT N k := HD.out k (by omega) (by omega)
        have hnot : ∀ x ∈ (List.range k).map (fun (i : Nat) => digT N i), x ≠ digT N k := by
          intro x hx
          obtain ⟨i, hi, rfl⟩ := List.mem_map.1 hx
          have hi' := List.mem_range.1 hi
          exact digT_inj N HP.out i k (by omega) (by omega) (by omega) (by omega) (by omega)
        have hnext : (List.range (k + 1)).map (fun (i : Nat) => digT N i) = (List.range k).map (fun (i : Nat) => digT N i) ++ [digT N k] := by
          rw [List.range_succ, List.map_append]; rfl
        generalize (List.range k).map (fun (i : Nat) => digT N i) = xs at *
        generalize hm : digT N k = m at *
        have HK := Lib.hid hdk
        have HN := Lib.hid hnot
        have HX := Lib.hid hnext
        have HW := Lib.hid hown
        have hbs := hbel.size
        clear hdk hnot hnext hm hown heq
        go_wp2_with (first | (go_at_call 32; refine (digits_any _ _ _).mono ?_; rintro e w' ⟨rfl, rfl⟩; rw [HK.out]) | (go_at_call 34; refine (hasInt_no m _ HW.out (by omega) HN.out).mono ?_; rintro e w' ⟨rfl, rfl⟩) | (at_builtin; refine wpList_append_one rfl _ _ 44 rfl w1.heap.size 3 i0 (.int .i64 0) 8 Try.underlying44 hi0 hz0 hz1 hz2 rfl A k c (xs.map (Value.int .i64)) (.int .i64 m) rfl HW.out rfl rfl (by omega) (by omega) hbs ?_; intro A' c' w3 hown3 hb3 hg3))
        go_roundw
        case rel => exact ⟨k + 1, A', c', by omega, by go_num, rfl, by rw [HX.out]; unfold OwnI; rw [List.map_append]; exact hown3, hbel.trans hb3⟩
        case measure => simp [intOf]; omega
      · have HW := Lib.hid hown
        clear hown
        have hbel2 : Below w.heap.size w wr := hb.trans (hbel.mono hb.size)
        go_wp2_with (go_at_call 32; refine (digits_any _ _ _).mono ?_; rintro e w' ⟨rfl, rfl⟩)
        go_ret
        exact ⟨rfl, hbel2⟩
  · have hd : digF p v = -1 := by unfold digF; rw [if_neg hok]
    have HQ := Lib.hid hd
    clear hd hok
    go_wp2_with (first | (go_at_call 32; refine (digits_any _ _ _).mono ?_; rintro e w' ⟨rfl, rfl⟩; rw [HQ.out]) | (go_at_call 33; refine (sdigits_any _ _ _).mono ?_; rintro e w' ⟨rfl, rfl⟩; rw [HQ.out]) | (go_at_call 13; refine (alive_any _).mono ?_; rintro e w' ⟨rfl, n, rfl⟩))
    go_ret
    exact ⟨rfl, below_drewN' hb _⟩
end Go.Proofs.Ytmnnblhooodnhaa
