/- Drawn numbers: whole numbers of thousandths, and complex64 numbers. -/
import Derived.Test.YtpiokngbldehmaaPick
import Derived.Test.YtpiokngbldehmaaMilli
namespace Go.Proofs.Ytpiokngbldehmaa
open Go.RowKit Go.FR Go.FV

/-- The numbers of thousandths that are drawn. -/
def partL : List Int := [0, 1000, -1000, 500, -250] ++ (List.range 21).map (fun (i : Nat) => ((i : Int) - 10) * 1000) ++ (List.range 256).map (fun (i : Nat) => (i : Int) * 40 - 5000) ++ (List.range 9).map (fun (i : Nat) => ((i : Int) - 4) * 250)
theorem partL_range : ∀ a ∈ partL, -10000 ≤ a ∧ a ≤ 10000 := by decide +kernel
theorem partL_tens (i : Int) (h0 : 0 ≤ i) (h1 : i < 21) : (i - 10) * 1000 ∈ partL := by
  obtain ⟨n, rfl⟩ := Int.eq_ofNat_of_zero_le h0
  unfold partL
  simp only [List.mem_append, List.mem_map, List.mem_range]
  exact .inl (.inl (.inr ⟨n, by omega, rfl⟩))
theorem partL_forty (i : Int) (h0 : 0 ≤ i) (h1 : i < 256) : i * 40 - 5000 ∈ partL := by
  obtain ⟨n, rfl⟩ := Int.eq_ofNat_of_zero_le h0
  unfold partL
  simp only [List.mem_append, List.mem_map, List.mem_range]
  exact .inl (.inr ⟨n, by omega, rfl⟩)
theorem partL_quarter (i : Int) (h0 : 0 ≤ i) (h1 : i < 9) : (i - 4) * 250 ∈ partL := by
  obtain ⟨n, rfl⟩ := Int.eq_ofNat_of_zero_le h0
  unfold partL
  simp only [List.mem_append, List.mem_map, List.mem_range]
  exact .inr ⟨n, by omega, rfl⟩

def partA : Array Value := #[.int .i64 1000, .int .i64 (-1000), .int .i64 500, .int .i64 (-250)]
theorem partA_at (j : Nat) (h : j < 4) : ∃ x : Int, partA[j]? = some (.int .i64 x) ∧ x ∈ partL := by
  rcases (by omega : j = 0 ∨ j = 1 ∨ j = 2 ∨ j = 3) with rfl | rfl | rfl | rfl
  all_goals exact ⟨_, rfl, by decide⟩

set_option maxHeartbeats 800000 in
theorem part_any {s : Src} {q : Nat} (w : World) (h : Rdr w s q) (hq : q < 900000) :
    Calls Try.prog 63 #[.pointer (some ⟨s.B, 0, none⟩)] w fun e w' => ∃ v : Int, e = .returned (.int .i64 v) ∧ v ∈ partL ∧ Rdr w' s (q + 2) ∧ Upd s.B w w' := by
  go_enter Try.func63, Try.ntmps63
  go_wp2_with fail
  refine (pick_any _ _ h (by omega)).mono ?_
  rintro e w1 ⟨v, rfl, h0, h1, hr1, ho1⟩
  have h2 := h1 (by omega)
  have hu1 := ho1.upd
  clear h1 ho1 h
  rcases (by omega : v = 0 ∨ v = 1 ∨ v = 2 ∨ v = 3) with rfl | rfl | rfl | rfl
  · go_wp2
    go_ret
    exact ⟨0, rfl, by decide, hr1.mono (by omega), hu1⟩
  · go_wp2_with fail
    have hblk : Blk (w1.alloc (.cells partA 3)) w1.heap.size 3 partA := Blk.new _ _ _
    have hlt := hr1.lt
    refine (pick_any _ _ (hr1.alloc (.cells partA 3)) (by omega)).mono ?_
    rintro e w2 ⟨u, rfl, u0, u1, hr2, ho2⟩
    have hblk2 := hblk.only ho2 (by omega)
    have hu2 := (hu1.alloc (.cells partA 3)).only ho2
    obtain ⟨j, rfl⟩ := Int.eq_ofNat_of_zero_le u0
    have hj := u1 (by omega)
    obtain ⟨x, hx, hxm⟩ := partA_at j (by omega)
    have hcell : w2.cell? ⟨w1.heap.size, j, none⟩ = some (.int .i64 x) := by rw [hblk2.cell]; exact hx
    have HM := Lib.hid hxm
    clear hblk hblk2 ho2 hx hr1 u1 hxm
    go_wp2
    go_ret
    exact ⟨x, rfl, HM.out, hr2, hu2⟩
  · go_wp2_with fail
    refine (pick_any _ _ hr1 (by omega)).mono ?_
    rintro e w2 ⟨u, rfl, u0, u1, hr2, ho2⟩
    have u2 := u1 (by omega)
    have hu2 := hu1.only ho2
    clear u1 ho2 hr1
    go_wp2
    go_ret
    exact ⟨_, rfl, partL_tens u u0 u2, hr2, hu2⟩
  · go_wp2_with fail
    refine (pick_any _ _ hr1 (by omega)).mono ?_
    rintro e w2 ⟨u, rfl, u0, u1, hr2, ho2⟩
    have u2 := u1 (by omega)
    have hu2 := hu1.only ho2
    clear u1 ho2 hr1
    go_wp2
    go_ret
    exact ⟨_, rfl, partL_forty u u0 u2, hr2, hu2⟩

/-- The words of drawn parts that are near 0; 1e38 and its kin. -/
def smallL : List Nat := partL.map milliW ++ [0, 2147483648, 7136239, 2149862394]
def hugeW : Nat := 2123789977
def huge3W : Nat := 2137108966
theorem huge_words : floatBits .mul .f32 2123789977 1092616192 = some 2139095040 ∧ floatBits .mul .f32 2123789977 1077936128 = some huge3W ∧ floatBits .quo .f32 1065353216 2123789977 = some 7136239 ∧ floatBits .quo .f32 3212836864 huge3W = some 2149862394 := by
  decide +kernel

/-- What a drawn number is: both parts near 0; or 1e38 with its negative; or 3e38 and a part near 0; or not finite. -/
def NumOk (p : Nat × Nat) : Prop :=
  (p.1 ∈ smallL ∧ p.2 ∈ smallL) ∨ p = (hugeW, 4271273625) ∨ (p.1 = huge3W ∧ p.2 ∈ smallL) ∨ (finB p.1 && finB p.2) = false
/-- What it is where no number is huge. -/
def NumSm (p : Nat × Nat) : Prop := p.1 ∈ smallL ∧ p.2 ∈ smallL

theorem milli_small {a : Int} (h : a ∈ partL) : milliW a ∈ smallL := by
  unfold smallL
  exact List.mem_append_left _ (List.mem_map_of_mem h)
theorem milliF_small {a b : Int} (ha : a ∈ partL) (hb : b ∈ partL) : NumSm (milliF a b) := by
  have h1 := partL_range a ha
  have h2 := partL_range b hb
  unfold milliF
  rw [if_pos (by omega)]
  exact ⟨milli_small ha, milli_small hb⟩
theorem smallL_fin : ∀ x ∈ smallL, finB x = true := by decide +kernel
/-- A small number's negative, times 0, is a zero. -/
theorem smallL_zero : ∀ x ∈ smallL, ∃ r ∈ [0, 2147483648], floatBits .mul .f32 (Op.negFloat .f32 x) 0 = some r := by decide +kernel

theorem odd_zero {s : Src} (m : Int) (w : World) (hm : m ≤ 0) :
    Calls Try.prog 57 #[.pointer (some ⟨s.B, 0, none⟩), .int .i64 m] w fun e w' => e = .returned (.bool false) ∧ w = w' := by
  go_enter Try.func57, Try.ntmps57
  go_wp2
  go_ret
  exact ⟨rfl, rfl⟩

set_option maxHeartbeats 800000 in
theorem num_small {s : Src} {q : Nat} (w : World) (h : Rdr w s q) (hq : q < 800000) :
    Calls Try.prog 56 #[.pointer (some ⟨s.B, 0, none⟩), .int .i64 0] w fun e w' => ∃ p, e = .returned (cx p) ∧ NumSm p ∧ Rdr w' s (q + 4) ∧ Upd s.B w w' := by
  go_enter Try.func56, Try.ntmps56
  go_wp2_with fail
  refine (part_any _ h (by omega)).mono ?_
  rintro e w1 ⟨a, rfl, ha, hr1, hu1⟩
  go_wp2_with fail
  refine (part_any _ hr1 (by omega)).mono ?_
  rintro e w2 ⟨b, rfl, hb, hr2, hu2⟩
  have hN := milliF_small ha hb
  have hu := hu1.trans hu2
  clear h hr1 hu1 hu2 ha hb
  go_wp2_with fail
  refine (smilli_any _ _ _).mono ?_
  rintro e w3 ⟨rfl, n, rfl⟩
  go_wp2_with fail
  refine (odd_zero _ _ (by omega)).mono ?_
  rintro e w' ⟨rfl, rfl⟩
  generalize milliF a b = p at *
  have HN := Lib.hid hN
  clear hN
  go_wp2
  go_ret
  exact ⟨p, rfl, HN.out, hr2.drewN n, hu.drewN n⟩

theorem fm_eq {P : Program} (w : World) {k : FloatKind} {x y r : Nat} (h : floatBits .mul k x y = some r) : fmR P w k x y = r := by
  have := fm_res (P := P) w k x y
  unfold FRes at this; rw [h] at this; exact this
theorem fq_eq {P : Program} (w : World) {k : FloatKind} {x y r : Nat} (h : floatBits .quo k x y = some r) : fqR P w k x y = r := by
  have := fq_res (P := P) w k x y
  unfold FRes at this; rw [h] at this; exact this
/-- infinity less infinity is not finite -/
theorem inf_less_inf (P : Program) (w : World) : finB (fsR P w .f32 2139095040 2139095040) = false := by
  have h := fs_res (P := P) w .f32 2139095040 2139095040
  have hn : floatBits .sub .f32 2139095040 2139095040 = none := by decide +kernel
  unfold FRes at h
  rw [hn] at h
  obtain ⟨t, ht⟩ := h
  rw [ht]
  exact nan_read .f32 _ _ t
theorem zero_small (P : Program) (w : World) (x : Nat) (h : x ∈ smallL) : fmR P w .f32 (Op.negFloat .f32 x) 0 ∈ smallL := by
  obtain ⟨r, hr, hb⟩ := smallL_zero x h
  rw [fm_eq w hb]
  unfold smallL
  refine List.mem_append_right _ ?_
  simp only [List.mem_cons, List.not_mem_nil, or_false] at hr ⊢
  rcases hr with h | h
  · exact .inl h
  · exact .inr (.inl h)

set_option maxHeartbeats 1600000 in
theorem num_any {s : Src} {q : Nat} (m : Int) (w : World) (h : Rdr w s q) (hq : q < 800000) (hm0 : -1000 ≤ m) (hm1 : m ≤ 1000) :
    Calls Try.prog 56 #[.pointer (some ⟨s.B, 0, none⟩), .int .i64 m] w fun e w' => ∃ p, e = .returned (cx p) ∧ NumOk p ∧ Rdr w' s (q + 6) ∧ Upd s.B w w' := by
  go_enter Try.func56, Try.ntmps56
  go_wp2_with fail
  refine (part_any _ h (by omega)).mono ?_
  rintro e w1 ⟨a, rfl, ha, hr1, hu1⟩
  go_wp2_with fail
  refine (part_any _ hr1 (by omega)).mono ?_
  rintro e w2 ⟨b, rfl, hb, hr2, hu2⟩
  have hN := milliF_small ha hb
  have hu := hu1.trans hu2
  clear h hr1 hu1 hu2 ha hb
  go_wp2_with fail
  refine (smilli_any _ _ _).mono ?_
  rintro e w3 ⟨rfl, n, rfl⟩
  go_wp2_with fail
  refine (odd_any m _ (hr2.drewN n) (by omega) hm0 hm1).mono ?_
  rintro e w4 ⟨b4, rfl, hr4, ho4⟩
  have hu4 := (hu.drewN n).only ho4
  generalize milliF a b = p at *
  obtain ⟨x, y⟩ := p
  obtain ⟨hx, hy⟩ := hN
  simp only at hx hy
  unfold cx
  have HX := Lib.hid hx
  have HY := Lib.hid hy
  clear hx hy hr2 hu ho4
  cases b4
  · go_wp2
    go_ret
    exact ⟨(x, y), rfl, .inl ⟨HX.out, HY.out⟩, hr4.mono (by omega), hu4⟩
  · have e1 : ∀ w, fmR Try.prog w .f32 2123789977 1092616192 = 2139095040 := fun w => fm_eq w huge_words.1
    have e2 : ∀ w, fmR Try.prog w .f32 2123789977 1077936128 = 2137108966 := fun w => fm_eq w huge_words.2.1
    have e3 : ∀ w, fqR Try.prog w .f32 1065353216 2123789977 = 7136239 := fun w => fq_eq w huge_words.2.2.1
    have e4 : ∀ w, fqR Try.prog w .f32 3212836864 2137108966 = 2149862394 := fun w => fq_eq w huge_words.2.2.2
    go_wp2_with fail
    refine (pick_any _ _ (hr4.drewN _) (by omega)).mono ?_
    rintro e w5 ⟨v, rfl, v0, v1, hr5, ho5⟩
    have v2 := v1 (by omega)
    have hu5 := (hu4.drewN _).only ho5
    have hr5' := hr5.mono (by omega : q + 4 + 1 + 1 ≤ q + 6)
    have H5 := Lib.hid hr5'
    have HU := Lib.hid hu5
    clear hr4 hu4 hr5 ho5 v1 hr5' hu5
    rcases (by omega : v = 0 ∨ v = 1 ∨ v = 2 ∨ v = 3 ∨ v = 4 ∨ v = 5) with rfl | rfl | rfl | rfl | rfl | rfl
    · go_wp2
      go_ret
      exact ⟨(2139095040, x), rfl, .inr (.inr (.inr (by show (finB 2139095040 && finB x) = false; rw [show finB 2139095040 = false from by decide +kernel]; rfl))), H5.out, HU.out⟩
    · go_wp2
      go_ret
      refine ⟨(y, fsR Try.prog w5 .f32 2139095040 2139095040), rfl, .inr (.inr (.inr ?_)), H5.out.drewN _, HU.out.drewN _⟩
      show (finB y && finB (fsR Try.prog w5 .f32 2139095040 2139095040)) = false
      rw [inf_less_inf, Bool.and_false]
    · go_wp2
      go_ret
      exact ⟨(2123789977, 4271273625), rfl, .inr (.inl rfl), H5.out, HU.out⟩
    · go_wp2
      go_ret
      exact ⟨(7136239, 2149862394), rfl, .inl ⟨by decide +kernel, by decide +kernel⟩, H5.out.drewN _, HU.out.drewN _⟩
    · go_wp2
      go_ret
      exact ⟨(_, _), rfl, .inl ⟨zero_small _ _ x HX.out, zero_small _ _ y HY.out⟩, H5.out.drewN _, HU.out.drewN _⟩
    · go_wp2
      go_ret
      exact ⟨(2137108966, x), rfl, .inr (.inr (.inl ⟨rfl, HX.out⟩)), H5.out.drewN _, HU.out.drewN _⟩
end Go.Proofs.Ytpiokngbldehmaa
