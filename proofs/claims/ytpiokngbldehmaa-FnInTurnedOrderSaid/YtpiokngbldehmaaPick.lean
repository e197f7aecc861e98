/- The reader of drawn bytes: whatever the bytes are, 'pick' gives a number from 0 on and below its bound, and moves the reader's count alone. -/
import Derived.Test.YtpiokngbldehmaaMem
namespace Go.Proofs.Ytpiokngbldehmaa
open Go.RowKit

set_option maxHeartbeats 400000 in
theorem pick_none (B : Nat) (p m : Int) (w : World) (hp : w.cell? ⟨B, 1, none⟩ = some (.int .i64 p))
    (hf : w.frozen? ⟨B, 1, none⟩ = false) (p0 : 0 ≤ p) (p1 : p < 1000000) (hm : m < 1) :
    Calls Try.prog 45 #[.pointer (some ⟨B, 0, none⟩), .int .i64 m] w fun e w' => e = .returned (.int .i64 0) ∧ ∃ k, w' = (w.setCell ⟨B, 1, none⟩ (.int .i64 (p + 1))).drewN k := by
  go_enter Try.func45, Try.ntmps45
  go_wp2
  go_ret
  exact ⟨rfl, 0, rfl⟩

set_option maxHeartbeats 400000 in
theorem pick_empty (B : Nat) (A : Option Addr) (c : Nat) (p m : Int) (w : World) (hb : w.cell? ⟨B, 0, none⟩ = some (.slice A 0 c)) (hp : w.cell? ⟨B, 1, none⟩ = some (.int .i64 p))
    (hf : w.frozen? ⟨B, 1, none⟩ = false) (p0 : 0 ≤ p) (p1 : p < 1000000) (hm : 1 ≤ m) :
    Calls Try.prog 45 #[.pointer (some ⟨B, 0, none⟩), .int .i64 m] w fun e w' => e = .returned (.int .i64 0) ∧ ∃ k, w' = (w.setCell ⟨B, 1, none⟩ (.int .i64 (p + 1))).drewN k := by
  go_enter Try.func45, Try.ntmps45
  go_wp2
  go_ret
  exact ⟨rfl, 0, rfl⟩

set_option maxHeartbeats 400000 in
theorem pick_in (B b off : Nat) (f : Nat → Int) (n c : Nat) (p : Nat) (m : Int) (w : World) (hb : w.cell? ⟨B, 0, none⟩ = some (.slice (some ⟨b, off, none⟩) n c)) (hp : w.cell? ⟨B, 1, none⟩ = some (.int .i64 p))
    (hf : w.frozen? ⟨B, 1, none⟩ = false) (hn : p < n) (hnc : n ≤ 2000) (hbB : b ≠ B) (hcell : w.cell? ⟨b, off + p, none⟩ = some (.int .u8 (f p))) (f0 : 0 ≤ f p) (f1 : f p ≤ 255) (hm : 1 ≤ m) :
    Calls Try.prog 45 #[.pointer (some ⟨B, 0, none⟩), .int .i64 m] w fun e w' => e = .returned (.int .i64 (f p % m)) ∧ ∃ k, w' = (w.setCell ⟨B, 1, none⟩ (.int .i64 ((p : Int) + 1))).drewN k := by
  have hne : ((n : Int) == 0) = false := by simp; omega
  go_enter Try.func45, Try.ntmps45
  go_wp2
  go_ret
  exact ⟨rfl, 0, rfl⟩

theorem tmod_nat (a n : Nat) (h : 0 < n) : ∃ i : Nat, (a : Int).tmod n = i ∧ i < n :=
  ⟨a % n, by rw [Int.tmod_eq_emod_of_nonneg (by omega)]; rfl, Nat.mod_lt _ h⟩

/-- The exclusive or of two numbers of 62 digits is none below 0. -/
theorem xor_nonneg (x y : Int) (hx : 0 ≤ x) (hx1 : x < 4611686018427387904) (hy : 0 ≤ y) (hy1 : y < 4611686018427387904) : 0 ≤ bits .xor .i64 x y := by
  obtain ⟨a, rfl⟩ := Int.eq_ofNat_of_zero_le hx
  obtain ⟨b, rfl⟩ := Int.eq_ofNat_of_zero_le hy
  have ha : (BitVec.ofInt 64 (a : Int)).toNat = a := by
    rw [BitVec.ofInt_natCast, BitVec.toNat_ofNat]; exact Nat.mod_eq_of_lt (by omega)
  have hb : (BitVec.ofInt 64 (b : Int)).toNat = b := by
    rw [BitVec.ofInt_natCast, BitVec.toNat_ofNat]; exact Nat.mod_eq_of_lt (by omega)
  have hlt : a ^^^ b < 2 ^ 62 := Nat.xor_lt_two_pow (by omega) (by omega)
  show 0 ≤ IntKind.i64.wrap ((BitVec.ofInt 64 (a : Int) ^^^ BitVec.ofInt 64 (b : Int)).toNat : Int)
  rw [BitVec.toNat_xor, ha, hb, IntKind.wrap_i64]
  omega

theorem tmod_range (x m : Int) (hx : 0 ≤ x) (hm : 1 ≤ m) : 0 ≤ x.tmod m ∧ x.tmod m < m := by
  rw [Int.tmod_eq_emod_of_nonneg hx]
  exact ⟨Int.emod_nonneg _ (by omega), Int.emod_lt_of_pos _ (by omega)⟩

set_option maxHeartbeats 1000000 in
theorem pick_past (B b off : Nat) (f : Nat → Int) (n c : Nat) (p : Nat) (m : Int) (w : World) (hb : w.cell? ⟨B, 0, none⟩ = some (.slice (some ⟨b, off, none⟩) n c)) (hp : w.cell? ⟨B, 1, none⟩ = some (.int .i64 p))
    (hf : w.frozen? ⟨B, 1, none⟩ = false) (hn : n ≤ p) (hn0 : 0 < n) (hnc : n ≤ 2000) (p1 : p < 1000000) (hbB : b ≠ B) (hcell : ∀ i, i < n → w.cell? ⟨b, off + i, none⟩ = some (.int .u8 (f i))) (hff : ∀ i, 0 ≤ f i ∧ f i ≤ 255) (hm : 1 ≤ m) :
    Calls Try.prog 45 #[.pointer (some ⟨B, 0, none⟩), .int .i64 m] w fun e w' => ∃ v, e = .returned (.int .i64 v) ∧ 0 ≤ v ∧ v < m ∧ ∃ k, w' = (w.setCell ⟨B, 1, none⟩ (.int .i64 ((p : Int) + 1))).drewN k := by
  have hne : ((n : Int) == 0) = false := by simp; omega
  have hz : ¬ (n = 0) := by omega
  obtain ⟨i1, e1, l1⟩ := tmod_nat p n hn0
  obtain ⟨i2, e2, l2⟩ := tmod_nat (p * 7 + 3) n hn0
  have e2' : ((p : Int) * 7 + 3).tmod n = i2 := by rw [← e2]; congr 1
  clear e2
  have c1 := hcell i1 l1
  have c2 := hcell i2 l2
  have b1 := hff i1
  have b2 := hff i2
  clear hff hcell
  generalize f i1 = q1 at *
  generalize f i2 = q2 at *
  obtain ⟨b10, b11⟩ := b1
  obtain ⟨b20, b21⟩ := b2
  have ed : (p : Int).tdiv n = ((p / n : Nat) : Int) := by rw [Int.tdiv_eq_ediv_of_nonneg (by omega)]; rfl
  have hd : p / n ≤ p := Nat.div_le_self _ _
  generalize p / n = d at *
  have w1 : IntKind.i64.wrap ((p : Int) * 7) = (p : Int) * 7 := IntWalk.i64_in _ (by omega)
  have w2 : IntKind.i64.wrap ((p : Int) * 7 + 3) = (p : Int) * 7 + 3 := IntWalk.i64_in _ (by omega)
  have w3 : IntKind.i64.wrap (q1 * 131) = q1 * 131 := IntWalk.i64_in _ (by omega)
  have w4 : IntKind.i64.wrap (q2 * 1117) = q2 * 1117 := IntWalk.i64_in _ (by omega)
  have w5 : IntKind.i64.wrap (q1 * 131 + q2 * 1117) = q1 * 131 + q2 * 1117 := IntWalk.i64_in _ (by omega)
  have w6 : IntKind.i64.wrap ((p : Int) * 29) = (p : Int) * 29 := IntWalk.i64_in _ (by omega)
  have w7 : IntKind.i64.wrap (q1 * 131 + q2 * 1117 + (p : Int) * 29) = q1 * 131 + q2 * 1117 + (p : Int) * 29 := IntWalk.i64_in _ (by omega)
  have w8 : IntKind.i64.wrap ((d : Int)) = (d : Int) := IntWalk.i64_in _ (by omega)
  have w9 : IntKind.i64.wrap ((d : Int) * 53) = (d : Int) * 53 := IntWalk.i64_in _ (by omega)
  have w10 : IntKind.i64.wrap (q1 * 131 + q2 * 1117 + (p : Int) * 29 + (d : Int) * 53) = q1 * 131 + q2 * 1117 + (p : Int) * 29 + (d : Int) * 53 := IntWalk.i64_in _ (by omega)
  go_enter Try.func45, Try.ntmps45
  go_wp2
  go_quiet (fail)
  clear w1 w2 w3 w4 w5 w6 w7 w8 w9 w10 e1 e2' ed
  generalize hx : q1 * 131 + q2 * 1117 + (p : Int) * 29 + (d : Int) * 53 = x at *
  have x0 : 0 ≤ x := by omega
  have x1 : x ≤ 1000000000 := by omega
  have Hx := Lib.hid hx
  clear hx Hx
  go_wp2
  go_ret
  have hr := tmod_range (bits .xor .i64 x (x / 64)) m (xor_nonneg x (x / 64) x0 (by omega) (by omega) (by omega)) hm
  exact ⟨_, rfl, hr.1, hr.2, _, rfl⟩

/-- PICK. -/
theorem pick_any {s : Src} {q : Nat} (m : Int) (w : World) (h : Rdr w s q) (hq : q < 1000000) :
    Calls Try.prog 45 #[.pointer (some ⟨s.B, 0, none⟩), .int .i64 m] w fun e w' => ∃ v, e = .returned (.int .i64 v) ∧ 0 ≤ v ∧ (1 ≤ m → v < m) ∧ Rdr w' s (q + 1) ∧ Only s.B w w' := by
  obtain ⟨p, hp, hblk⟩ := h.blk
  have c0 : w.cell? ⟨s.B, 0, none⟩ = some (.slice s.A s.n s.c) := by rw [hblk.cell]; rfl
  have c1 : w.cell? ⟨s.B, 1, none⟩ = some (.int .i64 p) := by rw [hblk.cell]; rfl
  have hf := hblk.frozen 1
  have fin : ∀ w' : World, (∃ k, w' = (w.setCell ⟨s.B, 1, none⟩ (.int .i64 ((p : Int) + 1))).drewN k) → Rdr w' s (q + 1) ∧ Only s.B w w' := by
    rintro _ ⟨k, rfl⟩
    refine ⟨⟨⟨p + 1, by omega, ?_⟩, h.len, h.at_, h.ne_, fun i hi => ?_, h.small⟩, (Only.setCell w 1 _).drewN k⟩
    · exact (hblk.setCell 1 (.int .i64 ((p : Int) + 1))).drewN k
    · rw [World.cell?_drewN, World.cell?_setCell_other _ _ _ _ (fun e => h.ne_ (by injection e with e1; exact e1.symm))]
      exact h.bytes i hi
  by_cases hm : m < 1
  · exact (pick_none s.B p m w c1 hf (by omega) (by omega) hm).mono fun e w' ⟨he, hw⟩ => ⟨0, he, by omega, fun h1 => by omega, fin w' hw⟩
  · by_cases hn : s.n = 0
    · rw [hn] at c0
      exact (pick_empty s.B s.A s.c p m w c0 c1 hf (by omega) (by omega) (by omega)).mono fun e w' ⟨he, hw⟩ => ⟨0, he, by omega, fun h1 => by omega, fin w' hw⟩
    · rw [h.at_ (by omega)] at c0
      by_cases hpn : p < s.n
      · refine (pick_in s.B s.b s.off s.f s.n s.c p m w c0 c1 hf hpn h.len h.ne_ (h.bytes p hpn) (h.small p).1 (h.small p).2 (by omega)).mono fun e w' ⟨he, hw⟩ => ⟨_, he, ?_, fun _ => ?_, fin w' hw⟩
        · exact Int.emod_nonneg _ (by omega)
        · exact Int.emod_lt_of_pos _ (by omega)
      · exact (pick_past s.B s.b s.off s.f s.n s.c p m w c0 c1 hf (by omega) (by omega) h.len (by omega) h.ne_ h.bytes h.small (by omega)).mono fun e w' ⟨v, he, h0, h1, hw⟩ => ⟨v, he, h0, fun _ => h1, fin w' hw⟩

/-- Whether to leave the usual road: one of both; only the reader's block has changed. -/
def OddPost (s : Src) (q : Nat) (w : World) (e : Ending) (w' : World) : Prop := ∃ b, e = .returned (.bool b) ∧ Rdr w' s (q + 1) ∧ Only s.B w w'
theorem odd_any {s : Src} {q : Nat} (m : Int) (w : World) (h : Rdr w s q) (hq : q < 1000000) (hm0 : -1000 ≤ m) (hm1 : m ≤ 1000) :
    Calls Try.prog 57 #[.pointer (some ⟨s.B, 0, none⟩), .int .i64 m] w (OddPost s q w) := by
  by_cases hm : 0 < m
  · go_enter Try.func57, Try.ntmps57
    go_wp2_with (go_at_call 45; refine (pick_any _ _ h hq).mono ?_; rintro e w1 ⟨v, rfl, h0, h1, h2, h3⟩)
    all_goals (go_ret; exact ⟨_, rfl, h2, h3⟩)
  · go_enter Try.func57, Try.ntmps57
    go_wp2
    go_ret
    exact ⟨false, rfl, h.mono (by omega), Only.refl _ _⟩

theorem wf_u8 {n : Int} (h : (Lit.int .u8 n).wf = true) : 0 ≤ n ∧ n ≤ 255 := by
  simp [Lit.wf, IntKind.min, IntKind.max] at h
  have h1 := h.1
  have h2 := h.2
  simp [IntKind.signed, IntKind.bits] at h1 h2
  omega

/-- OPEN. -/
theorem open_any {a : Option Addr} {len cap : Nat} {z : List Int} (w : World) (h : CodeIs w a len cap z) :
    Calls Try.prog 37 #[.slice a len cap] w fun e w' => ∃ s : Src, e = .returned (.pointer (some ⟨s.B, 0, none⟩)) ∧ Rdr w' s 0 ∧ w.heap.size ≤ s.B ∧ Below w.heap.size w w' := by
  rcases h with ⟨rfl, rfl, rfl, rfl⟩ | ⟨⟨b, off, spot⟩, rfl, hl, hm, hz, hcell, hwf⟩
  · go_enter Try.func37, Try.ntmps37
    go_wp2
    go_ret
    refine ⟨⟨w.heap.size, none, 0, 0, w.heap.size + 1, 0, fun _ => 0⟩, rfl, ⟨⟨0, Nat.le_refl _, Blk.new _ _ _⟩, Nat.zero_le _, fun h => by simp at h, by simp, fun i hi => by simp at hi, fun _ => by simp⟩, Nat.le_refl _, (Below.refl _ _).alloc (Nat.le_refl _) _⟩
  · by_cases h0 : len = 0
    · subst h0
      go_enter Try.func37, Try.ntmps37
      go_wp2
      go_ret
      refine ⟨⟨w.heap.size, some ⟨b, off, spot⟩, 0, cap, w.heap.size + 1, 0, fun _ => 0⟩, rfl, ⟨⟨0, Nat.le_refl _, Blk.new _ _ _⟩, Nat.zero_le _, fun h => by simp at h, by simp, fun i hi => by simp at hi, fun _ => by simp⟩, Nat.le_refl _, (Below.refl _ _).alloc (Nat.le_refl _) _⟩
    · have hc0 := hcell 0 (by omega)
      have hspot : spot = none := by simpa [Addr.add] using World.cell?_spot hc0
      subst hspot
      have hbs : b < w.heap.size := lt_of_cell_ (o := off + 0) (by simpa [Addr.add] using hc0)
      have hby : ∀ (n : Nat), n ≤ len → ∀ i, i < n → (w.alloc (.cells #[.slice (some ⟨b, off, none⟩) n cap, .int .i64 0] 61)).cell? ⟨b, off + i, none⟩ = some (.int .u8 (z.getD i 0)) := by
        intro n hn i hi
        rw [World.cell?_alloc_past _ _ _ hbs]
        have := hcell i (by omega)
        rw [Addr.add_lit] at this
        exact this
      have hsm : ∀ i, 0 ≤ z.getD i 0 ∧ z.getD i 0 ≤ 255 := by
        intro i
        rw [List.getD_eq_getElem?_getD]
        cases hi : z[i]? with
        | none => simp
        | some x => exact wf_u8 (hwf x (List.mem_of_getElem? hi))
      unfold maxLen at hm
      have HB := Lib.hid hby
      have HS := Lib.hid hsm
      clear hby hsm hcell hwf hc0 hz
      by_cases hbig : 2000 < len
      · go_enter Try.func37, Try.ntmps37
        go_wp2
        go_ret
        refine ⟨⟨w.heap.size, some ⟨b, off, none⟩, 2000, cap, b, off, fun i => z.getD i 0⟩, rfl, ⟨⟨0, Nat.le_refl _, Blk.new _ _ _⟩, Nat.le_refl _, fun _ => rfl, by simp; omega, fun i hi => HB.out 2000 (by omega) i hi, HS.out⟩, Nat.le_refl _, (Below.refl _ _).alloc (Nat.le_refl _) _⟩
      · go_enter Try.func37, Try.ntmps37
        go_wp2
        go_ret
        refine ⟨⟨w.heap.size, some ⟨b, off, none⟩, len, cap, b, off, fun i => z.getD i 0⟩, rfl, ⟨⟨0, Nat.le_refl _, Blk.new _ _ _⟩, by simp; omega, fun _ => rfl, by simp; omega, fun i hi => HB.out len (by omega) i hi, HS.out⟩, Nat.le_refl _, (Below.refl _ _).alloc (Nat.le_refl _) _⟩
end Go.Proofs.Ytpiokngbldehmaa
