/-
  The references' division of rows of bits.
-/
import Derived.Test.YtcoohepkmhpdkaaGreatRef01e
import Derived.Test.YtcoohepkmhpdkaaGreatDivPlain
namespace Go.Proofs.YtcoohepkmhpdkaaGreat
open Go.RowKit
set_option linter.unusedVariables false

set_option maxRecDepth 100000 in
set_option maxHeartbeats 4000000 in
theorem div_any (w : World) (va vb : Value) (x y m1 m2 n : Nat) (ha : Bt w va x m1) (hb : Bt w vb y m2) (hy : 0 < y) (hn : n = (if m1 < m2 then m2 else m1) + 1) (h900 : n ≤ 900) :
    Calls Tryz.prog 112 #[va, vb] w fun e w' => ∃ s1 c1 s2 c2, e = .returned (.tuple #[.slice s1 m1 c1, .slice s2 n c2]) ∧ w'.ownsRow w.heap.size 3 1 (.slice s1 m1 c1) m1 (i64s (bitsL (x / y) m1)) ∧ w'.ownsRow w.heap.size 3 1 (.slice s2 n c2) n (i64s (bitsL (x % y) n)) ∧ Below w.heap.size w w' := by
  obtain ⟨sa', ca', rfl⟩ := ha.1.form
  obtain ⟨sb', cb', rfl⟩ := hb.1.form
  have HA := Lib.hid ha; have HV := Lib.hid hb; have HY := Lib.hid hy; clear ha hb
  by_cases hc : m1 < m2
  · have hnI : (m2 : Int) + 1 = (n : Int) := by rw [hn, if_pos hc]; omega
    have h1n : m1 < n := by rw [hn, if_pos hc]; omega
    have h2n : m2 < n := by rw [hn, if_pos hc]; omega
    clear hn
    go_enter Tryz.func112, Tryz.ntmps112
    go_wp2_with fail
    refine (of_any _ 0 m1 (by decide) (by omega)).mono ?_
    rintro e w1 ⟨s1, c1, rfl, hown1, hb1⟩
    have HO1 := Lib.hid hown1; have HB1 := Lib.hid hb1; clear hown1 hb1
    go_wp2_with fail
    refine (of_any _ 0 n (by decide) (by omega)).mono ?_
    rintro e w2 ⟨s2, c2, rfl, hown2, hb2⟩
    have hlt1 : ∀ g, (Value.slice s1 m1 c1).ownBlock = some g → g < w1.heap.size := fun g hg => (HO1.out.lt g hg).2
    have hO1 : w2.ownsRow w.heap.size 3 1 (.slice s1 m1 c1) m1 (i64s (bitsL 0 m1)) := row_kept HO1.out fun g hg => hb2.block g (HO1.out.lt g hg).2
    have HO2 := Lib.hid hown2; have HB2 := Lib.hid (below_two HB1.out hb2); have HO12 := Lib.hid hO1; have HLT := Lib.hid hlt1
    have hsz12 := hb2.size
    clear hown2 hb2 hO1 hlt1
    go_wp2_with fail
    refine (len_any _ _ y m2 (HV.out.below HB2.out)).mono ?_
    rintro e w3 ⟨r, rfl, hr0, hr1, rfl⟩
    have hrne : r ≠ 0 := fun h => by have := hr1.1 h; have := HY.out; omega
    have qr : (r == 0) = false := by simp [hrne]
    clear hr1 hrne
    go_wp2
    go_loopw [8, 9] (fun u i wr => ∃ (k : Nat) (sr : Option Addr) (cr : Nat), k ≤ m1 ∧ i = .int .i64 ((k : Int) - 1) ∧ u = .slice sr n cr ∧ Hid (wr.ownsRow w.heap.size 3 1 (.slice s1 m1 c1) m1 (i64s (bitsL (x / 2 ^ k / y * 2 ^ k) m1))) ∧ Hid (wr.ownsRow w1.heap.size 3 1 (.slice sr n cr) n (i64s (bitsL (x / 2 ^ k % y) n))) ∧ Hid (Below w.heap.size w wr) ∧ w1.heap.size ≤ wr.heap.size) (fun _ i _ => (intOf i + 1).toNat)
    case atStart =>
      have hx0 : x / 2 ^ m1 = 0 := Nat.div_eq_of_lt HA.out.2.1
      refine ⟨m1, s2, c2, Nat.le_refl _, rfl, rfl, ?_, ?_, HB2, hsz12⟩
      · show World.ownsRow _ _ _ _ _ _ (i64s (bitsL (x / 2 ^ m1 / y * 2 ^ m1) m1))
        rw [hx0, Nat.zero_div, Nat.zero_mul]; exact HO12.out
      · show World.ownsRow _ _ _ _ _ _ (i64s (bitsL (x / 2 ^ m1 % y) n))
        rw [hx0, Nat.zero_mod]; exact HO2.out
    case round =>
      obtain ⟨k, sr, cr, hk, rfl, rfl, HQ, HR, HB, hsz⟩ := hrel
      by_cases hlt : 0 < k
      · obtain ⟨k, rfl⟩ : ∃ k', k = k' + 1 := ⟨k - 1, by omega⟩
        have e1 : (((k + 1 : Nat) : Int) - 1) = (k : Int) := by omega
        rw [e1]
        have hs := half x k
        obtain ⟨hd1, hd2⟩ := div_step (x / 2 ^ (k + 1)) (bit x k) y (bit_lt x k) HY.out
        have hrl : x / 2 ^ (k + 1) % y < y := Nat.mod_lt _ HY.out
        have hy2 : y < 2 ^ m2 := HV.out.2.1
        have hp2 : 2 ^ m2 * 2 ≤ 2 ^ n := by rw [← Nat.pow_succ]; exact Nat.pow_le_pow_right (by decide) (by omega)
        have hb := bit_lt x k
        rw [← hs] at hd1 hd2
        have hsl := set_low (x / 2 ^ (k + 1) % y) (bit x k) n (bit_lt x k) (by omega)
        have hsq := set_quot (x / 2 ^ (k + 1) / y) k m1 (by omega)
        obtain ⟨b, off, hsa, hcc⟩ := (HA.out.1.below HB.out).at (by omega)
        subst hsa
        have hQ0 : x / 2 ^ (k + 1) / y * 2 ^ (k + 1) = 2 * (x / 2 ^ (k + 1) / y) * 2 ^ k := by rw [Nat.pow_succ, Nat.mul_comm (2 ^ k) 2, ← Nat.mul_assoc, Nat.mul_comm _ 2]
        have hqr := HQ.out
        rw [hQ0] at hqr
        have hBT : Bt wr (.slice sr n cr) (x / 2 ^ (k + 1) % y) n := ⟨rd_of_row HR.out, by omega, by omega⟩
        generalize hrr : x / 2 ^ (k + 1) % y = r1 at *
        generalize hqq : x / 2 ^ (k + 1) / y = q1 at *
        generalize hu : bit x k = u at *
        have HS := Lib.hid hs; have HD1 := Lib.hid hd1; have HD2 := Lib.hid hd2; have HSL := Lib.hid hsl; have HSQ := Lib.hid hsq; have HQR := Lib.hid hqr; have HBT := Lib.hid hBT
        have cx := hcc k _ (i64s_at (bitsL x m1) k (by rw [bitsL_len]; omega))
        rw [bitsL_get _ _ _ (by omega), hu] at cx
        have hcb : b < wr.heap.size := World.block_lt_of_cell? _ _ cx
        have CX := Lib.hid cx
        clear hs hd1 hd2 hsl hsq hqr hBT hQ0 hcc cx e1
        go_wp2_with fail
        refine (shl_any _ _ r1 n 1 n HBT.out (by omega) (by omega)).mono ?_
        rintro e w3 ⟨s3, c3, rfl, hown3, hb3⟩
        obtain ⟨g3, hs3, hg1, hg2, hg3, hcell3, hfz3⟩ := row_ptr hown3 (by omega)
        subst hs3
        have c30 := hcell3 0 _ (i64s_at _ 0 (by rw [bitsL_len]; omega))
        have f30 := hfz3 0
        have cx3 := (hb3.cell hcb).trans CX.out
        generalize hl0 : (bitsL (r1 * 2 ^ 1) n).getD 0 0 = l0 at *
        have HO3 := Lib.hid hown3; have HB3 := Lib.hid hb3
        clear hown3 hb3 hcell3 hfz3 hl0
        go_wp2_with fail
        obtain ⟨w4, hw4⟩ : ∃ w4, w4 = w3.setCell ⟨g3, 0, none⟩ (.int .i64 (u : Int)) := ⟨_, rfl⟩
        have hO4 : w4.ownsRow wr.heap.size 3 1 (.slice (some ⟨g3, 0, none⟩) n c3) n (i64s (bitsL (2 * r1 + u) n)) := by
          rw [hw4, ← HSL.out, i64s_set]; exact row_set HO3.out (by omega) _
        have hB4 : Below wr.heap.size wr w4 := by rw [hw4]; exact HB3.out.setCell (p := ⟨g3, 0, none⟩) hg1 _
        rw [← hw4]
        have HO4 := Lib.hid hO4; have HB4 := Lib.hid hB4
        have hQ4 : w4.ownsRow w.heap.size 3 1 (.slice s1 m1 c1) m1 (i64s (bitsL (2 * q1 * 2 ^ k) m1)) := row_kept HQR.out fun g hg => hB4.block g (HQR.out.lt g hg).2
        have HQ4 := Lib.hid hQ4
        clear hw4 hO4 hB4 hQ4 c30 f30 cx3
        have hcmp := Lib.hid (cmp_any w4 (.slice (some ⟨g3, 0, none⟩) n c3) _ (2 * r1 + u) y n m2 ⟨rd_of_row HO4.out, by omega, by omega⟩ ((HV.out.below HB.out).below HB4.out))
        by_cases hge : y ≤ 2 * r1 + u
        · have hcv : cmpI (2 * r1 + u) y = 0 ∨ cmpI (2 * r1 + u) y = 1 := by
            unfold cmpI; rw [if_neg (by omega)]; split
            · exact .inr rfl
            · exact .inl rfl
          obtain ⟨cv, hcv', hcv0⟩ : ∃ cv : Int, cmpI (2 * r1 + u) y = cv ∧ 0 ≤ cv := ⟨_, rfl, by omega⟩
          rw [hcv'] at hcmp
          obtain ⟨hD1, hD2⟩ := HD2.out hge
          have HE1 := Lib.hid hD1; have HE2 := Lib.hid hD2
          clear hcv hcv' hD1 hD2
          go_wp2_with fail
          refine hcmp.out.mono ?_
          rintro e w5 ⟨rfl, rfl⟩
          go_wp2_with fail
          refine (bsub_any _ _ _ (2 * r1 + u) y n m2 n ⟨rd_of_row HO4.out, by omega, by omega⟩ ((HV.out.below HB.out).below HB4.out) (by omega) hge).mono ?_
          rintro e w5 ⟨s5, c5, rfl, hown5, hb5⟩
          have hQ5 : w5.ownsRow w.heap.size 3 1 (.slice s1 m1 c1) m1 (i64s (bitsL (2 * q1 * 2 ^ k) m1)) := row_kept HQ4.out fun g hg => hb5.block g (HQ4.out.lt g hg).2
          obtain ⟨g1, hs1, hh1, hh2, hh3, hcell5, hfz5⟩ := row_ptr hQ5 (by omega)
          have hg1w := HLT.out g1 (by rw [hs1]; rfl)
          subst hs1
          have c5k := hcell5 k _ (i64s_at _ k (by rw [bitsL_len]; omega))
          have f5k := hfz5 k
          have hkm : (k : Int) < (m1 : Int) := by omega
          have hk0 : (0 : Int) ≤ (k : Int) := by omega
          generalize hl5 : (bitsL (2 * q1 * 2 ^ k) m1).getD k 0 = l5 at *
          have HQ5 := Lib.hid hQ5; have HO5 := Lib.hid hown5; have HB5 := Lib.hid hb5
          clear hQ5 hown5 hb5 hcell5 hfz5 hl5
          go_wp2
          go_roundw
          case rel =>
            refine ⟨k, s5, c5, by omega, rfl, rfl, ?_, ?_, ?_, ?_⟩
            · show World.ownsRow _ _ _ _ _ _ (i64s (bitsL (x / 2 ^ k / y * 2 ^ k) m1))
              rw [HE1.out, ← HSQ.out, i64s_set]
              exact row_set HQ5.out (by omega) _
            · show World.ownsRow _ _ _ _ _ _ (i64s (bitsL (x / 2 ^ k % y) n))
              rw [HE2.out]
              exact row_kept (row_mono HO5.out (Nat.le_trans hsz HB4.out.size)) fun g hg => Below.heap_setCell _ _ _ _ (by have := (HO5.out.lt g hg).1; have := HB4.out.size; show g ≠ g1; omega)
            · exact (below_two (below_two HB.out HB4.out) HB5.out).setCell (p := ⟨g1, k, none⟩) hh1 _
            · have := HB5.out.size; have := HB4.out.size; simp [World.setCell]; omega
          case measure => simp [intOf]; try omega
        · have hcv : cmpI (2 * r1 + u) y = -1 := by unfold cmpI; rw [if_pos (by omega)]
          rw [hcv] at hcmp
          obtain ⟨hD1, hD2⟩ := HD1.out (by omega)
          have HE1 := Lib.hid hD1; have HE2 := Lib.hid hD2
          clear hcv hD1 hD2
          go_wp2_with fail
          refine hcmp.out.mono ?_
          rintro e w5 ⟨rfl, rfl⟩
          go_wp2
          go_roundw
          case rel =>
            refine ⟨k, some ⟨g3, 0, none⟩, c3, by omega, rfl, rfl, ?_, ?_, below_two HB.out HB4.out, Nat.le_trans hsz HB4.out.size⟩
            · show World.ownsRow _ _ _ _ _ _ (i64s (bitsL (x / 2 ^ k / y * 2 ^ k) m1))
              rw [HE1.out]; exact HQ4.out
            · show World.ownsRow _ _ _ _ _ _ (i64s (bitsL (x / 2 ^ k % y) n))
              rw [HE2.out]; exact row_mono HO4.out hsz
          case measure => simp [intOf]; try omega
      · obtain rfl : k = 0 := by omega
        have hle : ¬ (0 : Int) ≤ ((0 : Nat) : Int) - 1 := by omega
        go_wp2
        go_ret2
        have hq := HQ.out
        have hr := HR.out
        rw [Nat.pow_zero, Nat.div_one, Nat.mul_one] at hq
        rw [Nat.pow_zero, Nat.div_one] at hr
        exact ⟨s1, c1, sr, cr, rfl, hq, row_mono hr HB1.out.size, HB.out⟩
  · have hnI : (m1 : Int) + 1 = (n : Int) := by rw [hn, if_neg hc]; omega
    have h1n : m1 < n := by rw [hn, if_neg hc]; omega
    have h2n : m2 < n := by rw [hn, if_neg hc]; omega
    clear hn
    go_enter Tryz.func112, Tryz.ntmps112
    go_wp2_with fail
    refine (of_any _ 0 m1 (by decide) (by omega)).mono ?_
    rintro e w1 ⟨s1, c1, rfl, hown1, hb1⟩
    have HO1 := Lib.hid hown1; have HB1 := Lib.hid hb1; clear hown1 hb1
    go_wp2_with fail
    refine (of_any _ 0 n (by decide) (by omega)).mono ?_
    rintro e w2 ⟨s2, c2, rfl, hown2, hb2⟩
    have hlt1 : ∀ g, (Value.slice s1 m1 c1).ownBlock = some g → g < w1.heap.size := fun g hg => (HO1.out.lt g hg).2
    have hO1 : w2.ownsRow w.heap.size 3 1 (.slice s1 m1 c1) m1 (i64s (bitsL 0 m1)) := row_kept HO1.out fun g hg => hb2.block g (HO1.out.lt g hg).2
    have HO2 := Lib.hid hown2; have HB2 := Lib.hid (below_two HB1.out hb2); have HO12 := Lib.hid hO1; have HLT := Lib.hid hlt1
    have hsz12 := hb2.size
    clear hown2 hb2 hO1 hlt1
    go_wp2_with fail
    refine (len_any _ _ y m2 (HV.out.below HB2.out)).mono ?_
    rintro e w3 ⟨r, rfl, hr0, hr1, rfl⟩
    have hrne : r ≠ 0 := fun h => by have := hr1.1 h; have := HY.out; omega
    have qr : (r == 0) = false := by simp [hrne]
    clear hr1 hrne
    go_wp2
    go_loopw [8, 9] (fun u i wr => ∃ (k : Nat) (sr : Option Addr) (cr : Nat), k ≤ m1 ∧ i = .int .i64 ((k : Int) - 1) ∧ u = .slice sr n cr ∧ Hid (wr.ownsRow w.heap.size 3 1 (.slice s1 m1 c1) m1 (i64s (bitsL (x / 2 ^ k / y * 2 ^ k) m1))) ∧ Hid (wr.ownsRow w1.heap.size 3 1 (.slice sr n cr) n (i64s (bitsL (x / 2 ^ k % y) n))) ∧ Hid (Below w.heap.size w wr) ∧ w1.heap.size ≤ wr.heap.size) (fun _ i _ => (intOf i + 1).toNat)
    case atStart =>
      have hx0 : x / 2 ^ m1 = 0 := Nat.div_eq_of_lt HA.out.2.1
      refine ⟨m1, s2, c2, Nat.le_refl _, rfl, rfl, ?_, ?_, HB2, hsz12⟩
      · show World.ownsRow _ _ _ _ _ _ (i64s (bitsL (x / 2 ^ m1 / y * 2 ^ m1) m1))
        rw [hx0, Nat.zero_div, Nat.zero_mul]; exact HO12.out
      · show World.ownsRow _ _ _ _ _ _ (i64s (bitsL (x / 2 ^ m1 % y) n))
        rw [hx0, Nat.zero_mod]; exact HO2.out
    case round =>
      obtain ⟨k, sr, cr, hk, rfl, rfl, HQ, HR, HB, hsz⟩ := hrel
      by_cases hlt : 0 < k
      · obtain ⟨k, rfl⟩ : ∃ k', k = k' + 1 := ⟨k - 1, by omega⟩
        have e1 : (((k + 1 : Nat) : Int) - 1) = (k : Int) := by omega
        rw [e1]
        have hs := half x k
        obtain ⟨hd1, hd2⟩ := div_step (x / 2 ^ (k + 1)) (bit x k) y (bit_lt x k) HY.out
        have hrl : x / 2 ^ (k + 1) % y < y := Nat.mod_lt _ HY.out
        have hy2 : y < 2 ^ m2 := HV.out.2.1
        have hp2 : 2 ^ m2 * 2 ≤ 2 ^ n := by rw [← Nat.pow_succ]; exact Nat.pow_le_pow_right (by decide) (by omega)
        have hb := bit_lt x k
        rw [← hs] at hd1 hd2
        have hsl := set_low (x / 2 ^ (k + 1) % y) (bit x k) n (bit_lt x k) (by omega)
        have hsq := set_quot (x / 2 ^ (k + 1) / y) k m1 (by omega)
        obtain ⟨b, off, hsa, hcc⟩ := (HA.out.1.below HB.out).at (by omega)
        subst hsa
        have hQ0 : x / 2 ^ (k + 1) / y * 2 ^ (k + 1) = 2 * (x / 2 ^ (k + 1) / y) * 2 ^ k := by rw [Nat.pow_succ, Nat.mul_comm (2 ^ k) 2, ← Nat.mul_assoc, Nat.mul_comm _ 2]
        have hqr := HQ.out
        rw [hQ0] at hqr
        have hBT : Bt wr (.slice sr n cr) (x / 2 ^ (k + 1) % y) n := ⟨rd_of_row HR.out, by omega, by omega⟩
        generalize hrr : x / 2 ^ (k + 1) % y = r1 at *
        generalize hqq : x / 2 ^ (k + 1) / y = q1 at *
        generalize hu : bit x k = u at *
        have HS := Lib.hid hs; have HD1 := Lib.hid hd1; have HD2 := Lib.hid hd2; have HSL := Lib.hid hsl; have HSQ := Lib.hid hsq; have HQR := Lib.hid hqr; have HBT := Lib.hid hBT
        have cx := hcc k _ (i64s_at (bitsL x m1) k (by rw [bitsL_len]; omega))
        rw [bitsL_get _ _ _ (by omega), hu] at cx
        have hcb : b < wr.heap.size := World.block_lt_of_cell? _ _ cx
        have CX := Lib.hid cx
        clear hs hd1 hd2 hsl hsq hqr hBT hQ0 hcc cx e1
        go_wp2_with fail
        refine (shl_any _ _ r1 n 1 n HBT.out (by omega) (by omega)).mono ?_
        rintro e w3 ⟨s3, c3, rfl, hown3, hb3⟩
        obtain ⟨g3, hs3, hg1, hg2, hg3, hcell3, hfz3⟩ := row_ptr hown3 (by omega)
        subst hs3
        have c30 := hcell3 0 _ (i64s_at _ 0 (by rw [bitsL_len]; omega))
        have f30 := hfz3 0
        have cx3 := (hb3.cell hcb).trans CX.out
        generalize hl0 : (bitsL (r1 * 2 ^ 1) n).getD 0 0 = l0 at *
        have HO3 := Lib.hid hown3; have HB3 := Lib.hid hb3
        clear hown3 hb3 hcell3 hfz3 hl0
        go_wp2_with fail
        obtain ⟨w4, hw4⟩ : ∃ w4, w4 = w3.setCell ⟨g3, 0, none⟩ (.int .i64 (u : Int)) := ⟨_, rfl⟩
        have hO4 : w4.ownsRow wr.heap.size 3 1 (.slice (some ⟨g3, 0, none⟩) n c3) n (i64s (bitsL (2 * r1 + u) n)) := by
          rw [hw4, ← HSL.out, i64s_set]; exact row_set HO3.out (by omega) _
        have hB4 : Below wr.heap.size wr w4 := by rw [hw4]; exact HB3.out.setCell (p := ⟨g3, 0, none⟩) hg1 _
        rw [← hw4]
        have HO4 := Lib.hid hO4; have HB4 := Lib.hid hB4
        have hQ4 : w4.ownsRow w.heap.size 3 1 (.slice s1 m1 c1) m1 (i64s (bitsL (2 * q1 * 2 ^ k) m1)) := row_kept HQR.out fun g hg => hB4.block g (HQR.out.lt g hg).2
        have HQ4 := Lib.hid hQ4
        clear hw4 hO4 hB4 hQ4 c30 f30 cx3
        have hcmp := Lib.hid (cmp_any w4 (.slice (some ⟨g3, 0, none⟩) n c3) _ (2 * r1 + u) y n m2 ⟨rd_of_row HO4.out, by omega, by omega⟩ ((HV.out.below HB.out).below HB4.out))
        by_cases hge : y ≤ 2 * r1 + u
        · have hcv : cmpI (2 * r1 + u) y = 0 ∨ cmpI (2 * r1 + u) y = 1 := by
            unfold cmpI; rw [if_neg (by omega)]; split
            · exact .inr rfl
            · exact .inl rfl
          obtain ⟨cv, hcv', hcv0⟩ : ∃ cv : Int, cmpI (2 * r1 + u) y = cv ∧ 0 ≤ cv := ⟨_, rfl, by omega⟩
          rw [hcv'] at hcmp
          obtain ⟨hD1, hD2⟩ := HD2.out hge
          have HE1 := Lib.hid hD1; have HE2 := Lib.hid hD2
          clear hcv hcv' hD1 hD2
          go_wp2_with fail
          refine hcmp.out.mono ?_
          rintro e w5 ⟨rfl, rfl⟩
          go_wp2_with fail
          refine (bsub_any _ _ _ (2 * r1 + u) y n m2 n ⟨rd_of_row HO4.out, by omega, by omega⟩ ((HV.out.below HB.out).below HB4.out) (by omega) hge).mono ?_
          rintro e w5 ⟨s5, c5, rfl, hown5, hb5⟩
          have hQ5 : w5.ownsRow w.heap.size 3 1 (.slice s1 m1 c1) m1 (i64s (bitsL (2 * q1 * 2 ^ k) m1)) := row_kept HQ4.out fun g hg => hb5.block g (HQ4.out.lt g hg).2
          obtain ⟨g1, hs1, hh1, hh2, hh3, hcell5, hfz5⟩ := row_ptr hQ5 (by omega)
          have hg1w := HLT.out g1 (by rw [hs1]; rfl)
          subst hs1
          have c5k := hcell5 k _ (i64s_at _ k (by rw [bitsL_len]; omega))
          have f5k := hfz5 k
          have hkm : (k : Int) < (m1 : Int) := by omega
          have hk0 : (0 : Int) ≤ (k : Int) := by omega
          generalize hl5 : (bitsL (2 * q1 * 2 ^ k) m1).getD k 0 = l5 at *
          have HQ5 := Lib.hid hQ5; have HO5 := Lib.hid hown5; have HB5 := Lib.hid hb5
          clear hQ5 hown5 hb5 hcell5 hfz5 hl5
          go_wp2
          go_roundw
          case rel =>
            refine ⟨k, s5, c5, by omega, rfl, rfl, ?_, ?_, ?_, ?_⟩
            · show World.ownsRow _ _ _ _ _ _ (i64s (bitsL (x / 2 ^ k / y * 2 ^ k) m1))
              rw [HE1.out, ← HSQ.out, i64s_set]
              exact row_set HQ5.out (by omega) _
            · show World.ownsRow _ _ _ _ _ _ (i64s (bitsL (x / 2 ^ k % y) n))
              rw [HE2.out]
              exact row_kept (row_mono HO5.out (Nat.le_trans hsz HB4.out.size)) fun g hg => Below.heap_setCell _ _ _ _ (by have := (HO5.out.lt g hg).1; have := HB4.out.size; show g ≠ g1; omega)
            · exact (below_two (below_two HB.out HB4.out) HB5.out).setCell (p := ⟨g1, k, none⟩) hh1 _
            · have := HB5.out.size; have := HB4.out.size; simp [World.setCell]; omega
          case measure => simp [intOf]; try omega
        · have hcv : cmpI (2 * r1 + u) y = -1 := by unfold cmpI; rw [if_pos (by omega)]
          rw [hcv] at hcmp
          obtain ⟨hD1, hD2⟩ := HD1.out (by omega)
          have HE1 := Lib.hid hD1; have HE2 := Lib.hid hD2
          clear hcv hD1 hD2
          go_wp2_with fail
          refine hcmp.out.mono ?_
          rintro e w5 ⟨rfl, rfl⟩
          go_wp2
          go_roundw
          case rel =>
            refine ⟨k, some ⟨g3, 0, none⟩, c3, by omega, rfl, rfl, ?_, ?_, below_two HB.out HB4.out, Nat.le_trans hsz HB4.out.size⟩
            · show World.ownsRow _ _ _ _ _ _ (i64s (bitsL (x / 2 ^ k / y * 2 ^ k) m1))
              rw [HE1.out]; exact HQ4.out
            · show World.ownsRow _ _ _ _ _ _ (i64s (bitsL (x / 2 ^ k % y) n))
              rw [HE2.out]; exact row_mono HO4.out hsz
          case measure => simp [intOf]; try omega
      · obtain rfl : k = 0 := by omega
        have hle : ¬ (0 : Int) ≤ ((0 : Nat) : Int) - 1 := by omega
        go_wp2
        go_ret2
        have hq := HQ.out
        have hr := HR.out
        rw [Nat.pow_zero, Nat.div_one, Nat.mul_one] at hq
        rw [Nat.pow_zero, Nat.div_one] at hr
        exact ⟨s1, c1, sr, cr, rfl, hq, row_mono hr HB1.out.size, HB.out⟩

end Go.Proofs.YtcoohepkmhpdkaaGreat
