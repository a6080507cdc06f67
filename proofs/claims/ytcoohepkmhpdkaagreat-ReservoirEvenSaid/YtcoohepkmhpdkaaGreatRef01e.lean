/-
  The references' product of rows of bits.
-/
import Derived.Test.YtcoohepkmhpdkaaGreatRef01d
namespace Go.Proofs.YtcoohepkmhpdkaaGreat
open Go.RowKit
set_option linter.unusedVariables false

theorem le_of_bit {y k : Nat} (h : bit y k = 1) : 2 ^ k ≤ y := by
  by_cases hlt : y < 2 ^ k
  · have := bit_big hlt (Nat.le_refl k); omega
  · omega

set_option maxRecDepth 100000 in
set_option maxHeartbeats 2000000 in
theorem mul_any (w : World) (va vb : Value) (x y m1 m2 n : Nat) (ha : Bt w va x m1) (hb : Bt w vb y m2) (hn : n ≤ 1000) (hxy : x * y < 2 ^ n) :
    Calls Tryz.prog 137 #[va, vb, .int .i64 (n : Int)] w fun e w' => ∃ sa cap, e = .returned (.slice sa n cap) ∧ w'.ownsRow w.heap.size 3 1 (.slice sa n cap) n (i64s (bitsL (x * y) n)) ∧ Below w.heap.size w w' := by
  obtain ⟨sa', ca', rfl⟩ := ha.1.form
  obtain ⟨sb', cb', rfl⟩ := hb.1.form
  have hm2 := hb.2.2
  have HA := Lib.hid ha; have HV := Lib.hid hb; have HXY := Lib.hid hxy; clear ha hb hxy
  go_enter Tryz.func137, Tryz.ntmps137
  go_wp2_with fail
  refine (of_any _ 0 n (by decide) hn).mono ?_
  rintro e w1 ⟨s1, c1, rfl, hown1, hb1⟩
  have HO1 := Lib.hid hown1; have HB1 := Lib.hid hb1; clear hown1 hb1
  go_wp2
  go_loopw [7, 8] (fun u i wr => ∃ (k : Nat) (sa : Option Addr) (cap : Nat), k ≤ m2 ∧ i = .int .i64 k ∧ u = .slice sa n cap ∧ Hid (wr.ownsRow w.heap.size 3 1 (.slice sa n cap) n (i64s (bitsL (x * (y % 2 ^ k)) n))) ∧ Hid (Below w.heap.size w wr)) (fun _ i _ => m2 - (intOf i).toNat)
  case atStart =>
    refine ⟨0, s1, c1, Nat.zero_le _, rfl, rfl, ?_, HB1⟩
    show World.ownsRow _ _ _ _ _ _ (i64s (bitsL (x * (y % 2 ^ 0)) n))
    rw [Nat.pow_zero, Nat.mod_one, Nat.mul_zero]
    exact HO1.out
  case round =>
    obtain ⟨k, sa, cap, hk, rfl, rfl, HO, HB⟩ := hrel
    by_cases hlt : k < m2
    · obtain ⟨b, off, hsb, hc⟩ := (HV.out.1.below HB.out).at (by omega)
      subst hsb
      have cx := hc k _ (i64s_at (bitsL y m2) k (by rw [bitsL_len]; exact hlt))
      rw [bitsL_get _ _ _ hlt] at cx
      have hms := mod_succ y k
      have hb := bit_lt y k
      have hle := @le_of_bit y k
      generalize hu : bit y k = u at *
      by_cases h1 : u = 1
      · have hpk := hle h1
        subst h1
        have hz1 : x * 2 ^ k < 2 ^ n := Nat.lt_of_le_of_lt (Nat.mul_le_mul_left x hpk) HXY.out
        have hz2 : x * (y % 2 ^ k) < 2 ^ n := Nat.lt_of_le_of_lt (Nat.mul_le_mul_left x (Nat.mod_le _ _)) HXY.out
        have hstep : x * (y % 2 ^ k) + x * 2 ^ k = x * (y % 2 ^ (k + 1)) := by rw [hms, Nat.mul_one, Nat.mul_add]
        have q : (((1 : Nat) : Int) == 1) = true := rfl
        have HZ1 := Lib.hid hz1; have HZ2 := Lib.hid hz2; have HST := Lib.hid hstep
        clear hms hle hu hpk hz1 hz2 hstep hc
        go_wp2_with fail
        refine (shl_any _ _ x m1 k n (HA.out.below HB.out) (by omega) hn).mono ?_
        rintro e w2 ⟨s2, c2, rfl, hown2, hb2⟩
        have HO2 := Lib.hid hown2; have HB2 := Lib.hid hb2; clear hown2 hb2
        go_wp2_with fail
        refine (badd_any _ _ _ (x * (y % 2 ^ k)) (x * 2 ^ k) n n n ⟨(rd_of_row HO.out).below HB2.out, HZ2.out, hn⟩ ⟨rd_of_row HO2.out, HZ1.out, hn⟩ hn).mono ?_
        rintro e w3 ⟨s3, c3, rfl, hown3, hb3⟩
        rw [HST.out] at hown3
        have HO3 := Lib.hid (row_mono hown3 (Nat.le_trans HB.out.size HB2.out.size)); have HB3 := Lib.hid (below_two (below_two HB.out HB2.out) hb3); clear hown3 hb3
        go_wp2
        go_roundw
        case rel => exact ⟨k + 1, s3, c3, by omega, by go_num, rfl, HO3, HB3⟩
        case measure => simp [intOf]; omega
      · have hu0 : u = 0 := by omega
        subst hu0
        have hstep : x * (y % 2 ^ k) = x * (y % 2 ^ (k + 1)) := by rw [hms, Nat.mul_zero, Nat.add_zero]
        have q : (((0 : Nat) : Int) == 1) = false := rfl
        have HST := Lib.hid hstep
        clear hms hle hu hstep hc
        go_wp2
        go_roundw
        case rel => exact ⟨k + 1, sa, cap, by omega, by go_num, rfl, by rw [← HST.out]; exact HO, HB⟩
        case measure => simp [intOf]; omega
    · obtain rfl : k = m2 := by omega
      go_wp2
      go_ret
      refine ⟨sa, cap, rfl, ?_, HB.out⟩
      have := HO.out
      rw [Nat.mod_eq_of_lt HV.out.2.1] at this
      exact this

end Go.Proofs.YtcoohepkmhpdkaaGreat
