/-
  The reference's bounded draws: loss, Loss, Tells, Takes.
  The reference's bounded draws: Rank.
-/
import Derived.Test.YtcoohepkmhpdkaaGreatRef01
namespace Go.Proofs.YtcoohepkmhpdkaaGreat
open Go.RowKit
set_option linter.unusedVariables false

set_option maxRecDepth 100000 in
set_option maxHeartbeats 2000000 in
theorem loss_any (w : World) (n : Nat) (hn : n < 2 ^ 64) (h0 : 0 < n) :
    Calls Tryz.prog 111 #[.int .u64 (n : Int)] w fun e w' => ∃ sa cap, e = .returned (.slice sa 67 cap) ∧ w'.ownsRow w.heap.size 3 1 (.slice sa 67 cap) 67 (i64s (bitsL (2 ^ 64 % n) 67)) ∧ Below w.heap.size w w' := by
  have HN := Lib.hid hn; have H0 := Lib.hid h0; clear hn h0
  go_enter Tryz.func111, Tryz.ntmps111
  go_wp2_with fail
  refine (shl_any _ _ 1 1 64 66 ⟨rd_new w #[.int .i64 1] _ 1 1 rfl (by decide) _ _ rfl (by decide), by decide, by decide⟩ (by decide) (by decide)).mono ?_
  rintro e w1 ⟨s1, c1, rfl, hown1, hb1⟩
  have HO1 := Lib.hid hown1; have HB1 := Lib.hid (((Below.refl _ w).alloc (Nat.le_refl _) (.cells #[.int .i64 1] 3)).trans (hb1.mono (by simp))); clear hown1 hb1
  go_wp2_with fail
  refine (of_any _ n 64 HN.out (by decide)).mono ?_
  rintro e w2 ⟨s2, c2, rfl, hown2, hb2⟩
  have HO2 := Lib.hid hown2; have HB2 := Lib.hid hb2; clear hown2 hb2
  go_wp2_with fail
  refine (div_any _ _ _ (1 * 2 ^ 64) n 66 64 67 ⟨(rd_of_row HO1.out).below HB2.out, by decide, by decide⟩ ⟨rd_of_row HO2.out, HN.out, by decide⟩ H0.out (by decide) (by decide)).mono ?_
  rintro e w3 ⟨s3, c3, s4, c4, rfl, hown3, hown4, hb3⟩
  have HO4 := Lib.hid hown4; have HB3 := Lib.hid hb3; clear hown3 hown4 hb3
  go_wp2
  go_ret
  refine ⟨s4, c4, rfl, ?_, below_two (below_two HB1.out HB2.out) HB3.out⟩
  have := HO4.out
  rw [Nat.one_mul] at this
  exact row_mono this (Nat.le_trans HB1.out.size HB2.out.size)

set_option maxRecDepth 100000 in
set_option maxHeartbeats 2000000 in
theorem rloss_any (w : World) (n : Nat) (hn : n < 2 ^ 64) (h0 : 0 < n) :
    Calls Tryz.prog 106 #[.int .u64 (n : Int)] w fun e w' => e = .returned (.int .u64 ((2 ^ 64 % n : Nat) : Int)) ∧ Below w.heap.size w w' := by
  have HN := Lib.hid hn; have H0 := Lib.hid h0
  have q : ((n : Int) == 0) = false := by simp; omega
  clear hn h0
  go_enter Tryz.func106, Tryz.ntmps106
  go_wp2_with fail
  refine (loss_any _ n HN.out H0.out).mono ?_
  rintro e w1 ⟨s1, c1, rfl, hown1, hb1⟩
  have HO1 := Lib.hid hown1; have HB1 := Lib.hid hb1; clear hown1 hb1
  have hlt : 2 ^ 64 % n < 2 ^ 64 := Nat.lt_of_lt_of_le (Nat.mod_lt _ H0.out) (Nat.le_of_lt HN.out)
  have h67 : (2 : Nat) ^ 64 ≤ 2 ^ 67 := Nat.pow_le_pow_right (by decide) (by decide)
  have hres : 2 ^ 64 % n / 2 ^ 0 % 2 ^ 64 = 2 ^ 64 % n := by rw [Nat.pow_zero, Nat.div_one, Nat.mod_eq_of_lt hlt]
  have hc := word_any w1 (.slice s1 67 c1) (2 ^ 64 % n) 67 0 ⟨rd_of_row HO1.out, by omega, by decide⟩ (by decide)
  rw [hres] at hc
  generalize hL : 2 ^ 64 % n = L at hc HO1
  have HC := Lib.hid hc; have HL := Lib.hid hL
  clear hc hres hlt h67 hL
  go_wp2_with fail
  refine HC.out.mono ?_
  rintro e w2 ⟨rfl, rfl⟩
  go_wp2
  go_ret
  refine ⟨?_, HB1.out⟩
  rw [HL.out]
  rfl

theorem mul_lt128 {a b : Nat} (ha : a < 2 ^ 64) (hb : b < 2 ^ 64) : a * b < 2 ^ 128 := by
  have h : a * b < 2 ^ 64 * 2 ^ 64 := Nat.mul_lt_mul'' ha hb
  rwa [← Nat.pow_add] at h

set_option maxRecDepth 100000 in
set_option maxHeartbeats 2000000 in
theorem tells_any (w : World) (a n : Nat) (ha : a < 2 ^ 64) (hn : n < 2 ^ 64) :
    Calls Tryz.prog 107 #[.int .u64 (a : Int), .int .u64 (n : Int)] w fun e w' => e = .returned (.int .u64 ((a * n / 2 ^ 64 : Nat) : Int)) ∧ Below w.heap.size w w' := by
  have HA := Lib.hid ha; have HN := Lib.hid hn
  have hab := mul_lt128 ha hn
  have hq : a * n / 2 ^ 64 < 2 ^ 64 := (Nat.div_lt_iff_lt_mul (by decide)).2 (by rw [← Nat.pow_add]; exact hab)
  have hres : a * n / 2 ^ 64 % 2 ^ 64 = a * n / 2 ^ 64 := Nat.mod_eq_of_lt hq
  have HAB := Lib.hid hab; have HRES := Lib.hid hres
  clear ha hn hab hq hres
  go_enter Tryz.func107, Tryz.ntmps107
  go_wp2_with fail
  refine (of_any _ a 64 HA.out (by decide)).mono ?_
  rintro e w1 ⟨s1, c1, rfl, hown1, hb1⟩
  have HO1 := Lib.hid hown1; have HB1 := Lib.hid hb1; clear hown1 hb1
  go_wp2_with fail
  refine (of_any _ n 64 HN.out (by decide)).mono ?_
  rintro e w2 ⟨s2, c2, rfl, hown2, hb2⟩
  have HO2 := Lib.hid hown2; have HB2 := Lib.hid hb2; clear hown2 hb2
  go_wp2_with fail
  refine (mul_any _ _ _ a n 64 64 128 ⟨(rd_of_row HO1.out).below HB2.out, HA.out, by decide⟩ ⟨rd_of_row HO2.out, HN.out, by decide⟩ (by decide) HAB.out).mono ?_
  rintro e w3 ⟨s3, c3, rfl, hown3, hb3⟩
  have HO3 := Lib.hid hown3; have HB3 := Lib.hid (below_two (below_two HB1.out HB2.out) hb3); clear hown3 hb3
  have hc := word_any w3 (.slice s3 128 c3) (a * n) 128 64 ⟨rd_of_row HO3.out, HAB.out, by decide⟩ (by decide)
  rw [HRES.out] at hc
  generalize hL : a * n / 2 ^ 64 = L at hc
  have HC := Lib.hid hc; have HL := Lib.hid hL
  clear hc hL
  go_wp2_with fail
  refine HC.out.mono ?_
  rintro e w4 ⟨rfl, rfl⟩
  go_wp2
  go_ret
  refine ⟨?_, HB3.out⟩
  rw [HL.out]
  rfl

end Go.Proofs.YtcoohepkmhpdkaaGreat

namespace Go.Proofs.YtcoohepkmhpdkaaGreat
open Go.RowKit
set_option linter.unusedVariables false

/-- the least word that is taken for v -/
def firstN (v n : Nat) : Nat := (v * 2 ^ 64 + 2 ^ 64 % n + (n - 1)) / n
/-- taken -/
def Tkn (a n : Nat) : Prop := 0 < n ∧ 2 ^ 64 % n ≤ a * n % 2 ^ 64
theorem first_le {a n : Nat} (h : Tkn a n) : firstN (a * n / 2 ^ 64) n ≤ a := by
  obtain ⟨h0, h2⟩ := h
  unfold firstN
  generalize (2 : Nat) ^ 64 = P at *
  have h1 := Nat.div_add_mod (a * n) P
  rw [Nat.mul_comm P] at h1
  generalize a * n / P = v at *
  generalize a * n % P = r at *
  generalize P % n = L at *
  have h4 : v * P + L + (n - 1) ≤ n * a + (n - 1) := by rw [Nat.mul_comm n a]; omega
  refine Nat.le_trans (Nat.div_le_div_right h4) ?_
  rw [Nat.mul_add_div h0, Nat.div_eq_of_lt (by omega)]
  exact Nat.le_refl _
theorem rank_bounds {v n L : Nat} (hv : v < n) (hn : n < 2 ^ 64) (hl : L < n) : v * 2 ^ 64 < 2 ^ 130 ∧ v * 2 ^ 64 + L < 2 ^ 130 ∧ v * 2 ^ 64 + L + (n - 1) < 2 ^ 130 ∧ L < 2 ^ 67 ∧ n - 1 < 2 ^ 64 := by
  have e : (2 : Nat) ^ 130 = 4 * (2 ^ 64 * 2 ^ 64) := rfl
  have e2 : (2 : Nat) ^ 67 = 8 * 2 ^ 64 := rfl
  have p1 : 0 < (2 : Nat) ^ 64 := Nat.two_pow_pos _
  rw [e, e2]
  generalize (2 : Nat) ^ 64 = P at *
  have h1 : (v + 1) * P ≤ P * P := Nat.mul_le_mul_right _ (by omega)
  rw [Nat.add_mul] at h1
  have h2 : P ≤ P * P := Nat.le_mul_of_pos_left _ p1
  generalize P * P = Q at *
  generalize v * P = z at *
  omega
theorem tells_lt {a n : Nat} (ha : a < 2 ^ 64) (h0 : 0 < n) : a * n / 2 ^ 64 < n := by
  refine (Nat.div_lt_iff_lt_mul (by decide)).2 ?_
  rw [Nat.mul_comm n]
  exact Nat.mul_lt_mul_of_pos_right ha h0

set_option maxRecDepth 100000 in
set_option maxHeartbeats 4000000 in
theorem rrank_any (w : World) (a n : Nat) (ha : a < 2 ^ 64) (hn : n < 2 ^ 64) (ht : Tkn a n) :
    Calls Tryz.prog 64 #[.int .u64 (a : Int), .int .u64 (n : Int)] w fun e w' => e = .returned (.tuple #[.int .u64 ((a * n / 2 ^ 64 : Nat) : Int), .int .u64 ((a - firstN (a * n / 2 ^ 64) n : Nat) : Int)]) ∧ Below w.heap.size w w' := by
  have h0 := ht.1
  have hv := tells_lt ha h0
  have hf := first_le ht
  have hvb : a * n / 2 ^ 64 < 2 ^ 64 := Nat.lt_trans hv hn
  have hl : 2 ^ 64 % n < n := Nat.mod_lt _ h0
  have HT := Lib.hid (tells_any w a n ha hn)
  have HA := Lib.hid ha; have HN := Lib.hid hn; have H0 := Lib.hid h0
  generalize hV : a * n / 2 ^ 64 = v at *
  generalize hLL : 2 ^ 64 % n = L at hl
  obtain ⟨b1, b2, b3, b4, b5⟩ := rank_bounds hv hn hl
  have hfq : firstN v n = (v * 2 ^ 64 + L + (n - 1)) / n := by unfold firstN; rw [hLL]
  generalize hQ : (v * 2 ^ 64 + L + (n - 1)) / n = q at *
  have hqa : q ≤ a := by rw [← hfq]; exact hf
  have hq64 : q < 2 ^ 64 := Nat.lt_of_le_of_lt hqa ha
  have hqm : q / 2 ^ 0 % 2 ^ 64 = q := by rw [Nat.pow_zero, Nat.div_one, Nat.mod_eq_of_lt hq64]
  have hn1 : ((n : Int) - 1) = ((n - 1 : Nat) : Int) := by omega
  have ha' : a ≤ 18446744073709551615 := Nat.le_of_lt_succ ha
  have hn' : n ≤ 18446744073709551615 := Nat.le_of_lt_succ hn
  have hLL' := Lib.hid hLL; have B1 := Lib.hid b1; have B2 := Lib.hid b2; have B3 := Lib.hid b3; have B4 := Lib.hid b4; have B5 := Lib.hid b5; have HFQ := Lib.hid hfq; have HQ := Lib.hid hQ; have HQM := Lib.hid hqm; have HVB := Lib.hid hvb; have HN1 := Lib.hid hn1; have HV := Lib.hid hV; have HQ64 := Lib.hid hq64
  clear ha hn ht hv hf hvb hl hLL b1 b2 b3 b4 b5 hfq hQ hq64 hqm hV hn1
  go_enter Tryz.func64, Tryz.ntmps64
  go_wp2_with fail
  refine HT.out.mono ?_
  rintro e w1 ⟨rfl, hb1⟩
  have HB1 := Lib.hid hb1; clear hb1
  go_wp2_with fail
  refine (of_any _ v 64 HVB.out (by decide)).mono ?_
  rintro e w2 ⟨s2, c2, rfl, hown2, hb2⟩
  have HO2 := Lib.hid hown2; have HB2 := Lib.hid (below_two HB1.out hb2); clear hown2 hb2
  go_wp2_with fail
  refine (shl_any _ _ v 64 64 130 ⟨rd_of_row HO2.out, HVB.out, by decide⟩ (by decide) (by decide)).mono ?_
  rintro e w3 ⟨s3, c3, rfl, hown3, hb3⟩
  have HO3 := Lib.hid hown3; have HB3 := Lib.hid (below_two HB2.out hb3); clear hown3 hb3
  go_wp2_with fail
  refine (loss_any _ n HN.out H0.out).mono ?_
  rintro e w4 ⟨s4, c4, rfl, hown4, hb4⟩
  rw [hLL'.out] at hown4
  have HR3 := Lib.hid ((rd_of_row HO3.out).below hb4)
  have HO4 := Lib.hid hown4; have HB4 := Lib.hid (below_two HB3.out hb4); clear hown4 hb4
  go_wp2_with fail
  refine (badd_any _ _ _ (v * 2 ^ 64) _ 130 67 130 ⟨HR3.out, B1.out, by decide⟩ ⟨rd_of_row HO4.out, B4.out, by decide⟩ (by decide)).mono ?_
  rintro e w5 ⟨s5, c5, rfl, hown5, hb5⟩
  have HO5 := Lib.hid hown5; have HB5 := Lib.hid (below_two HB4.out hb5); clear hown5 hb5
  go_wp2_with fail
  rw [HN1.out]
  refine (of_any _ (n - 1) 64 B5.out (by decide)).mono ?_
  rintro e w6 ⟨s6, c6, rfl, hown6, hb6⟩
  have HR5 := Lib.hid ((rd_of_row HO5.out).below hb6)
  have HO6 := Lib.hid hown6; have HB6 := Lib.hid (below_two HB5.out hb6); clear hown6 hb6
  go_wp2_with fail
  refine (badd_any _ _ _ _ (n - 1) 130 64 130 ⟨HR5.out, B2.out, by decide⟩ ⟨rd_of_row HO6.out, B5.out, by decide⟩ (by decide)).mono ?_
  rintro e w7 ⟨s7, c7, rfl, hown7, hb7⟩
  have HO7 := Lib.hid hown7; have HB7 := Lib.hid (below_two HB6.out hb7); clear hown7 hb7
  go_wp2_with fail
  refine (of_any _ n 64 HN.out (by decide)).mono ?_
  rintro e w8 ⟨s8, c8, rfl, hown8, hb8⟩
  have HR7 := Lib.hid ((rd_of_row HO7.out).below hb8)
  have HO8 := Lib.hid hown8; have HB8 := Lib.hid (below_two HB7.out hb8); clear hown8 hb8
  go_wp2_with fail
  refine (div_any _ _ _ _ n 130 64 131 ⟨HR7.out, B3.out, by decide⟩ ⟨rd_of_row HO8.out, HN.out, by decide⟩ H0.out (by decide) (by decide)).mono ?_
  rintro e w9 ⟨s9, c9, s10, c10, rfl, hown9, hown10, hb9⟩
  rw [HQ.out] at hown9
  have HO9 := Lib.hid hown9; have HB9 := Lib.hid (below_two HB8.out hb9); clear hown9 hown10 hb9
  have hc := word_any w9 (.slice s9 130 c9) q 130 0 ⟨rd_of_row HO9.out, Nat.lt_trans HQ64.out (by decide), by decide⟩ (by decide)
  rw [HQM.out] at hc
  have HC := Lib.hid hc; clear hc
  go_wp2_with fail
  refine HC.out.mono ?_
  rintro e w10 ⟨rfl, rfl⟩
  have hsub : ((a : Int) - (q : Int)) = ((a - q : Nat) : Int) := by omega
  have HSUB := Lib.hid hsub; clear hsub
  go_wp2
  go_ret2
  refine ⟨?_, HB9.out⟩
  rw [HFQ.out, ← HSUB.out]
  rfl

end Go.Proofs.YtcoohepkmhpdkaaGreat
