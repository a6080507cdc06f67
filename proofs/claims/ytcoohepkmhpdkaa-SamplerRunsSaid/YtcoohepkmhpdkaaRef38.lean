/-
  The reference's bounded draws: loss, Loss, Tells, Takes.
  The reference's bounded draws: Rank.
-/
import Derived.Test.YtcoohepkmhpdkaaRef01
namespace Go.Proofs.Ytcoohepkmhpdkaa
open Go.RowKit
set_option linter.unusedVariables false

set_option maxRecDepth 100000 in
set_option maxHeartbeats 2000000 in
theorem loss_any (w : World) (n : Nat) (hn : n < 2 ^ 64) (h0 : 0 < n) :
    Calls Try.prog 85 #[.int .u64 (n : Int)] w fun e w' => ∃ sa cap, e = .returned (.slice sa 67 cap) ∧ w'.ownsRow w.heap.size 3 1 (.slice sa 67 cap) 67 (i64s (bitsL (2 ^ 64 % n) 67)) ∧ Below w.heap.size w w' := by
  have HN := Lib.hid hn; have H0 := Lib.hid h0; clear hn h0
  go_enter Try.func85, Try.ntmps85
  go_wp2_with fail
  refine (shl_any _ _ 1 1 64 66 ⟨rd_new w #[.int .i64 1] _ 1 1 rfl (by decide) _ _ rfl (by decide), by decide, by decide⟩ (by decide) (by decide)).mono ?_
  rintro e w1 ⟨s1, c1, rfl, hown1, hb1⟩
  have HO1 := Lib.hid hown1; have HB1 := Lib.hid (((Below.refl _ w).alloc (Nat.le_refl _) (.cells #[.int .i64 1] 3)).trans (hb1.mono (by simp))); clear hown1 hb1
  go_wp2_with fail
  refine (of_any _ n 64 HN.out (by decide)).mono ?_
  rintro e w2 ⟨s2, c2, rfl, hown2, hb2⟩
  have HO2 := Lib.hid hown2; have HB2 := Lib.hid hb2; clear hown2 hb2
  go_wp2_with fail
  refine (div_any _ _ _ (1 * 2 ^ 64) n 66 64 67 ⟨(rd_of_row HO1.out).below HB2.out, by decide, by decide⟩ ⟨rd_of_row HO2.out, HN.out, by decide⟩ H0.out (by decide) (by decide)).mono ?_
  rintro e w3 ⟨s3, c3, s4, c4, rfl, hown3, hown4, hb3⟩
  have HO4 := Lib.hid hown4; have HB3 := Lib.hid hb3; clear hown3 hown4 hb3
  go_wp2
  go_ret
  refine ⟨s4, c4, rfl, ?_, below_two (below_two HB1.out HB2.out) HB3.out⟩
  have := HO4.out
  rw [Nat.one_mul] at this
  exact row_mono this (Nat.le_trans HB1.out.size HB2.out.size)

set_option maxRecDepth 100000 in
set_option maxHeartbeats 2000000 in
theorem rloss_any (w : World) (n : Nat) (hn : n < 2 ^ 64) (h0 : 0 < n) :
    Calls Try.prog 66 #[.int .u64 (n : Int)] w fun e w' => e = .returned (.int .u64 ((2 ^ 64 % n : Nat) : Int)) ∧ Below w.heap.size w w' := by
  have HN := Lib.hid hn; have H0 := Lib.hid h0
  have q : ((n : Int) == 0) = false := by simp; omega
  clear hn h0
  go_enter Try.func66, Try.ntmps66
  go_wp2_with fail
  refine (loss_any _ n HN.out H0.out).mono ?_
  rintro e w1 ⟨s1, c1, rfl, hown1, hb1⟩
  have HO1 := Lib.hid hown1; have HB1 := Lib.hid hb1; clear hown1 hb1
  have hlt : 2 ^ 64 % n < 2 ^ 64 := Nat.lt_of_lt_of_le (Nat.mod_lt _ H0.out) (Nat.le_of_lt HN.out)
  have h67 : (2 : Nat) ^ 64 ≤ 2 ^ 67 := Nat.pow_le_pow_right (by decide) (by decide)
  have hres : 2 ^ 64 % n / 2 ^ 0 % 2 ^ 64 = 2 ^ 64 % n := by rw [Nat.pow_zero, Nat.div_one, Nat.mod_eq_of_lt hlt]
  have hc := word_any w1 (.slice s1 67 c1) (2 ^ 64 % n) 67 0 ⟨rd_of_row HO1.out, by omega, by decide⟩ (by decide)
  rw [hres] at hc
  generalize hL : 2 ^ 64 % n = L at hc HO1
  have HC := Lib.hid hc; have HL := Lib.hid hL
  clear hc hres hlt h67 hL
  go_wp2_with fail
  refine HC.out.mono ?_
  rintro e w2 ⟨rfl, rfl⟩
  go_wp2
  go_ret
  refine ⟨?_, HB1.out⟩
  rw [HL.out]
  rfl

theorem mul_lt128 {a b : Nat} (ha : a < 2 ^ 64) (hb : b < 2 ^ 64) : a * b < 2 ^ 128 := by
  have h : a * b < 2 ^ 64 * 2 ^ 64 := Nat.mul_lt_mul'' ha hb
  rwa [← Nat.pow_add] at h

end Go.Proofs.Ytcoohepkmhpdkaa

namespace Go.Proofs.Ytcoohepkmhpdkaa
open Go.RowKit
set_option linter.unusedVariables false

/-- the least word that is taken for v -/
def firstN (v n : Nat) : Nat := (v * 2 ^ 64 + 2 ^ 64 % n + (n - 1)) / n
/-- taken -/
def Tkn (a n : Nat) : Prop := 0 < n ∧ 2 ^ 64 % n ≤ a * n % 2 ^ 64
theorem first_le {a n : Nat} (h : Tkn a n) : firstN (a * n / 2 ^ 64) n ≤ a := by
  obtain ⟨h0, h2⟩ := h
  unfold firstN
  generalize (2 : Nat) ^ 64 = P at *
  have h1 := Nat.div_add_mod (a * n) P
  rw [Nat.mul_comm P] at h1
  generalize a * n / P = v at *
  generalize a * n % P = r at *
  generalize P % n = L at *
  have h4 : v * P + L + (n - 1) ≤ n * a + (n - 1) := by rw [Nat.mul_comm n a]; omega
  refine Nat.le_trans (Nat.div_le_div_right h4) ?_
  rw [Nat.mul_add_div h0, Nat.div_eq_of_lt (by omega)]
  exact Nat.le_refl _
theorem rank_bounds {v n L : Nat} (hv : v < n) (hn : n < 2 ^ 64) (hl : L < n) : v * 2 ^ 64 < 2 ^ 130 ∧ v * 2 ^ 64 + L < 2 ^ 130 ∧ v * 2 ^ 64 + L + (n - 1) < 2 ^ 130 ∧ L < 2 ^ 67 ∧ n - 1 < 2 ^ 64 := by
  have e : (2 : Nat) ^ 130 = 4 * (2 ^ 64 * 2 ^ 64) := rfl
  have e2 : (2 : Nat) ^ 67 = 8 * 2 ^ 64 := rfl
  have p1 : 0 < (2 : Nat) ^ 64 := Nat.two_pow_pos _
  rw [e, e2]
  generalize (2 : Nat) ^ 64 = P at *
  have h1 : (v + 1) * P ≤ P * P := Nat.mul_le_mul_right _ (by omega)
  rw [Nat.add_mul] at h1
  have h2 : P ≤ P * P := Nat.le_mul_of_pos_left _ p1
  generalize P * P = Q at *
  generalize v * P = z at *
  omega
theorem tells_lt {a n : Nat} (ha : a < 2 ^ 64) (h0 : 0 < n) : a * n / 2 ^ 64 < n := by
  refine (Nat.div_lt_iff_lt_mul (by decide)).2 ?_
  rw [Nat.mul_comm n]
  exact Nat.mul_lt_mul_of_pos_right ha h0

end Go.Proofs.Ytcoohepkmhpdkaa
