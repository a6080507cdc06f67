/-
  The references' rows of bits: Word, Mul.
-/
import Derived.Test.YtcoohepkmhpdkaaGreatRef01c
namespace Go.Proofs.YtcoohepkmhpdkaaGreat
open Go.RowKit
set_option linter.unusedVariables false

theorem word_step (X j : Nat) : X % 2 ^ (j + 1) = 2 * (X / 2 % 2 ^ j) + X % 2 := by
  rw [Nat.pow_succ, Nat.mul_comm, Nat.mod_mul]; omega

set_option maxRecDepth 100000 in
set_option maxHeartbeats 2000000 in
theorem word_any (w : World) (v : Value) (x m f : Nat) (h : Bt w v x m) (hf : f ≤ 1000) :
    Calls Tryz.prog 113 #[v, .int .i64 (f : Int)] w fun e w' => e = .returned (.int .u64 ((x / 2 ^ f % 2 ^ 64 : Nat) : Int)) ∧ w = w' := by
  obtain ⟨sv, cv, rfl⟩ := h.1.form
  have HV := Lib.hid h
  have hm := h.2.2
  clear h
  go_enter Tryz.func113, Tryz.ntmps113
  go_wp2
  go_loop [5, 6] (fun c i => ∃ (k r : Nat), k ≤ 64 ∧ i = .int .i64 ((k : Int) - 1) ∧ c = .int .u64 (r : Int) ∧ Hid (r = x / 2 ^ (f + k) % 2 ^ (64 - k))) (fun _ i => (intOf i + 1).toNat)
  case atStart => exact ⟨64, 0, Nat.le_refl _, rfl, rfl, by show 0 = _; simp [Nat.mod_one]⟩
  case round =>
    obtain ⟨k, r, hk, rfl, rfl, HR⟩ := hrel
    by_cases hlt : 0 < k
    · obtain ⟨k, rfl⟩ : ∃ k', k = k' + 1 := ⟨k - 1, by omega⟩
      have e1 : (((k + 1 : Nat) : Int) - 1) = (k : Int) := by omega
      rw [e1]
      have hr63 : r ≤ 9223372036854775807 := by
        have h1 : r < 2 ^ (64 - (k + 1)) := by rw [HR.out]; exact Nat.mod_lt _ (pow_pos2 _)
        have h2 : 2 ^ (64 - (k + 1)) ≤ 2 ^ 63 := Nat.pow_le_pow_right (by decide) (by omega)
        have h3 : (2 : Nat) ^ 63 = 9223372036854775808 := by decide
        omega
      have hstep : x / 2 ^ (f + k) % 2 ^ (64 - k) = 2 * r + bit x (f + k) := by
        have h1 : 64 - k = (64 - (k + 1)) + 1 := by omega
        rw [h1, word_step, HR.out]
        have h2 : x / 2 ^ (f + (k + 1)) = x / 2 ^ (f + k) / 2 := by
          rw [show f + (k + 1) = f + k + 1 by omega, Nat.pow_succ, Nat.div_div_eq_div_mul]
        rw [h2]; rfl
      have hk0 : (0 : Int) ≤ (k : Int) := by omega
      have hb := bit_lt x (f + k)
      by_cases hfm : f + k < m
      · obtain ⟨b, off, rfl, hc⟩ := HV.out.1.at (by omega)
        have cx := hc (f + k) _ (i64s_at (bitsL x m) (f + k) (by rw [bitsL_len]; exact hfm))
        rw [bitsL_get _ _ _ hfm] at cx
        have hfm' : (f : Int) + (k : Int) < (m : Int) := by omega
        have hfk0 : (0 : Int) ≤ (f : Int) + (k : Int) := by omega
        generalize hu : bit x (f + k) = u at *
        have HST := Lib.hid hstep
        clear hc hu hstep e1
        go_wp2
        go_round
        case rel => exact ⟨k, 2 * r + u, by omega, rfl, by go_num, HST.out.symm⟩
        case measure => simp [intOf]; try omega
      · have hfm' : ¬ (f : Int) + (k : Int) < (m : Int) := by omega
        have hz := bit_big HV.out.2.1 (i := f + k) (by omega)
        rw [hz] at hstep
        have HST := Lib.hid hstep
        clear hstep e1 hz hb
        go_wp2
        go_round
        case rel => exact ⟨k, 2 * r, by omega, rfl, by go_num, HST.out.symm⟩
        case measure => simp [intOf]; try omega
    · obtain rfl : k = 0 := by omega
      have hle : ¬ (0 : Int) ≤ ((0 : Nat) : Int) - 1 := by omega
      go_wp2
      go_ret
      have := HR.out
      rw [Nat.add_zero, Nat.sub_zero] at this
      exact ⟨ret_int (by rw [this]; simp), rfl⟩

end Go.Proofs.YtcoohepkmhpdkaaGreat
