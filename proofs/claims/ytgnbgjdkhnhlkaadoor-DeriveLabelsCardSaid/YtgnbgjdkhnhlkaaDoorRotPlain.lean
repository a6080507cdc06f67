/-
  Words of 64 bits turned to the left (plain mathematics).
-/
namespace Go.Proofs.YtgnbgjdkhnhlkaaDoor

/-- 2^64 behind a name -/
def M64 : Nat := 18446744073709551616
theorem m64 : M64 = 18446744073709551616 := rfl

/-- turned to the left -/
def rotN (x k : Nat) : Nat := (x * 2 ^ k) % 18446744073709551616 + x / 2 ^ (64 - k)

theorem rot_parts (P M hi b l : Nat) (hP : 0 < P) (hM : 0 < M) (hh : hi < P) (hb : b < 2) (hl : l < M) :
    let x := (2 * hi + b) * M + l
    let y := (b * M + l) * P + hi
    (y * 2) % (2 * P * M) + y / (P * M) = l * (2 * P) + (2 * hi + b) ∧ (x * P) % (2 * P * M) + x / (2 * M) = y ∧ (x * (2 * P)) % (2 * P * M) + x / M = l * (2 * P) + (2 * hi + b) := by
  intro x y
  have hlP : l * P + hi < P * M := by
    have h1 : l * P + P ≤ M * P := by rw [← Nat.succ_mul]; exact Nat.mul_le_mul_right _ hl
    rw [Nat.mul_comm M P] at h1
    omega
  have hy : y = b * (P * M) + (l * P + hi) := by
    show (b * M + l) * P + hi = _
    rw [Nat.add_mul, Nat.mul_assoc, Nat.mul_comm M P]; omega
  refine ⟨?_, ?_, ?_⟩
  · have e1 : y / (P * M) = b := by
      rw [hy, Nat.add_comm, Nat.add_mul_div_right _ _ (Nat.mul_pos hP hM), Nat.div_eq_of_lt hlP, Nat.zero_add]
    have e2 : y * 2 % (2 * P * M) = (l * P + hi) * 2 := by
      have : y * 2 = (l * P + hi) * 2 + b * (2 * P * M) := by
        rw [hy, Nat.add_mul, Nat.mul_assoc 2 P M, Nat.mul_assoc, Nat.mul_comm (P * M) 2]; omega
      rw [this, Nat.add_mul_mod_self_right]
      exact Nat.mod_eq_of_lt (by rw [Nat.mul_assoc]; omega)
    rw [e1, e2, Nat.mul_left_comm l 2 P]; omega
  · have e1 : x / (2 * M) = hi := by
      have : x = (b * M + l) + hi * (2 * M) := by
        show (2 * hi + b) * M + l = _
        rw [Nat.add_mul, Nat.mul_comm 2 hi, Nat.mul_assoc]; omega
      rw [this, Nat.add_mul_div_right _ _ (by omega), Nat.div_eq_of_lt, Nat.zero_add]
      have : b * M ≤ 1 * M := Nat.mul_le_mul_right _ (by omega)
      omega
    have e2 : x * P % (2 * P * M) = (b * M + l) * P := by
      have : x * P = (b * M + l) * P + hi * (2 * P * M) := by
        show ((2 * hi + b) * M + l) * P = _
        have : ((2 * hi + b) * M + l) = (b * M + l) + hi * (2 * M) := by
          rw [Nat.add_mul, Nat.mul_comm 2 hi, Nat.mul_assoc]; omega
        rw [this, Nat.add_mul, Nat.mul_assoc hi, Nat.mul_assoc 2 M P, Nat.mul_comm M P, Nat.mul_assoc 2 P M]
      rw [this, Nat.add_mul_mod_self_right]
      refine Nat.mod_eq_of_lt ?_
      have h1 : b * M + l < 2 * M := by
        have : b * M ≤ 1 * M := Nat.mul_le_mul_right _ (by omega)
        omega
      have h2 := Nat.mul_lt_mul_of_pos_right h1 hP
      rwa [Nat.mul_assoc, Nat.mul_comm M P, ← Nat.mul_assoc] at h2
    rw [e1, e2]
  · have e1 : x / M = 2 * hi + b := by
      show ((2 * hi + b) * M + l) / M = _
      rw [Nat.add_comm, Nat.add_mul_div_right _ _ hM, Nat.div_eq_of_lt hl, Nat.zero_add]
    have e2 : x * (2 * P) % (2 * P * M) = l * (2 * P) := by
      have : x * (2 * P) = l * (2 * P) + (2 * hi + b) * (2 * P * M) := by
        show ((2 * hi + b) * M + l) * (2 * P) = _
        rw [Nat.add_mul, Nat.mul_assoc, Nat.mul_comm M (2 * P)]; omega
      rw [this, Nat.add_mul_mod_self_right]
      refine Nat.mod_eq_of_lt ?_
      have := Nat.mul_lt_mul_of_pos_right hl (show 0 < 2 * P by omega)
      rwa [Nat.mul_comm M] at this
    rw [e1, e2]

theorem rot_succ (x k : Nat) (hx : x < 18446744073709551616) (hk : k < 64) :
    (rotN x k * 2) % 18446744073709551616 + rotN x k / 9223372036854775808 = rotN x (k + 1) ∧ rotN x k < 18446744073709551616 := by
  obtain ⟨m, hm⟩ : ∃ m, k + m = 63 := ⟨63 - k, by omega⟩
  have hPM : 2 ^ k * 2 ^ m = 9223372036854775808 := by rw [← Nat.pow_add, hm]
  have e1 : 64 - k = m + 1 := by omega
  have e2 : 64 - (k + 1) = m := by omega
  unfold rotN
  rw [e1, e2, Nat.pow_succ 2 m, Nat.pow_succ 2 k]
  have hP : 0 < 2 ^ k := Nat.two_pow_pos k
  have hM : 0 < 2 ^ m := Nat.two_pow_pos m
  generalize 2 ^ k = P at *
  generalize 2 ^ m = M at *
  have hW : 18446744073709551616 = 2 * P * M := by rw [Nat.mul_assoc, hPM]
  have hq : x / M < 2 * P := by
    rw [Nat.div_lt_iff_lt_mul hM, ← hW]; exact hx
  have hxe : x = (2 * (x / M / 2) + x / M % 2) * M + x % M := by
    have h1 : 2 * (x / M / 2) + x / M % 2 = x / M := by omega
    rw [h1, Nat.mul_comm, Nat.div_add_mod]
  obtain ⟨p1, p2, p3⟩ := rot_parts P M (x / M / 2) (x / M % 2) (x % M) hP hM (by omega) (by omega) (Nat.mod_lt _ hM)
  rw [← hxe] at p2 p3
  rw [Nat.mul_comm M 2, Nat.mul_comm P 2, hW, ← hPM, p2, p3, p1]
  refine ⟨rfl, ?_⟩
  have h1 : x % M + 1 ≤ M := Nat.mod_lt _ hM
  have h2 : (x / M % 2 * M + x % M) + 1 ≤ 2 * M := by
    have : x / M % 2 * M ≤ 1 * M := Nat.mul_le_mul_right _ (by omega)
    omega
  have h3 := Nat.mul_le_mul_right P h2
  rw [Nat.add_mul, Nat.one_mul, Nat.mul_assoc 2 M P, Nat.mul_comm M P, ← Nat.mul_assoc] at h3
  omega
theorem rot_zero (x : Nat) (hx : x < 18446744073709551616) : rotN x 0 = x := by
  unfold rotN
  rw [Nat.pow_zero, Nat.mul_one, Nat.mod_eq_of_lt hx, Nat.sub_zero, Nat.div_eq_of_lt (by omega), Nat.add_zero]
end Go.Proofs.YtgnbgjdkhnhlkaaDoor
