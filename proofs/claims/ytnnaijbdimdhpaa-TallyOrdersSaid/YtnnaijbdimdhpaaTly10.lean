/-
  What is wrong with keys: tally.two, the reference's Keys.
-/
import Derived.Test.YtnnaijbdimdhpaaTly9
namespace Go.Proofs.Ytnnaijbdimdhpaa
open Go.RowKit Go.Shelf
set_option linter.unusedVariables false

/-- what is wrong with how many bits, and two keys -/
def keysE (most m b : Int) (x y : Nat) : Int :=
  if m < 1 ∨ most < m ∨ b < 1 ∨ m < b then 1 else if 2 ^ m.toNat ≤ x ∨ 2 ^ m.toNat ≤ y then 2 else if x = y then 15 else 0

theorem keysE_zero {most m b : Int} {x y : Nat} (h : keysE most m b x y = 0) : ∃ k s : Nat, m = k ∧ b = s ∧ 1 ≤ k ∧ (k : Int) ≤ most ∧ 1 ≤ s ∧ s ≤ k ∧ x < 2 ^ k ∧ y < 2 ^ k ∧ x ≠ y := by
  unfold keysE at h
  split at h
  · omega
  · split at h
    · omega
    · split at h
      · omega
      · rename_i h1 h2 h3
        obtain ⟨k, rfl⟩ : ∃ k : Nat, m = k := ⟨m.toNat, by omega⟩
        obtain ⟨s, rfl⟩ : ∃ s : Nat, b = s := ⟨b.toNat, by omega⟩
        rw [Int.toNat_natCast] at h2
        exact ⟨k, s, rfl, rfl, by omega, by omega, by omega, by omega, by omega, by omega, h3⟩

set_option maxRecDepth 100000 in
set_option maxHeartbeats 2000000 in
theorem two_any (most m b : Int) (x y : Nat) (w : World) (hmost : most ≤ 12) (hx : x < 18446744073709551616) (hy : y < 18446744073709551616) :
    Calls Try.prog 47 #[.int .i64 most, .int .i64 m, .int .i64 b, .int .u64 x, .int .u64 y] w fun e w' => e = .returned (.int .i64 (keysE most m b x y)) ∧ w' = w := by
  obtain ⟨E, hE⟩ : ∃ E, E = keysE most m b x y := ⟨_, rfl⟩
  rw [← hE]
  unfold keysE at hE
  by_cases h1 : m < 1
  · rw [if_pos (.inl h1)] at hE
    subst hE
    go_enter Try.func47, Try.ntmps47
    go_wp2
    go_ret
    exact ⟨rfl, rfl⟩
  by_cases h2 : most < m
  · rw [if_pos (.inr (.inl h2))] at hE
    subst hE
    go_enter Try.func47, Try.ntmps47
    go_wp2
    go_ret
    exact ⟨rfl, rfl⟩
  by_cases h3 : b < 1
  · rw [if_pos (.inr (.inr (.inl h3)))] at hE
    subst hE
    go_enter Try.func47, Try.ntmps47
    go_wp2
    go_ret
    exact ⟨rfl, rfl⟩
  by_cases h4 : m < b
  · rw [if_pos (.inr (.inr (.inr h4)))] at hE
    subst hE
    go_enter Try.func47, Try.ntmps47
    go_wp2
    go_ret
    exact ⟨rfl, rfl⟩
  rw [if_neg (by omega)] at hE
  obtain ⟨k, rfl⟩ : ∃ k : Nat, m = k := ⟨m.toNat, by omega⟩
  rw [Int.toNat_natCast] at hE
  obtain ⟨N, hN⟩ : ∃ N, N = 2 ^ k := ⟨_, rfl⟩
  have hN0 : 0 < N := by rw [hN]; exact Nat.two_pow_pos k
  have hpk : (2 : Int) ^ k = (N : Int) := by rw [hN]; simp
  rw [← hN] at hE
  have hdx : (x : Int) / (2 : Int) ^ k = ((x / N : Nat) : Int) := by rw [hpk]; omega
  have hdy : (y : Int) / (2 : Int) ^ k = ((y / N : Nat) : Int) := by rw [hpk]; omega
  have hxN : x / N = 0 ↔ x < N := by rw [Nat.div_eq_zero_iff]; omega
  have hyN : y / N = 0 ↔ y < N := by rw [Nat.div_eq_zero_iff]; omega
  generalize x / N = X at *
  generalize y / N = Y at *
  by_cases h5 : N ≤ x
  · rw [if_pos (.inl h5)] at hE
    subst hE
    have hb : ((X : Int) != 0) = true := by rw [bne_iff_ne]; omega
    clear hpk hN
    go_enter Try.func47, Try.ntmps47
    go_wp2
    go_ret
    exact ⟨rfl, rfl⟩
  have hX0 : X = 0 := by omega
  subst hX0
  by_cases h6 : N ≤ y
  · rw [if_pos (.inr h6)] at hE
    subst hE
    have hb : ((Y : Int) != 0) = true := by rw [bne_iff_ne]; omega
    clear hpk hN
    go_enter Try.func47, Try.ntmps47
    go_wp2
    go_ret
    exact ⟨rfl, rfl⟩
  have hY0 : Y = 0 := by omega
  subst hY0
  rw [if_neg (by omega)] at hE
  by_cases h7 : x = y
  · rw [if_pos h7] at hE
    subst hE
    subst h7
    clear hpk hN
    go_enter Try.func47, Try.ntmps47
    go_wp2
    go_ret
    exact ⟨rfl, rfl⟩
  · rw [if_neg h7] at hE
    subst hE
    have hb : ((x : Int) == (y : Int)) = false := by rw [beq_eq_false_iff_ne]; omega
    clear hpk hN
    go_enter Try.func47, Try.ntmps47
    go_wp2
    go_ret
    exact ⟨rfl, rfl⟩

set_option maxRecDepth 100000 in
set_option maxHeartbeats 2000000 in
theorem refKeys_any (most m b : Int) (x y : Nat) (w : World) (hmost : most ≤ 12) (hx : x < 18446744073709551616) (hy : y < 18446744073709551616) :
    Calls Try.prog 20 #[.int .i64 most, .int .i64 m, .int .i64 b, .int .u64 x, .int .u64 y] w fun e w' => e = .returned (.int .i64 (keysE most m b x y)) ∧ w' = w := by
  obtain ⟨E, hE⟩ : ∃ E, E = keysE most m b x y := ⟨_, rfl⟩
  rw [← hE]
  unfold keysE at hE
  by_cases h1 : m < 1
  · rw [if_pos (.inl h1)] at hE
    subst hE
    go_enter Try.func20, Try.ntmps20
    go_wp2
    go_ret
    exact ⟨rfl, rfl⟩
  by_cases h2 : most < m
  · rw [if_pos (.inr (.inl h2))] at hE
    subst hE
    go_enter Try.func20, Try.ntmps20
    go_wp2
    go_ret
    exact ⟨rfl, rfl⟩
  by_cases h3 : b < 1
  · rw [if_pos (.inr (.inr (.inl h3)))] at hE
    subst hE
    go_enter Try.func20, Try.ntmps20
    go_wp2
    go_ret
    exact ⟨rfl, rfl⟩
  by_cases h4 : m < b
  · rw [if_pos (.inr (.inr (.inr h4)))] at hE
    subst hE
    go_enter Try.func20, Try.ntmps20
    go_wp2
    go_ret
    exact ⟨rfl, rfl⟩
  rw [if_neg (by omega)] at hE
  obtain ⟨k, rfl⟩ : ∃ k : Nat, m = k := ⟨m.toNat, by omega⟩
  rw [Int.toNat_natCast] at hE
  obtain ⟨N, hN⟩ : ∃ N, N = 2 ^ k := ⟨_, rfl⟩
  have hp := power_any k w (by omega)
  rw [← hN] at hE hp
  clear hN
  by_cases h5 : N ≤ x
  · rw [if_pos (.inl h5)] at hE
    subst hE
    go_enter Try.func20, Try.ntmps20
    go_wp2_with (go_at_call 17; refine hp.mono ?_; rintro e w' ⟨rfl, rfl⟩)
    go_ret
    exact ⟨rfl, rfl⟩
  by_cases h6 : N ≤ y
  · rw [if_pos (.inr h6)] at hE
    subst hE
    go_enter Try.func20, Try.ntmps20
    go_wp2_with (go_at_call 17; refine hp.mono ?_; rintro e w' ⟨rfl, rfl⟩)
    go_ret
    exact ⟨rfl, rfl⟩
  rw [if_neg (by omega)] at hE
  by_cases h7 : x = y
  · rw [if_pos h7] at hE
    subst hE
    subst h7
    go_enter Try.func20, Try.ntmps20
    go_wp2_with (go_at_call 17; refine hp.mono ?_; rintro e w' ⟨rfl, rfl⟩)
    go_ret
    exact ⟨rfl, rfl⟩
  · rw [if_neg h7] at hE
    subst hE
    have hb : ((x : Int) == (y : Int)) = false := by rw [beq_eq_false_iff_ne]; omega
    go_enter Try.func20, Try.ntmps20
    go_wp2_with (go_at_call 17; refine hp.mono ?_; rintro e w' ⟨rfl, rfl⟩)
    go_ret
    exact ⟨rfl, rfl⟩

end Go.Proofs.Ytnnaijbdimdhpaa
