/-
  The references' Words, Even; Lemire and Mask at errors.
-/
import Derived.Test.YtnnaijbdimdhpaaTly6
namespace Go.Proofs.Ytnnaijbdimdhpaa
open Go.RowKit Go.Shelf
set_option linter.unusedVariables false

set_option maxRecDepth 100000 in
set_option maxHeartbeats 1000000 in
/-- whether all numbers of a list are this one, and there are so many -/
theorem refEven_rep (v : Value) (n : Nat) (c : Int) (w : World) (hr : Rd w 1 v n (u64s (List.replicate n c))) (hn : n ≤ 100000) :
    Calls Try.prog 18 #[v, .int .u64 c, .int .u64 n] w fun e w' => e = .returned (.bool true) ∧ w' = w := by
  obtain ⟨sa, cap, rfl⟩ := hr.form
  have hcap := hr.cap_le.1
  go_enter Try.func18, Try.ntmps18
  go_wp2
  go_loop [11] (fun i => ∃ k : Nat, k ≤ n ∧ i = .int .i64 k) (fun i => n - (intOf i).toNat)
  case atStart => exact ⟨0, Nat.zero_le _, rfl⟩
  case round =>
    obtain ⟨k, hk, rfl⟩ := hrel
    by_cases hlt : k < n
    · obtain ⟨b, off, rfl, hcell⟩ := hr.at (by omega)
      have hc : w.cell? ⟨b, off + k, none⟩ = some (.int .u64 c) := by
        have := hcell k _ (u64s_at (List.replicate n c) k (by simpa using hlt))
        rwa [show (List.replicate n c).getD k 0 = c by simp [List.getD, hlt]] at this
      clear hcell
      go_wp2
      go_round
      case rel => exact ⟨k + 1, by omega, by go_num⟩
      case measure => simp [intOf]; omega
    · obtain rfl : k = n := by omega
      go_wp2
      go_ret
      exact ⟨by simp, rfl⟩

/-- what is wrong with how many bits, and a limit -/
def wordsE (m n : Int) : Int := if m < 1 ∨ 12 < m then 1 else if n = 0 then 8 else if ((2 ^ m.toNat : Nat) : Int) < n then 9 else 0

set_option maxRecDepth 100000 in
set_option maxHeartbeats 1000000 in
theorem refWords_any (m n : Int) (w : World) (hn : 0 ≤ n ∧ n < 18446744073709551616) :
    Calls Try.prog 13 #[.int .i64 m, .int .u64 n] w fun e w' => e = .returned (.int .i64 (wordsE m n)) ∧ w' = w := by
  obtain ⟨E, hE⟩ : ∃ E, E = wordsE m n := ⟨_, rfl⟩
  rw [← hE]
  unfold wordsE at hE
  by_cases h1 : m < 1
  · rw [if_pos (.inl h1)] at hE
    subst hE
    go_enter Try.func13, Try.ntmps13
    go_wp2
    go_ret
    exact ⟨rfl, rfl⟩
  · by_cases h2 : 12 < m
    · rw [if_pos (.inr h2)] at hE
      subst hE
      go_enter Try.func13, Try.ntmps13
      go_wp2
      go_ret
      exact ⟨rfl, rfl⟩
    · rw [if_neg (by omega)] at hE
      obtain ⟨k, rfl⟩ : ∃ k : Nat, m = k := ⟨m.toNat, by omega⟩
      obtain ⟨N, hN⟩ : ∃ N, N = 2 ^ k := ⟨_, rfl⟩
      have hp := power_any k w (by omega)
      rw [Int.toNat_natCast] at hE
      rw [← hN] at hE hp
      clear hN
      by_cases h3 : n = 0
      · subst h3
        rw [if_pos rfl] at hE
        subst hE
        go_enter Try.func13, Try.ntmps13
        go_wp2
        go_ret
        exact ⟨rfl, rfl⟩
      · rw [if_neg h3] at hE
        have h3b : (n == 0) = false := by rw [beq_eq_false_iff_ne]; exact h3
        by_cases h4 : (N : Int) < n
        · rw [if_pos h4] at hE
          subst hE
          go_enter Try.func13, Try.ntmps13
          go_wp2_with (go_at_call 17; refine hp.mono ?_; rintro e w' ⟨rfl, rfl⟩)
          go_ret
          exact ⟨rfl, rfl⟩
        · rw [if_neg h4] at hE
          subst hE
          go_enter Try.func13, Try.ntmps13
          go_wp2_with (go_at_call 17; refine hp.mono ?_; rintro e w' ⟨rfl, rfl⟩)
          go_ret
          exact ⟨rfl, rfl⟩

end Go.Proofs.Ytnnaijbdimdhpaa
