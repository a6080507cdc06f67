/-
  The references Points and Poly.
-/
import Derived.Test.YtnnaijbdimdhpaaTly19
import Derived.Test.YtnnaijbdimdhpaaTly14
namespace Go.Proofs.Ytnnaijbdimdhpaa
open Go.RowKit Go.Shelf
set_option linter.unusedVariables false

set_option maxRecDepth 100000 in
set_option maxHeartbeats 2000000 in
theorem points_bad1 (p k : Int) (sa : Option Addr) (n cap : Nat) (w : World) (hn : n ≤ maxLen) (hp0 : 0 ≤ p ∧ p < 18446744073709551616) (h : ¬ p ∈ [(2 : Int), 3, 5, 7] ∨ k < 1 ∨ 4 < k ∨ n < 1 ∨ k < (n : Int)) :
    Calls Try.prog 25 #[.int .u64 p, .int .i64 k, .slice sa n cap] w fun e w' => e = .returned (.int .i64 1) ∧ w' = w := by
  have n0 : (0 : Int) ≤ (n : Int) := by omega
  have hnb : (n : Int) ≤ 9223372036854775807 := by unfold maxLen at hn; omega
  by_cases hp : p = 2 ∨ p = 3 ∨ p = 5 ∨ p = 7
  · have h' : k < 1 ∨ 4 < k ∨ n < 1 ∨ k < (n : Int) := by
      rcases h with h | h
      · exact absurd (by simpa using hp) h
      · exact h
    have hgo : ∀ P : Nat, (P = 2 ∨ P = 3 ∨ P = 5 ∨ P = 7) → Calls Try.prog 25 #[.int .u64 P, .int .i64 k, .slice sa n cap] w fun e w' => e = .returned (.int .i64 1) ∧ w' = w := by
      intro P hP
      have h2 : ((P : Int) != 2) = true ∨ P = 2 := by by_cases h : P = 2; exact .inr h; exact .inl (by rw [bne_iff_ne]; omega)
      rcases hP with rfl | rfl | rfl | rfl
      all_goals
        by_cases h1 : k < 1
        · clear h' h hp h2
          go_enter Try.func25, Try.ntmps25
          go_wp2
          go_ret
          exact ⟨rfl, rfl⟩
        by_cases h2 : 4 < k
        · clear h' h hp
          go_enter Try.func25, Try.ntmps25
          go_wp2
          go_ret
          exact ⟨rfl, rfl⟩
        by_cases h3 : n < 1
        · clear h' h hp
          obtain rfl : n = 0 := by omega
          go_enter Try.func25, Try.ntmps25
          go_wp2
          go_ret
          exact ⟨rfl, rfl⟩
        have h4 : k < (n : Int) := by omega
        clear h' h hp
        go_enter Try.func25, Try.ntmps25
        go_wp2
        go_ret
        exact ⟨rfl, rfl⟩
    rcases hp with rfl | rfl | rfl | rfl
    · exact hgo 2 (by omega)
    · exact hgo 3 (by omega)
    · exact hgo 5 (by omega)
    · exact hgo 7 (by omega)
  · have q1 : (p != 2) = true := by rw [bne_iff_ne]; omega
    have q2 : (p != 3) = true := by rw [bne_iff_ne]; omega
    have q3 : (p != 5) = true := by rw [bne_iff_ne]; omega
    have q4 : (p != 7) = true := by rw [bne_iff_ne]; omega
    clear h hp
    go_enter Try.func25, Try.ntmps25
    go_wp2
    go_ret
    exact ⟨rfl, rfl⟩

end Go.Proofs.Ytnnaijbdimdhpaa
