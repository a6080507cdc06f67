/-
  SamplerChecks: the law's walk.
-/
import Derived.Test.YtcoohepkmhpdkaaGreatAwake46
import Derived.Test.YtcoohepkmhpdkaaGreatWords
import Derived.Laws.EntriesVeiled
namespace Go.Proofs.YtcoohepkmhpdkaaGreat
open Go.RowKit
set_option linter.unusedVariables false
set_option linter.unusedSimpArgs false

theorem askL_bad {K N k : Int} {ws : List Nat} (h : askE K N k ws ≠ 0) : askL K N k ws = [] := by unfold askL; rw [if_pos h]

theorem askL_len {K N k : Int} {ws : List Nat} (h : askE K N k ws = 0) : (askL K N k ws).length ≤ 256 := by
  by_cases h12 : K = 1 ∨ K = 2
  · have h1 : ws.length = 1 := by
      by_cases hh : ws.length = 1
      · exact hh
      · simp [askE, h12, hh] at h
    simp only [askL, h, h12]
    simp [h1]
  by_cases h3 : K = 3
  · subst h3
    have hE : askE 3 N k ws = resChk N 0 := by simp [askE]
    rw [hE] at h
    obtain ⟨a, b, c, d⟩ := resChk_zero.1 h
    simp only [askL, hE, h]
    simp [dnL_len]
    omega
  by_cases h4 : K = 4
  · subst h4
    have hE : askE 4 N k ws = resChk N k := by simp [askE]
    rw [hE] at h
    obtain ⟨a, b, c, d⟩ := resChk_zero.1 h
    simp only [askL, hE, h]
    simp [dnL_len]
    omega
  by_cases h5 : K = 5
  · subst h5
    have hE : askE 5 N k ws = resChk N k := by simp [askE]
    rw [hE] at h
    obtain ⟨a, b, c, d⟩ := resChk_zero.1 h
    simp only [askL, hE, h]
    simp [upL_len]
    omega
  simp only [askL, h, h12, h3, h4, h5]
  split <;> simp

end Go.Proofs.YtcoohepkmhpdkaaGreat
