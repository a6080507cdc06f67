/-
  The program's and the references' reservoirs: what they answer, by the plain functions of Plain.
-/
import Derived.Test.YtamjhblhkabpaaaBs
namespace Go.Proofs.Ytamjhblhkabpaaa
open Go.RowKit
set_option linter.unusedVariables false

/-- A function of the program with a body is entered. -/
theorem enters {P : Program} {F : Nat} {fn : Func} (h : P.funcs[F]? = some fn) (h1 : (fn.name == "runtime.NumGoroutine") = false) (h2 : fn.body.isNone = false) (args : Array Value) (w : World) :
    (callFunc F args).run P w = .ok (.enter F args) w := by
  have h1' : ¬ fn.name = "runtime.NumGoroutine" := by simpa using h1
  have h2' : ¬ fn.body = none := by intro hx; rw [hx] at h2; cases h2
  simp [callFunc, h, h1', h2']

theorem resRight_not {n k : Nat} {d : List Int} (i : Nat) (hi : i < d.length) (h : d.getD i 0 < 0 ∨ (k : Int) + i < d.getD i 0) : resRightB n k d = false := by
  rw [Bool.eq_false_iff, Ne, resRightB_iff]
  rintro ⟨_, h2⟩
  have := h2 i hi
  omega
theorem resRight_len {n k : Nat} {d : List Int} (h : d.length ≠ n - k) : resRightB n k d = false := by
  rw [Bool.eq_false_iff, Ne, resRightB_iff]
  rintro ⟨h1, _⟩
  exact h h1
theorem resRight_all {n k : Nat} {d : List Int} (h : d.length = n - k) (hk : ∀ j, j < d.length → 0 ≤ d.getD j 0 ∧ d.getD j 0 ≤ (k : Int) + j) : resRightB n k d = true := resRightB_iff.2 ⟨h, hk⟩

/-- what right tells -/
def rightE (n k : Nat) (d : List Int) : Int := if resRightB n k d then 0 else 2

end Go.Proofs.Ytamjhblhkabpaaa
