/-
  The program's Undo; the reference's From.
-/
import Derived.Test.YtnnaijbdimdhpaaSort
import Derived.Test.YtnnaijbdimdhpaaRes3
namespace Go.Proofs.Ytnnaijbdimdhpaa
open Go.RowKit
set_option linter.unusedVariables false

theorem swp_take (P : List Int) (a m : Nat) (ha : a < m + 1) (hm : m + 1 ≤ P.length) : (swp P a m).take m = (swp (P.take (m + 1)) a m).take m := by
  have hl : (P.take (m + 1)).length = m + 1 := by rw [List.length_take]; omega
  refine ext_getD (by simp [swp_len]; omega) fun i hi => ?_
  have him : i < m := by simp [swp_len] at hi; omega
  rw [getD_take _ _ _ him, getD_take _ _ _ him, swp_get _ _ _ _ (by omega) (by omega), swp_get _ _ _ _ (by omega) (by omega), getD_take _ _ _ ha, getD_take _ _ _ (by omega), getD_take _ _ _ (by omega)]
theorem idx_take (P : List Int) (m : Nat) (hm : m ≤ P.length) (hp : IsP (P.take m)) (x : Int) (h0 : 0 ≤ x) (h1 : x < (m : Int)) :
    ixN (P.take m) x < m ∧ Lib.idxOf P x = ((ixN (P.take m) x : Nat) : Int) ∧ P.getD (ixN (P.take m) x) 0 = x := by
  have hl : (P.take m).length = m := by rw [List.length_take]; omega
  obtain ⟨g1, g2, g3⟩ := ixN_spec hp h0 (by rw [hl]; exact h1)
  rw [hl] at g1
  have g4 : P.getD (ixN (P.take m) x) 0 = x := by rw [← getD_take P m _ g1]; exact g2
  refine ⟨g1, ?_, g4⟩
  have := Lib.idxFrom_hit x P (ixN (P.take m) x) 0 (by omega) g4 (fun j hj e => by
    have := nodup_inj hp.nodup (i := j) (j := ixN (P.take m) x) (by omega) (by omega) (by rw [getD_take _ _ _ (by omega), g2]; exact e)
    omega)
  simpa [Lib.idxOf] using this
theorem set_drop (D : List Int) (m : Nat) (hm : m < D.length) (x : Int) : (D.set m x).drop m = x :: D.drop (m + 1) := by
  rw [List.drop_eq_getElem_cons (by simpa using hm), List.drop_set_of_lt (by omega)]
  simp
theorem i64s_getD (l : List Int) (k : Nat) (h : k < l.length) : (i64s l)[k]? = some (.int .i64 (l.getD k 0)) := i64s_at l k h

theorem undoAcc_succ (k i : Nat) (p acc : List Int) : undoAcc k (i + 1) p acc = undoAcc k i ((swp p (ixN p ((k + i : Nat) : Int)) (k + i)).take (k + i)) (((ixN p ((k + i : Nat) : Int) : Nat) : Int) :: acc) := rfl

end Go.Proofs.Ytnnaijbdimdhpaa
