/-
  The reference's Perm; the program's Then and Back.
-/
import Derived.Test.YtcoohepkmhpdkaaShuf
namespace Go.Proofs.Ytcoohepkmhpdkaa
open Go.RowKit
set_option linter.unusedVariables false

theorem permR_ref (R c Bk : List Int) (m a : Nat) (hR : R.length = m + 1) (ha : a < m + 1) (hc : c.getD m 0 = (a : Int)) :
    permR m ((R.set a (R.getD m 0)).take m) c ++ (Bk ++ [R.getD a 0]).reverse = permR (m + 1) R c ++ Bk.reverse := by
  have e : (R.set a (R.getD m 0)).take m = (swp R m a).take m := by
    refine ext_getD (by simp [swp_len]) fun i hi => ?_
    have him : i < m := by simp at hi; omega
    rw [getD_take _ _ _ him, getD_take _ _ _ him, getD_set _ _ _ _ (by omega), swp_get _ _ _ _ (by omega) (by omega)]
    by_cases h : a = i
    · rw [if_pos h, if_pos h.symm]
    · rw [if_neg h, if_neg (fun h' => h h'.symm), if_neg (by omega)]
  simp only [permR]
  rw [hc, Int.toNat_natCast, e, List.reverse_append, List.append_assoc]
  rfl
theorem drop_rev (l : List Int) (m : Nat) (h : m < l.length) : (l.drop (m + 1)).reverse ++ [l.getD m 0] = (l.drop m).reverse := by
  rw [List.drop_eq_getElem_cons h, List.reverse_cons]
  simp [List.getD, List.getElem?_eq_getElem h]

end Go.Proofs.Ytcoohepkmhpdkaa
