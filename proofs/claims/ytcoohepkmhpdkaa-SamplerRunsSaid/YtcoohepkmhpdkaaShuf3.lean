/-
  The program's Then and Back; the laws ShuffleOrders, ShuffleOnly, ShuffleThen.
-/
import Derived.Test.YtcoohepkmhpdkaaShuf2
import Derived.Test.YtcoohepkmhpdkaaBs
namespace Go.Proofs.Ytcoohepkmhpdkaa
open Go.RowKit
set_option linter.unusedVariables false

/-- what k places have undone -/
def backMid (p : List Int) (k : Nat) : List Int := (List.range p.length).map fun (x : Nat) => if ixN p (x : Int) < k then ((ixN p (x : Int) : Nat) : Int) else 0
theorem backMid_len (p : List Int) (k : Nat) : (backMid p k).length = p.length := by simp [backMid]
theorem backMid_get (p : List Int) (k x : Nat) (h : x < p.length) : (backMid p k).getD x 0 = if ixN p (x : Int) < k then ((ixN p (x : Int) : Nat) : Int) else 0 := by simp [backMid, List.getD, h]
theorem backMid_zero (p : List Int) : backMid p 0 = List.replicate p.length 0 := by
  refine ext_getD (by simp [backMid_len]) fun i hi => ?_
  rw [backMid_len] at hi
  rw [backMid_get _ _ _ hi, if_neg (by omega)]
  simp [List.getD, hi]
theorem backMid_end {p : List Int} (hp : IsP p) : backMid p p.length = backL p := by
  refine ext_getD (by simp [backMid_len, backL_len]) fun i hi => ?_
  rw [backMid_len] at hi
  rw [backMid_get _ _ _ hi, backL_get _ _ hi, if_pos (ixN_spec hp (x := (i : Int)) (by omega) (by omega)).1]
theorem backMid_succ {p : List Int} (hp : IsP p) (k a : Nat) (hk : k < p.length) (ha : p.getD k 0 = (a : Int)) (hal : a < p.length) : (backMid p k).set a (k : Int) = backMid p (k + 1) := by
  refine ext_getD (by simp [backMid_len]) fun i hi => ?_
  rw [List.length_set, backMid_len] at hi
  rw [getD_set _ _ _ _ (by rw [backMid_len]; exact hal), backMid_get _ _ _ hi, backMid_get _ _ _ hi]
  have hak : ixN p (a : Int) = k := ixN_eq hp.nodup hk ha
  by_cases hai : a = i
  · subst hai
    rw [if_pos rfl, hak, if_pos (by omega)]
  · rw [if_neg hai]
    have h2 := (ixN_spec hp (x := (i : Int)) (by omega) (by omega)).2.1
    have h3 : ixN p (i : Int) ≠ k := fun e => by rw [e, ha] at h2; omega
    by_cases h4 : ixN p (i : Int) < k
    · rw [if_pos h4, if_pos (by omega)]
    · rw [if_neg h4, if_neg (by omega)]

theorem shr3 : shRight [0, 0, 0] := shRightB_iff.1 (by decide)

end Go.Proofs.Ytcoohepkmhpdkaa
