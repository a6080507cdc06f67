/-
  The program's Then and Back; the laws ShuffleOrders, ShuffleOnly, ShuffleThen.
-/
import Derived.Test.YtkgmobneipdpeaaShuf2
import Derived.Test.YtkgmobneipdpeaaInts
namespace Go.Proofs.Ytkgmobneipdpeaa
open Go.RowKit
set_option linter.unusedVariables false

/-- what k places have undone -/
def backMid (p : List Int) (k : Nat) : List Int := (List.range p.length).map fun (x : Nat) => if ixN p (x : Int) < k then ((ixN p (x : Int) : Nat) : Int) else 0
theorem backMid_len (p : List Int) (k : Nat) : (backMid p k).length = p.length := by simp [backMid]
theorem backMid_get (p : List Int) (k x : Nat) (h : x < p.length) : (backMid p k).getD x 0 = if ixN p (x : Int) < k then ((ixN p (x : Int) : Nat) : Int) else 0 := by simp [backMid, List.getD, h]
theorem backMid_zero (p : List Int) : backMid p 0 = List.replicate p.length 0 := by
  refine ext_getD (by simp [backMid_len]) fun i hi => ?_
  rw [backMid_len] at hi
  rw [backMid_get _ _ _ hi, if_neg (by omega)]
  simp [List.getD, hi]
theorem backMid_end {p : List Int} (hp : IsP p) : backMid p p.length = backL p := by
  refine ext_getD (by simp [backMid_len, backL_len]) fun i hi => ?_
  rw [backMid_len] at hi
  rw [backMid_get _ _ _ hi, backL_get _ _ hi, if_pos (ixN_spec hp (x := (i : Int)) (by omega) (by omega)).1]
theorem backMid_succ {p : List Int} (hp : IsP p) (k a : Nat) (hk : k < p.length) (ha : p.getD k 0 = (a : Int)) (hal : a < p.length) : (backMid p k).set a (k : Int) = backMid p (k + 1) := by
  refine ext_getD (by simp [backMid_len]) fun i hi => ?_
  rw [List.length_set, backMid_len] at hi
  rw [getD_set _ _ _ _ (by rw [backMid_len]; exact hal), backMid_get _ _ _ hi, backMid_get _ _ _ hi]
  have hak : ixN p (a : Int) = k := ixN_eq hp.nodup hk ha
  by_cases hai : a = i
  · subst hai
    rw [if_pos rfl, hak, if_pos (by omega)]
  · rw [if_neg hai]
    have h2 := (ixN_spec hp (x := (i : Int)) (by omega) (by omega)).2.1
    have h3 : ixN p (i : Int) ≠ k := fun e => by rw [e, ha] at h2; omega
    by_cases h4 : ixN p (i : Int) < k
    · rw [if_pos h4, if_pos (by omega)]
    · rw [if_neg h4, if_neg (by omega)]

theorem shr3 : shRight [0, 0, 0] := shRightB_iff.1 (by decide)

set_option maxRecDepth 100000 in
set_option maxHeartbeats 2000000 in
theorem awake40 (w : World) : Calls Try.prog 26 #[] w fun e w' => e = .returned (.bool true) ∧ Below w.heap.size w w' := by
  go_enter Try.func26, Try.ntmps26
  go_wp2_with fail
  refine (perm_ok _ _ 3 [0, 0, 0] (rd_new w #[.int .i64 0, .int .i64 0, .int .i64 0] _ 3 1 rfl (by decide) _ _ rfl (by decide)) (by decide) shr3).mono ?_
  rintro e w1 ⟨sa, ca, rfl, hown, hbel⟩
  have hrd := rd_of_row hown
  have e120 : permL [0, 0, 0] = [1, 2, 0] := by decide
  rw [e120] at hown hrd
  obtain ⟨g, rfl, hg1, hg2, hg3, hcell, hfz⟩ := row_ptr hown (by decide)
  have c0 : w1.cell? ⟨g, 0, none⟩ = some (.int .i64 1) := hcell 0 _ rfl
  have c1 : w1.cell? ⟨g, 1, none⟩ = some (.int .i64 2) := hcell 1 _ rfl
  have HB := Lib.hid hbel; have HR := Lib.hid hrd
  clear hown hbel hcell hfz e120 hrd
  go_wp2_with fail
  refine (is_any _ _ 3 [1, 2, 0] HR.out (by decide)).mono ?_
  rintro e w2 ⟨rfl, hb2⟩
  have ep : isPB [1, 2, 0] = true := by decide
  rw [ep]
  have HB2 := Lib.hid hb2; clear hb2 ep
  go_wp2
  go_ret
  exact ⟨rfl, (((Below.refl _ w).alloc (Nat.le_refl _) _).trans (HB.out.mono (by simp))).trans (HB2.out.mono (by have := HB.out.size; simp at this; omega))⟩

end Go.Proofs.Ytkgmobneipdpeaa
