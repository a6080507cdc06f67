/-
  ReservoirUndoes: any order comes of the decisions, and of what stood there at first, that are told; of what decisions lead to, they are told, and that all stood in its place.
-/
import Derived.Test.YtcoohepkmhpdkaaGreatUndo
import Derived.Test.YtcoohepkmhpdkaaGreatResSlots
namespace Go.Proofs.YtcoohepkmhpdkaaGreat
open Go.RowKit
set_option linter.unusedVariables false

theorem order_isP (n k : Nat) (d : List Int) (hk : k ≤ n) (hd : resRight n k d) : IsP (orderL k d) ∧ (orderL k d).length = n ∧ undoAcc k (n - k) (orderL k d) [] = (d, rowL k) := by
  have hl : (orderL k d).length = n := by rw [orderL_len, hd.1]; omega
  have hb : ∀ x ∈ rowL k, 0 ≤ x ∧ x < (k : Int) := fun x hx => mem_rowL.1 hx
  obtain ⟨h1, h2⟩ := undo_of k (rowL k) (rowL_len k) (rowL_nodup k) hb (n - k) d [] hd.1 hd.2
  rw [List.append_nil] at h2
  refine ⟨isP_of h1 fun x hx => ?_, hl, h2⟩
  have := fromL_lt k (rowL k) d (rowL_len k) hb hd.2 x hx
  have h3 := hd.1
  rw [hl]
  omega

/-- what the first undoing brings -/
theorem undo_facts (n k : Nat) (p : List Int) (hk : k ≤ n) (hl : p.length = n) (hp : IsP p) :
    resRightB n k (undoAcc k (n - k) p []).1 = true ∧ isPB (undoAcc k (n - k) p []).2 = true ∧ (undoAcc k (n - k) p []).2.length = k ∧ fromR k (undoAcc k (n - k) p []).2 (undoAcc k (n - k) p []).1 = p ∧ resRight n k (undoAcc k (n - k) p []).1 := by
  obtain ⟨dd, h1, h2, h3, h4, h5, h6⟩ := undo_from k (n - k) p [] (by omega) hp
  rw [List.append_nil] at h1
  rw [h1]
  have hr : resRight n k dd := ⟨h2, fun i hi => h3 i (by omega)⟩
  refine ⟨resRightB_iff.2 hr, isPB_iff.2 h4, h5, ?_, hr⟩
  rw [← fromL_eq k _ dd h5 hr.2]
  exact h6

end Go.Proofs.YtcoohepkmhpdkaaGreat
