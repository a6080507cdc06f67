/-
  subset.Set, is, Choices; the reference's Set.
-/
import Derived.Test.YtcoohepkmhpdkaaSub2
namespace Go.Proofs.Ytcoohepkmhpdkaa
open Go.RowKit
set_option linter.unusedVariables false
set_option linter.unusedSimpArgs false

theorem subcho_step {P l : List Int} {n i : Nat} (hP : P.Nodup) (hPl : P.length = n) (hi : i < l.length) (hm : ∀ z ∈ l.drop i, z ∈ P.drop i) (hl : l.Nodup) :
    ∃ a, i + a < P.length ∧ Lib.idxOf P (l.getD i 0) = (i : Int) + (a : Int) ∧ (swp P i (i + a)).Nodup ∧ (∀ z ∈ l.drop (i + 1), z ∈ (swp P i (i + a)).drop (i + 1)) ∧
      chP (P.drop i) (l.drop i) = (a : Int) :: chP ((swp P i (i + a)).drop (i + 1)) (l.drop (i + 1)) := by
  have hd := drop_cons' l i hi
  have hnd : (P.drop i).Nodup := hP.sublist (List.drop_sublist _ _)
  have hmem : l.getD i 0 ∈ P.drop i := hm _ (by rw [hd]; simp)
  obtain ⟨g1, g2, -⟩ := ixN_mem hnd hmem
  have hlen : (P.drop i).length = P.length - i := by simp
  have hia : i + ixN (P.drop i) (l.getD i 0) < P.length := by omega
  obtain ⟨k0, k1, k2⟩ := swp_cut P i _ hia
  refine ⟨ixN (P.drop i) (l.getD i 0), hia, ?_, swp_nodup hP (by omega) hia, ?_, ?_⟩
  · have := ix_eq hP hia (x := l.getD i 0) (by rw [← k2]; exact g2)
    rw [this]; omega
  · intro z hz
    rw [k1]
    have hp := cut_perm g1
    rw [g2] at hp
    have hz' : z ∈ l.drop i := by rw [hd]; exact List.mem_cons_of_mem _ hz
    rcases List.mem_cons.1 (hp.mem_iff.2 (hm z hz')) with h | h
    · have h2 : (l.drop i).Nodup := hl.sublist (List.drop_sublist _ _)
      rw [hd] at h2
      exact absurd (h ▸ hz) (List.nodup_cons.1 h2).1
    · exact h
  · rw [hd]
    simp only [chP]
    rw [k1]

end Go.Proofs.Ytcoohepkmhpdkaa
