/-
  The law HandlesOnce.
-/
import Derived.Test.YtamjhblhkabpaaaHand2
import Derived.Test.YtamjhblhkabpaaaBs
namespace Go.Proofs.Ytamjhblhkabpaaa
open Go.RowKit
set_option linter.unusedVariables false

/-- what is done with a table -/
abbrev Opp := Int × Int × Int
def op3 (p : Opp) : List Value := [.int .i64 p.1, .int .u64 p.2.1, .int .i64 p.2.2]
def opC : List Opp → List Value
  | [] => []
  | p :: ps => op3 p ++ opC ps
theorem opC_len : ∀ (ps : List Opp), (opC ps).length = ps.length * 3
  | [] => rfl
  | p :: ps => by simp only [opC, op3, List.length_append, opC_len ps, List.length_cons, List.length_nil]; omega
theorem opC_at : ∀ (ps : List Opp) (i : Nat), i < ps.length → (opC ps)[i * 3]? = some (.int .i64 (ps.getD i (0, 0, 0)).1) ∧ (opC ps)[i * 3 + 1]? = some (.int .u64 (ps.getD i (0, 0, 0)).2.1) ∧ (opC ps)[i * 3 + 2]? = some (.int .i64 (ps.getD i (0, 0, 0)).2.2)
  | [], i, h => by simp at h
  | p :: ps, 0, _ => ⟨rfl, rfl, rfl⟩
  | p :: ps, i + 1, h => by
    have e : ∀ j, (opC (p :: ps))[(i + 1) * 3 + j]? = (opC ps)[i * 3 + j]? := fun j => by
      have : (i + 1) * 3 + j = 3 + (i * 3 + j) := by omega
      rw [this]
      simp only [opC, op3]
      rw [List.getElem?_append_right (by simp)]
      simp
    have g := opC_at ps i (by simpa using h)
    have e0 := e 0
    rw [Nat.add_zero, Nat.add_zero] at e0
    rw [e0, e 1, e 2]
    simpa using g
/-- handles fit their kind -/
def OpsOk (ps : List Opp) : Prop := ∀ i, i < ps.length → 0 ≤ (ps.getD i (0, 0, 0)).2.1 ∧ (ps.getD i (0, 0, 0)).2.1 ≤ 18446744073709551615

/-- what was told is of what was put -/
def Told (L : List Int) (ps : List Plc) : Prop := ∀ h ∈ L, ∃ i : Nat, ∃ t : Int, i < ps.length ∧ t ≤ (ps.getD i plZ).2.1 ∧ h = 16 * t + (i : Int)
theorem told_new {L : List Int} {ps : List Plc} (h : Told L ps) (hR : ps.length ≤ 16) {i : Nat} (hi : i < ps.length) : ∀ x ∈ L, x ≠ 16 * ((ps.getD i plZ).2.1 + 1) + (i : Int) := by
  intro x hx e
  obtain ⟨j, t, hj, ht, rfl⟩ := h x hx
  have : i = j := by omega
  subst this
  omega
theorem told_mono {L : List Int} {ps qs : List Plc} (h : Told L ps) (hl : qs.length = ps.length) (ht : ∀ i, i < ps.length → (ps.getD i plZ).2.1 ≤ (qs.getD i plZ).2.1) : Told L qs := by
  intro x hx
  obtain ⟨j, t, hj, h1, h2⟩ := h x hx
  exact ⟨j, t, by omega, by have := ht j hj; omega, h2⟩
theorem set_getD (ps : List Plc) (i j : Nat) (q : Plc) (hi : i < ps.length) : (ps.set i q).getD j plZ = if i = j then q else ps.getD j plZ := by
  simp only [List.getD, List.getElem?_set]
  split
  · rfl
  · rfl
theorem few_set {T : Int} {ps : List Plc} (h : Few T ps) {i : Nat} (hi : i < ps.length) (q : Plc) (h0 : 0 ≤ q.2.1) (h1 : q.2.1 ≤ T + 1) : Few (T + 1) (ps.set i q) := by
  intro j hj
  rw [List.length_set] at hj
  rw [set_getD _ _ _ _ hi]
  by_cases hij : i = j
  · rw [if_pos hij]; exact ⟨h0, h1⟩
  · rw [if_neg hij]; have := h j hj; omega

theorem getD_mem' (l : List Int) (i : Nat) (h : i < l.length) : l.getD i 0 ∈ l := by
  simp [List.getD, List.getElem?_eq_getElem h]
theorem exists_not (L : List Int) : ∀ q, ∃ H : Int, ∀ s, s < q → L.getD s 0 ≠ H := by
  have key : ∀ q, ∃ H : Int, ∀ s, s < q → L.getD s 0 < H := by
    intro q
    induction q with
    | zero => exact ⟨0, fun s hs => by omega⟩
    | succ q ih =>
      obtain ⟨H, hH⟩ := ih
      refine ⟨max H (L.getD q 0 + 1), fun s hs => ?_⟩
      by_cases h : s = q
      · subst h; omega
      · have := hH s (by omega); omega
  intro q
  obtain ⟨H, hH⟩ := key q
  exact ⟨H, fun s hs => by have := hH s hs; omega⟩

end Go.Proofs.Ytamjhblhkabpaaa
