/-
  Plain mathematics of words that are not taken: how many one draw loses, and that too few words mean that one draw lost many.
-/
import Derived.Test.YtcoohepkmhpdkaaDraw
namespace Go.Proofs.Ytcoohepkmhpdkaa
set_option linter.unusedSimpArgs false

/-- how many words a draw does not take -/
def lossF (t : Nat → Bool) : List Nat → Nat
  | [] => 0
  | a :: l => if t a then 0 else lossF t l + 1
theorem lossF_le (t : Nat → Bool) : ∀ l, lossF t l ≤ l.length
  | [] => Nat.le_refl _
  | a :: l => by
    unfold lossF
    split
    · exact Nat.zero_le _
    · have := lossF_le t l
      simp only [List.length_cons]; omega
theorem lossF_yes {t : Nat → Bool} {l : List Nat} {k : Nat} (hk : k < l.length) (h : t (l.getD k 0) = true) : lossF t (l.drop k) = 0 := by
  rw [drop_cons hk]; simp only [lossF, h, if_true]
theorem lossF_no {t : Nat → Bool} {l : List Nat} {k : Nat} (hk : k < l.length) (h : t (l.getD k 0) = false) : lossF t (l.drop k) = lossF t (l.drop (k + 1)) + 1 := by
  rw [drop_cons hk]; simp only [lossF, h]; simp
theorem lossF_end {t : Nat → Bool} {l : List Nat} {k : Nat} (hk : l.length ≤ k) : lossF t (l.drop k) = 0 := by
  rw [List.drop_of_length_le hk]; rfl

/-- the greatest number of words that one draw did not take -/
def rejF (t : Nat → Nat → Bool) : List Nat → List Nat → Nat
  | [], _ => 0
  | n :: ns, l => max (lossF (fun a => t a n) l) (rejF t ns (l.drop (lossF (fun a => t a n) l + 1)))
/-- whether there are words for all draws -/
def runT (t : Nat → Nat → Bool) : List Nat → List Nat → Bool
  | [], _ => true
  | n :: ns, l => decide (lossF (fun a => t a n) l < l.length) && runT t ns (l.drop (lossF (fun a => t a n) l + 1))

theorem run_few {t : Nat → Nat → Bool} : ∀ {ns l : List Nat}, runT t ns l = false → l.length < ns.length * (rejF t ns l + 1)
  | [], l, h => by simp [runT] at h
  | n :: ns, l, h => by
    have hs := lossF_le (fun a => t a n) l
    obtain ⟨s, hse⟩ : ∃ s, s = lossF (fun a => t a n) l := ⟨_, rfl⟩
    simp only [runT, ← hse] at h
    simp only [rejF, ← hse, List.length_cons]
    rw [← hse] at hs
    by_cases hlt : s < l.length
    · rw [decide_eq_true hlt, Bool.true_and] at h
      have ih := run_few h
      rw [List.length_drop] at ih
      obtain ⟨m, hm⟩ : ∃ m, m = rejF t ns (l.drop (s + 1)) := ⟨_, rfl⟩
      rw [← hm] at ih ⊢
      have h1 : ns.length * (m + 1) ≤ ns.length * (max s m + 1) := Nat.mul_le_mul_left _ (by omega)
      rw [Nat.succ_mul]
      have h2 : s ≤ max s m := Nat.le_max_left _ _
      generalize ns.length * (max s m + 1) = X at *
      generalize ns.length * (m + 1) = Y at *
      omega
    · obtain ⟨m, hm⟩ : ∃ m, m = rejF t ns (l.drop (s + 1)) := ⟨_, rfl⟩
      rw [← hm, Nat.succ_mul]
      have h2 : s ≤ max s m := Nat.le_max_left _ _
      generalize ns.length * (max s m + 1) = X at *
      omega
theorem run_law {t : Nat → Nat → Bool} {ns l : List Nat} (h : runT t ns l = false) : 0 < ns.length ∧ l.length / ns.length ≤ rejF t ns l := by
  have h1 := run_few h
  have h0 : 0 < ns.length := by
    cases ns with
    | nil => simp [runT] at h
    | cons => simp
  refine ⟨h0, ?_⟩
  have := (Nat.div_lt_iff_lt_mul h0).2 (show l.length < (rejF t ns l + 1) * ns.length by rw [Nat.mul_comm]; exact h1)
  omega

theorem takeN_loss {n : Nat} : ∀ {l : List Nat} {u : Nat}, match takeN n u l with
    | some d => lossF (fun a => tknB a n) l < l.length ∧ d.2.2 = u + lossF (fun a => tknB a n) l + 1
    | none => ¬ lossF (fun a => tknB a n) l < l.length
  | [], u => by simp [takeN, lossF]
  | a :: l, u => by
    by_cases ht : tknB a n = true
    · have e1 : takeN n u (a :: l) = some (telN a n, rnkN a n, u + 1) := by simp only [takeN, ht, if_true]
      have e2 : lossF (fun a => tknB a n) (a :: l) = 0 := by simp only [lossF, ht, if_true]
      rw [e1, e2]
      exact ⟨by simp, rfl⟩
    · have ih := takeN_loss (n := n) (l := l) (u := u + 1)
      have ht' : tknB a n = false := by simpa using ht
      simp only [takeN, lossF, ht', List.length_cons, Bool.false_eq_true, if_false]
      cases h : takeN n (u + 1) l with
      | none => rw [h] at ih; simp only at ih ⊢; omega
      | some d => rw [h] at ih; simp only at ih ⊢; exact ⟨by omega, by omega⟩
theorem rowA_run (l : List Nat) : ∀ (ns : List Nat) (acc : List Drw) (used : Nat), (rowA l ns acc used).isSome = runT tknB ns (l.drop used)
  | [], acc, used => by simp [rowA, runT]
  | n :: ns, acc, used => by
    have h := takeN_loss (n := n) (l := l.drop used) (u := 0)
    cases ht : takeN n 0 (l.drop used) with
    | none =>
      rw [ht] at h
      simp only at h
      simp only [rowA, ht, runT, decide_eq_false h, Bool.false_and]
      rfl
    | some d =>
      rw [ht] at h
      simp only at h
      simp only [rowA, ht, runT, decide_eq_true h.1, Bool.true_and]
      rw [rowA_run l ns _ _, List.drop_drop, show used + d.2.2 = used + (lossF (fun a => tknB a n) (List.drop used l) + 1) by omega]
theorem rowN_run (l ns : List Nat) : (rowN l ns).isSome = runT tknB ns l := by
  have := rowA_run l ns [] 0
  simpa [rowN] using this
theorem run_one (t : Nat → Nat → Bool) (x : Nat) (l : List Nat) : runT t [x] l = decide (lossF (fun a => t a x) l < l.length) := by simp [runT]

end Go.Proofs.Ytcoohepkmhpdkaa
