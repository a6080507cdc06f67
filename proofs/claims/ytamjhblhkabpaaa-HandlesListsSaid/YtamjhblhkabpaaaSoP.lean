/-
  Sorting at most 16 distinct words: the plain side. (Own proofs: what pdqsort does to so few is insertion sort behind a few partitions.)
-/
import Derived.Test.YtamjhblhkabpaaaPl
namespace Go.Proofs.Ytamjhblhkabpaaa
set_option linter.unusedVariables false

/-- one list comes of another by a permutation of the places from a up to b -/
structure Seg (a b : Nat) (L L' : List Int) : Prop where
  perm : L'.Perm L
  out : ∀ i, i < a ∨ b ≤ i → L'.getD i 0 = L.getD i 0
  ins : ∀ i, a ≤ i → i < b → ∃ j, a ≤ j ∧ j < b ∧ L'.getD i 0 = L.getD j 0
theorem Seg.refl (a b : Nat) (L : List Int) : Seg a b L L := ⟨.refl _, fun _ _ => rfl, fun i h1 h2 => ⟨i, h1, h2, rfl⟩⟩
theorem Seg.trans {a b : Nat} {L L' L'' : List Int} (h : Seg a b L L') (k : Seg a b L' L'') : Seg a b L L'' :=
  ⟨k.perm.trans h.perm, fun i hi => (k.out i hi).trans (h.out i hi), fun i h1 h2 => by
    obtain ⟨j, j1, j2, e⟩ := k.ins i h1 h2
    obtain ⟨m, m1, m2, e'⟩ := h.ins j j1 j2
    exact ⟨m, m1, m2, e.trans e'⟩⟩
theorem Seg.wider {a b c d : Nat} {L L' : List Int} (h : Seg a b L L') (ha : c ≤ a) (hb : b ≤ d) : Seg c d L L' :=
  ⟨h.perm, fun i hi => h.out i (by omega), fun i h1 h2 => by
    by_cases hi : a ≤ i ∧ i < b
    · obtain ⟨j, j1, j2, e⟩ := h.ins i hi.1 hi.2
      exact ⟨j, by omega, by omega, e⟩
    · exact ⟨i, h1, h2, h.out i (by omega)⟩⟩
theorem Seg.len {a b : Nat} {L L' : List Int} (h : Seg a b L L') : L'.length = L.length := h.perm.length_eq
theorem Seg.nodup {a b : Nat} {L L' : List Int} (h : Seg a b L L') (hn : L.Nodup) : L'.Nodup := h.perm.symm.nodup hn
theorem swp_perm {l : List Int} (hn : l.Nodup) {i j : Nat} (hi : i < l.length) (hj : j < l.length) : (swp l i j).Perm l :=
  perm_of_mem (swp_nodup hn hi hj) hn fun x => swp_mem hi hj
theorem seg_swp {a b i j : Nat} {L : List Int} (hn : L.Nodup) (hi : a ≤ i ∧ i < b) (hj : a ≤ j ∧ j < b) (hb : b ≤ L.length) : Seg a b L (swp L i j) := by
  refine ⟨swp_perm hn (by omega) (by omega), fun t ht => ?_, fun t h1 h2 => ?_⟩
  · rw [swp_get _ _ _ _ (by omega) (by omega), if_neg (by omega), if_neg (by omega)]
  · rw [swp_get _ _ _ _ (by omega) (by omega)]
    by_cases e1 : t = j
    · exact ⟨i, hi.1, hi.2, by rw [if_pos e1]⟩
    · by_cases e2 : t = i
      · exact ⟨j, hj.1, hj.2, by rw [if_neg e1, if_pos e2]⟩
      · exact ⟨t, h1, h2, by rw [if_neg e1, if_neg e2]⟩

/-- from a up to b it rises -/
def Rise (a b : Nat) (L : List Int) : Prop := ∀ i j, a ≤ i → i < j → j < b → L.getD i 0 < L.getD j 0
/-- whatever pair does not lie in a .. b both stands right -/
def Okay (a b n : Nat) (L : List Int) : Prop := ∀ i j, i < j → j < n → (i < a ∨ b ≤ j) → L.getD i 0 < L.getD j 0
theorem okay_start (n : Nat) (L : List Int) : Okay 0 n n L := fun i j h1 h2 h3 => by omega
theorem okay_seg {a b n : Nat} {L L' : List Int} (hab : a ≤ b) (hbn : b ≤ n) (h : Okay a b n L) (k : Seg a b L L') : Okay a b n L' := by
  intro i j hij hj hc
  have key : ∀ t, t < n → ∃ s, s < n ∧ L'.getD t 0 = L.getD s 0 ∧ ((a ≤ t ∧ t < b ∧ a ≤ s ∧ s < b) ∨ ((t < a ∨ b ≤ t) ∧ s = t)) := by
    intro t ht
    by_cases hin : a ≤ t ∧ t < b
    · obtain ⟨s, s1, s2, e⟩ := k.ins t hin.1 hin.2
      exact ⟨s, by omega, e, .inl ⟨hin.1, hin.2, s1, s2⟩⟩
    · exact ⟨t, ht, k.out t (by omega), .inr ⟨by omega, rfl⟩⟩
  obtain ⟨s, s1, s2, s3⟩ := key i (by omega)
  obtain ⟨t, t1, t2, t3⟩ := key j hj
  rw [s2, t2]
  exact h s t (by omega) t1 (by omega)
/-- a partition's end -/
def Parted (a b m : Nat) (L : List Int) : Prop := (∀ i, a ≤ i → i < m → L.getD i 0 < L.getD m 0) ∧ ∀ j, m < j → j < b → L.getD m 0 < L.getD j 0
theorem okay_left {a b m n : Nat} {L L' : List Int} (hm : a ≤ m ∧ m < b) (hbn : b ≤ n) (h : Okay a b n L) (hp : Parted a b m L) (k : Seg a m L L') (hr : Rise a m L') : Okay (m + 1) b n L' := by
  have h' := okay_seg (by omega) hbn h (k.wider (Nat.le_refl a) (show m ≤ b by omega))
  intro i j hij hj hc
  by_cases c1 : i < a ∨ b ≤ j
  · exact h' i j hij hj c1
  · -- a ≤ i ≤ m, j < b
    by_cases c2 : j < m
    · exact hr i j (by omega) hij c2
    · have e2 : L'.getD m 0 = L.getD m 0 := k.out m (by omega)
      by_cases c3 : i = m
      · subst c3
        rw [e2, k.out j (by omega)]
        exact hp.2 j (by omega) (by omega)
      · obtain ⟨s, s1, s2, e⟩ := k.ins i (by omega) (by omega)
        have x1 := hp.1 s s1 s2
        rw [e]
        by_cases c4 : j = m
        · rw [c4, e2]; exact x1
        · rw [k.out j (by omega)]
          have := hp.2 j (by omega) (by omega)
          omega
theorem okay_right {a b m n : Nat} {L L' : List Int} (hm : a ≤ m ∧ m < b) (hbn : b ≤ n) (h : Okay a b n L) (hp : Parted a b m L) (k : Seg (m + 1) b L L') (hr : Rise (m + 1) b L') : Okay a m n L' := by
  have h' := okay_seg (by omega) hbn h (k.wider (show a ≤ m + 1 by omega) (Nat.le_refl b))
  intro i j hij hj hc
  by_cases c1 : i < a ∨ b ≤ j
  · exact h' i j hij hj c1
  · by_cases c2 : m + 1 ≤ i
    · exact hr i j c2 hij (by omega)
    · have e2 : L'.getD m 0 = L.getD m 0 := k.out m (by omega)
      by_cases c3 : j = m
      · subst c3
        rw [e2, k.out i (by omega)]
        exact hp.1 i (by omega) hij
      · obtain ⟨s, s1, s2, e⟩ := k.ins j (by omega) (by omega)
        have x1 := hp.2 s (by omega) s2
        rw [e]
        by_cases c4 : i = m
        · rw [c4, e2]; exact x1
        · rw [k.out i (by omega)]
          have := hp.1 i (by omega) (by omega)
          omega
theorem rise_of_okay {a b n : Nat} {L : List Int} (h : Okay a b n L) (hr : Rise a b L) : Rise 0 n L := by
  intro i j _ hij hj
  by_cases c : i < a ∨ b ≤ j
  · exact h i j hij hj c
  · exact hr i j (by omega) hij (by omega)
theorem rise_sorted {L : List Int} (h : Rise 0 L.length L) : L.Pairwise (· < ·) := by
  rw [List.pairwise_iff_getElem]
  intro i j hi hj hij
  have := h i j (Nat.zero_le _) hij hj
  simpa [List.getD, List.getElem?_eq_getElem hi, List.getElem?_eq_getElem hj] using this

end Go.Proofs.Ytamjhblhkabpaaa
