/-
  Plain mathematics of orders: lists that hold 0 .. n-1 once each; exchanges; what undoes a reservoir's order.
-/
import Derived.Test.YtcoohepkmhpdkaaGreatPlain
import Derived.Lib.Slices
namespace Go.Proofs.YtcoohepkmhpdkaaGreat

theorem getD_append_left (l m : List Int) (i : Nat) (h : i < l.length) : (l ++ m).getD i 0 = l.getD i 0 := by
  simp [List.getD, List.getElem?_append_left h]
theorem getD_snoc (l : List Int) (x : Int) : (l ++ [x]).getD l.length 0 = x := by simp [List.getD]
theorem getD_mem (l : List Int) (i : Nat) (h : i < l.length) : l.getD i 0 ∈ l := by
  simp [List.getD, List.getElem?_eq_getElem h]
theorem mem_getD {l : List Int} {x : Int} (h : x ∈ l) : ∃ i, i < l.length ∧ l.getD i 0 = x := by
  obtain ⟨i, hi, rfl⟩ := List.mem_iff_getElem.1 h
  exact ⟨i, hi, by simp [List.getD, List.getElem?_eq_getElem hi]⟩
theorem ext_getD {a b : List Int} (h : a.length = b.length) (hk : ∀ i, i < a.length → a.getD i 0 = b.getD i 0) : a = b := by
  refine List.ext_getElem h fun i h1 h2 => ?_
  have := hk i h1
  simpa [List.getD, List.getElem?_eq_getElem h1, List.getElem?_eq_getElem h2] using this
theorem getD_take (l : List Int) (k i : Nat) (h : i < k) : (l.take k).getD i 0 = l.getD i 0 := by
  simp [List.getD, h]
theorem take_last {l : List Int} {m : Nat} (h : l.length = m + 1) : l.take m ++ [l.getD m 0] = l := by
  refine ext_getD (by simp; omega) fun i hi => ?_
  have hl : (l.take m).length = m := by rw [List.length_take]; omega
  by_cases him : i < m
  · rw [getD_append_left _ _ _ (by omega), getD_take _ _ _ him]
  · obtain rfl : i = m := by simp at hi; omega
    have := getD_snoc (l.take i) (l.getD i 0)
    rwa [hl] at this
theorem nodup_inj {l : List Int} (h : l.Nodup) {i j : Nat} (hi : i < l.length) (hj : j < l.length) (e : l.getD i 0 = l.getD j 0) : i = j := by
  simp only [List.getD, List.getElem?_eq_getElem hi, List.getElem?_eq_getElem hj, Option.getD_some] at e
  rcases Nat.lt_trichotomy i j with hlt | heq | hgt
  · exact absurd e (List.pairwise_iff_getElem.1 h i j hi hj hlt)
  · exact heq
  · exact absurd e.symm (List.pairwise_iff_getElem.1 h j i hj hi hgt)
theorem nodup_of_inj {l : List Int} (h : ∀ i j, i < l.length → j < l.length → l.getD i 0 = l.getD j 0 → i = j) : l.Nodup := by
  refine List.pairwise_iff_getElem.2 fun i j hi hj hlt e => ?_
  have := h i j hi hj (by simpa [List.getD, List.getElem?_eq_getElem hi, List.getElem?_eq_getElem hj] using e)
  omega

theorem mem_rowL {n : Nat} {x : Int} : x ∈ rowL n ↔ 0 ≤ x ∧ x < (n : Int) := by
  simp only [rowL, List.mem_map, List.mem_range]
  constructor
  · rintro ⟨a, ha, rfl⟩
    show 0 ≤ (a : Int) ∧ (a : Int) < (n : Int)
    omega
  · rintro ⟨h0, h1⟩
    refine ⟨x.toNat, by omega, ?_⟩
    show ((x.toNat : Nat) : Int) = x
    omega
theorem rowL_nodup (n : Nat) : (rowL n).Nodup := by
  refine nodup_of_inj fun i j hi hj e => ?_
  rw [rowL_len] at hi hj
  rw [rowL_get n i hi, rowL_get n j hj] at e
  omega

theorem bounded_len : ∀ (n : Nat) (l : List Int), l.Nodup → (∀ x ∈ l, 0 ≤ x ∧ x < (n : Int)) → l.length ≤ n
  | 0, l, _, hb => by
    cases l with
    | nil => exact Nat.le_refl _
    | cons x l => have := hb x (List.mem_cons_self ..); omega
  | n + 1, l, hn, hb => by
    by_cases hm : (n : Int) ∈ l
    · have hp := List.perm_cons_erase hm
      have hn' : ((n : Int) :: l.erase (n : Int)).Nodup := hp.nodup hn
      have := bounded_len n (l.erase (n : Int)) (List.nodup_cons.1 hn').2 (fun x hx => by
        have h1 := hb x (List.mem_of_mem_erase hx)
        have h2 : x ≠ (n : Int) := fun e => (List.nodup_cons.1 hn').1 (e ▸ hx)
        omega)
      have := hp.length_eq
      simp at this
      omega
    · have := bounded_len n l hn (fun x hx => by
        have h1 := hb x hx
        have h2 : x ≠ (n : Int) := fun e => hm (e ▸ hx)
        omega)
      omega

theorem perm_row : ∀ (n : Nat) (l : List Int), l.Nodup → (∀ x ∈ l, 0 ≤ x ∧ x < (n : Int)) → l.length = n → l.Perm (rowL n)
  | 0, l, _, _, hl => by rw [List.length_eq_zero_iff.1 hl]; exact List.Perm.refl _
  | n + 1, l, hn, hb, hl => by
    have hm : (n : Int) ∈ l := by
      refine Classical.byContradiction fun hm => ?_
      have := bounded_len n l hn (fun x hx => by
        have h1 := hb x hx
        have h2 : x ≠ (n : Int) := fun e => hm (e ▸ hx)
        omega)
      omega
    have hp := List.perm_cons_erase hm
    have hn' : ((n : Int) :: l.erase (n : Int)).Nodup := hp.nodup hn
    have hle := hp.length_eq
    simp at hle
    have := perm_row n (l.erase (n : Int)) (List.nodup_cons.1 hn').2 (fun x hx => by
      have h1 := hb x (List.mem_of_mem_erase hx)
      have h2 : x ≠ (n : Int) := fun e => (List.nodup_cons.1 hn').1 (e ▸ hx)
      omega) (by omega)
    rw [rowL_succ]
    exact hp.trans ((List.Perm.cons _ this).trans (List.perm_append_singleton _ _).symm)

/-- p is an order -/
def IsP (p : List Int) : Prop := p.Perm (rowL p.length)
instance (p : List Int) : Decidable (IsP p) := inferInstanceAs (Decidable (p.Perm (rowL p.length)))
def isPB (p : List Int) : Bool := decide (IsP p)
theorem isPB_iff {p : List Int} : isPB p = true ↔ IsP p := by simp [isPB]
theorem IsP.nodup {p : List Int} (h : IsP p) : p.Nodup := h.symm.nodup (rowL_nodup _)
theorem IsP.bound {p : List Int} (h : IsP p) {x : Int} (hx : x ∈ p) : 0 ≤ x ∧ x < (p.length : Int) := mem_rowL.1 (h.mem_iff.1 hx)
theorem IsP.get {p : List Int} (h : IsP p) {i : Nat} (hi : i < p.length) : 0 ≤ p.getD i 0 ∧ p.getD i 0 < (p.length : Int) := h.bound (getD_mem p i hi)
theorem IsP.has {p : List Int} (h : IsP p) {x : Int} (h0 : 0 ≤ x) (h1 : x < (p.length : Int)) : ∃ i, i < p.length ∧ p.getD i 0 = x := mem_getD (h.mem_iff.2 (mem_rowL.2 ⟨h0, h1⟩))
theorem isP_of {p : List Int} (hn : p.Nodup) (hb : ∀ x ∈ p, 0 ≤ x ∧ x < (p.length : Int)) : IsP p := perm_row _ p hn hb rfl
theorem isP_row (n : Nat) : IsP (rowL n) := by unfold IsP; rw [rowL_len]

/-- as the program asks it: sorted it is the row -/
theorem sort_row {p : List Int} : p.mergeSort (fun x y => decide (x ≤ y)) = rowL p.length ↔ IsP p := by
  constructor
  · intro h
    unfold IsP
    rw [← h]
    exact (List.mergeSort_perm p _).symm
  · intro h
    refine List.Perm.eq_of_pairwise (le := fun x y : Int => x ≤ y) (fun a b _ _ h1 h2 => by omega) ?_ ?_ ((List.mergeSort_perm p _).trans h)
    · have := List.pairwise_mergeSort (le := fun x y : Int => decide (x ≤ y)) (fun a b c h1 h2 => by simp at *; omega) (fun a b => by simp; omega) p
      exact this.imp (fun h => by simpa using h)
    · refine List.pairwise_iff_getElem.2 fun i j hi hj hlt => ?_
      have e : ∀ t (ht : t < (rowL p.length).length), (rowL p.length)[t] = (t : Int) := fun t ht => by
        have := rowL_get p.length t (by simpa [rowL_len] using ht)
        simpa [List.getD, List.getElem?_eq_getElem ht] using this
      rw [e i hi, e j hj]
      omega

/-- as the reference asks it: each number stands there once -/
theorem count_row {p : List Int} : (∀ i, i < p.length → p.count (i : Int) = 1) ↔ IsP p := by
  constructor
  · intro h
    have key : ∀ m, m ≤ p.length → ∃ r, p.Perm (rowL m ++ r) := by
      intro m
      induction m with
      | zero => intro _; exact ⟨p, List.Perm.refl _⟩
      | succ m ih =>
        intro hm
        obtain ⟨r, hr⟩ := ih (by omega)
        have hmem : (m : Int) ∈ p := by
          have := h m (by omega)
          exact List.count_pos_iff.1 (by omega)
        have hmr : (m : Int) ∈ r := by
          rcases List.mem_append.1 (hr.mem_iff.1 hmem) with h1 | h1
          · have := mem_rowL.1 h1; omega
          · exact h1
        refine ⟨r.erase (m : Int), hr.trans ?_⟩
        rw [rowL_succ, List.append_assoc]
        exact List.Perm.append_left _ (List.perm_cons_erase hmr)
    obtain ⟨r, hr⟩ := key p.length (Nat.le_refl _)
    have hl := hr.length_eq
    rw [List.length_append, rowL_len] at hl
    have : r = [] := List.eq_nil_of_length_eq_zero (by omega)
    subst this
    unfold IsP
    simpa using hr
  · intro h i hi
    rw [h.nodup.count, if_pos (h.mem_iff.2 (mem_rowL.2 ⟨by omega, by omega⟩))]

/-- an exchange -/
def swp (l : List Int) (i j : Nat) : List Int := (l.set i (l.getD j 0)).set j (l.getD i 0)
theorem swp_len (l : List Int) (i j : Nat) : (swp l i j).length = l.length := by simp [swp]
theorem swp_get (l : List Int) (i j t : Nat) (hi : i < l.length) (hj : j < l.length) : (swp l i j).getD t 0 = if t = j then l.getD i 0 else if t = i then l.getD j 0 else l.getD t 0 := by
  unfold swp
  rw [getD_set _ _ _ _ (by simpa using hj), getD_set _ _ _ _ hi]
  by_cases h1 : j = t
  · rw [if_pos h1, if_pos h1.symm]
  · rw [if_neg h1, if_neg (show ¬ t = j from fun h => h1 h.symm)]
    by_cases h2 : i = t
    · rw [if_pos h2, if_pos h2.symm]
    · rw [if_neg h2, if_neg (show ¬ t = i from fun h => h2 h.symm)]
theorem swp_swp (l : List Int) (i j : Nat) (hi : i < l.length) (hj : j < l.length) : swp (swp l i j) i j = l := by
  refine ext_getD (by simp [swp_len]) fun t ht => ?_
  rw [swp_get _ _ _ _ (by rw [swp_len]; exact hi) (by rw [swp_len]; exact hj), swp_get _ _ _ _ hi hj, swp_get _ _ _ _ hi hj, swp_get _ _ _ _ hi hj]
  by_cases h1 : t = j
  · subst h1
    rw [if_pos rfl]
    by_cases h2 : i = t
    · subst h2; rw [if_pos rfl]
    · rw [if_neg h2, if_pos rfl]
  · rw [if_neg h1]
    by_cases h2 : t = i
    · subst h2; rw [if_pos rfl, if_pos rfl]
    · rw [if_neg h2, if_neg h1, if_neg h2]
theorem swp_comm (l : List Int) (i j : Nat) (hi : i < l.length) (hj : j < l.length) : swp l i j = swp l j i := by
  refine ext_getD (by simp [swp_len]) fun t ht => ?_
  rw [swp_get _ _ _ _ hi hj, swp_get _ _ _ _ hj hi]
  by_cases h1 : t = j
  · by_cases h2 : t = i
    · rw [if_pos h1, if_pos h2, ← h1, ← h2]
    · rw [if_pos h1, if_neg h2, if_pos h1]
  · by_cases h2 : t = i
    · rw [if_neg h1, if_pos h2, if_pos h2]
    · rw [if_neg h1, if_neg h2, if_neg h2, if_neg h1]
theorem swp_nodup {l : List Int} (h : l.Nodup) {i j : Nat} (hi : i < l.length) (hj : j < l.length) : (swp l i j).Nodup := by
  refine nodup_of_inj fun a b ha hb e => ?_
  rw [swp_len] at ha hb
  rw [swp_get _ _ _ _ hi hj, swp_get _ _ _ _ hi hj] at e
  by_cases a1 : a = j
  · by_cases b1 : b = j
    · omega
    · rw [if_pos a1, if_neg b1] at e
      by_cases b2 : b = i
      · rw [if_pos b2] at e; have := nodup_inj h hi hj e; omega
      · rw [if_neg b2] at e; have := nodup_inj h hi hb e; omega
  · rw [if_neg a1] at e
    by_cases a2 : a = i
    · rw [if_pos a2] at e
      by_cases b1 : b = j
      · rw [if_pos b1] at e; have := nodup_inj h hj hi e; omega
      · rw [if_neg b1] at e
        by_cases b2 : b = i
        · omega
        · rw [if_neg b2] at e; have := nodup_inj h hj hb e; omega
    · rw [if_neg a2] at e
      by_cases b1 : b = j
      · rw [if_pos b1] at e; have := nodup_inj h ha hi e; omega
      · rw [if_neg b1] at e
        by_cases b2 : b = i
        · rw [if_pos b2] at e; have := nodup_inj h ha hj e; omega
        · rw [if_neg b2] at e; exact nodup_inj h ha hb e
theorem swp_mem {l : List Int} {i j : Nat} (hi : i < l.length) (hj : j < l.length) {x : Int} : x ∈ swp l i j ↔ x ∈ l := by
  have one : ∀ (l : List Int) (i j : Nat), i < l.length → j < l.length → x ∈ swp l i j → x ∈ l := by
    intro l i j hi hj h
    obtain ⟨t, ht, rfl⟩ := mem_getD h
    rw [swp_len] at ht
    rw [swp_get _ _ _ _ hi hj]
    split
    · exact getD_mem l i hi
    · split
      · exact getD_mem l j hj
      · exact getD_mem l t ht
  refine ⟨one l i j hi hj, fun h => one (swp l i j) i j (by rw [swp_len]; exact hi) (by rw [swp_len]; exact hj) (by rwa [swp_swp l i j hi hj])⟩
theorem swp_isP {l : List Int} (h : IsP l) {i j : Nat} (hi : i < l.length) (hj : j < l.length) : IsP (swp l i j) :=
  isP_of (swp_nodup h.nodup hi hj) fun x hx => by rw [swp_len]; exact h.bound ((swp_mem hi hj).1 hx)

/-- where a number stands -/
theorem ix_of {p : List Int} (h : p.Nodup) {i : Nat} (hi : i < p.length) : Lib.idxOf p (p.getD i 0) = (i : Int) := by
  have := Lib.idxFrom_hit (p.getD i 0) p i 0 hi rfl (fun j hj e => by have := nodup_inj h (by omega) hi e; omega)
  simpa [Lib.idxOf] using this
theorem ix_eq {p : List Int} (h : p.Nodup) {i : Nat} (hi : i < p.length) {x : Int} (hx : p.getD i 0 = x) : Lib.idxOf p x = (i : Int) := by
  subst hx; exact ix_of h hi
def ixN (p : List Int) (x : Int) : Nat := (Lib.idxOf p x).toNat
theorem ixN_eq {p : List Int} (h : p.Nodup) {i : Nat} (hi : i < p.length) {x : Int} (hx : p.getD i 0 = x) : ixN p x = i := by
  unfold ixN; rw [ix_eq h hi hx]; simp
theorem ixN_spec {p : List Int} (h : IsP p) {x : Int} (h0 : 0 ≤ x) (h1 : x < (p.length : Int)) : ixN p x < p.length ∧ p.getD (ixN p x) 0 = x ∧ Lib.idxOf p x = ((ixN p x : Nat) : Int) := by
  obtain ⟨i, hi, he⟩ := h.has h0 h1
  have e := ixN_eq h.nodup hi he
  rw [e]
  exact ⟨hi, he, ix_eq h.nodup hi he⟩

/-- the order that comes, if 'first' stood there at first -/
def fromL (k : Nat) (first d : List Int) : List Int := foldI (orderStep k) first d
def fromR (k : Nat) (first d : List Int) : List Int := foldI (orderRStep k) first d
theorem fromL_len (k : Nat) (first d : List Int) : (fromL k first d).length = first.length + d.length :=
  foldI_ind (orderStep k) first (fun l a => a.length = first.length + l.length) (by simp) (fun l x a h => by rw [orderStep_len, h]; simp; omega) d
theorem orderL_from (k : Nat) (d : List Int) : orderL k d = fromL k (rowL k) d := rfl

theorem step_eq (k : Nat) (out : List Int) (i : Nat) (x : Int) (ho : out.length = k + i) (h0 : 0 ≤ x) (h1 : x ≤ (k : Int) + i) : orderStep k out i x = orderRStep k out i x := by
  unfold orderStep orderRStep
  by_cases hxe : x = (k : Int) + i
  · rw [if_pos hxe]
    have hxn : x.toNat = k + i := by omega
    rw [hxn]
    have : (out ++ [(k : Int) + i]).getD (k + i) 0 = (k : Int) + i := by rw [← ho]; exact getD_snoc _ _
    rw [this, List.set_set, ← ho]
    simp
  · rw [if_neg hxe]
    have hxl : x.toNat < out.length := by omega
    rw [getD_append_left _ _ _ hxl, List.set_append_left _ _ hxl, List.set_append_left _ _ hxl, ← ho]
    simp
theorem fromL_eq (k : Nat) (first d : List Int) (hf : first.length = k) (h : ∀ i, i < d.length → 0 ≤ d.getD i 0 ∧ d.getD i 0 ≤ (k : Int) + i) : fromL k first d = fromR k first d := by
  suffices hh : ∀ n (d : List Int), d.length = n → (∀ i, i < d.length → 0 ≤ d.getD i 0 ∧ d.getD i 0 ≤ (k : Int) + i) → fromL k first d = fromR k first d from hh _ d rfl h
  intro n
  induction n with
  | zero => intro d hd _; obtain rfl := List.length_eq_zero_iff.1 hd; rfl
  | succ n ih =>
    intro d hd hp
    have hne : d ≠ [] := by rintro rfl; simp at hd
    obtain ⟨l, x, rfl⟩ : ∃ l x, d = l ++ [x] := ⟨d.dropLast, d.getLast hne, (List.dropLast_concat_getLast hne).symm⟩
    have hl : l.length = n := by simp at hd; omega
    have hx := hp l.length (by simp)
    rw [getD_snoc] at hx
    have ihl := ih l hl (fun i hi => by have := hp i (by simp; omega); rwa [getD_append_left _ _ _ hi] at this)
    have hlen := fromL_len k first l
    unfold fromL fromR at *
    rw [foldI_snoc, foldI_snoc, ← ihl]
    exact step_eq k _ _ _ (by rw [hlen, hf]) hx.1 hx.2

theorem step_swp (k : Nat) (out : List Int) (i : Nat) (x : Int) (ho : out.length = k + i) : orderStep k out i x = swp (out ++ [(k : Int) + i]) x.toNat (k + i) := by
  unfold orderStep swp
  have : (out ++ [(k : Int) + i]).getD (k + i) 0 = (k : Int) + i := by rw [← ho]; exact getD_snoc _ _
  rw [this]

theorem fromL_lt (k : Nat) (first d : List Int) (hf : first.length = k) (hb : ∀ x ∈ first, 0 ≤ x ∧ x < (k : Int)) (h : ∀ i, i < d.length → 0 ≤ d.getD i 0 ∧ d.getD i 0 ≤ (k : Int) + i) : ∀ x ∈ fromL k first d, 0 ≤ x ∧ x < (k : Int) + d.length := by
  suffices hh : ∀ n (d : List Int), d.length = n → (∀ i, i < d.length → 0 ≤ d.getD i 0 ∧ d.getD i 0 ≤ (k : Int) + i) → ∀ x ∈ fromL k first d, 0 ≤ x ∧ x < (k : Int) + d.length from hh _ d rfl h
  intro n
  induction n with
  | zero => intro d hd _ x hx; obtain rfl := List.length_eq_zero_iff.1 hd; have := hb x hx; simp; omega
  | succ n ih =>
    intro d hd hp y hy
    have hne : d ≠ [] := by rintro rfl; simp at hd
    obtain ⟨l, x, rfl⟩ : ∃ l x, d = l ++ [x] := ⟨d.dropLast, d.getLast hne, (List.dropLast_concat_getLast hne).symm⟩
    have hl : l.length = n := by simp at hd; omega
    have hx := hp l.length (by simp)
    rw [getD_snoc] at hx
    have hp' : ∀ i, i < l.length → 0 ≤ l.getD i 0 ∧ l.getD i 0 ≤ (k : Int) + i := fun i hi => by have := hp i (by simp; omega); rwa [getD_append_left _ _ _ hi] at this
    have ihl := ih l hl hp'
    have hlen := fromL_len k first l
    have e : fromL k first (l ++ [x]) = orderStep k (fromL k first l) l.length x := by unfold fromL; rw [foldI_snoc]
    rw [e, step_swp k _ _ _ (by rw [hlen, hf])] at hy
    have hm := (swp_mem (by simp [hlen, hf]; omega) (by simp [hlen, hf])).1 hy
    rcases List.mem_append.1 hm with h1 | h1
    · have := ihl y h1; simp; omega
    · simp at h1; simp; omega

/-- what undoes it: the decisions, the last one first, and what stood there -/
def undoAcc (k : Nat) : Nat → List Int → List Int → List Int × List Int
  | 0, p, acc => (acc, p)
  | i + 1, p, acc => undoAcc k i ((swp p (ixN p ((k + i : Nat) : Int)) (k + i)).take (k + i)) (((ixN p ((k + i : Nat) : Int) : Nat) : Int) :: acc)

theorem undo_from (k : Nat) : ∀ (i : Nat) (p acc : List Int), p.length = k + i → IsP p →
    ∃ dd, (undoAcc k i p acc).1 = dd ++ acc ∧ dd.length = i ∧ (∀ j, j < i → 0 ≤ dd.getD j 0 ∧ dd.getD j 0 ≤ (k : Int) + j) ∧ IsP (undoAcc k i p acc).2 ∧ (undoAcc k i p acc).2.length = k ∧ fromL k (undoAcc k i p acc).2 dd = p
  | 0, p, acc, hl, hp => ⟨[], rfl, rfl, fun j hj => by omega, hp, hl, rfl⟩
  | i + 1, p, acc, hl, hp => by
    obtain ⟨h1, h2, -⟩ := ixN_spec hp (x := ((k + i : Nat) : Int)) (by omega) (by omega)
    generalize hat : ixN p ((k + i : Nat) : Int) = a at *
    have hs : IsP (swp p a (k + i)) := swp_isP hp h1 (by omega)
    have hsl : (swp p a (k + i)).length = k + i + 1 := by rw [swp_len]; omega
    have hlast : (swp p a (k + i)).getD (k + i) 0 = ((k + i : Nat) : Int) := by rw [swp_get _ _ _ _ h1 (by omega), if_pos rfl, h2]
    have hsplit : (swp p a (k + i)).take (k + i) ++ [((k + i : Nat) : Int)] = swp p a (k + i) := by
      rw [← hlast]
      exact take_last hsl
    generalize hq : (swp p a (k + i)).take (k + i) = q at *
    have hql : q.length = k + i := by rw [← hq, List.length_take, hsl]; omega
    have hqn : (q ++ [((k + i : Nat) : Int)]).Nodup := by rw [hsplit]; exact hs.nodup
    have hqP : IsP q := by
      refine isP_of (List.nodup_append.1 hqn).1 fun x hx => ?_
      have hx1 := hs.bound (x := x) (by rw [← hsplit]; exact List.mem_append_left _ hx)
      have hx2 : x ≠ ((k + i : Nat) : Int) := fun e => (List.nodup_append.1 hqn).2.2 x hx _ (List.mem_singleton.2 rfl) e
      rw [hsl] at hx1
      rw [hql]
      omega
    obtain ⟨dd, g1, g2, g3, g4, g5, g6⟩ := undo_from k i q (((a : Nat) : Int) :: acc) hql hqP
    have hun : undoAcc k (i + 1) p acc = undoAcc k i q (((a : Nat) : Int) :: acc) := by simp only [undoAcc]; rw [hat, hq]
    rw [hun]
    refine ⟨dd ++ [((a : Nat) : Int)], by rw [g1]; simp, by simp [g2], fun j hj => ?_, g4, g5, ?_⟩
    · by_cases hji : j < i
      · rw [getD_append_left _ _ _ (by omega)]; exact g3 j hji
      · obtain rfl : j = i := by omega
        have e : (dd ++ [((a : Nat) : Int)]).getD j 0 = ((a : Nat) : Int) := by rw [← g2]; exact getD_snoc _ _
        rw [e]
        omega
    · have e : fromL k (undoAcc k i q (((a : Nat) : Int) :: acc)).2 (dd ++ [((a : Nat) : Int)]) = orderStep k (fromL k (undoAcc k i q (((a : Nat) : Int) :: acc)).2 dd) dd.length ((a : Nat) : Int) := by unfold fromL; rw [foldI_snoc]
      rw [e, g6, g2, step_swp k q i _ hql, Int.toNat_natCast]
      have hki : ((k : Int) + (i : Int)) = ((k + i : Nat) : Int) := by omega
      rw [hki, hsplit]
      exact swp_swp p a (k + i) h1 (by omega)

theorem undo_of (k : Nat) (first : List Int) (hf : first.length = k) (hfn : first.Nodup) (hb : ∀ x ∈ first, 0 ≤ x ∧ x < (k : Int)) : ∀ (n : Nat) (d acc : List Int), d.length = n → (∀ i, i < d.length → 0 ≤ d.getD i 0 ∧ d.getD i 0 ≤ (k : Int) + i) →
    (fromL k first d).Nodup ∧ undoAcc k n (fromL k first d) acc = (d ++ acc, first)
  | 0, d, acc, hd, _ => by
    obtain rfl := List.length_eq_zero_iff.1 hd
    exact ⟨hfn, rfl⟩
  | n + 1, d, acc, hd, hp => by
    have hne : d ≠ [] := by rintro rfl; simp at hd
    obtain ⟨l, x, rfl⟩ : ∃ l x, d = l ++ [x] := ⟨d.dropLast, d.getLast hne, (List.dropLast_concat_getLast hne).symm⟩
    have hl : l.length = n := by simp at hd; omega
    have hx := hp l.length (by simp)
    rw [getD_snoc] at hx
    have hp' : ∀ i, i < l.length → 0 ≤ l.getD i 0 ∧ l.getD i 0 ≤ (k : Int) + i := fun i hi => by have := hp i (by simp; omega); rwa [getD_append_left _ _ _ hi] at this
    obtain ⟨ih1, ih2⟩ := undo_of k first hf hfn hb n l (x :: acc) hl hp'
    have hlen : (fromL k first l).length = k + n := by rw [fromL_len, hf, hl]
    have hlt := fromL_lt k first l hf hb hp'
    have e : fromL k first (l ++ [x]) = orderStep k (fromL k first l) l.length x := by unfold fromL; rw [foldI_snoc]
    rw [e, hl, step_swp k _ _ _ hlen]
    generalize fromL k first l = q at *
    have hki : ((k : Int) + (n : Int)) = ((k + n : Nat) : Int) := by omega
    rw [hki]
    have hqn : (q ++ [((k + n : Nat) : Int)]).Nodup := by
      rw [List.nodup_append]
      refine ⟨ih1, by simp, fun a ha b hb e => ?_⟩
      have := hlt a ha
      simp at hb
      omega
    have hlen1 : (q ++ [((k + n : Nat) : Int)]).length = k + n + 1 := by simp [hlen]
    have hlast : (q ++ [((k + n : Nat) : Int)]).getD (k + n) 0 = ((k + n : Nat) : Int) := by rw [← hlen]; exact getD_snoc _ _
    have hsn := swp_nodup hqn (i := x.toNat) (j := k + n) (by omega) (by omega)
    refine ⟨hsn, ?_⟩
    have hix : ixN (swp (q ++ [((k + n : Nat) : Int)]) x.toNat (k + n)) ((k + n : Nat) : Int) = x.toNat := by
      refine ixN_eq hsn (by rw [swp_len]; omega) ?_
      rw [swp_get _ _ _ _ (by omega) (by omega)]
      by_cases hxe : x.toNat = k + n
      · rw [if_pos hxe, hxe, hlast]
      · rw [if_neg hxe, if_pos rfl, hlast]
    simp only [undoAcc]
    rw [hix, swp_swp _ _ _ (by omega) (by omega)]
    have ht : (q ++ [((k + n : Nat) : Int)]).take (k + n) = q := by rw [← hlen]; simp
    rw [ht]
    have hxt : ((x.toNat : Nat) : Int) = x := by omega
    rw [hxt, ih2]
    simp

end Go.Proofs.YtcoohepkmhpdkaaGreat
