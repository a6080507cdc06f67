/-
  Plain mathematics that imports nothing of the program: folds with a counter, rows, reservoirs.
  Plain mathematics of orders: lists that hold 0 .. n-1 once each; exchanges; what undoes a reservoir's order.
  Plain mathematics of numbers as rows of bits, the lowest first.
  Plain mathematics of the division of two words by one, half a word of the quotient at a time.
  Plain mathematics of the division bit by bit.
  The alias table of weights: how it is built (plain mathematics).
  Plain mathematics of shuffles: the order that choices make, the choices that make an order.
  Plain mathematics of subsets: what choices pick, the choices that pick; sets as rising lists.
-/
import Derived.Lib.Slices
import Derived.Lib.SlicesCompact
namespace Go.Proofs.Ytamjhblhkabpaaa

/-- A fold that counts. -/
def foldI {α : Type} (step : α → Nat → Int → α) (init : α) (l : List Int) : α := (l.foldl (fun (p : α × Nat) x => (step p.1 p.2 x, p.2 + 1)) (init, 0)).1
theorem foldI_cnt {α : Type} (step : α → Nat → Int → α) (l : List Int) : ∀ (init : α) (n : Nat), (l.foldl (fun (p : α × Nat) x => (step p.1 p.2 x, p.2 + 1)) (init, n)).2 = n + l.length := by
  induction l with
  | nil => intro init n; rfl
  | cons x l ih => intro init n; simp only [List.foldl_cons, ih, List.length_cons]; omega
theorem foldI_nil {α : Type} (step : α → Nat → Int → α) (init : α) : foldI step init [] = init := rfl
theorem foldI_snoc {α : Type} (step : α → Nat → Int → α) (init : α) (l : List Int) (x : Int) : foldI step init (l ++ [x]) = step (foldI step init l) l.length x := by
  unfold foldI
  rw [List.foldl_append]
  simp only [List.foldl_cons, List.foldl_nil, foldI_cnt, Nat.zero_add]
theorem foldI_take {α : Type} (step : α → Nat → Int → α) (init : α) (l : List Int) (k : Nat) (h : k < l.length) : foldI step init (l.take (k + 1)) = step (foldI step init (l.take k)) k (l.getD k 0) := by
  rw [List.take_succ_eq_append_getElem h, foldI_snoc, List.length_take, Nat.min_eq_left (by omega)]
  simp [List.getD, List.getElem?_eq_getElem h]
/-- what holds at the start and is handed on, holds at the end -/
theorem foldI_ind {α : Type} (step : α → Nat → Int → α) (init : α) (Q : List Int → α → Prop) (h0 : Q [] init) (hs : ∀ l x a, Q l a → Q (l ++ [x]) (step a l.length x)) (l : List Int) : Q l (foldI step init l) := by
  suffices h : ∀ n (l : List Int), l.length = n → Q l (foldI step init l) from h _ l rfl
  intro n
  induction n with
  | zero => intro l hl; rw [List.length_eq_zero_iff.1 hl]; exact h0
  | succ n ih =>
    intro l hl
    have hne : l ≠ [] := by rintro rfl; simp at hl
    rw [← List.dropLast_concat_getLast hne, foldI_snoc]
    exact hs _ _ _ (ih _ (by simp; omega))

/-- 0, 1, 2, .. -/
def rowL (n : Nat) : List Int := (List.range n).map Int.ofNat
theorem rowL_len (n : Nat) : (rowL n).length = n := by simp [rowL]
theorem rowL_succ (n : Nat) : rowL (n + 1) = rowL n ++ [(n : Int)] := by simp [rowL, List.range_succ]
theorem rowL_get (n i : Nat) (h : i < n) : (rowL n).getD i 0 = (i : Int) := by simp [rowL, List.getD, h]
theorem rowL_zero : rowL 0 = [] := rfl

/-- what is wrong with n items and k slots -/
def resChk (n k : Int) : Int := if n < 0 ∨ k < 0 ∨ n < k then 1 else if 256 < n then 9 else 0
theorem resChk_zero {n k : Int} : resChk n k = 0 ↔ 0 ≤ n ∧ 0 ≤ k ∧ k ≤ n ∧ n ≤ 256 := by
  unfold resChk
  split
  · omega
  · split <;> omega

/-- decisions that may be -/
def resRight (n k : Nat) (d : List Int) : Prop := d.length = n - k ∧ ∀ i, i < d.length → 0 ≤ d.getD i 0 ∧ d.getD i 0 ≤ (k : Int) + i
def resRightB (n k : Nat) (d : List Int) : Bool := decide (d.length = n - k) && (List.range d.length).all fun i => decide (0 ≤ d.getD i 0) && decide (d.getD i 0 ≤ (k : Int) + i)
theorem resRightB_iff {n k : Nat} {d : List Int} : resRightB n k d = true ↔ resRight n k d := by
  simp [resRightB, resRight]

/-- the slots, as the program fills them -/
def slotsStep (k : Nat) (out : List Int) (i : Nat) (x : Int) : List Int := if x < k then out.set x.toNat ((k : Int) + i) else out
def slotsL (k : Nat) (d : List Int) : List Int := foldI (slotsStep k) (rowL k) d
theorem slotsStep_len (k : Nat) (out : List Int) (i : Nat) (x : Int) : (slotsStep k out i x).length = out.length := by
  unfold slotsStep; split <;> simp
theorem slotsL_len (k : Nat) (d : List Int) : (slotsL k d).length = k :=
  foldI_ind (slotsStep k) (rowL k) (fun _ a => a.length = k) (rowL_len k) (fun l x a h => by rw [slotsStep_len, h]) d

/-- the order, as the program makes it: the new item behind, and then it is exchanged -/
def orderStep (k : Nat) (out : List Int) (i : Nat) (x : Int) : List Int :=
  ((out ++ [(k : Int) + i]).set x.toNat ((k : Int) + i)).set (k + i) ((out ++ [(k : Int) + i]).getD x.toNat 0)
def orderL (k : Nat) (d : List Int) : List Int := foldI (orderStep k) (rowL k) d
theorem orderStep_len (k : Nat) (out : List Int) (i : Nat) (x : Int) : (orderStep k out i x).length = out.length + 1 := by simp [orderStep]
theorem orderL_len (k : Nat) (d : List Int) : (orderL k d).length = k + d.length :=
  foldI_ind (orderStep k) (rowL k) (fun l a => a.length = k + l.length) (by simp [rowL_len]) (fun l x a h => by rw [orderStep_len, h]; simp; omega) d

/-- the references: one slot at a time; the order -/
def slotAt (k : Nat) (s : Nat) (d : List Int) : Int := foldI (fun cur i x => if x = (s : Int) then (k : Int) + i else cur) (s : Int) d
def slotsR (k : Nat) (d : List Int) : List Int := (List.range k).map fun s => slotAt k s d
def orderRStep (k : Nat) (out : List Int) (i : Nat) (x : Int) : List Int :=
  if x = (k : Int) + i then out ++ [(k : Int) + i] else (out ++ [out.getD x.toNat 0]).set x.toNat ((k : Int) + i)
def orderR (k : Nat) (d : List Int) : List Int := foldI (orderRStep k) (rowL k) d

theorem getD_set (l : List Int) (i j : Nat) (u : Int) (hi : i < l.length) : (l.set i u).getD j 0 = if i = j then u else l.getD j 0 := by
  simp only [List.getD, List.getElem?_set]
  split
  · rfl
  · rfl

theorem slotsL_eq (k : Nat) (d : List Int) (h0 : ∀ i, i < d.length → 0 ≤ d.getD i 0) : slotsL k d = slotsR k d := by
  refine List.ext_getElem (by simp [slotsL_len, slotsR]) fun s h1 h2 => ?_
  have hs : s < k := by rw [slotsL_len] at h1; exact h1
  have key : ∀ (d : List Int), (∀ i, i < d.length → 0 ≤ d.getD i 0) → (slotsL k d).getD s 0 = slotAt k s d := by
    intro d
    suffices h : ∀ n (d : List Int), d.length = n → (∀ i, i < d.length → 0 ≤ d.getD i 0) → (slotsL k d).getD s 0 = slotAt k s d from h _ d rfl
    intro n
    induction n with
    | zero =>
      intro d hd _
      obtain rfl := List.length_eq_zero_iff.1 hd
      simp only [slotsL, slotAt, foldI_nil]
      exact rowL_get k s hs
    | succ n ih =>
      intro d hd hp
      have hne : d ≠ [] := by rintro rfl; simp at hd
      obtain ⟨l, x, rfl⟩ : ∃ l x, d = l ++ [x] := ⟨d.dropLast, d.getLast hne, (List.dropLast_concat_getLast hne).symm⟩
      have hl : l.length = n := by simp at hd; omega
      have hx : 0 ≤ x := by have := hp l.length (by simp); simpa using this
      have ihl := ih l hl (fun i hi => by
        have := hp i (by simp; omega)
        simpa [List.getD, List.getElem?_append_left hi] using this)
      have hlen : (slotsL k l).length = k := slotsL_len k l
      unfold slotsL slotAt at *
      rw [foldI_snoc, foldI_snoc]
      simp only [slotsStep]
      by_cases hxk : x < (k : Int)
      · rw [if_pos hxk, getD_set _ _ _ _ (by rw [hlen]; omega)]
        by_cases hxs : x = (s : Int)
        · rw [if_pos (by omega), if_pos hxs]
        · rw [if_neg (by omega), if_neg hxs]; exact ihl
      · rw [if_neg hxk, if_neg (by omega)]; exact ihl
  have := key d h0
  simp only [slotsR, List.getElem_map, List.getElem_range]
  rw [← this]
  simp [List.getD, List.getElem?_eq_getElem h1]

theorem orderL_eq (k : Nat) (d : List Int) (h : ∀ i, i < d.length → 0 ≤ d.getD i 0 ∧ d.getD i 0 ≤ (k : Int) + i) : orderL k d = orderR k d := by
  suffices hh : ∀ n (d : List Int), d.length = n → (∀ i, i < d.length → 0 ≤ d.getD i 0 ∧ d.getD i 0 ≤ (k : Int) + i) → orderL k d = orderR k d from hh _ d rfl h
  intro n
  induction n with
  | zero => intro d hd _; obtain rfl := List.length_eq_zero_iff.1 hd; rfl
  | succ n ih =>
    intro d hd hp
    have hne : d ≠ [] := by rintro rfl; simp at hd
    obtain ⟨l, x, rfl⟩ : ∃ l x, d = l ++ [x] := ⟨d.dropLast, d.getLast hne, (List.dropLast_concat_getLast hne).symm⟩
    have hl : l.length = n := by simp at hd; omega
    have hx := hp l.length (by simp)
    simp only [List.getD_eq_getElem?_getD, List.getElem?_append_right (Nat.le_refl _), Nat.sub_self, List.getElem?_cons_zero, Option.getD_some] at hx
    have ihl := ih l hl (fun i hi => by
      have := hp i (by simp; omega)
      simpa [List.getD, List.getElem?_append_left hi] using this)
    have hlen : (orderL k l).length = k + l.length := orderL_len k l
    unfold orderL orderR at *
    rw [foldI_snoc, foldI_snoc, ← ihl]
    generalize foldI (orderStep k) (rowL k) l = out at *
    unfold orderStep orderRStep
    have hlo : out.length = k + l.length := hlen
    by_cases hxe : x = (k : Int) + l.length
    · rw [if_pos hxe]
      have hxn : x.toNat = k + l.length := by omega
      rw [hxn]
      have : (out ++ [(k : Int) + l.length]).getD (k + l.length) 0 = (k : Int) + l.length := by
        simp [List.getD, hlo]
      rw [this, List.set_set, ← hlo]
      simp
    · rw [if_neg hxe]
      have hxl : x.toNat < out.length := by omega
      have h1 : (out ++ [(k : Int) + l.length]).getD x.toNat 0 = out.getD x.toNat 0 := by
        simp [List.getD, List.getElem?_append_left hxl]
      rw [h1, List.set_append_left _ _ hxl, List.set_append_left _ _ hxl, ← hlo]
      simp

theorem take_order (k : Nat) (d : List Int) (h : ∀ i, i < d.length → 0 ≤ d.getD i 0 ∧ d.getD i 0 ≤ (k : Int) + i) : (orderL k d).take k = slotsL k d := by
  suffices hh : ∀ n (d : List Int), d.length = n → (∀ i, i < d.length → 0 ≤ d.getD i 0 ∧ d.getD i 0 ≤ (k : Int) + i) → (orderL k d).take k = slotsL k d from hh _ d rfl h
  intro n
  induction n with
  | zero =>
    intro d hd _
    obtain rfl := List.length_eq_zero_iff.1 hd
    simp only [orderL, slotsL, foldI_nil]
    exact List.take_of_length_le (by rw [rowL_len]; omega)
  | succ n ih =>
    intro d hd hp
    have hne : d ≠ [] := by rintro rfl; simp at hd
    obtain ⟨l, x, rfl⟩ : ∃ l x, d = l ++ [x] := ⟨d.dropLast, d.getLast hne, (List.dropLast_concat_getLast hne).symm⟩
    have hl : l.length = n := by simp at hd; omega
    have hx := hp l.length (by simp)
    simp only [List.getD_eq_getElem?_getD, List.getElem?_append_right (Nat.le_refl _), Nat.sub_self, List.getElem?_cons_zero, Option.getD_some] at hx
    have ihl := ih l hl (fun i hi => by
      have := hp i (by simp; omega)
      simpa [List.getD, List.getElem?_append_left hi] using this)
    have hlo : (orderL k l).length = k + l.length := orderL_len k l
    unfold orderL slotsL at *
    rw [foldI_snoc, foldI_snoc, ← ihl]
    generalize foldI (orderStep k) (rowL k) l = out at *
    unfold orderStep slotsStep
    rw [List.take_set_of_le (by omega)]
    by_cases hxk : x < (k : Int)
    · rw [if_pos hxk, List.take_set, List.take_append_of_le_length (by omega)]
    · rw [if_neg hxk, List.take_set_of_le (by omega), List.take_append_of_le_length (by omega)]

end Go.Proofs.Ytamjhblhkabpaaa

namespace Go.Proofs.Ytamjhblhkabpaaa

theorem getD_append_left (l m : List Int) (i : Nat) (h : i < l.length) : (l ++ m).getD i 0 = l.getD i 0 := by
  simp [List.getD, List.getElem?_append_left h]
theorem getD_snoc (l : List Int) (x : Int) : (l ++ [x]).getD l.length 0 = x := by simp [List.getD]
theorem getD_mem (l : List Int) (i : Nat) (h : i < l.length) : l.getD i 0 ∈ l := by
  simp [List.getD, List.getElem?_eq_getElem h]
theorem mem_getD {l : List Int} {x : Int} (h : x ∈ l) : ∃ i, i < l.length ∧ l.getD i 0 = x := by
  obtain ⟨i, hi, rfl⟩ := List.mem_iff_getElem.1 h
  exact ⟨i, hi, by simp [List.getD, List.getElem?_eq_getElem hi]⟩
theorem ext_getD {a b : List Int} (h : a.length = b.length) (hk : ∀ i, i < a.length → a.getD i 0 = b.getD i 0) : a = b := by
  refine List.ext_getElem h fun i h1 h2 => ?_
  have := hk i h1
  simpa [List.getD, List.getElem?_eq_getElem h1, List.getElem?_eq_getElem h2] using this
theorem getD_take (l : List Int) (k i : Nat) (h : i < k) : (l.take k).getD i 0 = l.getD i 0 := by
  simp [List.getD, h]
theorem take_last {l : List Int} {m : Nat} (h : l.length = m + 1) : l.take m ++ [l.getD m 0] = l := by
  refine ext_getD (by simp; omega) fun i hi => ?_
  have hl : (l.take m).length = m := by rw [List.length_take]; omega
  by_cases him : i < m
  · rw [getD_append_left _ _ _ (by omega), getD_take _ _ _ him]
  · obtain rfl : i = m := by simp at hi; omega
    have := getD_snoc (l.take i) (l.getD i 0)
    rwa [hl] at this
theorem nodup_inj {l : List Int} (h : l.Nodup) {i j : Nat} (hi : i < l.length) (hj : j < l.length) (e : l.getD i 0 = l.getD j 0) : i = j := by
  simp only [List.getD, List.getElem?_eq_getElem hi, List.getElem?_eq_getElem hj, Option.getD_some] at e
  rcases Nat.lt_trichotomy i j with hlt | heq | hgt
  · exact absurd e (List.pairwise_iff_getElem.1 h i j hi hj hlt)
  · exact heq
  · exact absurd e.symm (List.pairwise_iff_getElem.1 h j i hj hi hgt)
theorem nodup_of_inj {l : List Int} (h : ∀ i j, i < l.length → j < l.length → l.getD i 0 = l.getD j 0 → i = j) : l.Nodup := by
  refine List.pairwise_iff_getElem.2 fun i j hi hj hlt e => ?_
  have := h i j hi hj (by simpa [List.getD, List.getElem?_eq_getElem hi, List.getElem?_eq_getElem hj] using e)
  omega

theorem mem_rowL {n : Nat} {x : Int} : x ∈ rowL n ↔ 0 ≤ x ∧ x < (n : Int) := by
  simp only [rowL, List.mem_map, List.mem_range]
  constructor
  · rintro ⟨a, ha, rfl⟩
    show 0 ≤ (a : Int) ∧ (a : Int) < (n : Int)
    omega
  · rintro ⟨h0, h1⟩
    refine ⟨x.toNat, by omega, ?_⟩
    show ((x.toNat : Nat) : Int) = x
    omega
theorem rowL_nodup (n : Nat) : (rowL n).Nodup := by
  refine nodup_of_inj fun i j hi hj e => ?_
  rw [rowL_len] at hi hj
  rw [rowL_get n i hi, rowL_get n j hj] at e
  omega

theorem bounded_len : ∀ (n : Nat) (l : List Int), l.Nodup → (∀ x ∈ l, 0 ≤ x ∧ x < (n : Int)) → l.length ≤ n
  | 0, l, _, hb => by
    cases l with
    | nil => exact Nat.le_refl _
    | cons x l => have := hb x (List.mem_cons_self ..); omega
  | n + 1, l, hn, hb => by
    by_cases hm : (n : Int) ∈ l
    · have hp := List.perm_cons_erase hm
      have hn' : ((n : Int) :: l.erase (n : Int)).Nodup := hp.nodup hn
      have := bounded_len n (l.erase (n : Int)) (List.nodup_cons.1 hn').2 (fun x hx => by
        have h1 := hb x (List.mem_of_mem_erase hx)
        have h2 : x ≠ (n : Int) := fun e => (List.nodup_cons.1 hn').1 (e ▸ hx)
        omega)
      have := hp.length_eq
      simp at this
      omega
    · have := bounded_len n l hn (fun x hx => by
        have h1 := hb x hx
        have h2 : x ≠ (n : Int) := fun e => hm (e ▸ hx)
        omega)
      omega

theorem perm_row : ∀ (n : Nat) (l : List Int), l.Nodup → (∀ x ∈ l, 0 ≤ x ∧ x < (n : Int)) → l.length = n → l.Perm (rowL n)
  | 0, l, _, _, hl => by rw [List.length_eq_zero_iff.1 hl]; exact List.Perm.refl _
  | n + 1, l, hn, hb, hl => by
    have hm : (n : Int) ∈ l := by
      refine Classical.byContradiction fun hm => ?_
      have := bounded_len n l hn (fun x hx => by
        have h1 := hb x hx
        have h2 : x ≠ (n : Int) := fun e => hm (e ▸ hx)
        omega)
      omega
    have hp := List.perm_cons_erase hm
    have hn' : ((n : Int) :: l.erase (n : Int)).Nodup := hp.nodup hn
    have hle := hp.length_eq
    simp at hle
    have := perm_row n (l.erase (n : Int)) (List.nodup_cons.1 hn').2 (fun x hx => by
      have h1 := hb x (List.mem_of_mem_erase hx)
      have h2 : x ≠ (n : Int) := fun e => (List.nodup_cons.1 hn').1 (e ▸ hx)
      omega) (by omega)
    rw [rowL_succ]
    exact hp.trans ((List.Perm.cons _ this).trans (List.perm_append_singleton _ _).symm)

/-- p is an order -/
def IsP (p : List Int) : Prop := p.Perm (rowL p.length)
instance (p : List Int) : Decidable (IsP p) := inferInstanceAs (Decidable (p.Perm (rowL p.length)))
def isPB (p : List Int) : Bool := decide (IsP p)
theorem isPB_iff {p : List Int} : isPB p = true ↔ IsP p := by simp [isPB]
theorem IsP.nodup {p : List Int} (h : IsP p) : p.Nodup := h.symm.nodup (rowL_nodup _)
theorem IsP.bound {p : List Int} (h : IsP p) {x : Int} (hx : x ∈ p) : 0 ≤ x ∧ x < (p.length : Int) := mem_rowL.1 (h.mem_iff.1 hx)
theorem IsP.get {p : List Int} (h : IsP p) {i : Nat} (hi : i < p.length) : 0 ≤ p.getD i 0 ∧ p.getD i 0 < (p.length : Int) := h.bound (getD_mem p i hi)
theorem IsP.has {p : List Int} (h : IsP p) {x : Int} (h0 : 0 ≤ x) (h1 : x < (p.length : Int)) : ∃ i, i < p.length ∧ p.getD i 0 = x := mem_getD (h.mem_iff.2 (mem_rowL.2 ⟨h0, h1⟩))
theorem isP_of {p : List Int} (hn : p.Nodup) (hb : ∀ x ∈ p, 0 ≤ x ∧ x < (p.length : Int)) : IsP p := perm_row _ p hn hb rfl
theorem isP_row (n : Nat) : IsP (rowL n) := by unfold IsP; rw [rowL_len]

/-- as the program asks it: sorted it is the row -/
theorem sort_row {p : List Int} : p.mergeSort (fun x y => decide (x ≤ y)) = rowL p.length ↔ IsP p := by
  constructor
  · intro h
    unfold IsP
    rw [← h]
    exact (List.mergeSort_perm p _).symm
  · intro h
    refine List.Perm.eq_of_pairwise (le := fun x y : Int => x ≤ y) (fun a b _ _ h1 h2 => by omega) ?_ ?_ ((List.mergeSort_perm p _).trans h)
    · have := List.pairwise_mergeSort (le := fun x y : Int => decide (x ≤ y)) (fun a b c h1 h2 => by simp at *; omega) (fun a b => by simp; omega) p
      exact this.imp (fun h => by simpa using h)
    · refine List.pairwise_iff_getElem.2 fun i j hi hj hlt => ?_
      have e : ∀ t (ht : t < (rowL p.length).length), (rowL p.length)[t] = (t : Int) := fun t ht => by
        have := rowL_get p.length t (by simpa [rowL_len] using ht)
        simpa [List.getD, List.getElem?_eq_getElem ht] using this
      rw [e i hi, e j hj]
      omega

/-- as the reference asks it: each number stands there once -/
theorem count_row {p : List Int} : (∀ i, i < p.length → p.count (i : Int) = 1) ↔ IsP p := by
  constructor
  · intro h
    have key : ∀ m, m ≤ p.length → ∃ r, p.Perm (rowL m ++ r) := by
      intro m
      induction m with
      | zero => intro _; exact ⟨p, List.Perm.refl _⟩
      | succ m ih =>
        intro hm
        obtain ⟨r, hr⟩ := ih (by omega)
        have hmem : (m : Int) ∈ p := by
          have := h m (by omega)
          exact List.count_pos_iff.1 (by omega)
        have hmr : (m : Int) ∈ r := by
          rcases List.mem_append.1 (hr.mem_iff.1 hmem) with h1 | h1
          · have := mem_rowL.1 h1; omega
          · exact h1
        refine ⟨r.erase (m : Int), hr.trans ?_⟩
        rw [rowL_succ, List.append_assoc]
        exact List.Perm.append_left _ (List.perm_cons_erase hmr)
    obtain ⟨r, hr⟩ := key p.length (Nat.le_refl _)
    have hl := hr.length_eq
    rw [List.length_append, rowL_len] at hl
    have : r = [] := List.eq_nil_of_length_eq_zero (by omega)
    subst this
    unfold IsP
    simpa using hr
  · intro h i hi
    rw [h.nodup.count, if_pos (h.mem_iff.2 (mem_rowL.2 ⟨by omega, by omega⟩))]

/-- an exchange -/
def swp (l : List Int) (i j : Nat) : List Int := (l.set i (l.getD j 0)).set j (l.getD i 0)
theorem swp_len (l : List Int) (i j : Nat) : (swp l i j).length = l.length := by simp [swp]
theorem swp_get (l : List Int) (i j t : Nat) (hi : i < l.length) (hj : j < l.length) : (swp l i j).getD t 0 = if t = j then l.getD i 0 else if t = i then l.getD j 0 else l.getD t 0 := by
  unfold swp
  rw [getD_set _ _ _ _ (by simpa using hj), getD_set _ _ _ _ hi]
  by_cases h1 : j = t
  · rw [if_pos h1, if_pos h1.symm]
  · rw [if_neg h1, if_neg (show ¬ t = j from fun h => h1 h.symm)]
    by_cases h2 : i = t
    · rw [if_pos h2, if_pos h2.symm]
    · rw [if_neg h2, if_neg (show ¬ t = i from fun h => h2 h.symm)]
theorem swp_swp (l : List Int) (i j : Nat) (hi : i < l.length) (hj : j < l.length) : swp (swp l i j) i j = l := by
  refine ext_getD (by simp [swp_len]) fun t ht => ?_
  rw [swp_get _ _ _ _ (by rw [swp_len]; exact hi) (by rw [swp_len]; exact hj), swp_get _ _ _ _ hi hj, swp_get _ _ _ _ hi hj, swp_get _ _ _ _ hi hj]
  by_cases h1 : t = j
  · subst h1
    rw [if_pos rfl]
    by_cases h2 : i = t
    · subst h2; rw [if_pos rfl]
    · rw [if_neg h2, if_pos rfl]
  · rw [if_neg h1]
    by_cases h2 : t = i
    · subst h2; rw [if_pos rfl, if_pos rfl]
    · rw [if_neg h2, if_neg h1, if_neg h2]
theorem swp_comm (l : List Int) (i j : Nat) (hi : i < l.length) (hj : j < l.length) : swp l i j = swp l j i := by
  refine ext_getD (by simp [swp_len]) fun t ht => ?_
  rw [swp_get _ _ _ _ hi hj, swp_get _ _ _ _ hj hi]
  by_cases h1 : t = j
  · by_cases h2 : t = i
    · rw [if_pos h1, if_pos h2, ← h1, ← h2]
    · rw [if_pos h1, if_neg h2, if_pos h1]
  · by_cases h2 : t = i
    · rw [if_neg h1, if_pos h2, if_pos h2]
    · rw [if_neg h1, if_neg h2, if_neg h2, if_neg h1]
theorem swp_nodup {l : List Int} (h : l.Nodup) {i j : Nat} (hi : i < l.length) (hj : j < l.length) : (swp l i j).Nodup := by
  refine nodup_of_inj fun a b ha hb e => ?_
  rw [swp_len] at ha hb
  rw [swp_get _ _ _ _ hi hj, swp_get _ _ _ _ hi hj] at e
  by_cases a1 : a = j
  · by_cases b1 : b = j
    · omega
    · rw [if_pos a1, if_neg b1] at e
      by_cases b2 : b = i
      · rw [if_pos b2] at e; have := nodup_inj h hi hj e; omega
      · rw [if_neg b2] at e; have := nodup_inj h hi hb e; omega
  · rw [if_neg a1] at e
    by_cases a2 : a = i
    · rw [if_pos a2] at e
      by_cases b1 : b = j
      · rw [if_pos b1] at e; have := nodup_inj h hj hi e; omega
      · rw [if_neg b1] at e
        by_cases b2 : b = i
        · omega
        · rw [if_neg b2] at e; have := nodup_inj h hj hb e; omega
    · rw [if_neg a2] at e
      by_cases b1 : b = j
      · rw [if_pos b1] at e; have := nodup_inj h ha hi e; omega
      · rw [if_neg b1] at e
        by_cases b2 : b = i
        · rw [if_pos b2] at e; have := nodup_inj h ha hj e; omega
        · rw [if_neg b2] at e; exact nodup_inj h ha hb e
theorem swp_mem {l : List Int} {i j : Nat} (hi : i < l.length) (hj : j < l.length) {x : Int} : x ∈ swp l i j ↔ x ∈ l := by
  have one : ∀ (l : List Int) (i j : Nat), i < l.length → j < l.length → x ∈ swp l i j → x ∈ l := by
    intro l i j hi hj h
    obtain ⟨t, ht, rfl⟩ := mem_getD h
    rw [swp_len] at ht
    rw [swp_get _ _ _ _ hi hj]
    split
    · exact getD_mem l i hi
    · split
      · exact getD_mem l j hj
      · exact getD_mem l t ht
  refine ⟨one l i j hi hj, fun h => one (swp l i j) i j (by rw [swp_len]; exact hi) (by rw [swp_len]; exact hj) (by rwa [swp_swp l i j hi hj])⟩
theorem swp_isP {l : List Int} (h : IsP l) {i j : Nat} (hi : i < l.length) (hj : j < l.length) : IsP (swp l i j) :=
  isP_of (swp_nodup h.nodup hi hj) fun x hx => by rw [swp_len]; exact h.bound ((swp_mem hi hj).1 hx)

/-- where a number stands -/
theorem ix_of {p : List Int} (h : p.Nodup) {i : Nat} (hi : i < p.length) : Lib.idxOf p (p.getD i 0) = (i : Int) := by
  have := Lib.idxFrom_hit (p.getD i 0) p i 0 hi rfl (fun j hj e => by have := nodup_inj h (by omega) hi e; omega)
  simpa [Lib.idxOf] using this
theorem ix_eq {p : List Int} (h : p.Nodup) {i : Nat} (hi : i < p.length) {x : Int} (hx : p.getD i 0 = x) : Lib.idxOf p x = (i : Int) := by
  subst hx; exact ix_of h hi
def ixN (p : List Int) (x : Int) : Nat := (Lib.idxOf p x).toNat
theorem ixN_eq {p : List Int} (h : p.Nodup) {i : Nat} (hi : i < p.length) {x : Int} (hx : p.getD i 0 = x) : ixN p x = i := by
  unfold ixN; rw [ix_eq h hi hx]; simp
theorem ixN_spec {p : List Int} (h : IsP p) {x : Int} (h0 : 0 ≤ x) (h1 : x < (p.length : Int)) : ixN p x < p.length ∧ p.getD (ixN p x) 0 = x ∧ Lib.idxOf p x = ((ixN p x : Nat) : Int) := by
  obtain ⟨i, hi, he⟩ := h.has h0 h1
  have e := ixN_eq h.nodup hi he
  rw [e]
  exact ⟨hi, he, ix_eq h.nodup hi he⟩

/-- the order that comes, if 'first' stood there at first -/
def fromL (k : Nat) (first d : List Int) : List Int := foldI (orderStep k) first d
def fromR (k : Nat) (first d : List Int) : List Int := foldI (orderRStep k) first d
theorem fromL_len (k : Nat) (first d : List Int) : (fromL k first d).length = first.length + d.length :=
  foldI_ind (orderStep k) first (fun l a => a.length = first.length + l.length) (by simp) (fun l x a h => by rw [orderStep_len, h]; simp; omega) d
theorem orderL_from (k : Nat) (d : List Int) : orderL k d = fromL k (rowL k) d := rfl

theorem step_eq (k : Nat) (out : List Int) (i : Nat) (x : Int) (ho : out.length = k + i) (h0 : 0 ≤ x) (h1 : x ≤ (k : Int) + i) : orderStep k out i x = orderRStep k out i x := by
  unfold orderStep orderRStep
  by_cases hxe : x = (k : Int) + i
  · rw [if_pos hxe]
    have hxn : x.toNat = k + i := by omega
    rw [hxn]
    have : (out ++ [(k : Int) + i]).getD (k + i) 0 = (k : Int) + i := by rw [← ho]; exact getD_snoc _ _
    rw [this, List.set_set, ← ho]
    simp
  · rw [if_neg hxe]
    have hxl : x.toNat < out.length := by omega
    rw [getD_append_left _ _ _ hxl, List.set_append_left _ _ hxl, List.set_append_left _ _ hxl, ← ho]
    simp
theorem fromL_eq (k : Nat) (first d : List Int) (hf : first.length = k) (h : ∀ i, i < d.length → 0 ≤ d.getD i 0 ∧ d.getD i 0 ≤ (k : Int) + i) : fromL k first d = fromR k first d := by
  suffices hh : ∀ n (d : List Int), d.length = n → (∀ i, i < d.length → 0 ≤ d.getD i 0 ∧ d.getD i 0 ≤ (k : Int) + i) → fromL k first d = fromR k first d from hh _ d rfl h
  intro n
  induction n with
  | zero => intro d hd _; obtain rfl := List.length_eq_zero_iff.1 hd; rfl
  | succ n ih =>
    intro d hd hp
    have hne : d ≠ [] := by rintro rfl; simp at hd
    obtain ⟨l, x, rfl⟩ : ∃ l x, d = l ++ [x] := ⟨d.dropLast, d.getLast hne, (List.dropLast_concat_getLast hne).symm⟩
    have hl : l.length = n := by simp at hd; omega
    have hx := hp l.length (by simp)
    rw [getD_snoc] at hx
    have ihl := ih l hl (fun i hi => by have := hp i (by simp; omega); rwa [getD_append_left _ _ _ hi] at this)
    have hlen := fromL_len k first l
    unfold fromL fromR at *
    rw [foldI_snoc, foldI_snoc, ← ihl]
    exact step_eq k _ _ _ (by rw [hlen, hf]) hx.1 hx.2

theorem step_swp (k : Nat) (out : List Int) (i : Nat) (x : Int) (ho : out.length = k + i) : orderStep k out i x = swp (out ++ [(k : Int) + i]) x.toNat (k + i) := by
  unfold orderStep swp
  have : (out ++ [(k : Int) + i]).getD (k + i) 0 = (k : Int) + i := by rw [← ho]; exact getD_snoc _ _
  rw [this]

theorem fromL_lt (k : Nat) (first d : List Int) (hf : first.length = k) (hb : ∀ x ∈ first, 0 ≤ x ∧ x < (k : Int)) (h : ∀ i, i < d.length → 0 ≤ d.getD i 0 ∧ d.getD i 0 ≤ (k : Int) + i) : ∀ x ∈ fromL k first d, 0 ≤ x ∧ x < (k : Int) + d.length := by
  suffices hh : ∀ n (d : List Int), d.length = n → (∀ i, i < d.length → 0 ≤ d.getD i 0 ∧ d.getD i 0 ≤ (k : Int) + i) → ∀ x ∈ fromL k first d, 0 ≤ x ∧ x < (k : Int) + d.length from hh _ d rfl h
  intro n
  induction n with
  | zero => intro d hd _ x hx; obtain rfl := List.length_eq_zero_iff.1 hd; have := hb x hx; simp; omega
  | succ n ih =>
    intro d hd hp y hy
    have hne : d ≠ [] := by rintro rfl; simp at hd
    obtain ⟨l, x, rfl⟩ : ∃ l x, d = l ++ [x] := ⟨d.dropLast, d.getLast hne, (List.dropLast_concat_getLast hne).symm⟩
    have hl : l.length = n := by simp at hd; omega
    have hx := hp l.length (by simp)
    rw [getD_snoc] at hx
    have hp' : ∀ i, i < l.length → 0 ≤ l.getD i 0 ∧ l.getD i 0 ≤ (k : Int) + i := fun i hi => by have := hp i (by simp; omega); rwa [getD_append_left _ _ _ hi] at this
    have ihl := ih l hl hp'
    have hlen := fromL_len k first l
    have e : fromL k first (l ++ [x]) = orderStep k (fromL k first l) l.length x := by unfold fromL; rw [foldI_snoc]
    rw [e, step_swp k _ _ _ (by rw [hlen, hf])] at hy
    have hm := (swp_mem (by simp [hlen, hf]; omega) (by simp [hlen, hf])).1 hy
    rcases List.mem_append.1 hm with h1 | h1
    · have := ihl y h1; simp; omega
    · simp at h1; simp; omega

/-- what undoes it: the decisions, the last one first, and what stood there -/
def undoAcc (k : Nat) : Nat → List Int → List Int → List Int × List Int
  | 0, p, acc => (acc, p)
  | i + 1, p, acc => undoAcc k i ((swp p (ixN p ((k + i : Nat) : Int)) (k + i)).take (k + i)) (((ixN p ((k + i : Nat) : Int) : Nat) : Int) :: acc)

theorem undo_from (k : Nat) : ∀ (i : Nat) (p acc : List Int), p.length = k + i → IsP p →
    ∃ dd, (undoAcc k i p acc).1 = dd ++ acc ∧ dd.length = i ∧ (∀ j, j < i → 0 ≤ dd.getD j 0 ∧ dd.getD j 0 ≤ (k : Int) + j) ∧ IsP (undoAcc k i p acc).2 ∧ (undoAcc k i p acc).2.length = k ∧ fromL k (undoAcc k i p acc).2 dd = p
  | 0, p, acc, hl, hp => ⟨[], rfl, rfl, fun j hj => by omega, hp, hl, rfl⟩
  | i + 1, p, acc, hl, hp => by
    obtain ⟨h1, h2, -⟩ := ixN_spec hp (x := ((k + i : Nat) : Int)) (by omega) (by omega)
    generalize hat : ixN p ((k + i : Nat) : Int) = a at *
    have hs : IsP (swp p a (k + i)) := swp_isP hp h1 (by omega)
    have hsl : (swp p a (k + i)).length = k + i + 1 := by rw [swp_len]; omega
    have hlast : (swp p a (k + i)).getD (k + i) 0 = ((k + i : Nat) : Int) := by rw [swp_get _ _ _ _ h1 (by omega), if_pos rfl, h2]
    have hsplit : (swp p a (k + i)).take (k + i) ++ [((k + i : Nat) : Int)] = swp p a (k + i) := by
      rw [← hlast]
      exact take_last hsl
    generalize hq : (swp p a (k + i)).take (k + i) = q at *
    have hql : q.length = k + i := by rw [← hq, List.length_take, hsl]; omega
    have hqn : (q ++ [((k + i : Nat) : Int)]).Nodup := by rw [hsplit]; exact hs.nodup
    have hqP : IsP q := by
      refine isP_of (List.nodup_append.1 hqn).1 fun x hx => ?_
      have hx1 := hs.bound (x := x) (by rw [← hsplit]; exact List.mem_append_left _ hx)
      have hx2 : x ≠ ((k + i : Nat) : Int) := fun e => (List.nodup_append.1 hqn).2.2 x hx _ (List.mem_singleton.2 rfl) e
      rw [hsl] at hx1
      rw [hql]
      omega
    obtain ⟨dd, g1, g2, g3, g4, g5, g6⟩ := undo_from k i q (((a : Nat) : Int) :: acc) hql hqP
    have hun : undoAcc k (i + 1) p acc = undoAcc k i q (((a : Nat) : Int) :: acc) := by simp only [undoAcc]; rw [hat, hq]
    rw [hun]
    refine ⟨dd ++ [((a : Nat) : Int)], by rw [g1]; simp, by simp [g2], fun j hj => ?_, g4, g5, ?_⟩
    · by_cases hji : j < i
      · rw [getD_append_left _ _ _ (by omega)]; exact g3 j hji
      · obtain rfl : j = i := by omega
        have e : (dd ++ [((a : Nat) : Int)]).getD j 0 = ((a : Nat) : Int) := by rw [← g2]; exact getD_snoc _ _
        rw [e]
        omega
    · have e : fromL k (undoAcc k i q (((a : Nat) : Int) :: acc)).2 (dd ++ [((a : Nat) : Int)]) = orderStep k (fromL k (undoAcc k i q (((a : Nat) : Int) :: acc)).2 dd) dd.length ((a : Nat) : Int) := by unfold fromL; rw [foldI_snoc]
      rw [e, g6, g2, step_swp k q i _ hql, Int.toNat_natCast]
      have hki : ((k : Int) + (i : Int)) = ((k + i : Nat) : Int) := by omega
      rw [hki, hsplit]
      exact swp_swp p a (k + i) h1 (by omega)

theorem undo_of (k : Nat) (first : List Int) (hf : first.length = k) (hfn : first.Nodup) (hb : ∀ x ∈ first, 0 ≤ x ∧ x < (k : Int)) : ∀ (n : Nat) (d acc : List Int), d.length = n → (∀ i, i < d.length → 0 ≤ d.getD i 0 ∧ d.getD i 0 ≤ (k : Int) + i) →
    (fromL k first d).Nodup ∧ undoAcc k n (fromL k first d) acc = (d ++ acc, first)
  | 0, d, acc, hd, _ => by
    obtain rfl := List.length_eq_zero_iff.1 hd
    exact ⟨hfn, rfl⟩
  | n + 1, d, acc, hd, hp => by
    have hne : d ≠ [] := by rintro rfl; simp at hd
    obtain ⟨l, x, rfl⟩ : ∃ l x, d = l ++ [x] := ⟨d.dropLast, d.getLast hne, (List.dropLast_concat_getLast hne).symm⟩
    have hl : l.length = n := by simp at hd; omega
    have hx := hp l.length (by simp)
    rw [getD_snoc] at hx
    have hp' : ∀ i, i < l.length → 0 ≤ l.getD i 0 ∧ l.getD i 0 ≤ (k : Int) + i := fun i hi => by have := hp i (by simp; omega); rwa [getD_append_left _ _ _ hi] at this
    obtain ⟨ih1, ih2⟩ := undo_of k first hf hfn hb n l (x :: acc) hl hp'
    have hlen : (fromL k first l).length = k + n := by rw [fromL_len, hf, hl]
    have hlt := fromL_lt k first l hf hb hp'
    have e : fromL k first (l ++ [x]) = orderStep k (fromL k first l) l.length x := by unfold fromL; rw [foldI_snoc]
    rw [e, hl, step_swp k _ _ _ hlen]
    generalize fromL k first l = q at *
    have hki : ((k : Int) + (n : Int)) = ((k + n : Nat) : Int) := by omega
    rw [hki]
    have hqn : (q ++ [((k + n : Nat) : Int)]).Nodup := by
      rw [List.nodup_append]
      refine ⟨ih1, by simp, fun a ha b hb e => ?_⟩
      have := hlt a ha
      simp at hb
      omega
    have hlen1 : (q ++ [((k + n : Nat) : Int)]).length = k + n + 1 := by simp [hlen]
    have hlast : (q ++ [((k + n : Nat) : Int)]).getD (k + n) 0 = ((k + n : Nat) : Int) := by rw [← hlen]; exact getD_snoc _ _
    have hsn := swp_nodup hqn (i := x.toNat) (j := k + n) (by omega) (by omega)
    refine ⟨hsn, ?_⟩
    have hix : ixN (swp (q ++ [((k + n : Nat) : Int)]) x.toNat (k + n)) ((k + n : Nat) : Int) = x.toNat := by
      refine ixN_eq hsn (by rw [swp_len]; omega) ?_
      rw [swp_get _ _ _ _ (by omega) (by omega)]
      by_cases hxe : x.toNat = k + n
      · rw [if_pos hxe, hxe, hlast]
      · rw [if_neg hxe, if_pos rfl, hlast]
    simp only [undoAcc]
    rw [hix, swp_swp _ _ _ (by omega) (by omega)]
    have ht : (q ++ [((k + n : Nat) : Int)]).take (k + n) = q := by rw [← hlen]; simp
    rw [ht]
    have hxt : ((x.toNat : Nat) : Int) = x := by omega
    rw [hxt, ih2]
    simp

end Go.Proofs.Ytamjhblhkabpaaa

namespace Go.Proofs.Ytamjhblhkabpaaa

/-- a bit -/
def bit (x i : Nat) : Nat := x / 2 ^ i % 2
theorem bit_lt (x i : Nat) : bit x i < 2 := Nat.mod_lt _ (by decide)
/-- so many bits -/
def bitsL (x n : Nat) : List Int := (List.range n).map fun i => ((bit x i : Nat) : Int)
theorem bitsL_len (x n : Nat) : (bitsL x n).length = n := by simp [bitsL]
theorem bitsL_zero (x : Nat) : bitsL x 0 = [] := rfl
theorem bitsL_succ (x n : Nat) : bitsL x (n + 1) = bitsL x n ++ [((bit x n : Nat) : Int)] := by simp [bitsL, List.range_succ]
theorem bitsL_get (x n i : Nat) (h : i < n) : (bitsL x n).getD i 0 = ((bit x i : Nat) : Int) := by simp [bitsL, List.getD, h]
theorem bit_big {x m i : Nat} (h : x < 2 ^ m) (hi : m ≤ i) : bit x i = 0 := by
  unfold bit
  have : x / 2 ^ i = 0 := Nat.div_eq_of_lt (Nat.lt_of_lt_of_le h (Nat.pow_le_pow_right (by decide) hi))
  rw [this]
theorem half (x i : Nat) : x / 2 ^ i = 2 * (x / 2 ^ (i + 1)) + bit x i := by
  unfold bit
  rw [Nat.pow_succ, ← Nat.div_div_eq_div_mul]
  omega
theorem mod_succ (x i : Nat) : x % 2 ^ (i + 1) = x % 2 ^ i + 2 ^ i * bit x i := by
  unfold bit
  rw [Nat.pow_succ, Nat.mod_mul]

theorem pow_pos2 (i : Nat) : 0 < 2 ^ i := Nat.two_pow_pos i

/-- what is carried -/
def carry (a b i : Nat) : Nat := (a % 2 ^ i + b % 2 ^ i) / 2 ^ i
theorem carry_zero (a b : Nat) : carry a b 0 = 0 := by simp [carry, Nat.mod_one]
theorem carry_lt (a b i : Nat) : carry a b i < 2 := by
  unfold carry
  have h1 := Nat.mod_lt a (pow_pos2 i)
  have h2 := Nat.mod_lt b (pow_pos2 i)
  exact (Nat.div_lt_iff_lt_mul (pow_pos2 i)).2 (by omega)
theorem add_div (a b i : Nat) : (a + b) / 2 ^ i = a / 2 ^ i + b / 2 ^ i + carry a b i := by
  have h1 := Nat.div_add_mod a (2 ^ i)
  have h2 := Nat.div_add_mod b (2 ^ i)
  have e : a + b = 2 ^ i * (a / 2 ^ i + b / 2 ^ i) + (a % 2 ^ i + b % 2 ^ i) := by
    rw [Nat.mul_add]; omega
  unfold carry
  have h3 : (a + b) / 2 ^ i = (2 ^ i * (a / 2 ^ i + b / 2 ^ i) + (a % 2 ^ i + b % 2 ^ i)) / 2 ^ i := by rw [← e]
  rw [h3, Nat.mul_add_div (pow_pos2 i)]
theorem add_bit (a b i : Nat) : bit (a + b) i = (bit a i + bit b i + carry a b i) % 2 := by
  have h1 := half a i
  have h2 := half b i
  have h3 := add_div a b i
  unfold bit at *
  omega
theorem carry_succ (a b i : Nat) : carry a b (i + 1) = (bit a i + bit b i + carry a b i) / 2 := by
  have h1 := add_div a b (i + 1)
  have h2 := add_div a b i
  have h3 := half a i
  have h4 := half b i
  have h5 := half (a + b) i
  have h6 := add_bit a b i
  omega

/-- what is lacking -/
def lack (a b i : Nat) : Nat := if a % 2 ^ i < b % 2 ^ i then 1 else 0
theorem lack_zero (a b : Nat) : lack a b 0 = 0 := by simp [lack, Nat.mod_one]
theorem sub_div (a b i : Nat) (h : b ≤ a) : (a - b) / 2 ^ i + b / 2 ^ i + lack a b i = a / 2 ^ i := by
  have h1 := add_div (a - b) b i
  have e : a - b + b = a := by omega
  rw [e] at h1
  have h2 : carry (a - b) b i = lack a b i := by
    unfold carry lack
    have m1 := Nat.mod_lt (a - b) (pow_pos2 i)
    have m2 := Nat.mod_lt b (pow_pos2 i)
    have m3 : a % 2 ^ i = ((a - b) % 2 ^ i + b % 2 ^ i) % 2 ^ i := by rw [← Nat.add_mod, e]
    generalize (a - b) % 2 ^ i = u at *
    generalize b % 2 ^ i = v at *
    generalize 2 ^ i = p at *
    by_cases hp : u + v < p
    · rw [Nat.mod_eq_of_lt hp] at m3
      rw [Nat.div_eq_of_lt hp, if_neg (by omega)]
    · have h3 : (u + v) / p = 1 := by
        have : u + v = p * 1 + (u + v - p) := by omega
        rw [this, Nat.mul_add_div (by omega), Nat.div_eq_of_lt (by omega)]
      have h4 : (u + v) % p = u + v - p := by
        have : u + v = (u + v - p) + p := by omega
        rw [this, Nat.add_mod_right, Nat.mod_eq_of_lt (by omega)]; omega
      rw [h3, if_pos (by omega)]
  omega
theorem sub_step (a b i : Nat) (h : b ≤ a) : (bit (a - b) i : Int) = ((bit a i : Int) - bit b i - lack a b i + 2) % 2 ∧ (lack a b (i + 1) : Int) = 1 - ((bit a i : Int) - bit b i - lack a b i + 2) / 2 := by
  have h1 := sub_div a b i h
  have h2 := sub_div a b (i + 1) h
  have h3 := half a i
  have h4 := half b i
  have h5 := half (a - b) i
  have b1 := bit_lt a i
  have b2 := bit_lt b i
  have b3 := bit_lt (a - b) i
  have l1 : lack a b i < 2 := by unfold lack; split <;> omega
  have l2 : lack a b (i + 1) < 2 := by unfold lack; split <;> omega
  omega

theorem shl_bit (x b i : Nat) : bit (x * 2 ^ b) i = if i < b then 0 else bit x (i - b) := by
  unfold bit
  by_cases h : i < b
  · rw [if_pos h]
    have : b = i + 1 + (b - i - 1) := by omega
    rw [this, Nat.pow_add, Nat.pow_succ]
    have e : x * (2 ^ i * 2 * 2 ^ (b - i - 1)) = 2 ^ i * (2 * (x * 2 ^ (b - i - 1))) := by
      simp only [Nat.mul_comm, Nat.mul_left_comm, Nat.mul_assoc]
    rw [e, Nat.mul_div_cancel_left _ (pow_pos2 i), Nat.mul_mod_right]
  · rw [if_neg h]
    have : i = b + (i - b) := by omega
    have e : x * 2 ^ b / 2 ^ i = x / 2 ^ (i - b) := by
      rw [this, Nat.pow_add, ← Nat.div_div_eq_div_mul, Nat.mul_div_cancel _ (pow_pos2 b)]
      congr 2; omega
    rw [e]

theorem zero_of_bits : ∀ {m x : Nat}, x < 2 ^ m → ((∀ j, j < m → bit x j = 0) ↔ x = 0)
  | 0, x, h => by
    have : x = 0 := by simpa using h
    simp [this]
  | m + 1, x, h => by
    constructor
    · intro hb
      have h1 : x / 2 ^ m = 0 := by
        have h2 := half x m
        have h3 : x / 2 ^ (m + 1) = 0 := Nat.div_eq_of_lt h
        have h4 := hb m (by omega)
        omega
      have h5 : x < 2 ^ m := (Nat.div_eq_zero_iff_lt (pow_pos2 m)).1 h1
      exact (zero_of_bits h5).1 fun j hj => hb j (by omega)
    · rintro rfl j _
      simp [bit]

end Go.Proofs.Ytamjhblhkabpaaa

namespace Go.Proofs.Ytamjhblhkabpaaa

/-- what holds of a guess q and its rest r, where d1 B + d0 divides u B + un -/
structure Guess (B d1 d0 u un q r : Nat) : Prop where
  sum : q * d1 + r = u
  up : (u * B + un) / (d1 * B + d0) ≤ q
  top : q ≤ B + 1
  rest : r < B

section
variable {B d1 d0 u un q r : Nat}

theorem guess_id (h : q * d1 + r = u) : q * (d1 * B + d0) + r * B = u * B + q * d0 := by
  subst h
  rw [Nat.mul_add, Nat.add_mul, Nat.mul_assoc]
  omega

theorem guess_start (h1 : B ≤ 2 * d1) (hB : d1 < B) (h0 : d0 < B) (hu : u < d1 * B + d0) (hn : un < B) : Guess B d1 d0 u un (u / d1) (u - u / d1 * d1) := by
  have hp : 0 < d1 := by omega
  have hm := Nat.div_add_mod u d1
  have hc : d1 * (u / d1) = u / d1 * d1 := Nat.mul_comm _ _
  have hl := Nat.mod_lt u hp
  refine ⟨by omega, ?_, ?_, by omega⟩
  · refine (Nat.le_div_iff_mul_le hp).2 ?_
    have hD : 0 < d1 * B + d0 := by omega
    have hQ := Nat.div_mul_le_self (u * B + un) (d1 * B + d0)
    generalize (u * B + un) / (d1 * B + d0) = Q at *
    have e : Q * (d1 * B + d0) = Q * d1 * B + Q * d0 := by rw [Nat.mul_add, Nat.mul_assoc]
    have e2 : (u + 1) * B = u * B + B := by rw [Nat.add_mul]; omega
    have h3 : Q * d1 * B < (u + 1) * B := by omega
    have := Nat.lt_of_mul_lt_mul_right h3
    omega
  · have : u / d1 < B + 2 := by
      refine (Nat.div_lt_iff_lt_mul hp).2 ?_
      rw [Nat.add_mul, Nat.mul_comm B d1]
      omega
    omega

theorem guess_more (g : Guess B d1 d0 u un q r) (hd : 0 < d1 * B + d0) (hu : u < d1 * B + d0) (hn : un < B) (h : B ≤ q ∨ B * r + un < q * d0) : (u * B + un) / (d1 * B + d0) < q := by
  refine (Nat.div_lt_iff_lt_mul hd).2 ?_
  rcases h with h | h
  · have h1 : (u + 1) * B ≤ (d1 * B + d0) * B := Nat.mul_le_mul_right _ hu
    have h2 : B * (d1 * B + d0) ≤ q * (d1 * B + d0) := Nat.mul_le_mul_right _ h
    rw [Nat.mul_comm B] at h2
    rw [Nat.add_mul] at h1
    omega
  · have e := guess_id (B := B) (d0 := d0) g.sum
    have e2 : B * r = r * B := Nat.mul_comm _ _
    omega

theorem guess_step (g : Guess B d1 d0 u un (q + 1) r) (h : (u * B + un) / (d1 * B + d0) < q + 1) (hr : r + d1 < B) : Guess B d1 d0 u un q (r + d1) := by
  have := g.sum
  have := g.top
  rw [Nat.add_mul] at *
  exact ⟨by omega, by omega, by omega, hr⟩

theorem guess_stop (g : Guess B d1 d0 u un (q + 1) r) (hd : 0 < d1 * B + d0) (h0 : d0 < B) (h : (u * B + un) / (d1 * B + d0) < q + 1) (hr : B ≤ r + d1) : q = (u * B + un) / (d1 * B + d0) := by
  have hs := g.sum
  have ht := g.top
  have hs' : q * d1 + (r + d1) = u := by rw [Nat.add_mul] at hs; omega
  have e := guess_id (B := B) (d0 := d0) hs'
  have h1 : B * B ≤ (r + d1) * B := Nat.mul_le_mul_right _ hr
  have h2 : q * d0 ≤ B * B := Nat.mul_le_mul (by omega) (by omega)
  have : q ≤ (u * B + un) / (d1 * B + d0) := (Nat.le_div_iff_mul_le hd).2 (by omega)
  omega

theorem guess_end (g : Guess B d1 d0 u un q r) (hd : 0 < d1 * B + d0) (h : q * d0 ≤ B * r + un) : q = (u * B + un) / (d1 * B + d0) := by
  have e := guess_id (B := B) (d0 := d0) g.sum
  have e2 : B * r = r * B := Nat.mul_comm _ _
  have : q ≤ (u * B + un) / (d1 * B + d0) := (Nat.le_div_iff_mul_le hd).2 (by omega)
  have := g.up
  omega
end

theorem knuth_cut (B D U un un1 un0 : Nat) (hD : 0 < D) (hun : un = un1 * B + un0) :
    (U * (B * B) + un) / D = (U * B + un1) / D * B + ((U * B + un1) % D * B + un0) / D ∧ (U * (B * B) + un) % D = ((U * B + un1) % D * B + un0) % D := by
  have h1 := Nat.div_add_mod (U * B + un1) D
  generalize (U * B + un1) / D = q1 at *
  generalize (U * B + un1) % D = r1 at *
  have h2 := Nat.div_add_mod (r1 * B + un0) D
  have h3 := Nat.mod_lt (r1 * B + un0) hD
  generalize (r1 * B + un0) / D = q0 at *
  generalize (r1 * B + un0) % D = r0 at *
  have e : U * (B * B) + un = r0 + D * (q1 * B + q0) := by
    have e1 : U * (B * B) = U * B * B := (Nat.mul_assoc _ _ _).symm
    have e2 : (U * B + un1) * B = U * B * B + un1 * B := Nat.add_mul _ _ _
    have e3 : (D * q1 + r1) * B = D * (q1 * B) + r1 * B := by rw [Nat.add_mul, Nat.mul_assoc]
    rw [h1] at e3
    rw [Nat.mul_add]
    omega
  rw [e, Nat.add_mul_div_left _ _ hD, Nat.add_mul_mod_self_left, Nat.div_eq_of_lt h3, Nat.mod_eq_of_lt h3]
  exact ⟨by omega, rfl⟩

/-- the shift that sets the highest bit undone -/
theorem knuth_shift (W hi lo p p' : Nat) (hpp : p * p' = W) :
    (hi * p + lo / p') * W + lo * p % W = (hi * W + lo) * p := by
  subst hpp
  rw [Nat.mul_comm lo p, Nat.mul_mod_mul_left]
  have h := Nat.div_add_mod lo p'
  generalize lo / p' = a at *
  generalize lo % p' = b at *
  subst h
  simp only [Nat.add_mul]
  simp only [Nat.mul_comm, Nat.mul_left_comm]
  omega

end Go.Proofs.Ytamjhblhkabpaaa

namespace Go.Proofs.Ytamjhblhkabpaaa

theorem bits_ext {a b : List Int} (h : a.length = b.length) (hk : ∀ i, i < a.length → a.getD i 0 = b.getD i 0) : a = b := by
  refine List.ext_getElem h fun i h1 h2 => ?_
  have := hk i h1
  simpa [List.getD, List.getElem?_eq_getElem h1, List.getElem?_eq_getElem h2] using this

theorem bit_two (r b : Nat) (hb : b < 2) (i : Nat) : bit (2 * r + b) i = if i = 0 then b else bit r (i - 1) := by
  unfold bit
  by_cases h : i = 0
  · subst h; rw [if_pos rfl, Nat.pow_zero, Nat.div_one]; omega
  · rw [if_neg h]
    obtain ⟨j, rfl⟩ : ∃ j, i = j + 1 := ⟨i - 1, by omega⟩
    have e : (2 * r + b) / 2 ^ (j + 1) = r / 2 ^ j := by
      rw [Nat.pow_succ, Nat.mul_comm (2 ^ j) 2, ← Nat.div_div_eq_div_mul]
      congr 1
      omega
    rw [e]; rfl
/-- the lowest bit is laid -/
theorem set_low (r b n : Nat) (hb : b < 2) (hn : 0 < n) : (bitsL (r * 2 ^ 1) n).set 0 (b : Int) = bitsL (2 * r + b) n := by
  refine bits_ext (by simp [bitsL_len]) fun i hi => ?_
  rw [List.length_set, bitsL_len] at hi
  rw [getD_set _ _ _ _ (by rw [bitsL_len]; exact hn), bitsL_get _ _ _ hi, bitsL_get _ _ _ hi, bit_two r b hb]
  by_cases h : i = 0
  · rw [if_pos h.symm, if_pos h]
  · rw [if_neg (fun h' => h h'.symm), if_neg h]
    have := bit_two r 0 (by decide) i
    rw [if_neg h] at this
    have e : r * 2 ^ 1 = 2 * r + 0 := by omega
    rw [e, this]
/-- a bit of the quotient -/
theorem set_quot (h j n : Nat) (hj : j < n) : (bitsL (2 * h * 2 ^ j) n).set j 1 = bitsL ((2 * h + 1) * 2 ^ j) n := by
  refine bits_ext (by simp [bitsL_len]) fun i hi => ?_
  rw [List.length_set, bitsL_len] at hi
  rw [getD_set _ _ _ _ (by rw [bitsL_len]; exact hj), bitsL_get _ _ _ hi, bitsL_get _ _ _ hi, shl_bit, shl_bit]
  by_cases h1 : j = i
  · subst h1
    rw [if_pos rfl, if_neg (by omega), Nat.sub_self]
    simp [bit]
  · rw [if_neg h1]
    by_cases h2 : i < j
    · rw [if_pos h2, if_pos h2]
    · rw [if_neg h2, if_neg h2]
      have h3 : i - j ≠ 0 := by omega
      have a1 := bit_two h 0 (by decide) (i - j)
      have a2 := bit_two h 1 (by decide) (i - j)
      rw [if_neg h3] at a1 a2
      rw [Nat.add_zero] at a1
      rw [a1, a2]
theorem div_step (hi b y : Nat) (hb : b < 2) (hy : 0 < y) :
    (2 * (hi % y) + b < y → (2 * hi + b) / y = 2 * (hi / y) ∧ (2 * hi + b) % y = 2 * (hi % y) + b) ∧
    (y ≤ 2 * (hi % y) + b → (2 * hi + b) / y = 2 * (hi / y) + 1 ∧ (2 * hi + b) % y = 2 * (hi % y) + b - y) := by
  have h1 := Nat.div_add_mod hi y
  have h2 := Nat.mod_lt hi hy
  constructor
  · intro h
    have e : 2 * hi + b = y * (2 * (hi / y)) + (2 * (hi % y) + b) := by
      rw [Nat.mul_left_comm]; omega
    rw [e, Nat.mul_add_div hy, Nat.mul_add_mod, Nat.div_eq_of_lt h, Nat.mod_eq_of_lt h]
    exact ⟨rfl, rfl⟩
  · intro h
    have e : 2 * hi + b = y * (2 * (hi / y) + 1) + (2 * (hi % y) + b - y) := by
      rw [Nat.mul_add, Nat.mul_left_comm]; omega
    have hl : 2 * (hi % y) + b - y < y := by omega
    rw [e, Nat.mul_add_div hy, Nat.mul_add_mod, Nat.div_eq_of_lt hl, Nat.mod_eq_of_lt hl]
    exact ⟨rfl, rfl⟩

end Go.Proofs.Ytamjhblhkabpaaa

namespace Go.Proofs.Ytamjhblhkabpaaa
set_option linter.unusedSimpArgs false

/-- the first place below n at which something holds -/
def fstFrom (f : Nat → Bool) : Nat → Option Nat
  | 0 => none
  | n + 1 => match fstFrom f n with
    | some j => some j
    | none => if f n then some n else none
theorem fst_spec (f : Nat → Bool) : ∀ n, (∀ j, fstFrom f n = some j → j < n ∧ f j = true ∧ ∀ i, i < j → f i = false) ∧ (fstFrom f n = none → ∀ i, i < n → f i = false)
  | 0 => ⟨fun j h => by simp [fstFrom] at h, fun _ i hi => by omega⟩
  | n + 1 => by
    obtain ⟨h1, h2⟩ := fst_spec f n
    unfold fstFrom
    cases h : fstFrom f n with
    | some j =>
      obtain ⟨a, b, c⟩ := h1 j h
      refine ⟨fun j' e => ?_, fun e => by simp at e⟩
      simp only [Option.some.injEq] at e
      subst e
      exact ⟨by omega, b, c⟩
    | none =>
      have h3 := h2 h
      cases hf : f n with
      | true =>
        refine ⟨fun j' e => ?_, fun e => by simp at e⟩
        simp only [if_true, Option.some.injEq] at e
        subst e
        exact ⟨by omega, hf, h3⟩
      | false =>
        refine ⟨fun j' e => by simp at e, fun _ i hi => ?_⟩
        by_cases hin : i = n
        · rw [hin]; exact hf
        · exact h3 i (by omega)
theorem fst_at {f : Nat → Bool} {n j : Nat} (hj : j < n) (h : f j = true) (h0 : ∀ i, i < j → f i = false) : fstFrom f n = some j := by
  obtain ⟨h1, h2⟩ := fst_spec f n
  cases hf : fstFrom f n with
  | none => rw [h2 hf j hj] at h; cases h
  | some k =>
    obtain ⟨a, b, c⟩ := h1 k hf
    rcases Nat.lt_trichotomy j k with h3 | h3 | h3
    · rw [c j h3] at h; cases h
    · rw [h3]
    · rw [h0 k h3] at b; cases b
theorem fst_no {f : Nat → Bool} {n : Nat} (h : ∀ i, i < n → f i = false) : fstFrom f n = none := by
  obtain ⟨h1, -⟩ := fst_spec f n
  cases hf : fstFrom f n with
  | none => rfl
  | some k => obtain ⟨a, b, -⟩ := h1 k hf; rw [h k a] at b; cases b

/-- what is had by the items without a column, and how many they are -/
def sumA : List Nat → List Bool → Nat
  | h :: hs, d :: ds => (if d then 0 else h) + sumA hs ds
  | _, _ => 0
def cntA : List Bool → Nat
  | [] => 0
  | d :: ds => (if d then 0 else 1) + cntA ds
theorem sumA_le (T : Nat) : ∀ (hs : List Nat) (ds : List Bool), hs.length = ds.length → (∀ i, i < ds.length → ds.getD i true = false → hs.getD i 0 ≤ T) → sumA hs ds ≤ T * cntA ds
  | [], [], _, _ => by simp [sumA]
  | h :: hs, d :: ds, hl, hh => by
    have ih := sumA_le T hs ds (by simpa using hl) (fun i hi hd => by have := hh (i + 1) (by simp; omega) (by simpa using hd); simpa using this)
    have h0 := hh 0 (by simp)
    cases d with
    | true => simp only [sumA, cntA, if_true, Nat.zero_add]; exact ih
    | false =>
      have := h0 (by simp)
      simp only [List.getD_cons_zero] at this
      simp only [sumA, cntA, Nat.mul_add]
      simp only [Bool.false_eq_true, if_false, Nat.mul_one]
      omega
theorem sumA_lt (T : Nat) : ∀ (hs : List Nat) (ds : List Bool), hs.length = ds.length → (∀ i, i < ds.length → ds.getD i true = false → hs.getD i 0 ≤ T) → ∀ j, j < ds.length → ds.getD j true = false → hs.getD j 0 < T → sumA hs ds < T * cntA ds
  | [], [], _, _, j, hj, _, _ => by simp at hj
  | h :: hs, d :: ds, hl, hh, j, hj, hd, hlt => by
    have hh' : ∀ i, i < ds.length → ds.getD i true = false → hs.getD i 0 ≤ T := fun i hi hd => by have := hh (i + 1) (by simp; omega) (by simpa using hd); simpa using this
    have hl' : hs.length = ds.length := by simpa using hl
    cases j with
    | zero =>
      simp only [List.getD_cons_zero] at hd hlt
      subst hd
      have := sumA_le T hs ds hl' hh'
      simp only [sumA, cntA, Nat.mul_add, Bool.false_eq_true, if_false, Nat.mul_one]
      omega
    | succ j =>
      simp only [List.getD_cons_succ] at hd hlt
      have ih := sumA_lt T hs ds hl' hh' j (by simpa using hj) hd hlt
      have h0 := hh 0 (by simp)
      cases d with
      | true => simp only [sumA, cntA, if_true, Nat.zero_add]; exact ih
      | false =>
        have := h0 (by simp)
        simp only [List.getD_cons_zero] at this
        simp only [sumA, cntA, Nat.mul_add, Bool.false_eq_true, if_false, Nat.mul_one]
        omega
theorem sumA_set (g v : Nat) : ∀ (hs : List Nat) (ds : List Bool), hs.length = ds.length → g < ds.length → ds.getD g true = false → sumA (hs.set g v) ds + hs.getD g 0 = sumA hs ds + v := by
  induction g with
  | zero =>
    intro hs ds hl hg hd
    cases hs with
    | nil => cases ds with | nil => simp at hg | cons => simp at hl
    | cons h hs =>
      cases ds with
      | nil => simp at hg
      | cons d ds =>
        simp only [List.getD_cons_zero] at hd
        subst hd
        simp only [List.set_cons_zero, sumA, List.getD_cons_zero, Bool.false_eq_true, if_false]
        omega
  | succ g ih =>
    intro hs ds hl hg hd
    cases hs with
    | nil => cases ds with | nil => simp at hg | cons => simp at hl
    | cons h hs =>
      cases ds with
      | nil => simp at hg
      | cons d ds =>
        simp only [List.getD_cons_succ] at hd
        have := ih hs ds (by simpa using hl) (by simpa using hg) hd
        simp only [List.set_cons_succ, sumA, List.getD_cons_succ]
        omega
theorem sumA_done (j : Nat) : ∀ (hs : List Nat) (ds : List Bool), hs.length = ds.length → j < ds.length → ds.getD j true = false → sumA hs (ds.set j true) + hs.getD j 0 = sumA hs ds ∧ cntA (ds.set j true) + 1 = cntA ds := by
  induction j with
  | zero =>
    intro hs ds hl hg hd
    cases hs with
    | nil => cases ds with | nil => simp at hg | cons => simp at hl
    | cons h hs =>
      cases ds with
      | nil => simp at hg
      | cons d ds =>
        simp only [List.getD_cons_zero] at hd
        subst hd
        simp only [List.set_cons_zero, sumA, cntA, List.getD_cons_zero, Bool.false_eq_true, if_false, if_true]
        omega
  | succ g ih =>
    intro hs ds hl hg hd
    cases hs with
    | nil => cases ds with | nil => simp at hg | cons => simp at hl
    | cons h hs =>
      cases ds with
      | nil => simp at hg
      | cons d ds =>
        simp only [List.getD_cons_succ] at hd
        have := ih hs ds (by simpa using hl) (by simpa using hg) hd
        simp only [List.set_cons_succ, sumA, cntA, List.getD_cons_succ]
        omega
theorem sumA_start (k : Nat) : ∀ ws : List Nat, sumA (ws.map (k * ·)) (List.replicate ws.length false) = ws.sum * k ∧ cntA (List.replicate ws.length false) = ws.length
  | [] => by simp [sumA, cntA]
  | x :: ws => by
    obtain ⟨h1, h2⟩ := sumA_start k ws
    simp only [List.map_cons, List.length_cons, List.replicate_succ, sumA, cntA, h1, h2, List.sum_cons, Nat.add_mul, Bool.false_eq_true, if_false]
    rw [Nat.mul_comm k x]
    omega

/-- what stands while a table is built -/
structure StA where
  has : List Nat
  dn : List Bool
  bl : List Nat
  al : List Int
def hitA (p : Nat → Bool) (s : StA) (i : Nat) : Bool := !(s.dn.getD i true) && p (s.has.getD i 0)
def lessA (T : Nat) (s : StA) : Option Nat := fstFrom (hitA (fun x => decide (x < T)) s) s.dn.length
def moreA (T : Nat) (s : StA) : Option Nat := fstFrom (hitA (fun x => decide (T < x)) s) s.dn.length
def nextA (T : Nat) (s : StA) (j g : Nat) : StA :=
  { has := s.has.set g (s.has.getD g 0 - (T - s.has.getD j 0)), dn := s.dn.set j true, bl := s.bl.set j (s.has.getD j 0), al := s.al.set j (g : Int) }
def runA (T : Nat) : Nat → StA → StA
  | 0, s => s
  | k + 1, s => match lessA T s with
    | none => s
    | some j => match moreA T s with
      | none => s
      | some g => runA T k (nextA T s j g)
def startA (ws : List Nat) : StA := { has := ws.map (ws.length * ·), dn := List.replicate ws.length false, bl := List.replicate ws.length ws.sum, al := (List.range ws.length).map Int.ofNat }
def aliF (ws : List Nat) : StA := runA ws.sum ws.length (startA ws)

structure InvA (T n B : Nat) (s : StA) : Prop where
  lh : s.has.length = n
  ld : s.dn.length = n
  lb : s.bl.length = n
  la : s.al.length = n
  sum : sumA s.has s.dn = T * cntA s.dn
  bd : ∀ i, i < n → s.has.getD i 0 ≤ B
  bb : ∀ i, i < n → s.bl.getD i 0 ≤ B
  ba : ∀ i, i < n → 0 ≤ s.al.getD i 0 ∧ s.al.getD i 0 < (n : Int)
  bt : ∀ i, i < n → s.dn.getD i true = false → s.bl.getD i 0 = T

theorem hit_iff {p : Nat → Bool} {s : StA} {i : Nat} : hitA p s i = true ↔ s.dn.getD i true = false ∧ p (s.has.getD i 0) = true := by
  unfold hitA; cases s.dn.getD i true <;> simp

theorem InvA.more {T n B : Nat} {s : StA} (h : InvA T n B s) {j : Nat} (hj : lessA T s = some j) : ∃ g, moreA T s = some g := by
  obtain ⟨h1, -⟩ := fst_spec (hitA (fun x => decide (x < T)) s) s.dn.length
  obtain ⟨a, b, -⟩ := h1 j hj
  obtain ⟨b1, b2⟩ := hit_iff.1 b
  obtain ⟨-, h2⟩ := fst_spec (hitA (fun x => decide (T < x)) s) s.dn.length
  cases hm : moreA T s with
  | some g => exact ⟨g, rfl⟩
  | none =>
    have h3 := h2 hm
    have := sumA_lt T s.has s.dn (by rw [h.lh, h.ld]) (fun i hi hd => by
      have h4 := h3 i hi
      unfold hitA at h4
      rw [hd] at h4
      simpa using h4) j a b1 (by simpa using b2)
    rw [h.sum] at this
    omega
theorem less_facts {T n B : Nat} {s : StA} (h : InvA T n B s) {j : Nat} (hj : lessA T s = some j) : j < n ∧ s.dn.getD j true = false ∧ s.has.getD j 0 < T := by
  obtain ⟨a, b, -⟩ := (fst_spec (hitA (fun x => decide (x < T)) s) s.dn.length).1 j hj
  obtain ⟨b1, b2⟩ := hit_iff.1 b
  exact ⟨by rw [← h.ld]; exact a, b1, by simpa using b2⟩
theorem more_facts {T n B : Nat} {s : StA} (h : InvA T n B s) {g : Nat} (hg : moreA T s = some g) : g < n ∧ s.dn.getD g true = false ∧ T < s.has.getD g 0 := by
  obtain ⟨a, b, -⟩ := (fst_spec (hitA (fun x => decide (T < x)) s) s.dn.length).1 g hg
  obtain ⟨b1, b2⟩ := hit_iff.1 b
  exact ⟨by rw [← h.ld]; exact a, b1, by simpa using b2⟩
theorem getD_setN {α : Type} (l : List α) (i j : Nat) (u d : α) (hi : i < l.length) : (l.set i u).getD j d = if i = j then u else l.getD j d := by
  simp only [List.getD, List.getElem?_set]
  split
  · rename_i h; subst h; simp [hi]
  · rfl
theorem InvA.next {T n B : Nat} {s : StA} (h : InvA T n B s) {j g : Nat} (hj : lessA T s = some j) (hg : moreA T s = some g) : InvA T n B (nextA T s j g) ∧ cntA (nextA T s j g).dn + 1 = cntA s.dn := by
  obtain ⟨j1, j2, j3⟩ := less_facts h hj
  obtain ⟨g1, g2, g3⟩ := more_facts h hg
  have hne : j ≠ g := fun e => by subst e; omega
  obtain ⟨d1, d2⟩ := sumA_done j (s.has.set g (s.has.getD g 0 - (T - s.has.getD j 0))) s.dn (by rw [List.length_set, h.lh, h.ld]) (by rw [h.ld]; exact j1) j2
  have s1 := sumA_set g (s.has.getD g 0 - (T - s.has.getD j 0)) s.has s.dn (by rw [h.lh, h.ld]) (by rw [h.ld]; exact g1) g2
  rw [getD_setN _ _ _ _ _ (by rw [h.lh]; exact g1), if_neg (Ne.symm hne)] at d1
  refine ⟨⟨?_, ?_, ?_, ?_, ?_, fun i hi => ?_, fun i hi => ?_, fun i hi => ?_, fun i hi hd => ?_⟩, d2⟩
  · simp [nextA, h.lh]
  · simp [nextA, h.ld]
  · simp [nextA, h.lb]
  · simp [nextA, h.la]
  · show sumA (s.has.set g (s.has.getD g 0 - (T - s.has.getD j 0))) (s.dn.set j true) = T * cntA (s.dn.set j true)
    have hs := h.sum
    rw [← d2, Nat.mul_add, Nat.mul_one] at hs
    omega
  · show (s.has.set g _).getD i 0 ≤ B
    rw [getD_setN _ _ _ _ _ (by rw [h.lh]; exact g1)]
    have h1 := h.bd i hi
    have h2 := h.bd g g1
    split <;> omega
  · show (s.bl.set j _).getD i 0 ≤ B
    rw [getD_setN _ _ _ _ _ (by rw [h.lb]; exact j1)]
    have h1 := h.bb i hi
    have h2 := h.bd j j1
    split <;> omega
  · show 0 ≤ (s.al.set j _).getD i 0 ∧ (s.al.set j _).getD i 0 < (n : Int)
    rw [getD_setN _ _ _ _ _ (by rw [h.la]; exact j1)]
    have h1 := h.ba i hi
    split <;> omega
  · have hd' : (s.dn.set j true).getD i true = false := hd
    rw [getD_setN _ _ _ _ _ (by rw [h.ld]; exact j1)] at hd'
    show (s.bl.set j _).getD i 0 = T
    rw [getD_setN _ _ _ _ _ (by rw [h.lb]; exact j1)]
    split at hd'
    · cases hd'
    · rename_i hij
      rw [if_neg hij]
      exact h.bt i hi hd'
theorem run_next {T n B : Nat} {s : StA} (h : InvA T n B s) {j g : Nat} (hj : lessA T s = some j) (hg : moreA T s = some g) : runA T (cntA s.dn) s = runA T (cntA (nextA T s j g).dn) (nextA T s j g) := by
  have := (h.next hj hg).2
  rw [← this]
  show runA T (cntA (nextA T s j g).dn + 1) s = _
  conv => lhs; unfold runA
  rw [hj]
  simp only [hg]
theorem run_end {T : Nat} {s : StA} (h : lessA T s = none) (k : Nat) : runA T k s = s := by
  cases k with
  | zero => rfl
  | succ k => unfold runA; rw [h]
theorem start_inv (ws : List Nat) (B : Nat) (hb : ∀ i, i < ws.length → ws.length * ws.getD i 0 ≤ B) (ht : ws.sum ≤ B) : InvA ws.sum ws.length B (startA ws) ∧ cntA (startA ws).dn = ws.length := by
  obtain ⟨h1, h2⟩ := sumA_start ws.length ws
  refine ⟨⟨by simp [startA], by simp [startA], by simp [startA], by simp [startA], ?_, fun i hi => ?_, fun i hi => ?_, fun i hi => ?_, fun i hi _ => ?_⟩, h2⟩
  · show sumA (ws.map (ws.length * ·)) (List.replicate ws.length false) = ws.sum * cntA (List.replicate ws.length false)
    rw [h1, h2]
  · have := hb i hi
    simpa [startA, List.getD, hi] using this
  · simpa [startA, List.getD, hi] using ht
  · simp [startA, List.getD, hi]
  · simp [startA, List.getD, hi]
end Go.Proofs.Ytamjhblhkabpaaa

namespace Go.Proofs.Ytamjhblhkabpaaa

/-- what the first i choices make of a row of i -/
def permR : Nat → List Int → List Int → List Int
  | 0, _, _ => []
  | i + 1, row, c => permR i ((swp row i (c.getD i 0).toNat).take i) c ++ [row.getD (c.getD i 0).toNat 0]
/-- the choices that make p of a row -/
def chR : Nat → List Int → List Int → List Int
  | 0, _, _ => []
  | i + 1, now, p => chR i ((swp now i (ixN now (p.getD i 0))).take i) p ++ [((ixN now (p.getD i 0) : Nat) : Int)]
theorem permR_len : ∀ (i : Nat) (row c : List Int), (permR i row c).length = i
  | 0, _, _ => rfl
  | i + 1, row, c => by simp [permR, permR_len i]
theorem chR_len : ∀ (i : Nat) (row c : List Int), (chR i row c).length = i
  | 0, _, _ => rfl
  | i + 1, row, c => by simp [chR, chR_len i]
theorem permR_congr : ∀ (i : Nat) (row c c' : List Int), (∀ j, j < i → c.getD j 0 = c'.getD j 0) → permR i row c = permR i row c'
  | 0, _, _, _, _ => rfl
  | i + 1, row, c, c', h => by
    simp only [permR]
    rw [h i (by omega), permR_congr i _ c c' (fun j hj => h j (by omega))]

/-- choices that may be -/
def shRight (c : List Int) : Prop := ∀ i, i < c.length → 0 ≤ c.getD i 0 ∧ c.getD i 0 ≤ (i : Int)
def shRightB (c : List Int) : Bool := (List.range c.length).all fun i => decide (0 ≤ c.getD i 0) && decide (c.getD i 0 ≤ (i : Int))
theorem shRightB_iff {c : List Int} : shRightB c = true ↔ shRight c := by simp [shRightB, shRight]

def permL (c : List Int) : List Int := permR c.length (rowL c.length) c
def choL (p : List Int) : List Int := chR p.length (rowL p.length) p

theorem swp_take_perm {l : List Int} {i a : Nat} (hl : l.length = i + 1) (ha : a < i + 1) (hn : l.Nodup) :
    ((swp l i a).take i ++ [l.getD a 0]).Perm l ∧ ((swp l i a).take i).Nodup ∧ ((swp l i a).take i).length = i := by
  have h1 : i < l.length := by omega
  have h2 : a < l.length := by omega
  have hsl : (swp l i a).length = i + 1 := by rw [swp_len, hl]
  have hlast : (swp l i a).getD i 0 = l.getD a 0 := by
    rw [swp_get _ _ _ _ h1 h2]
    by_cases h : i = a
    · rw [if_pos h, ← h]
    · rw [if_neg h, if_pos rfl]
  have hs := take_last (l := swp l i a) (m := i) hsl
  rw [hlast] at hs
  have hnd := swp_nodup hn h1 h2
  have hperm : (swp l i a).Perm l := by
    refine List.perm_iff_count.2 fun x => ?_
    rw [hnd.count, hn.count]
    by_cases hx : x ∈ l
    · rw [if_pos hx, if_pos ((swp_mem h1 h2).2 hx)]
    · rw [if_neg hx, if_neg (fun h => hx ((swp_mem h1 h2).1 h))]
  refine ⟨by rw [hs]; exact hperm, ?_, by rw [List.length_take, hsl]; omega⟩
  rw [← hs] at hnd
  exact (List.nodup_append.1 hnd).1

theorem ixN_mem {l : List Int} (hn : l.Nodup) {x : Int} (hx : x ∈ l) : ixN l x < l.length ∧ l.getD (ixN l x) 0 = x ∧ Lib.idxOf l x = ((ixN l x : Nat) : Int) := by
  obtain ⟨i, hi, he⟩ := mem_getD hx
  have e := ixN_eq hn hi he
  rw [e]
  exact ⟨hi, he, ix_eq hn hi he⟩

/-- the choices of an order make it -/
theorem perm_of_ch : ∀ (i : Nat) (now p : List Int), now.length = i → now.Nodup → i ≤ p.length → (p.take i).Perm now →
    permR i now (chR i now p) = p.take i ∧ ∀ j, j < i → 0 ≤ (chR i now p).getD j 0 ∧ (chR i now p).getD j 0 ≤ (j : Int)
  | 0, now, p, _, _, _, _ => ⟨by simp [permR], fun j hj => by omega⟩
  | i + 1, now, p, hl, hn, hip, hp => by
    have hpt : p.take (i + 1) = p.take i ++ [p.getD i 0] := by
      rw [List.take_succ_eq_append_getElem (show i < p.length by omega)]
      simp [List.getD, List.getElem?_eq_getElem (show i < p.length by omega)]
    have hmem : p.getD i 0 ∈ now := hp.mem_iff.1 (by rw [hpt]; simp)
    obtain ⟨g1, g2, -⟩ := ixN_mem hn hmem
    generalize ha : ixN now (p.getD i 0) = a at *
    obtain ⟨s1, s2, s3⟩ := swp_take_perm (i := i) (a := a) hl (by omega) hn
    rw [g2] at s1
    have hp2 : (p.take i).Perm ((swp now i a).take i) := by
      rw [hpt] at hp
      exact (List.perm_append_right_iff _).1 (hp.trans s1.symm)
    obtain ⟨ih1, ih2⟩ := perm_of_ch i ((swp now i a).take i) p s3 s2 (by omega) hp2
    have hch : chR (i + 1) now p = chR i ((swp now i a).take i) p ++ [(a : Int)] := by simp only [chR]; rw [ha]
    have hcl := chR_len i ((swp now i a).take i) p
    have hlast : (chR (i + 1) now p).getD i 0 = (a : Int) := by rw [hch]; have := getD_snoc (chR i ((swp now i a).take i) p) (a : Int); rwa [hcl] at this
    constructor
    · simp only [permR]
      rw [hlast, Int.toNat_natCast, g2, hpt]
      rw [permR_congr i _ (chR (i + 1) now p) (chR i ((swp now i a).take i) p) (fun j hj => by rw [hch, getD_append_left _ _ _ (by omega)]), ih1]
    · intro j hj
      by_cases hji : j < i
      · rw [hch, getD_append_left _ _ _ (by omega)]; exact ih2 j hji
      · obtain rfl : j = i := by omega
        rw [hlast]; omega

/-- the choices of what choices make are they -/
theorem ch_of_perm : ∀ (i : Nat) (now c : List Int), now.length = i → now.Nodup → i ≤ c.length → (∀ j, j < i → 0 ≤ c.getD j 0 ∧ c.getD j 0 ≤ (j : Int)) →
    (permR i now c).Perm now ∧ ∀ p : List Int, i ≤ p.length → p.take i = permR i now c → chR i now p = c.take i
  | 0, now, c, hl, _, _, _ => ⟨by rw [List.length_eq_zero_iff.1 hl]; exact List.Perm.refl _, fun p _ _ => by simp [chR]⟩
  | i + 1, now, c, hl, hn, hic, hc => by
    have hci := hc i (by omega)
    generalize ha : (c.getD i 0).toNat = a at *
    have hai : a < i + 1 := by omega
    obtain ⟨s1, s2, s3⟩ := swp_take_perm (i := i) (a := a) hl hai hn
    obtain ⟨ih1, ih2⟩ := ch_of_perm i ((swp now i a).take i) c s3 s2 (by omega) (fun j hj => hc j (by omega))
    have hpr : permR (i + 1) now c = permR i ((swp now i a).take i) c ++ [now.getD a 0] := by simp only [permR]; rw [ha]
    refine ⟨by rw [hpr]; exact (List.Perm.append_right _ ih1).trans s1, fun p hip hp => ?_⟩
    have hpt : p.take (i + 1) = p.take i ++ [p.getD i 0] := by
      rw [List.take_succ_eq_append_getElem (show i < p.length by omega)]
      simp [List.getD, List.getElem?_eq_getElem (show i < p.length by omega)]
    rw [hpt, hpr] at hp
    have hpl := permR_len i ((swp now i a).take i) c
    obtain ⟨e1, e2⟩ := List.append_inj hp (by rw [List.length_take, hpl]; omega)
    have e3 : p.getD i 0 = now.getD a 0 := by simpa using e2
    have hix : ixN now (p.getD i 0) = a := ixN_eq hn (by omega) e3.symm
    simp only [chR]
    rw [hix, ih2 p (by omega) e1]
    have hct : c.take (i + 1) = c.take i ++ [c.getD i 0] := by
      rw [List.take_succ_eq_append_getElem (show i < c.length by omega)]
      simp [List.getD, List.getElem?_eq_getElem (show i < c.length by omega)]
    rw [hct]
    have : ((a : Nat) : Int) = c.getD i 0 := by omega
    rw [this]

theorem perm_cho {p : List Int} (hp : IsP p) : permL (choL p) = p ∧ shRight (choL p) ∧ (choL p).length = p.length := by
  have hl : (choL p).length = p.length := chR_len _ _ _
  obtain ⟨h1, h2⟩ := perm_of_ch p.length (rowL p.length) p (rowL_len _) (rowL_nodup _) (Nat.le_refl _) (by rw [List.take_length]; exact hp)
  rw [List.take_length] at h1
  refine ⟨?_, fun i hi => h2 i (by omega), hl⟩
  unfold permL
  rw [hl]
  exact h1
theorem permL_len (c : List Int) : (permL c).length = c.length := permR_len _ _ _
theorem cho_perm {c : List Int} (hc : shRight c) : choL (permL c) = c ∧ IsP (permL c) := by
  obtain ⟨h1, h2⟩ := ch_of_perm c.length (rowL c.length) c (rowL_len _) (rowL_nodup _) (Nat.le_refl _) hc
  have h3 := h2 (permL c) (by rw [permL_len]; exact Nat.le_refl _) (by rw [List.take_of_length_le (by rw [permL_len]; exact Nat.le_refl _)]; rfl)
  rw [List.take_length] at h3
  refine ⟨?_, ?_⟩
  · unfold choL
    rw [permL_len]
    exact h3
  · unfold IsP
    rw [permL_len]
    exact h1

/-- one order behind another one -/
def thenL (p q : List Int) : List Int := q.map fun x => p.getD x.toNat 0
theorem thenL_len (p q : List Int) : (thenL p q).length = q.length := by simp [thenL]
theorem thenL_get (p q : List Int) (i : Nat) (h : i < q.length) : (thenL p q).getD i 0 = p.getD (q.getD i 0).toNat 0 := by simp [thenL, List.getD, h]
/-- what undoes an order -/
def backL (p : List Int) : List Int := (List.range p.length).map fun (x : Nat) => ((ixN p (x : Int) : Nat) : Int)
theorem backL_len (p : List Int) : (backL p).length = p.length := by simp [backL]
theorem backL_get (p : List Int) (x : Nat) (h : x < p.length) : (backL p).getD x 0 = ((ixN p (x : Int) : Nat) : Int) := by simp [backL, List.getD, h]
theorem then_back {p : List Int} (hp : IsP p) : thenL p (backL p) = rowL p.length := by
  refine ext_getD (by rw [thenL_len, backL_len, rowL_len]) fun i hi => ?_
  rw [thenL_len, backL_len] at hi
  rw [thenL_get _ _ _ (by rw [backL_len]; exact hi), backL_get _ _ hi, rowL_get _ _ hi, Int.toNat_natCast]
  exact (ixN_spec hp (x := (i : Int)) (by omega) (by omega)).2.1
theorem back_isP {p : List Int} (hp : IsP p) : IsP (backL p) := by
  have hb : ∀ i, i < p.length → ixN p (i : Int) < p.length ∧ p.getD (ixN p (i : Int)) 0 = (i : Int) := fun i hi => by
    obtain ⟨h1, h2, -⟩ := ixN_spec hp (x := (i : Int)) (by omega) (by omega)
    exact ⟨h1, h2⟩
  refine isP_of (nodup_of_inj fun i j hi hj e => ?_) fun x hx => ?_
  · rw [backL_len] at hi hj
    rw [backL_get _ _ hi, backL_get _ _ hj] at e
    have e' : ixN p (i : Int) = ixN p (j : Int) := by omega
    have h1 := (hb i hi).2
    have h2 := (hb j hj).2
    rw [e'] at h1
    omega
  · obtain ⟨i, hi, rfl⟩ := mem_getD hx
    rw [backL_len] at hi ⊢
    rw [backL_get _ _ hi]
    have := (hb i hi).1
    omega

end Go.Proofs.Ytamjhblhkabpaaa

namespace Go.Proofs.Ytamjhblhkabpaaa

/-- the first one takes the place of what goes -/
def cut (R : List Int) (a : Nat) : List Int := (R.set a (R.getD 0 0)).drop 1
theorem cut_len (R : List Int) (a : Nat) : (cut R a).length = R.length - 1 := by simp [cut]
def pickR : List Int → List Int → List Int
  | _, [] => []
  | R, x :: c => R.getD x.toNat 0 :: pickR (cut R x.toNat) c
def chP : List Int → List Int → List Int
  | _, [] => []
  | R, y :: l => ((ixN R y : Nat) : Int) :: chP (cut R (ixN R y)) l
def pickL (n : Nat) (c : List Int) : List Int := pickR (rowL n) c
def choS (n : Nat) (l : List Int) : List Int := chP (rowL n) l
theorem pickR_len : ∀ (c R : List Int), (pickR R c).length = c.length
  | [], _ => rfl
  | _ :: c, R => by simp [pickR, pickR_len c]
theorem chP_len : ∀ (c R : List Int), (chP R c).length = c.length
  | [], _ => rfl
  | _ :: c, R => by simp [chP, chP_len c]

/-- choices that may be, of m items -/
def sbRight (m : Int) (c : List Int) : Prop := ∀ i, i < c.length → 0 ≤ c.getD i 0 ∧ c.getD i 0 ≤ m - 1 - (i : Int)
def sbRightB (m : Int) (c : List Int) : Bool := (List.range c.length).all fun i => decide (0 ≤ c.getD i 0) && decide (c.getD i 0 ≤ m - 1 - (i : Int))
theorem sbRightB_iff {m : Int} {c : List Int} : sbRightB m c = true ↔ sbRight m c := by simp [sbRightB, sbRight]
theorem sbRight_cons {m x : Int} {c : List Int} (h : sbRight m (x :: c)) : 0 ≤ x ∧ x ≤ m - 1 ∧ sbRight (m - 1) c := by
  have h0 := h 0 (by simp)
  simp at h0
  refine ⟨h0.1, by omega, fun i hi => ?_⟩
  have := h (i + 1) (by simp; omega)
  rw [List.getD_cons_succ] at this
  omega
theorem sbRight_mk {m x : Int} {c : List Int} (h0 : 0 ≤ x) (h1 : x ≤ m - 1) (h : sbRight (m - 1) c) : sbRight m (x :: c) := by
  intro i hi
  cases i with
  | zero => simp; omega
  | succ i =>
    have := h i (by simp at hi; omega)
    rw [List.getD_cons_succ]
    omega

theorem cut_perm {R : List Int} {a : Nat} (ha : a < R.length) : (R.getD a 0 :: cut R a).Perm R := by
  cases R with
  | nil => simp at ha
  | cons r rest =>
    cases a with
    | zero => simp [cut]
    | succ a =>
      have h : a < rest.length := by simpa using ha
      have e1 : (r :: rest).getD (a + 1) 0 = rest[a] := by simp [List.getD, List.getElem?_eq_getElem h]
      have e2 : cut (r :: rest) (a + 1) = rest.set a r := by simp [cut]
      rw [e1, e2, List.set_eq_take_append_cons_drop, if_pos h]
      have e3 : rest = rest.take a ++ rest[a] :: rest.drop (a + 1) := by rw [List.getElem_cons_drop, List.take_append_drop]
      have h1 : (rest[a] :: (rest.take a ++ r :: rest.drop (a + 1))).Perm (rest[a] :: r :: (rest.take a ++ rest.drop (a + 1))) := List.Perm.cons _ List.perm_middle
      have h2 : (r :: rest).Perm (r :: rest[a] :: (rest.take a ++ rest.drop (a + 1))) := by
        refine List.Perm.cons _ ?_
        exact (List.Perm.of_eq e3).trans List.perm_middle
      exact h1.trans ((List.Perm.swap _ _ _).trans h2.symm)

theorem pick_of_ch : ∀ (l R : List Int), R.Nodup → l.Nodup → (∀ y ∈ l, y ∈ R) → pickR R (chP R l) = l ∧ sbRight (R.length : Int) (chP R l)
  | [], R, _, _, _ => ⟨rfl, fun i hi => by simp [chP] at hi⟩
  | y :: l, R, hR, hl, hs => by
    obtain ⟨h1, h2, -⟩ := ixN_mem hR (hs y (by simp))
    have hp := cut_perm h1
    rw [h2] at hp
    have hnd : (y :: cut R (ixN R y)).Nodup := hp.symm.nodup hR
    have hl' := List.nodup_cons.1 hl
    obtain ⟨g1, g2⟩ := pick_of_ch l (cut R (ixN R y)) (List.nodup_cons.1 hnd).2 hl'.2 (fun z hz => by
      rcases List.mem_cons.1 (hp.mem_iff.2 (hs z (List.mem_cons_of_mem _ hz))) with h | h
      · subst h; exact absurd hz hl'.1
      · exact h)
    rw [cut_len] at g2
    refine ⟨?_, sbRight_mk (by omega) (by omega) ?_⟩
    · simp only [chP, pickR, Int.toNat_natCast]
      rw [h2, g1]
    · have : ((R.length : Int) - 1) = ((R.length - 1 : Nat) : Int) := by omega
      rw [this]; exact g2

theorem ch_of_pick : ∀ (c R : List Int), R.Nodup → sbRight (R.length : Int) c → chP R (pickR R c) = c ∧ (pickR R c).Nodup ∧ ∀ y ∈ pickR R c, y ∈ R
  | [], R, _, _ => ⟨rfl, by simp [pickR], by simp [pickR]⟩
  | x :: c, R, hR, hc => by
    obtain ⟨h0, h1, h2⟩ := sbRight_cons hc
    have ha : x.toNat < R.length := by omega
    have hp := cut_perm ha
    have hnd : (R.getD x.toNat 0 :: cut R x.toNat).Nodup := hp.symm.nodup hR
    have hcons := List.nodup_cons.1 hnd
    have : ((R.length : Int) - 1) = ((R.length - 1 : Nat) : Int) := by omega
    rw [this, ← cut_len R x.toNat] at h2
    obtain ⟨g1, g2, g3⟩ := ch_of_pick c (cut R x.toNat) hcons.2 h2
    have hix : ixN R (R.getD x.toNat 0) = x.toNat := ixN_eq hR ha rfl
    refine ⟨?_, ?_, ?_⟩
    · simp only [pickR, chP]
      rw [hix, g1]
      have : ((x.toNat : Nat) : Int) = x := by omega
      rw [this]
    · simp only [pickR]
      exact List.nodup_cons.2 ⟨fun h => hcons.1 (g3 _ h), g2⟩
    · intro y hy
      simp only [pickR] at hy
      rcases List.mem_cons.1 hy with h | h
      · rw [h]; exact getD_mem _ _ ha
      · exact hp.mem_iff.1 (List.mem_cons_of_mem _ (g3 y h))

/-- a pick of n items -/
def IsS (n : Int) (l : List Int) : Prop := l.Nodup ∧ ∀ x ∈ l, 0 ≤ x ∧ x < n
instance (n : Int) (l : List Int) : Decidable (IsS n l) := inferInstanceAs (Decidable (_ ∧ _))
def isSB (n : Int) (l : List Int) : Bool := decide (IsS n l)
theorem isSB_iff {n : Int} {l : List Int} : isSB n l = true ↔ IsS n l := by simp [isSB]
theorem isSB_not {n : Int} {l : List Int} (h : ¬ IsS n l) : isSB n l = false := by simp [isSB, h]
theorem pick_cho {n : Nat} {l : List Int} (h : IsS (n : Int) l) : pickL n (choS n l) = l ∧ sbRight (n : Int) (choS n l) ∧ (choS n l).length = l.length := by
  obtain ⟨h1, h2⟩ := pick_of_ch l (rowL n) (rowL_nodup n) h.1 (fun y hy => mem_rowL.2 (h.2 y hy))
  rw [rowL_len] at h2
  exact ⟨h1, h2, chP_len _ _⟩
theorem cho_pick {n : Nat} {c : List Int} (h : sbRight (n : Int) c) : choS n (pickL n c) = c ∧ IsS (n : Int) (pickL n c) ∧ (pickL n c).length = c.length := by
  obtain ⟨h1, h2, h3⟩ := ch_of_pick c (rowL n) (rowL_nodup n) (by rw [rowL_len]; exact h)
  exact ⟨h1, ⟨h2, fun x hx => mem_rowL.1 (h3 x hx)⟩, pickR_len _ _⟩

/-- as the program keeps them: one row, what is picked in front -/
theorem swp_cut (P : List Int) (i a : Nat) (h : i + a < P.length) : (swp P i (i + a)).take (i + 1) = P.take i ++ [P.getD (i + a) 0] ∧ (swp P i (i + a)).drop (i + 1) = cut (P.drop i) a ∧ (P.drop i).getD a 0 = P.getD (i + a) 0 := by
  have hl : (swp P i (i + a)).length = P.length := swp_len _ _ _
  have g : ∀ t, (swp P i (i + a)).getD t 0 = if t = i + a then P.getD i 0 else if t = i then P.getD (i + a) 0 else P.getD t 0 := fun t => swp_get P i (i + a) t (by omega) h
  have hd : ∀ t, (P.drop i).getD t 0 = P.getD (i + t) 0 := fun t => by simp [List.getD]
  refine ⟨?_, ?_, hd a⟩
  · refine ext_getD (by simp [hl]; omega) fun t ht => ?_
    have hti : t < i + 1 := by simp [hl] at ht; omega
    rw [getD_take _ _ _ hti, g]
    have hpl : (P.take i).length = i := by rw [List.length_take]; omega
    by_cases h1 : t = i
    · subst h1
      have := getD_snoc (P.take t) (P.getD (t + a) 0)
      rw [hpl] at this
      rw [this, if_pos rfl]
      by_cases h2 : t = t + a
      · rw [if_pos h2, ← h2]
      · rw [if_neg h2]
    · rw [if_neg (by omega), if_neg h1, getD_append_left _ _ _ (by omega), getD_take _ _ _ (by omega)]
  · refine ext_getD (by simp [hl, cut_len]; omega) fun t ht => ?_
    have htl : i + 1 + t < P.length := by simp [hl] at ht; omega
    have e1 : ((swp P i (i + a)).drop (i + 1)).getD t 0 = (swp P i (i + a)).getD (i + 1 + t) 0 := by simp [List.getD]
    have e2 : (cut (P.drop i) a).getD t 0 = ((P.drop i).set a ((P.drop i).getD 0 0)).getD (t + 1) 0 := by simp [cut, List.getD]
    rw [e1, e2, g, getD_set _ _ _ _ (by simp; omega), hd, hd]
    by_cases h1 : i + 1 + t = i + a
    · rw [if_pos h1, if_pos (by omega)]; rfl
    · rw [if_neg h1, if_neg (by omega), if_neg (by omega)]
      congr 1
      omega

theorem permL_row (n : Nat) : permL (rowL n) = rowL n := by
  have key : ∀ (i : Nat) (c : List Int), (∀ j, j < i → c.getD j 0 = (j : Int)) → permR i (rowL i) c = rowL i := by
    intro i
    induction i with
    | zero => intro c _; rfl
    | succ i ih =>
      intro c hc
      simp only [permR]
      rw [hc i (by omega), Int.toNat_natCast]
      have e : swp (rowL (i + 1)) i i = rowL (i + 1) := by
        refine ext_getD (by rw [swp_len]) fun t ht => ?_
        rw [swp_len, rowL_len] at ht
        rw [swp_get _ _ _ _ (by rw [rowL_len]; omega) (by rw [rowL_len]; omega)]
        by_cases h : t = i
        · rw [if_pos h, h]
        · rw [if_neg h, if_neg h]
      have e2 : (rowL (i + 1)).take i = rowL i := by
        rw [rowL_succ, List.take_append_of_le_length (by rw [rowL_len]; exact Nat.le_refl _), List.take_of_length_le (by rw [rowL_len]; exact Nat.le_refl _)]
      rw [e, e2, ih c (fun j hj => hc j (by omega)), rowL_get _ _ (by omega), rowL_succ]
  unfold permL
  rw [rowL_len]
  exact key n (rowL n) (fun j hj => rowL_get n j hj)
theorem shRight_row (n : Nat) : shRight (rowL n) := by
  intro i hi
  rw [rowL_len] at hi
  rw [rowL_get _ _ hi]
  omega

/-- rising lists -/
def Up (l : List Int) : Prop := l.Pairwise (· < ·)
theorem Up.nodup {l : List Int} (h : Up l) : l.Nodup := h.imp fun h1 h2 => by omega
theorem perm_of_mem {a b : List Int} (ha : a.Nodup) (hb : b.Nodup) (h : ∀ x, x ∈ a ↔ x ∈ b) : a.Perm b := by
  refine List.perm_iff_count.2 fun x => ?_
  rw [ha.count, hb.count]
  by_cases hx : x ∈ a
  · rw [if_pos hx, if_pos ((h x).1 hx)]
  · rw [if_neg hx, if_neg (fun h' => hx ((h x).2 h'))]
theorem up_ext {a b : List Int} (ha : Up a) (hb : Up b) (h : ∀ x, x ∈ a ↔ x ∈ b) : a = b :=
  List.Perm.eq_of_pairwise (le := fun x y : Int => x ≤ y) (fun a b _ _ h1 h2 => by omega) (ha.imp fun h => by omega) (hb.imp fun h => by omega) (perm_of_mem ha.nodup hb.nodup h)

def sortL (l : List Int) : List Int := l.mergeSort fun x y => decide (x ≤ y)
theorem sortL_perm (l : List Int) : (sortL l).Perm l := List.mergeSort_perm l _
theorem sortL_le (l : List Int) : (sortL l).Pairwise (· ≤ ·) := by
  have := List.pairwise_mergeSort (le := fun x y : Int => decide (x ≤ y)) (fun a b c h1 h2 => by simp at *; omega) (fun a b => by simp; omega) l
  exact this.imp (fun h => by simpa using h)
def setL (l : List Int) : List Int := Lib.compact (sortL l)

theorem getBang (z : List Int) (m : Nat) (h : m < z.length) : z.toArray[m]! = z[m] := by simp [getElem!_pos, h]
theorem compact_up {z : List Int} (hz : z.Pairwise (· ≤ ·)) : ∀ m, m ≤ z.length → Up (Lib.compactUpTo z.toArray m) ∧ ∀ y, y ∈ Lib.compactUpTo z.toArray m ↔ y ∈ z.take m := by
  intro m
  induction m with
  | zero => intro _; exact ⟨by simp [Lib.compactUpTo, Up], by simp [Lib.compactUpTo]⟩
  | succ m ih =>
    intro hm
    obtain ⟨h1, h2⟩ := ih (by omega)
    have hmz : m < z.length := by omega
    have hle := List.pairwise_iff_getElem.1 hz
    rw [Lib.compactUpTo_succ]
    cases hk : Lib.keeps z.toArray m with
    | true =>
      rw [if_pos rfl, getBang z m hmz]
      have hlt : ∀ y, y ∈ z.take m → y < z[m] := by
        intro y hy
        obtain ⟨i, hi, rfl⟩ := List.mem_iff_getElem.1 hy
        have him : i < m := by simp at hi; omega
        rw [List.getElem_take]
        have hm0 : m ≠ 0 := by omega
        have hne : z[m] ≠ z[m - 1] := by
          have := hk
          simp only [Lib.keeps, decide_eq_true_eq] at this
          rcases this with h | h
          · exact absurd h hm0
          · rwa [getBang z m hmz, getBang z (m - 1) (by omega)] at h
        have h3 : z[m - 1] ≤ z[m] := hle (m - 1) m (by omega) hmz (by omega)
        have h4 : z[i] ≤ z[m - 1] := by
          by_cases h : i = m - 1
          · simp only [h]; omega
          · exact hle i (m - 1) (by omega) (by omega) (by omega)
        omega
      refine ⟨?_, fun y => ?_⟩
      · refine List.pairwise_append.2 ⟨h1, by simp, fun a ha b hb => ?_⟩
        rw [List.mem_singleton.1 hb]
        exact hlt a ((h2 a).1 ha)
      · rw [List.take_succ_eq_append_getElem hmz, List.mem_append, List.mem_append, h2]
    | false =>
      rw [if_neg (by simp), List.append_nil]
      refine ⟨h1, fun y => ?_⟩
      have : m ≠ 0 ∧ z[m] = z[m - 1] := by
        have := hk
        simp only [Lib.keeps, decide_eq_false_iff_not, not_or, Decidable.not_not] at this
        obtain ⟨a, b⟩ := this
        rw [getBang z m hmz, getBang z (m - 1) (by omega)] at b
        exact ⟨a, b⟩
      rw [List.take_succ_eq_append_getElem hmz, List.mem_append, h2]
      constructor
      · exact .inl
      · rintro (h | h)
        · exact h
        · rw [List.mem_singleton.1 h, this.2]
          exact List.mem_iff_getElem.2 ⟨m - 1, by simp; omega, by simp⟩
theorem setL_up (l : List Int) : Up (setL l) ∧ ∀ y, y ∈ setL l ↔ y ∈ l := by
  obtain ⟨h1, h2⟩ := compact_up (sortL_le l) (sortL l).length (Nat.le_refl _)
  refine ⟨h1, fun y => ?_⟩
  have := h2 y
  rw [List.take_length] at this
  exact this.trans (sortL_perm l).mem_iff
theorem setL_of {l s : List Int} (h : Up s) (hm : ∀ y, y ∈ s ↔ y ∈ l) : setL l = s := up_ext (setL_up l).1 h fun y => ((setL_up l).2 y).trans (hm y).symm
theorem setL_congr {a b : List Int} (h : ∀ y, y ∈ a ↔ y ∈ b) : setL a = setL b := setL_of (setL_up b).1 fun y => ((setL_up b).2 y).trans (h y).symm
theorem compact_le (z : List Int) : ∀ m, (Lib.compactUpTo z.toArray m).length ≤ m ∧ ((Lib.compactUpTo z.toArray m).length = m → ∀ j, j < m → Lib.keeps z.toArray j = true) := by
  intro m
  induction m with
  | zero => exact ⟨by simp [Lib.compactUpTo], fun _ j hj => by omega⟩
  | succ m ih =>
    rw [Lib.compactUpTo_succ]
    cases hk : Lib.keeps z.toArray m with
    | true =>
      simp only [if_true, List.length_append, List.length_singleton]
      refine ⟨by omega, fun h j hj => ?_⟩
      by_cases hjm : j = m
      · rw [hjm]; exact hk
      · exact ih.2 (by omega) j (by omega)
    | false =>
      simp only [Bool.false_eq_true, if_false, List.append_nil]
      exact ⟨by omega, fun h => by omega⟩
theorem setL_len (l : List Int) : (setL l).length = l.length ↔ l.Nodup := by
  constructor
  · intro h
    have hl := (sortL_perm l).length_eq
    have h1 := (compact_le (sortL l) (sortL l).length).2 (by unfold setL Lib.compact at h; omega)
    have h2 := Lib.compact_all (sortL l) h1
    have h3 : (sortL l).Nodup := by rw [← h2]; exact (setL_up l).1.nodup
    exact (sortL_perm l).nodup h3
  · intro h
    exact (perm_of_mem (setL_up l).1.nodup h (setL_up l).2).length_eq
theorem setL_le (l : List Int) : (setL l).length ≤ l.length := by
  have hl := (sortL_perm l).length_eq
  have := (compact_le (sortL l) (sortL l).length).1
  unfold setL Lib.compact
  omega

end Go.Proofs.Ytamjhblhkabpaaa
