/-
  Plain mathematics that imports nothing of the program: folds with a counter, rows, reservoirs.
-/
namespace Go.Proofs.YtcoohepkmhpdkaaGreat

/-- A fold that counts. -/
def foldI {α : Type} (step : α → Nat → Int → α) (init : α) (l : List Int) : α := (l.foldl (fun (p : α × Nat) x => (step p.1 p.2 x, p.2 + 1)) (init, 0)).1
theorem foldI_cnt {α : Type} (step : α → Nat → Int → α) (l : List Int) : ∀ (init : α) (n : Nat), (l.foldl (fun (p : α × Nat) x => (step p.1 p.2 x, p.2 + 1)) (init, n)).2 = n + l.length := by
  induction l with
  | nil => intro init n; rfl
  | cons x l ih => intro init n; simp only [List.foldl_cons, ih, List.length_cons]; omega
theorem foldI_nil {α : Type} (step : α → Nat → Int → α) (init : α) : foldI step init [] = init := rfl
theorem foldI_snoc {α : Type} (step : α → Nat → Int → α) (init : α) (l : List Int) (x : Int) : foldI step init (l ++ [x]) = step (foldI step init l) l.length x := by
  unfold foldI
  rw [List.foldl_append]
  simp only [List.foldl_cons, List.foldl_nil, foldI_cnt, Nat.zero_add]
theorem foldI_take {α : Type} (step : α → Nat → Int → α) (init : α) (l : List Int) (k : Nat) (h : k < l.length) : foldI step init (l.take (k + 1)) = step (foldI step init (l.take k)) k (l.getD k 0) := by
  rw [List.take_succ_eq_append_getElem h, foldI_snoc, List.length_take, Nat.min_eq_left (by omega)]
  simp [List.getD, List.getElem?_eq_getElem h]
/-- what holds at the start and is handed on, holds at the end -/
theorem foldI_ind {α : Type} (step : α → Nat → Int → α) (init : α) (Q : List Int → α → Prop) (h0 : Q [] init) (hs : ∀ l x a, Q l a → Q (l ++ [x]) (step a l.length x)) (l : List Int) : Q l (foldI step init l) := by
  suffices h : ∀ n (l : List Int), l.length = n → Q l (foldI step init l) from h _ l rfl
  intro n
  induction n with
  | zero => intro l hl; rw [List.length_eq_zero_iff.1 hl]; exact h0
  | succ n ih =>
    intro l hl
    have hne : l ≠ [] := by rintro rfl; simp at hl
    rw [← List.dropLast_concat_getLast hne, foldI_snoc]
    exact hs _ _ _ (ih _ (by simp; omega))

/-- 0, 1, 2, .. -/
def rowL (n : Nat) : List Int := (List.range n).map Int.ofNat
theorem rowL_len (n : Nat) : (rowL n).length = n := by simp [rowL]
theorem rowL_succ (n : Nat) : rowL (n + 1) = rowL n ++ [(n : Int)] := by simp [rowL, List.range_succ]
theorem rowL_get (n i : Nat) (h : i < n) : (rowL n).getD i 0 = (i : Int) := by simp [rowL, List.getD, h]
theorem rowL_zero : rowL 0 = [] := rfl

/-- what is wrong with n items and k slots -/
def resChk (n k : Int) : Int := if n < 0 ∨ k < 0 ∨ n < k then 1 else if 256 < n then 9 else 0
theorem resChk_zero {n k : Int} : resChk n k = 0 ↔ 0 ≤ n ∧ 0 ≤ k ∧ k ≤ n ∧ n ≤ 256 := by
  unfold resChk
  split
  · omega
  · split <;> omega

/-- decisions that may be -/
def resRight (n k : Nat) (d : List Int) : Prop := d.length = n - k ∧ ∀ i, i < d.length → 0 ≤ d.getD i 0 ∧ d.getD i 0 ≤ (k : Int) + i
def resRightB (n k : Nat) (d : List Int) : Bool := decide (d.length = n - k) && (List.range d.length).all fun i => decide (0 ≤ d.getD i 0) && decide (d.getD i 0 ≤ (k : Int) + i)
theorem resRightB_iff {n k : Nat} {d : List Int} : resRightB n k d = true ↔ resRight n k d := by
  simp [resRightB, resRight]

/-- the slots, as the program fills them -/
def slotsStep (k : Nat) (out : List Int) (i : Nat) (x : Int) : List Int := if x < k then out.set x.toNat ((k : Int) + i) else out
def slotsL (k : Nat) (d : List Int) : List Int := foldI (slotsStep k) (rowL k) d
theorem slotsStep_len (k : Nat) (out : List Int) (i : Nat) (x : Int) : (slotsStep k out i x).length = out.length := by
  unfold slotsStep; split <;> simp
theorem slotsL_len (k : Nat) (d : List Int) : (slotsL k d).length = k :=
  foldI_ind (slotsStep k) (rowL k) (fun _ a => a.length = k) (rowL_len k) (fun l x a h => by rw [slotsStep_len, h]) d

/-- the order, as the program makes it: the new item behind, and then it is exchanged -/
def orderStep (k : Nat) (out : List Int) (i : Nat) (x : Int) : List Int :=
  ((out ++ [(k : Int) + i]).set x.toNat ((k : Int) + i)).set (k + i) ((out ++ [(k : Int) + i]).getD x.toNat 0)
def orderL (k : Nat) (d : List Int) : List Int := foldI (orderStep k) (rowL k) d
theorem orderStep_len (k : Nat) (out : List Int) (i : Nat) (x : Int) : (orderStep k out i x).length = out.length + 1 := by simp [orderStep]
theorem orderL_len (k : Nat) (d : List Int) : (orderL k d).length = k + d.length :=
  foldI_ind (orderStep k) (rowL k) (fun l a => a.length = k + l.length) (by simp [rowL_len]) (fun l x a h => by rw [orderStep_len, h]; simp; omega) d

/-- the references: one slot at a time; the order -/
def slotAt (k : Nat) (s : Nat) (d : List Int) : Int := foldI (fun cur i x => if x = (s : Int) then (k : Int) + i else cur) (s : Int) d
def slotsR (k : Nat) (d : List Int) : List Int := (List.range k).map fun s => slotAt k s d
def orderRStep (k : Nat) (out : List Int) (i : Nat) (x : Int) : List Int :=
  if x = (k : Int) + i then out ++ [(k : Int) + i] else (out ++ [out.getD x.toNat 0]).set x.toNat ((k : Int) + i)
def orderR (k : Nat) (d : List Int) : List Int := foldI (orderRStep k) (rowL k) d

theorem getD_set (l : List Int) (i j : Nat) (u : Int) (hi : i < l.length) : (l.set i u).getD j 0 = if i = j then u else l.getD j 0 := by
  simp only [List.getD, List.getElem?_set]
  split
  · rfl
  · rfl

theorem slotsL_eq (k : Nat) (d : List Int) (h0 : ∀ i, i < d.length → 0 ≤ d.getD i 0) : slotsL k d = slotsR k d := by
  refine List.ext_getElem (by simp [slotsL_len, slotsR]) fun s h1 h2 => ?_
  have hs : s < k := by rw [slotsL_len] at h1; exact h1
  have key : ∀ (d : List Int), (∀ i, i < d.length → 0 ≤ d.getD i 0) → (slotsL k d).getD s 0 = slotAt k s d := by
    intro d
    suffices h : ∀ n (d : List Int), d.length = n → (∀ i, i < d.length → 0 ≤ d.getD i 0) → (slotsL k d).getD s 0 = slotAt k s d from h _ d rfl
    intro n
    induction n with
    | zero =>
      intro d hd _
      obtain rfl := List.length_eq_zero_iff.1 hd
      simp only [slotsL, slotAt, foldI_nil]
      exact rowL_get k s hs
    | succ n ih =>
      intro d hd hp
      have hne : d ≠ [] := by rintro rfl; simp at hd
      obtain ⟨l, x, rfl⟩ : ∃ l x, d = l ++ [x] := ⟨d.dropLast, d.getLast hne, (List.dropLast_concat_getLast hne).symm⟩
      have hl : l.length = n := by simp at hd; omega
      have hx : 0 ≤ x := by have := hp l.length (by simp); simpa using this
      have ihl := ih l hl (fun i hi => by
        have := hp i (by simp; omega)
        simpa [List.getD, List.getElem?_append_left hi] using this)
      have hlen : (slotsL k l).length = k := slotsL_len k l
      unfold slotsL slotAt at *
      rw [foldI_snoc, foldI_snoc]
      simp only [slotsStep]
      by_cases hxk : x < (k : Int)
      · rw [if_pos hxk, getD_set _ _ _ _ (by rw [hlen]; omega)]
        by_cases hxs : x = (s : Int)
        · rw [if_pos (by omega), if_pos hxs]
        · rw [if_neg (by omega), if_neg hxs]; exact ihl
      · rw [if_neg hxk, if_neg (by omega)]; exact ihl
  have := key d h0
  simp only [slotsR, List.getElem_map, List.getElem_range]
  rw [← this]
  simp [List.getD, List.getElem?_eq_getElem h1]

theorem orderL_eq (k : Nat) (d : List Int) (h : ∀ i, i < d.length → 0 ≤ d.getD i 0 ∧ d.getD i 0 ≤ (k : Int) + i) : orderL k d = orderR k d := by
  suffices hh : ∀ n (d : List Int), d.length = n → (∀ i, i < d.length → 0 ≤ d.getD i 0 ∧ d.getD i 0 ≤ (k : Int) + i) → orderL k d = orderR k d from hh _ d rfl h
  intro n
  induction n with
  | zero => intro d hd _; obtain rfl := List.length_eq_zero_iff.1 hd; rfl
  | succ n ih =>
    intro d hd hp
    have hne : d ≠ [] := by rintro rfl; simp at hd
    obtain ⟨l, x, rfl⟩ : ∃ l x, d = l ++ [x] := ⟨d.dropLast, d.getLast hne, (List.dropLast_concat_getLast hne).symm⟩
    have hl : l.length = n := by simp at hd; omega
    have hx := hp l.length (by simp)
    simp only [List.getD_eq_getElem?_getD, List.getElem?_append_right (Nat.le_refl _), Nat.sub_self, List.getElem?_cons_zero, Option.getD_some] at hx
    have ihl := ih l hl (fun i hi => by
      have := hp i (by simp; omega)
      simpa [List.getD, List.getElem?_append_left hi] using this)
    have hlen : (orderL k l).length = k + l.length := orderL_len k l
    unfold orderL orderR at *
    rw [foldI_snoc, foldI_snoc, ← ihl]
    generalize foldI (orderStep k) (rowL k) l = out at *
    unfold orderStep orderRStep
    have hlo : out.length = k + l.length := hlen
    by_cases hxe : x = (k : Int) + l.length
    · rw [if_pos hxe]
      have hxn : x.toNat = k + l.length := by omega
      rw [hxn]
      have : (out ++ [(k : Int) + l.length]).getD (k + l.length) 0 = (k : Int) + l.length := by
        simp [List.getD, hlo]
      rw [this, List.set_set, ← hlo]
      simp
    · rw [if_neg hxe]
      have hxl : x.toNat < out.length := by omega
      have h1 : (out ++ [(k : Int) + l.length]).getD x.toNat 0 = out.getD x.toNat 0 := by
        simp [List.getD, List.getElem?_append_left hxl]
      rw [h1, List.set_append_left _ _ hxl, List.set_append_left _ _ hxl, ← hlo]
      simp

theorem take_order (k : Nat) (d : List Int) (h : ∀ i, i < d.length → 0 ≤ d.getD i 0 ∧ d.getD i 0 ≤ (k : Int) + i) : (orderL k d).take k = slotsL k d := by
  suffices hh : ∀ n (d : List Int), d.length = n → (∀ i, i < d.length → 0 ≤ d.getD i 0 ∧ d.getD i 0 ≤ (k : Int) + i) → (orderL k d).take k = slotsL k d from hh _ d rfl h
  intro n
  induction n with
  | zero =>
    intro d hd _
    obtain rfl := List.length_eq_zero_iff.1 hd
    simp only [orderL, slotsL, foldI_nil]
    exact List.take_of_length_le (by rw [rowL_len]; omega)
  | succ n ih =>
    intro d hd hp
    have hne : d ≠ [] := by rintro rfl; simp at hd
    obtain ⟨l, x, rfl⟩ : ∃ l x, d = l ++ [x] := ⟨d.dropLast, d.getLast hne, (List.dropLast_concat_getLast hne).symm⟩
    have hl : l.length = n := by simp at hd; omega
    have hx := hp l.length (by simp)
    simp only [List.getD_eq_getElem?_getD, List.getElem?_append_right (Nat.le_refl _), Nat.sub_self, List.getElem?_cons_zero, Option.getD_some] at hx
    have ihl := ih l hl (fun i hi => by
      have := hp i (by simp; omega)
      simpa [List.getD, List.getElem?_append_left hi] using this)
    have hlo : (orderL k l).length = k + l.length := orderL_len k l
    unfold orderL slotsL at *
    rw [foldI_snoc, foldI_snoc, ← ihl]
    generalize foldI (orderStep k) (rowL k) l = out at *
    unfold orderStep slotsStep
    rw [List.take_set_of_le (by omega)]
    by_cases hxk : x < (k : Int)
    · rw [if_pos hxk, List.take_set, List.take_append_of_le_length (by omega)]
    · rw [if_neg hxk, List.take_set_of_le (by omega), List.take_append_of_le_length (by omega)]

end Go.Proofs.YtcoohepkmhpdkaaGreat
