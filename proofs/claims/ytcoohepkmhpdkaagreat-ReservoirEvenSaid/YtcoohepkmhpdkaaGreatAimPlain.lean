/-
  Plain mathematics of aiming: a word for a number and a rank; words aimed at numbers, and back.
-/
import Derived.Test.YtcoohepkmhpdkaaGreatDraw
namespace Go.Proofs.YtcoohepkmhpdkaaGreat
open Go.RowKit
set_option linter.unusedVariables false

/-- the word that tells v with a rank -/
def wrdN (v r n : Nat) : Nat := firstN v n + r
theorem ceil_le {X n q : Nat} (h0 : 0 < n) : (X + (n - 1)) / n ≤ q ↔ X ≤ q * n := by
  constructor
  · intro h
    have h1 := (Nat.div_lt_iff_lt_mul h0).1 (Nat.lt_succ_of_le h)
    rw [Nat.succ_mul] at h1
    omega
  · intro h
    refine Nat.le_of_lt_succ ((Nat.div_lt_iff_lt_mul h0).2 ?_)
    rw [Nat.succ_mul]
    omega
theorem first_iff {v n a : Nat} (h0 : 0 < n) : firstN v n ≤ a ↔ v * 2 ^ 64 + 2 ^ 64 % n ≤ a * n := by
  unfold firstN
  exact ceil_le h0
/-- the words that tell v: from the first one on, so many -/
theorem tells_iff {v n a : Nat} (hv : v < n) : (tknB a n = true ∧ telN a n = v) ↔ (firstN v n ≤ a ∧ a < firstN v n + 2 ^ 64 / n) := by
  have h0 : 0 < n := by omega
  have hl := Nat.mod_lt (2 ^ 64) h0
  have hd := Nat.div_add_mod (2 ^ 64) n
  have hp : 0 < (2 : Nat) ^ 64 := Nat.two_pow_pos _
  have key : ∀ b, firstN v n + 2 ^ 64 / n ≤ b ↔ (v + 1) * 2 ^ 64 ≤ b * n := by
    intro b
    have e : firstN v n + 2 ^ 64 / n = ((v + 1) * 2 ^ 64 + (n - 1)) / n := by
      unfold firstN
      have e1 : (v + 1) * 2 ^ 64 + (n - 1) = v * 2 ^ 64 + 2 ^ 64 % n + (n - 1) + n * (2 ^ 64 / n) := by
        generalize (2 : Nat) ^ 64 = P at *
        rw [Nat.add_mul]
        omega
      rw [e1, Nat.add_mul_div_left _ _ h0]
    rw [e]
    exact ceil_le h0
  have h1 := first_iff (v := v) (a := a) h0
  have h2 := key a
  rw [h1]
  rw [show (a < firstN v n + 2 ^ 64 / n) ↔ ¬ (firstN v n + 2 ^ 64 / n ≤ a) from by omega, h2]
  rw [tknB_iff]
  unfold Tkn telN
  clear h1 h2 key
  generalize (2 : Nat) ^ 64 = P at *
  generalize P % n = L at *
  have hm := Nat.div_add_mod (a * n) P
  have hml := Nat.mod_lt (a * n) hp
  constructor
  · rintro ⟨⟨-, h1⟩, h2⟩
    rw [h2, Nat.mul_comm P v] at hm
    rw [Nat.add_mul]
    omega
  · rintro ⟨h1, h2⟩
    have h3 : a * n / P = v := by
      rw [Nat.div_eq_iff hp]
      rw [Nat.add_mul] at h2
      omega
    rw [h3, Nat.mul_comm P v] at hm
    exact ⟨⟨h0, by omega⟩, h3⟩
/-- a taken word's rank is one of the numbers below Each -/
theorem rank_lt {a n : Nat} (ha : a < 2 ^ 64) (h : tknB a n = true) : rnkN a n < 2 ^ 64 / n := by
  have h0 := (tknB_iff.1 h).1
  obtain ⟨h1, h2⟩ := (tells_iff (telN_lt ha h0)).1 ⟨h, rfl⟩
  unfold rnkN
  unfold telN at *
  omega
theorem word_back {a n : Nat} (ha : a < 2 ^ 64) (h : tknB a n = true) : wrdN (telN a n) (rnkN a n) n = a := by
  have h0 := (tknB_iff.1 h).1
  obtain ⟨h1, h2⟩ := (tells_iff (telN_lt ha h0)).1 ⟨h, rfl⟩
  unfold wrdN rnkN
  unfold telN at *
  omega
theorem word_tells {v r n : Nat} (hv : v < n) (hr : r < 2 ^ 64 / n) : tknB (wrdN v r n) n = true ∧ telN (wrdN v r n) n = v ∧ rnkN (wrdN v r n) n = r ∧ wrdN v r n < 2 ^ 64 := by
  have h0 : 0 < n := by omega
  obtain ⟨h1, h2⟩ := (tells_iff (a := wrdN v r n) hv).2 ⟨by unfold wrdN; omega, by unfold wrdN; omega⟩
  refine ⟨h1, h2, ?_, ?_⟩
  · unfold rnkN
    unfold telN at h2
    rw [h2]
    unfold wrdN
    omega
  · have hp : 0 < (2 : Nat) ^ 64 := Nat.two_pow_pos _
    unfold telN at h2
    generalize (2 : Nat) ^ 64 = P at *
    have h3 : wrdN v r n * n < n * P := by
      have := Nat.lt_mul_of_div_lt (by rw [h2]; exact hv) hp (a := wrdN v r n * n) (c := P) (b := n)
      exact this
    rw [Nat.mul_comm] at h3
    exact Nat.lt_of_mul_lt_mul_left h3

/-- draws of limits from the words that are left -/
def rowS : List Nat → List Nat → Option (List Drw × List Nat)
  | [], R => some ([], R)
  | n :: ns, R => match takeN n 0 R with
    | none => none
    | some d => match rowS ns (R.drop d.2.2) with
      | none => none
      | some r => some (d :: r.1, r.2)
/-- words aimed at numbers, by the ranks and the words of draws -/
def aimS : List Nat → List Nat → List Drw → List Nat → List Nat
  | n :: ns, R, d :: ds, v :: vs => (R.take (d.2.2 - 1) ++ [wrdN v d.2.1 n]) ++ aimS ns (R.drop d.2.2) ds vs
  | _, R, _, _ => R
/-- the draws with other numbers -/
def turnS : List Drw → List Nat → List Drw
  | d :: ds, v :: vs => (v, d.2.1, d.2.2) :: turnS ds vs
  | _, _ => []
def numsN (ds : List Drw) : List Nat := ds.map fun d => d.1
/-- numbers below limits -/
def Fits : List Nat → List Nat → Prop
  | [], [] => True
  | n :: ns, v :: vs => v < n ∧ Fits ns vs
  | _, _ => False
theorem Fits.len : ∀ {ns vs : List Nat}, Fits ns vs → vs.length = ns.length
  | [], [], _ => rfl
  | n :: ns, v :: vs, h => by simp [Fits.len h.2]
  | [], v :: vs, h => h.elim
  | n :: ns, [], h => h.elim
theorem fits_of : ∀ {ns vs : List Nat}, vs.length = ns.length → (∀ i, i < ns.length → vs.getD i 0 < ns.getD i 0) → Fits ns vs
  | [], [], _, _ => trivial
  | n :: ns, v :: vs, hl, h => ⟨h 0 (by simp), fits_of (by simpa using hl) fun i hi => h (i + 1) (by simpa using hi)⟩
  | [], v :: vs, hl, _ => by simp at hl
  | n :: ns, [], hl, _ => by simp at hl

theorem takeN_split : ∀ {R : List Nat} {n u : Nat} {d : Drw}, takeN n u R = some d → ∀ (w' : Nat) (X : List Nat), tknB w' n = true → takeN n u (R.take (d.2.2 - u - 1) ++ w' :: X) = some (telN w' n, rnkN w' n, d.2.2)
  | [], n, u, d, h => by simp [takeN] at h
  | a :: R, n, u, d, h => fun w' X ht' => by
    by_cases ht : tknB a n = true
    · simp only [takeN, ht, if_true, Option.some.injEq] at h
      subst h
      simp only [show u + 1 - u - 1 = 0 by omega, List.take_zero, List.nil_append, takeN, ht', if_true]
    · simp only [takeN, ht] at h
      have h' : takeN n (u + 1) R = some d := by simpa using h
      have hu := takeN_used h'
      have := takeN_split h' w' X ht'
      rw [show d.2.2 - u - 1 = (d.2.2 - (u + 1) - 1) + 1 by omega, List.take_succ_cons, List.cons_append]
      simp only [takeN, ht]
      simpa using this

theorem row_aim : ∀ {ns R vs : List Nat} {ds : List Drw} {T : List Nat}, W64 R → rowS ns R = some (ds, T) → Fits ns vs →
    rowS ns (aimS ns R ds vs) = some (turnS ds vs, T) ∧ aimS ns (aimS ns R ds vs) (turnS ds vs) (numsN ds) = R ∧ W64 (aimS ns R ds vs) ∧ (aimS ns R ds vs).length = R.length ∧ numsN (turnS ds vs) = vs ∧ Fits ns (numsN ds)
  | [], R, [], ds, T, hw, h, _ => by
    simp only [rowS, Option.some.injEq, Prod.mk.injEq] at h
    obtain ⟨rfl, rfl⟩ := h
    exact ⟨rfl, rfl, hw, rfl, rfl, trivial⟩
  | [], R, v :: vs, ds, T, hw, h, hf => hf.elim
  | n :: ns, R, [], ds, T, hw, h, hf => hf.elim
  | n :: ns, R, v :: vs, ds, T, hw, h, hf => by
    simp only [rowS] at h
    cases ht : takeN n 0 R with
    | none => rw [ht] at h; cases h
    | some d =>
      rw [ht] at h
      simp only at h
      cases hr : rowS ns (R.drop d.2.2) with
      | none => rw [hr] at h; cases h
      | some r =>
        rw [hr] at h
        simp only [Option.some.injEq, Prod.mk.injEq] at h
        obtain ⟨rfl, rfl⟩ := h
        obtain ⟨rd, rt⟩ := r
        have hu := takeN_used ht
        have hwd := takeN_word ht
        simp only [Nat.sub_zero] at hwd
        have hk : d.2.2 - 1 < R.length := by omega
        have hlast : R.getD (d.2.2 - 1) 0 < 2 ^ 64 := hw.at hk
        have hrk : d.2.1 < 2 ^ 64 / n := by rw [hwd.2.2]; exact rank_lt hlast hwd.1
        obtain ⟨t1, t2, t3, t4⟩ := word_tells hf.1 hrk
        obtain ⟨i1, i2, i3, i4, i5, i6⟩ := row_aim (fun a ha => hw a (List.mem_of_mem_drop ha)) hr hf.2
        have hlen : (R.take (d.2.2 - 1) ++ [wrdN v d.2.1 n]).length = d.2.2 := by simp; omega
        have hdrop : ((R.take (d.2.2 - 1) ++ [wrdN v d.2.1 n]) ++ aimS ns (R.drop d.2.2) rd vs).drop d.2.2 = aimS ns (R.drop d.2.2) rd vs := by
          rw [List.drop_append_of_le_length (by omega), List.drop_of_length_le (by omega), List.nil_append]
        have htake : ((R.take (d.2.2 - 1) ++ [wrdN v d.2.1 n]) ++ aimS ns (R.drop d.2.2) rd vs).take (d.2.2 - 1) = R.take (d.2.2 - 1) := by
          rw [List.append_assoc, List.take_append_of_le_length (by simp; omega), List.take_take, Nat.min_self]
        have hts := takeN_split ht (wrdN v d.2.1 n) (aimS ns (R.drop d.2.2) rd vs) t1
        simp only [Nat.sub_zero] at hts
        rw [t2, t3] at hts
        have hback : wrdN d.1 d.2.1 n = R.getD (d.2.2 - 1) 0 := by
          rw [hwd.2.1, hwd.2.2]; exact word_back hlast hwd.1
        refine ⟨?_, ?_, ?_, ?_, ?_, ?_, ?_⟩
        · simp only [aimS, rowS, turnS]
          rw [show R.take (d.2.2 - 1) ++ [wrdN v d.2.1 n] ++ aimS ns (R.drop d.2.2) rd vs = R.take (d.2.2 - 1) ++ wrdN v d.2.1 n :: aimS ns (R.drop d.2.2) rd vs by simp, hts]
          simp only
          rw [show R.take (d.2.2 - 1) ++ wrdN v d.2.1 n :: aimS ns (R.drop d.2.2) rd vs = R.take (d.2.2 - 1) ++ [wrdN v d.2.1 n] ++ aimS ns (R.drop d.2.2) rd vs by simp, hdrop, i1]
        · simp only [aimS, turnS, numsN, List.map_cons]
          rw [htake, hdrop]
          rw [hback]
          have := i2
          unfold numsN at this
          rw [this]
          have e1 : R.take (d.2.2 - 1) ++ [R.getD (d.2.2 - 1) 0] = R.take d.2.2 := by
            rw [List.getD_eq_getElem?_getD, List.getElem?_eq_getElem hk]
            simp only [Option.getD_some]
            rw [← List.take_succ_eq_append_getElem hk, show d.2.2 - 1 + 1 = d.2.2 by omega]
          rw [e1, List.take_append_drop]
        · intro a ha
          simp only [aimS, List.mem_append, List.mem_singleton] at ha
          rcases ha with (ha | ha) | ha
          · exact hw a (List.mem_of_mem_take ha)
          · rw [ha]; exact t4
          · exact i3 a ha
        · simp only [aimS, List.length_append, i4, List.length_drop]
          rw [List.length_append] at hlen
          omega
        · simp only [turnS, numsN, List.map_cons, List.cons.injEq, true_and]
          exact i5
        · show d.1 < n
          rw [hwd.2.1]
          exact telN_lt hlast (tknB_iff.1 hwd.1).1
        · exact i6

/-- the same, with the words that came -/
theorem rowA_S {l : List Nat} : ∀ {ns : List Nat} {acc : List Drw} {used : Nat}, used ≤ l.length → rowA l ns acc used = (rowS ns (l.drop used)).map fun r => (acc ++ r.1, l.length - r.2.length)
  | [], acc, used, hu => by
    simp only [rowA, rowS, Option.map_some, List.append_nil, List.length_drop, Option.some.injEq, Prod.mk.injEq, true_and]
    omega
  | n :: ns, acc, used, hu => by
    simp only [rowA, rowS]
    cases ht : takeN n 0 (l.drop used) with
    | none => rfl
    | some d =>
      have h1 := takeN_used ht
      rw [List.length_drop] at h1
      simp only
      rw [rowA_S (by omega), List.drop_drop]
      cases rowS ns (l.drop (used + d.2.2)) with
      | none => rfl
      | some r => simp

theorem rowN_aim {l ns vs : List Nat} {r : List Drw × Nat} (hw : W64 l) (h : rowN l ns = some r) (hf : Fits ns vs) :
    rowN (aimS ns l r.1 vs) ns = some (turnS r.1 vs, r.2) ∧ aimS ns (aimS ns l r.1 vs) (turnS r.1 vs) (numsN r.1) = l ∧ W64 (aimS ns l r.1 vs) ∧ (aimS ns l r.1 vs).length = l.length ∧ numsN (turnS r.1 vs) = vs ∧ Fits ns (numsN r.1) := by
  unfold rowN at *
  rw [rowA_S (Nat.zero_le _), List.drop_zero] at h
  cases hs : rowS ns l with
  | none => rw [hs] at h; cases h
  | some p =>
    rw [hs] at h
    obtain ⟨ds, T⟩ := p
    simp only [Option.map_some, List.nil_append, Option.some.injEq] at h
    subst h
    obtain ⟨h1, h2, h3, h4, h5, h6⟩ := row_aim hw hs hf
    refine ⟨?_, h2, h3, h4, h5, h6⟩
    rw [rowA_S (Nat.zero_le _), List.drop_zero, h1]
    simp [h4]

/-- the words that the first k draws took -/
def usedK (ds : List Drw) (k : Nat) : Nat := ((ds.take k).map fun d => d.2.2).sum
theorem usedK_zero (ds : List Drw) : usedK ds 0 = 0 := rfl
theorem usedK_succ {ds : List Drw} {k : Nat} (h : k < ds.length) : usedK ds (k + 1) = usedK ds k + (ds.getD k dwZ).2.2 := by
  unfold usedK
  rw [List.take_succ_eq_append_getElem h, List.map_append, List.sum_append, List.getD_eq_getElem?_getD, List.getElem?_eq_getElem h]
  simp only [List.map_cons, List.map_nil, List.sum_cons, List.sum_nil, Nat.add_zero, Option.getD_some]
theorem usedK_cons (d : Drw) (ds : List Drw) (k : Nat) : usedK (d :: ds) (k + 1) = d.2.2 + usedK ds k := by simp [usedK]
theorem rowS_facts : ∀ {ns R : List Nat} {ds : List Drw} {T : List Nat}, W64 R → rowS ns R = some (ds, T) → ds.length = ns.length ∧ ∀ k, k < ns.length → 0 < (ds.getD k dwZ).2.2 ∧ (ds.getD k dwZ).2.1 < 2 ^ 64 / ns.getD k 0 ∧ usedK ds (k + 1) ≤ R.length
  | [], R, ds, T, hw, h => by
    simp only [rowS, Option.some.injEq, Prod.mk.injEq] at h
    obtain ⟨rfl, rfl⟩ := h
    exact ⟨rfl, fun k hk => by simp at hk⟩
  | n :: ns, R, ds, T, hw, h => by
    simp only [rowS] at h
    cases ht : takeN n 0 R with
    | none => rw [ht] at h; cases h
    | some d =>
      rw [ht] at h
      simp only at h
      cases hr : rowS ns (R.drop d.2.2) with
      | none => rw [hr] at h; cases h
      | some r =>
        rw [hr] at h
        simp only [Option.some.injEq, Prod.mk.injEq] at h
        obtain ⟨rfl, rfl⟩ := h
        have hu := takeN_used ht
        have hwd := takeN_word ht
        simp only [Nat.sub_zero] at hwd
        have hk : d.2.2 - 1 < R.length := by omega
        have hlast : R.getD (d.2.2 - 1) 0 < 2 ^ 64 := hw.at hk
        have hrk : d.2.1 < 2 ^ 64 / n := by rw [hwd.2.2]; exact rank_lt hlast hwd.1
        obtain ⟨i1, i2⟩ := rowS_facts (R := R.drop d.2.2) (fun a ha => hw a (List.mem_of_mem_drop ha)) (ds := r.1) (T := r.2) hr
        refine ⟨by simp [i1], fun k hk => ?_⟩
        cases k with
        | zero =>
          refine ⟨by simpa using hu.1, by simpa using hrk, ?_⟩
          rw [usedK_cons, usedK_zero]
          omega
        | succ k =>
          obtain ⟨j1, j2, j3⟩ := i2 k (by simpa using hk)
          rw [List.length_drop] at j3
          rw [usedK_cons]
          exact ⟨by simpa using j1, by simpa using j2, by omega⟩
theorem rowN_facts {l ns : List Nat} {r : List Drw × Nat} (hw : W64 l) (h : rowN l ns = some r) : r.1.length = ns.length ∧ ∀ k, k < ns.length → 0 < (r.1.getD k dwZ).2.2 ∧ (r.1.getD k dwZ).2.1 < 2 ^ 64 / ns.getD k 0 ∧ usedK r.1 (k + 1) ≤ l.length := by
  unfold rowN at h
  rw [rowA_S (Nat.zero_le _), List.drop_zero] at h
  cases hs : rowS ns l with
  | none => rw [hs] at h; cases h
  | some p =>
    rw [hs] at h
    simp only [Option.map_some, List.nil_append, Option.some.injEq] at h
    subst h
    exact rowS_facts (ds := p.1) (T := p.2) hw hs

/-- what is still to be aimed, from a list of words some of which are aimed -/
def aimL (out ns : List Nat) (ds : List Drw) (vs : List Nat) (used : Nat) : List Nat := out.take used ++ aimS ns (out.drop used) ds vs
theorem aimL_zero (l ns : List Nat) (ds : List Drw) (vs : List Nat) : aimL l ns ds vs 0 = aimS ns l ds vs := by simp [aimL]
theorem aimL_end (out : List Nat) (ds : List Drw) (vs : List Nat) (used : Nat) : aimL out [] ds vs used = out := by
  simp [aimL, aimS]
theorem aimL_step {out ns : List Nat} {ds : List Drw} {vs : List Nat} {n v used : Nat} {d : Drw} (hk : used + d.2.2 ≤ out.length) (hd : 0 < d.2.2) :
    aimL out (n :: ns) (d :: ds) (v :: vs) used = aimL (out.set (used + d.2.2 - 1) (wrdN v d.2.1 n)) ns ds vs (used + d.2.2) := by
  unfold aimL
  simp only [aimS]
  have e1 : (out.set (used + d.2.2 - 1) (wrdN v d.2.1 n)).take (used + d.2.2) = out.take used ++ ((out.drop used).take (d.2.2 - 1) ++ [wrdN v d.2.1 n]) := by
    have h1 : used + d.2.2 = (used + d.2.2 - 1) + 1 := by omega
    conv => lhs; rw [h1]
    rw [List.take_succ_eq_append_getElem (by rw [List.length_set]; omega)]
    simp only [show used + d.2.2 - 1 + 1 - 1 = used + d.2.2 - 1 by omega, List.getElem_set_self]
    rw [List.take_set_of_le (by omega), ← List.append_assoc]
    congr 1
    rw [show used + d.2.2 - 1 = used + (d.2.2 - 1) by omega, List.take_add]
  have e2 : (out.set (used + d.2.2 - 1) (wrdN v d.2.1 n)).drop (used + d.2.2) = (out.drop used).drop d.2.2 := by
    rw [List.drop_set_of_lt (by omega), List.drop_drop]
  rw [e1, e2]
  simp only [List.append_assoc]

end Go.Proofs.YtcoohepkmhpdkaaGreat
