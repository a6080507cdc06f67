/-
  Plain mathematics of subsets: what choices pick, the choices that pick; sets as rising lists.
-/
import Derived.Test.YtcoohepkmhpdkaaGreatShufPlain
import Derived.Lib.SlicesCompact
namespace Go.Proofs.YtcoohepkmhpdkaaGreat

/-- the first one takes the place of what goes -/
def cut (R : List Int) (a : Nat) : List Int := (R.set a (R.getD 0 0)).drop 1
theorem cut_len (R : List Int) (a : Nat) : (cut R a).length = R.length - 1 := by simp [cut]
def pickR : List Int → List Int → List Int
  | _, [] => []
  | R, x :: c => R.getD x.toNat 0 :: pickR (cut R x.toNat) c
def chP : List Int → List Int → List Int
  | _, [] => []
  | R, y :: l => ((ixN R y : Nat) : Int) :: chP (cut R (ixN R y)) l
def pickL (n : Nat) (c : List Int) : List Int := pickR (rowL n) c
def choS (n : Nat) (l : List Int) : List Int := chP (rowL n) l
theorem pickR_len : ∀ (c R : List Int), (pickR R c).length = c.length
  | [], _ => rfl
  | _ :: c, R => by simp [pickR, pickR_len c]
theorem chP_len : ∀ (c R : List Int), (chP R c).length = c.length
  | [], _ => rfl
  | _ :: c, R => by simp [chP, chP_len c]

/-- choices that may be, of m items -/
def sbRight (m : Int) (c : List Int) : Prop := ∀ i, i < c.length → 0 ≤ c.getD i 0 ∧ c.getD i 0 ≤ m - 1 - (i : Int)
def sbRightB (m : Int) (c : List Int) : Bool := (List.range c.length).all fun i => decide (0 ≤ c.getD i 0) && decide (c.getD i 0 ≤ m - 1 - (i : Int))
theorem sbRightB_iff {m : Int} {c : List Int} : sbRightB m c = true ↔ sbRight m c := by simp [sbRightB, sbRight]
theorem sbRight_cons {m x : Int} {c : List Int} (h : sbRight m (x :: c)) : 0 ≤ x ∧ x ≤ m - 1 ∧ sbRight (m - 1) c := by
  have h0 := h 0 (by simp)
  simp at h0
  refine ⟨h0.1, by omega, fun i hi => ?_⟩
  have := h (i + 1) (by simp; omega)
  rw [List.getD_cons_succ] at this
  omega
theorem sbRight_mk {m x : Int} {c : List Int} (h0 : 0 ≤ x) (h1 : x ≤ m - 1) (h : sbRight (m - 1) c) : sbRight m (x :: c) := by
  intro i hi
  cases i with
  | zero => simp; omega
  | succ i =>
    have := h i (by simp at hi; omega)
    rw [List.getD_cons_succ]
    omega

theorem cut_perm {R : List Int} {a : Nat} (ha : a < R.length) : (R.getD a 0 :: cut R a).Perm R := by
  cases R with
  | nil => simp at ha
  | cons r rest =>
    cases a with
    | zero => simp [cut]
    | succ a =>
      have h : a < rest.length := by simpa using ha
      have e1 : (r :: rest).getD (a + 1) 0 = rest[a] := by simp [List.getD, List.getElem?_eq_getElem h]
      have e2 : cut (r :: rest) (a + 1) = rest.set a r := by simp [cut]
      rw [e1, e2, List.set_eq_take_append_cons_drop, if_pos h]
      have e3 : rest = rest.take a ++ rest[a] :: rest.drop (a + 1) := by rw [List.getElem_cons_drop, List.take_append_drop]
      have h1 : (rest[a] :: (rest.take a ++ r :: rest.drop (a + 1))).Perm (rest[a] :: r :: (rest.take a ++ rest.drop (a + 1))) := List.Perm.cons _ List.perm_middle
      have h2 : (r :: rest).Perm (r :: rest[a] :: (rest.take a ++ rest.drop (a + 1))) := by
        refine List.Perm.cons _ ?_
        exact (List.Perm.of_eq e3).trans List.perm_middle
      exact h1.trans ((List.Perm.swap _ _ _).trans h2.symm)

theorem pick_of_ch : ∀ (l R : List Int), R.Nodup → l.Nodup → (∀ y ∈ l, y ∈ R) → pickR R (chP R l) = l ∧ sbRight (R.length : Int) (chP R l)
  | [], R, _, _, _ => ⟨rfl, fun i hi => by simp [chP] at hi⟩
  | y :: l, R, hR, hl, hs => by
    obtain ⟨h1, h2, -⟩ := ixN_mem hR (hs y (by simp))
    have hp := cut_perm h1
    rw [h2] at hp
    have hnd : (y :: cut R (ixN R y)).Nodup := hp.symm.nodup hR
    have hl' := List.nodup_cons.1 hl
    obtain ⟨g1, g2⟩ := pick_of_ch l (cut R (ixN R y)) (List.nodup_cons.1 hnd).2 hl'.2 (fun z hz => by
      rcases List.mem_cons.1 (hp.mem_iff.2 (hs z (List.mem_cons_of_mem _ hz))) with h | h
      · subst h; exact absurd hz hl'.1
      · exact h)
    rw [cut_len] at g2
    refine ⟨?_, sbRight_mk (by omega) (by omega) ?_⟩
    · simp only [chP, pickR, Int.toNat_natCast]
      rw [h2, g1]
    · have : ((R.length : Int) - 1) = ((R.length - 1 : Nat) : Int) := by omega
      rw [this]; exact g2

theorem ch_of_pick : ∀ (c R : List Int), R.Nodup → sbRight (R.length : Int) c → chP R (pickR R c) = c ∧ (pickR R c).Nodup ∧ ∀ y ∈ pickR R c, y ∈ R
  | [], R, _, _ => ⟨rfl, by simp [pickR], by simp [pickR]⟩
  | x :: c, R, hR, hc => by
    obtain ⟨h0, h1, h2⟩ := sbRight_cons hc
    have ha : x.toNat < R.length := by omega
    have hp := cut_perm ha
    have hnd : (R.getD x.toNat 0 :: cut R x.toNat).Nodup := hp.symm.nodup hR
    have hcons := List.nodup_cons.1 hnd
    have : ((R.length : Int) - 1) = ((R.length - 1 : Nat) : Int) := by omega
    rw [this, ← cut_len R x.toNat] at h2
    obtain ⟨g1, g2, g3⟩ := ch_of_pick c (cut R x.toNat) hcons.2 h2
    have hix : ixN R (R.getD x.toNat 0) = x.toNat := ixN_eq hR ha rfl
    refine ⟨?_, ?_, ?_⟩
    · simp only [pickR, chP]
      rw [hix, g1]
      have : ((x.toNat : Nat) : Int) = x := by omega
      rw [this]
    · simp only [pickR]
      exact List.nodup_cons.2 ⟨fun h => hcons.1 (g3 _ h), g2⟩
    · intro y hy
      simp only [pickR] at hy
      rcases List.mem_cons.1 hy with h | h
      · rw [h]; exact getD_mem _ _ ha
      · exact hp.mem_iff.1 (List.mem_cons_of_mem _ (g3 y h))

/-- a pick of n items -/
def IsS (n : Int) (l : List Int) : Prop := l.Nodup ∧ ∀ x ∈ l, 0 ≤ x ∧ x < n
instance (n : Int) (l : List Int) : Decidable (IsS n l) := inferInstanceAs (Decidable (_ ∧ _))
def isSB (n : Int) (l : List Int) : Bool := decide (IsS n l)
theorem isSB_iff {n : Int} {l : List Int} : isSB n l = true ↔ IsS n l := by simp [isSB]
theorem isSB_not {n : Int} {l : List Int} (h : ¬ IsS n l) : isSB n l = false := by simp [isSB, h]
theorem pick_cho {n : Nat} {l : List Int} (h : IsS (n : Int) l) : pickL n (choS n l) = l ∧ sbRight (n : Int) (choS n l) ∧ (choS n l).length = l.length := by
  obtain ⟨h1, h2⟩ := pick_of_ch l (rowL n) (rowL_nodup n) h.1 (fun y hy => mem_rowL.2 (h.2 y hy))
  rw [rowL_len] at h2
  exact ⟨h1, h2, chP_len _ _⟩
theorem cho_pick {n : Nat} {c : List Int} (h : sbRight (n : Int) c) : choS n (pickL n c) = c ∧ IsS (n : Int) (pickL n c) ∧ (pickL n c).length = c.length := by
  obtain ⟨h1, h2, h3⟩ := ch_of_pick c (rowL n) (rowL_nodup n) (by rw [rowL_len]; exact h)
  exact ⟨h1, ⟨h2, fun x hx => mem_rowL.1 (h3 x hx)⟩, pickR_len _ _⟩

/-- as the program keeps them: one row, what is picked in front -/
theorem swp_cut (P : List Int) (i a : Nat) (h : i + a < P.length) : (swp P i (i + a)).take (i + 1) = P.take i ++ [P.getD (i + a) 0] ∧ (swp P i (i + a)).drop (i + 1) = cut (P.drop i) a ∧ (P.drop i).getD a 0 = P.getD (i + a) 0 := by
  have hl : (swp P i (i + a)).length = P.length := swp_len _ _ _
  have g : ∀ t, (swp P i (i + a)).getD t 0 = if t = i + a then P.getD i 0 else if t = i then P.getD (i + a) 0 else P.getD t 0 := fun t => swp_get P i (i + a) t (by omega) h
  have hd : ∀ t, (P.drop i).getD t 0 = P.getD (i + t) 0 := fun t => by simp [List.getD]
  refine ⟨?_, ?_, hd a⟩
  · refine ext_getD (by simp [hl]; omega) fun t ht => ?_
    have hti : t < i + 1 := by simp [hl] at ht; omega
    rw [getD_take _ _ _ hti, g]
    have hpl : (P.take i).length = i := by rw [List.length_take]; omega
    by_cases h1 : t = i
    · subst h1
      have := getD_snoc (P.take t) (P.getD (t + a) 0)
      rw [hpl] at this
      rw [this, if_pos rfl]
      by_cases h2 : t = t + a
      · rw [if_pos h2, ← h2]
      · rw [if_neg h2]
    · rw [if_neg (by omega), if_neg h1, getD_append_left _ _ _ (by omega), getD_take _ _ _ (by omega)]
  · refine ext_getD (by simp [hl, cut_len]; omega) fun t ht => ?_
    have htl : i + 1 + t < P.length := by simp [hl] at ht; omega
    have e1 : ((swp P i (i + a)).drop (i + 1)).getD t 0 = (swp P i (i + a)).getD (i + 1 + t) 0 := by simp [List.getD]
    have e2 : (cut (P.drop i) a).getD t 0 = ((P.drop i).set a ((P.drop i).getD 0 0)).getD (t + 1) 0 := by simp [cut, List.getD]
    rw [e1, e2, g, getD_set _ _ _ _ (by simp; omega), hd, hd]
    by_cases h1 : i + 1 + t = i + a
    · rw [if_pos h1, if_pos (by omega)]; rfl
    · rw [if_neg h1, if_neg (by omega), if_neg (by omega)]
      congr 1
      omega

theorem permL_row (n : Nat) : permL (rowL n) = rowL n := by
  have key : ∀ (i : Nat) (c : List Int), (∀ j, j < i → c.getD j 0 = (j : Int)) → permR i (rowL i) c = rowL i := by
    intro i
    induction i with
    | zero => intro c _; rfl
    | succ i ih =>
      intro c hc
      simp only [permR]
      rw [hc i (by omega), Int.toNat_natCast]
      have e : swp (rowL (i + 1)) i i = rowL (i + 1) := by
        refine ext_getD (by rw [swp_len]) fun t ht => ?_
        rw [swp_len, rowL_len] at ht
        rw [swp_get _ _ _ _ (by rw [rowL_len]; omega) (by rw [rowL_len]; omega)]
        by_cases h : t = i
        · rw [if_pos h, h]
        · rw [if_neg h, if_neg h]
      have e2 : (rowL (i + 1)).take i = rowL i := by
        rw [rowL_succ, List.take_append_of_le_length (by rw [rowL_len]; exact Nat.le_refl _), List.take_of_length_le (by rw [rowL_len]; exact Nat.le_refl _)]
      rw [e, e2, ih c (fun j hj => hc j (by omega)), rowL_get _ _ (by omega), rowL_succ]
  unfold permL
  rw [rowL_len]
  exact key n (rowL n) (fun j hj => rowL_get n j hj)
theorem shRight_row (n : Nat) : shRight (rowL n) := by
  intro i hi
  rw [rowL_len] at hi
  rw [rowL_get _ _ hi]
  omega

/-- rising lists -/
def Up (l : List Int) : Prop := l.Pairwise (· < ·)
theorem Up.nodup {l : List Int} (h : Up l) : l.Nodup := h.imp fun h1 h2 => by omega
theorem perm_of_mem {a b : List Int} (ha : a.Nodup) (hb : b.Nodup) (h : ∀ x, x ∈ a ↔ x ∈ b) : a.Perm b := by
  refine List.perm_iff_count.2 fun x => ?_
  rw [ha.count, hb.count]
  by_cases hx : x ∈ a
  · rw [if_pos hx, if_pos ((h x).1 hx)]
  · rw [if_neg hx, if_neg (fun h' => hx ((h x).2 h'))]
theorem up_ext {a b : List Int} (ha : Up a) (hb : Up b) (h : ∀ x, x ∈ a ↔ x ∈ b) : a = b :=
  List.Perm.eq_of_pairwise (le := fun x y : Int => x ≤ y) (fun a b _ _ h1 h2 => by omega) (ha.imp fun h => by omega) (hb.imp fun h => by omega) (perm_of_mem ha.nodup hb.nodup h)

def sortL (l : List Int) : List Int := l.mergeSort fun x y => decide (x ≤ y)
theorem sortL_perm (l : List Int) : (sortL l).Perm l := List.mergeSort_perm l _
theorem sortL_le (l : List Int) : (sortL l).Pairwise (· ≤ ·) := by
  have := List.pairwise_mergeSort (le := fun x y : Int => decide (x ≤ y)) (fun a b c h1 h2 => by simp at *; omega) (fun a b => by simp; omega) l
  exact this.imp (fun h => by simpa using h)
def setL (l : List Int) : List Int := Lib.compact (sortL l)

theorem getBang (z : List Int) (m : Nat) (h : m < z.length) : z.toArray[m]! = z[m] := by simp [getElem!_pos, h]
theorem compact_up {z : List Int} (hz : z.Pairwise (· ≤ ·)) : ∀ m, m ≤ z.length → Up (Lib.compactUpTo z.toArray m) ∧ ∀ y, y ∈ Lib.compactUpTo z.toArray m ↔ y ∈ z.take m := by
  intro m
  induction m with
  | zero => intro _; exact ⟨by simp [Lib.compactUpTo, Up], by simp [Lib.compactUpTo]⟩
  | succ m ih =>
    intro hm
    obtain ⟨h1, h2⟩ := ih (by omega)
    have hmz : m < z.length := by omega
    have hle := List.pairwise_iff_getElem.1 hz
    rw [Lib.compactUpTo_succ]
    cases hk : Lib.keeps z.toArray m with
    | true =>
      rw [if_pos rfl, getBang z m hmz]
      have hlt : ∀ y, y ∈ z.take m → y < z[m] := by
        intro y hy
        obtain ⟨i, hi, rfl⟩ := List.mem_iff_getElem.1 hy
        have him : i < m := by simp at hi; omega
        rw [List.getElem_take]
        have hm0 : m ≠ 0 := by omega
        have hne : z[m] ≠ z[m - 1] := by
          have := hk
          simp only [Lib.keeps, decide_eq_true_eq] at this
          rcases this with h | h
          · exact absurd h hm0
          · rwa [getBang z m hmz, getBang z (m - 1) (by omega)] at h
        have h3 : z[m - 1] ≤ z[m] := hle (m - 1) m (by omega) hmz (by omega)
        have h4 : z[i] ≤ z[m - 1] := by
          by_cases h : i = m - 1
          · simp only [h]; omega
          · exact hle i (m - 1) (by omega) (by omega) (by omega)
        omega
      refine ⟨?_, fun y => ?_⟩
      · refine List.pairwise_append.2 ⟨h1, by simp, fun a ha b hb => ?_⟩
        rw [List.mem_singleton.1 hb]
        exact hlt a ((h2 a).1 ha)
      · rw [List.take_succ_eq_append_getElem hmz, List.mem_append, List.mem_append, h2]
    | false =>
      rw [if_neg (by simp), List.append_nil]
      refine ⟨h1, fun y => ?_⟩
      have : m ≠ 0 ∧ z[m] = z[m - 1] := by
        have := hk
        simp only [Lib.keeps, decide_eq_false_iff_not, not_or, Decidable.not_not] at this
        obtain ⟨a, b⟩ := this
        rw [getBang z m hmz, getBang z (m - 1) (by omega)] at b
        exact ⟨a, b⟩
      rw [List.take_succ_eq_append_getElem hmz, List.mem_append, h2]
      constructor
      · exact .inl
      · rintro (h | h)
        · exact h
        · rw [List.mem_singleton.1 h, this.2]
          exact List.mem_iff_getElem.2 ⟨m - 1, by simp; omega, by simp⟩
theorem setL_up (l : List Int) : Up (setL l) ∧ ∀ y, y ∈ setL l ↔ y ∈ l := by
  obtain ⟨h1, h2⟩ := compact_up (sortL_le l) (sortL l).length (Nat.le_refl _)
  refine ⟨h1, fun y => ?_⟩
  have := h2 y
  rw [List.take_length] at this
  exact this.trans (sortL_perm l).mem_iff
theorem setL_of {l s : List Int} (h : Up s) (hm : ∀ y, y ∈ s ↔ y ∈ l) : setL l = s := up_ext (setL_up l).1 h fun y => ((setL_up l).2 y).trans (hm y).symm
theorem setL_congr {a b : List Int} (h : ∀ y, y ∈ a ↔ y ∈ b) : setL a = setL b := setL_of (setL_up b).1 fun y => ((setL_up b).2 y).trans (h y).symm
theorem compact_le (z : List Int) : ∀ m, (Lib.compactUpTo z.toArray m).length ≤ m ∧ ((Lib.compactUpTo z.toArray m).length = m → ∀ j, j < m → Lib.keeps z.toArray j = true) := by
  intro m
  induction m with
  | zero => exact ⟨by simp [Lib.compactUpTo], fun _ j hj => by omega⟩
  | succ m ih =>
    rw [Lib.compactUpTo_succ]
    cases hk : Lib.keeps z.toArray m with
    | true =>
      simp only [if_true, List.length_append, List.length_singleton]
      refine ⟨by omega, fun h j hj => ?_⟩
      by_cases hjm : j = m
      · rw [hjm]; exact hk
      · exact ih.2 (by omega) j (by omega)
    | false =>
      simp only [Bool.false_eq_true, if_false, List.append_nil]
      exact ⟨by omega, fun h => by omega⟩
theorem setL_len (l : List Int) : (setL l).length = l.length ↔ l.Nodup := by
  constructor
  · intro h
    have hl := (sortL_perm l).length_eq
    have h1 := (compact_le (sortL l) (sortL l).length).2 (by unfold setL Lib.compact at h; omega)
    have h2 := Lib.compact_all (sortL l) h1
    have h3 : (sortL l).Nodup := by rw [← h2]; exact (setL_up l).1.nodup
    exact (sortL_perm l).nodup h3
  · intro h
    exact (perm_of_mem (setL_up l).1.nodup h (setL_up l).2).length_eq
theorem setL_le (l : List Int) : (setL l).length ≤ l.length := by
  have hl := (sortL_perm l).length_eq
  have := (compact_le (sortL l) (sortL l).length).1
  unfold setL Lib.compact
  omega

end Go.Proofs.YtcoohepkmhpdkaaGreat
