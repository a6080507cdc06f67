/-
  Orders by choices: the plain law of TallyOrders.
-/
import Derived.Test.YtnnaijbdimdhpaaTly26
namespace Go.Proofs.Ytnnaijbdimdhpaa
set_option linter.unusedVariables false
set_option linter.unusedSimpArgs false

/-- how one list stands to another: before (-1), like (0), behind (1) -/
def cmpL : List Int → List Int → Int
  | [], [] => 0
  | [], _ :: _ => -1
  | _ :: _, [] => 1
  | x :: xs, y :: ys => if x < y then -1 else if y < x then 1 else cmpL xs ys
theorem cmpL_self : ∀ x, cmpL x x = 0
  | [] => rfl
  | x :: xs => by simp [cmpL, cmpL_self xs]
theorem cmpL_eq : ∀ {x y : List Int}, cmpL x y = 0 → x = y
  | [], [], _ => rfl
  | [], _ :: _, h => by simp [cmpL] at h
  | _ :: _, [], h => by simp [cmpL] at h
  | x :: xs, y :: ys, h => by
    simp only [cmpL] at h
    split at h
    · omega
    · split at h
      · omega
      · rw [show x = y by omega, cmpL_eq h]
theorem cmpL_neg : ∀ x y : List Int, cmpL y x = - cmpL x y
  | [], [] => rfl
  | [], _ :: _ => rfl
  | _ :: _, [] => rfl
  | x :: xs, y :: ys => by
    simp only [cmpL]
    by_cases h1 : x < y
    · rw [if_pos h1, if_neg (by omega), if_pos h1]; rfl
    · by_cases h2 : y < x
      · rw [if_pos h2, if_neg h1, if_pos h2]
      · rw [if_neg h2, if_neg h1, if_neg h1, if_neg h2, cmpL_neg xs ys]
theorem cmpL_trans : ∀ {x y z : List Int}, cmpL x y < 0 → cmpL y z < 0 → cmpL x z < 0
  | [], [], _, h, _ => by simp [cmpL] at h
  | [], _ :: _, [], _, h => by simp [cmpL] at h
  | [], _ :: _, _ :: _, _, _ => by simp [cmpL]
  | _ :: _, [], _, h, _ => by simp [cmpL] at h
  | _ :: _, _ :: _, [], _, h => by simp [cmpL] at h
  | x :: xs, y :: ys, z :: zs, h1, h2 => by
    simp only [cmpL] at h1 h2 ⊢
    by_cases a : x < y
    · by_cases b : y < z
      · rw [if_pos (by omega)]; omega
      · rw [if_neg b] at h2
        by_cases c : z < y
        · rw [if_pos c] at h2; omega
        · rw [if_pos (by omega)]; omega
    · rw [if_neg a] at h1
      by_cases a2 : y < x
      · rw [if_pos a2] at h1; omega
      · rw [if_neg a2] at h1
        by_cases b : y < z
        · rw [if_pos (by omega)]; omega
        · rw [if_neg b] at h2
          by_cases c : z < y
          · rw [if_pos c] at h2; omega
          · rw [if_neg c] at h2
            rw [if_neg (by omega), if_neg (by omega)]
            exact cmpL_trans h1 h2
theorem cmpL_ntrans {x y z : List Int} (h1 : ¬ cmpL x y < 0) (h2 : ¬ cmpL y z < 0) : ¬ cmpL x z < 0 := by
  intro h
  have e1 := cmpL_neg x y
  have e2 := cmpL_neg y z
  by_cases a : cmpL x y = 0
  · rw [cmpL_eq a] at h; exact h2 h
  · by_cases b : cmpL y z = 0
    · rw [← cmpL_eq b] at h; exact h1 h
    · have h3 : cmpL z y < 0 := by omega
      have h4 : cmpL y x < 0 := by omega
      have h5 := cmpL_trans h3 h4
      rw [cmpL_neg x z] at h5
      omega

/-- the lists stand in order -/
theorem allL_up : ∀ lims : List Int, (allL lims).Pairwise fun x y => cmpL x y < 0
  | [] => by simp [allL]
  | n :: ns => by
    simp only [allL]
    rw [List.pairwise_flatMap]
    refine ⟨fun a _ => ?_, ?_⟩
    · rw [List.pairwise_map]
      refine (allL_up ns).imp fun h => ?_
      simpa [cmpL] using h
    · refine List.pairwise_lt_range.imp fun {a b} hab x hx y hy => ?_
      obtain ⟨x', _, rfl⟩ := List.mem_map.1 hx
      obtain ⟨y', _, rfl⟩ := List.mem_map.1 hy
      simp only [cmpL]
      rw [if_pos (by omega)]
      omega
theorem mem_allL {lims l : List Int} : l ∈ allL lims ↔ l.length = lims.length ∧ ∀ i, i < l.length → 0 ≤ l.getD i 0 ∧ l.getD i 0 < lims.getD i 0 := by
    refine ⟨fun h => allL_get lims h, ?_⟩
    induction lims generalizing l with
    | nil => rintro ⟨h, _⟩; rw [List.length_eq_zero_iff.1 h]; simp [allL]
    | cons n ns ih =>
      rintro ⟨h1, h2⟩
      match l, h1, h2 with
      | x :: xs, h1, h2 =>
        have h0 := h2 0 (by simp)
        simp at h0
        simp only [allL]
        refine List.mem_flatMap.2 ⟨x.toNat, List.mem_range.2 (by omega), List.mem_map.2 ⟨xs, ih ⟨by simpa using h1, fun i hi => ?_⟩, by simp; omega⟩⟩
        have := h2 (i + 1) (by simp; omega)
        simpa using this

/-- all choices of n, and all orders of n -/
def chcs (n : Nat) : List (List Int) := allL (upI 1 n)
def ords (n : Nat) : List (List Int) := (allL (List.replicate n (n : Int))).filter isPB
theorem chcs_right {n : Nat} {c : List Int} : c ∈ chcs n ↔ c.length = n ∧ shRight c := by
  unfold chcs
  rw [mem_allL, upI_len]
  refine ⟨fun ⟨h1, h2⟩ => ⟨by omega, fun i hi => ?_⟩, fun ⟨h1, h2⟩ => ⟨by omega, fun i hi => ?_⟩⟩
  · have := h2 i hi
    rw [upI_get (by omega)] at this
    omega
  · have := h2 i hi
    rw [upI_get (by omega)]
    omega
theorem ords_is {n : Nat} {p : List Int} : p ∈ ords n ↔ p.length = n ∧ IsP p := by
  unfold ords
  rw [List.mem_filter, isPB_iff, mem_allL, List.length_replicate]
  refine ⟨fun ⟨⟨h1, h2⟩, h3⟩ => ⟨h1, h3⟩, fun ⟨h1, h3⟩ => ⟨⟨h1, fun i hi => ?_⟩, h3⟩⟩
  have := h3.get hi
  rw [show (List.replicate n (n : Int)).getD i 0 = (n : Int) by simp [List.getD, List.getElem?_replicate, show i < n by omega]]
  omega
theorem ords_up (n : Nat) : (ords n).Pairwise fun x y => cmpL x y < 0 := (allL_up _).sublist List.filter_sublist
theorem nodup_up {l : List (List Int)} (h : l.Pairwise fun x y => cmpL x y < 0) : l.Nodup := h.imp fun {a b} hab e => by rw [e, cmpL_self] at hab; omega
theorem perms_nodup (n : Nat) : ((chcs n).map permL).Nodup := by
  have h := nodup_up (allL_up (upI 1 n))
  refine List.pairwise_map.2 (List.Pairwise.imp_of_mem (fun {a b} ha hb hab e => ?_) h)
  have h1 := (cho_perm (chcs_right.1 ha).2).1
  have h2 := (cho_perm (chcs_right.1 hb).2).1
  rw [e, h2] at h1
  exact hab h1.symm
theorem perms_mem {n : Nat} {p : List Int} : p ∈ (chcs n).map permL ↔ p.length = n ∧ IsP p := by
  refine ⟨fun h => ?_, fun ⟨h1, h2⟩ => ?_⟩
  · obtain ⟨c, hc, rfl⟩ := List.mem_map.1 h
    obtain ⟨h1, h2⟩ := chcs_right.1 hc
    exact ⟨by rw [permL_len, h1], (cho_perm h2).2⟩
  · obtain ⟨e1, e2, e3⟩ := perm_cho h2
    exact List.mem_map.2 ⟨choL p, chcs_right.2 ⟨by omega, e2⟩, e1⟩
theorem perms_ords (n : Nat) : ((chcs n).map permL).Perm (ords n) := by
  refine (List.perm_ext_iff_of_nodup (perms_nodup n) (nodup_up (ords_up n))).2 fun p => ?_
  rw [perms_mem, ords_is]
/-- sorted, the choices' orders are all orders in order -/
theorem sorted_ords {n : Nat} {l : List (List Int)} (hp : l.Perm ((chcs n).map permL)) (hs : l.Pairwise fun x y => ¬ cmpL y x < 0) : l = ords n := by
  refine List.Perm.eq_of_pairwise (le := fun x y => ¬ cmpL y x < 0) (fun a b _ _ h1 h2 => ?_) hs ((ords_up n).imp fun {a b} h => ?_) (hp.trans (perms_ords n))
  · rw [cmpL_neg a b] at h1
    exact cmpL_eq (by omega)
  · rw [cmpL_neg a b]; omega

def chcLen : Bool := (List.range 7).all fun n => (chcs n).length == timesN n n
set_option maxRecDepth 100000 in
theorem chcLen_true : chcLen = true := by decide +kernel
theorem ords_len {n : Nat} (hn : n ≤ 6) : (ords n).length = timesN n n := by
  rw [← (perms_ords n).length_eq, List.length_map]
  exact beq_iff_eq.1 (List.all_eq_true.1 chcLen_true n (List.mem_range.2 (by omega)))

theorem count_flatMapG {α : Type} [BEq α] (f : Nat → List α) (v : α) : ∀ n, ((List.range n).flatMap f).count v = sumB (fun a => (f a).count v) n
  | 0 => rfl
  | n + 1 => by rw [List.range_succ, List.flatMap_append, List.count_append, count_flatMapG f v n]; simp [sumB]
/-- of the choices that go on from some, how many come to an order -/
def cntO (n : Nat) (p : List Int) (c : List Int) : Nat := ((allL (upI (c.length + 1) n)).map fun e => permL (c ++ e)).count p
theorem cntO_end {n : Nat} (p : List Int) {c : List Int} (h : n ≤ c.length) : cntO n p c = if permL c = p then 1 else 0 := by
  unfold cntO
  rw [upI_nil (by omega)]
  simp only [allL, List.map_cons, List.map_nil, List.append_nil, List.count_singleton]
  simp
theorem cntO_step {n : Nat} (p : List Int) {c : List Int} (h : c.length < n) : cntO n p c = sumB (fun x => cntO n p (c ++ [(x : Int)])) (c.length + 1) := by
  unfold cntO
  rw [upI_cons (by omega)]
  simp only [allL, Int.toNat_natCast, List.map_flatMap, List.map_map]
  rw [count_flatMapG]
  refine sumB_congr _ fun x _ => ?_
  simp only [List.length_append, List.length_cons, List.length_nil, Nat.zero_add]
  congr 1
  apply List.map_congr_left
  intro e _
  simp
theorem cntO_le {n : Nat} {p c : List Int} (hn : n ≤ 6) : cntO n p c ≤ 46656 := by
  unfold cntO
  refine Nat.le_trans List.count_le_length ?_
  rw [List.length_map]
  refine Nat.le_trans (allL_len_le (b := 6) _ fun x hx => by have := upI_le x hx; omega) ?_
  exact Nat.le_trans (Nat.pow_le_pow_right (n := 6) (j := 6) (by omega) (by rw [upI_len]; omega)) (by decide)
theorem cntO_one {p : List Int} (hp : IsP p) : cntO p.length p [] = 1 := by
  show ((chcs p.length).map permL).count p = 1
  rw [(perms_nodup p.length).count, if_pos (perms_mem.2 ⟨rfl, hp⟩)]

end Go.Proofs.Ytnnaijbdimdhpaa
