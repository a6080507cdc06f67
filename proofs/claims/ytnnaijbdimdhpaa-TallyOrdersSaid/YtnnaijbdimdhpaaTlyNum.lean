/-
  Counting words: plain laws for TallyWords, with no program in sight.
-/
import Derived.Test.YtnnaijbdimdhpaaBs
namespace Go.Proofs.Ytnnaijbdimdhpaa
set_option linter.unusedVariables false

/-- how many of the numbers below N are in [a, a + c) -/
theorem countP_interval (a c : Nat) : ∀ N, a + c ≤ N → (List.range N).countP (fun x => decide (a ≤ x ∧ x < a + c)) = c := by
  suffices h : ∀ N, (List.range N).countP (fun x => decide (a ≤ x ∧ x < a + c)) = min (N - a) c by
    intro N hN; rw [h]; omega
  intro N
  induction N with
  | zero => simp
  | succ N ih =>
    rw [List.range_succ, List.countP_append, ih, List.countP_singleton]
    by_cases h : a ≤ N ∧ N < a + c
    · rw [if_pos (by simpa using h)]; omega
    · rw [if_neg (by simpa using h)]; omega

theorem countP_ext {α : Type} {p q : α → Bool} {l : List α} (h : ∀ x ∈ l, p x = q x) : l.countP p = l.countP q := by
  induction l with
  | nil => rfl
  | cons x l ih =>
    rw [List.countP_cons, List.countP_cons, ih fun y hy => h y (List.mem_cons_of_mem _ hy), h x List.mem_cons_self]

/-- what a word tells by Lemire's way -/
def lemT (N n x : Nat) : Option Nat := if x * n % N < N % n then none else some (x * n / N)

/-- what a word tells by a mask of so many -/
def maskT (s n x : Nat) : Option Nat := if x % s < n then some (x % s) else none

theorem lem_each {N n v : Nat} (hn : 0 < n) (hN : n ≤ N) (hv : v < n) : (List.range N).countP (fun x => lemT N n x == some v) = N / n := by
  obtain ⟨a, ha⟩ : ∃ a, a = (v * N + N % n + (n - 1)) / n := ⟨_, rfl⟩
  have hdm := Nat.div_add_mod N n
  have hr := Nat.mod_lt N hn
  have hlo : ∀ x, v * N + N % n ≤ x * n ↔ a ≤ x := by
    intro x
    rw [ha, Nat.div_le_iff_le_mul_add_pred hn]
    rw [Nat.mul_comm n x]; omega
  have hhi : ∀ x, (v + 1) * N ≤ x * n ↔ a + N / n ≤ x := by
    intro x
    have e1 : (v + 1) * N = v * N + N % n + n * (N / n) := by rw [Nat.succ_mul]; omega
    rw [e1]
    constructor
    · intro h
      have hq : N / n ≤ x := by
        apply Nat.le_of_mul_le_mul_right (c := n) _ hn
        rw [Nat.mul_comm (N / n) n]; omega
      have h2 := (hlo (x - N / n)).1 (by rw [Nat.sub_mul, Nat.mul_comm (N / n) n]; omega)
      omega
    · intro h
      have h2 := (hlo (x - N / n)).2 (by omega)
      rw [Nat.sub_mul, Nat.mul_comm (N / n) n] at h2
      have h3 : n * (N / n) ≤ x * n := by rw [Nat.mul_comm x n]; exact Nat.mul_le_mul_left n (by omega)
      omega
  have hend : a + N / n ≤ N := by
    refine (hhi N).1 ?_
    rw [Nat.mul_comm N n]; exact Nat.mul_le_mul_right N (by omega)
  rw [← countP_interval a (N / n) N hend]
  refine countP_ext fun x _ => ?_
  have hN0 : 0 < N := by omega
  have hx := Nat.div_add_mod (x * n) N
  have hm := Nat.mod_lt (x * n) hN0
  have hrN : N % n < N := by omega
  unfold lemT
  rw [Bool.eq_iff_iff]
  simp only [beq_iff_eq, decide_eq_true_eq]
  rw [← hlo x, show x < a + N / n ↔ ¬ (v + 1) * N ≤ x * n by rw [hhi]; omega]
  split
  · rename_i h
    simp only [reduceCtorEq, false_iff]
    rintro ⟨h1, h2⟩
    have hd : x * n / N = v := by
      apply Nat.div_eq_of_lt_le
      · omega
      · omega
    rw [hd, Nat.mul_comm N v] at hx
    omega
  · rename_i h
    simp only [Option.some.injEq]
    constructor
    · intro hd
      rw [hd, Nat.mul_comm N v] at hx
      rw [Nat.succ_mul]; omega
    · rintro ⟨h1, h2⟩
      apply Nat.div_eq_of_lt_le
      · omega
      · omega

/-- a countP over a range of a multiple, of what is told of the rest -/
theorem countP_mod (s : Nat) (p : Nat → Bool) : ∀ q, (List.range (s * q)).countP (fun x => p (x % s)) = q * (List.range s).countP p := by
  intro q
  induction q with
  | zero => simp
  | succ q ih =>
    rw [Nat.mul_succ, List.range_add, List.countP_append, ih, List.countP_map, Nat.succ_mul]
    congr 1
    refine countP_ext fun x hx => ?_
    simp only [Function.comp, Nat.mul_add_mod, Nat.mod_eq_of_lt (List.mem_range.1 hx)]

theorem countP_one {s v : Nat} (hv : v < s) : (List.range s).countP (fun x => x == v) = 1 := by
  rw [← countP_interval v 1 s (by omega)]
  refine countP_ext fun x _ => ?_
  rw [Bool.eq_iff_iff]; simp only [beq_iff_eq, decide_eq_true_eq]; omega

theorem mask_each {N s n v q : Nat} (hq : N = s * q) (hs : n ≤ s) (hv : v < n) : (List.range N).countP (fun x => maskT s n x == some v) = q := by
  rw [hq, show (fun x => maskT s n x == some v) = fun x => (fun y => (if y < n then some y else none) == some v) (x % s) from rfl, countP_mod s (fun y => (if y < n then some y else none) == some v)]
  rw [show (List.range s).countP (fun y => (if y < n then some y else none) == some v) = 1 from ?_]; · simp
  rw [← countP_one (show v < s by omega)]
  refine countP_ext fun x _ => ?_
  rw [Bool.eq_iff_iff]
  split <;> simp only [beq_iff_eq, Option.some.injEq, reduceCtorEq, false_iff] <;> omega

/-- all are told or not: the sum -/
theorem told_sum (t : Nat → Option Nat) (n : Nat) (ht : ∀ x v, t x = some v → v < n) (l : List Nat) :
    ((List.range n).map fun v => l.countP fun x => t x == some v).sum + l.countP (fun x => t x == none) = l.length := by
  induction l with
  | nil => simp [List.map_const']
  | cons x l ih =>
    have key : ∀ m, ((List.range m).map fun v => (x :: l).countP fun x => t x == some v).sum = ((List.range m).map fun v => l.countP fun x => t x == some v).sum + (match t x with | some v => if v < m then 1 else 0 | none => 0) := by
      intro m
      induction m with
      | zero => cases t x <;> simp
      | succ m ihm =>
        rw [List.range_succ, List.map_append, List.sum_append, ihm, List.map_append, List.sum_append]
        simp only [List.map_cons, List.map_nil, List.sum_cons, List.sum_nil, List.countP_cons]
        cases hx : t x with
        | none => simp
        | some v =>
          simp only [beq_iff_eq, Option.some.injEq]
          by_cases h1 : v < m
          · rw [if_pos h1, if_pos (by omega : v < m + 1), if_neg (by omega)]; omega
          · by_cases h2 : v = m
            · rw [if_neg h1, if_pos (by omega : v < m + 1), if_pos h2]; omega
            · rw [if_neg h1, if_neg (by omega : ¬ v < m + 1), if_neg h2]; omega
    rw [key n, List.countP_cons, List.length_cons, ← ih]
    cases hx : t x with
    | none => simp; omega
    | some v => simp [ht x v hx]; omega

theorem sum_const {n c : Nat} {f : Nat → Nat} (h : ∀ v, v < n → f v = c) : ((List.range n).map f).sum = n * c := by
  rw [List.map_congr_left (g := fun _ => c) fun v hv => h v (List.mem_range.1 hv)]
  simp [List.map_const']

theorem lemT_lt {N n x v : Nat} (hN : n ≤ N) (hn : 0 < n) (hx : x < N) (h : lemT N n x = some v) : v < n := by
  unfold lemT at h
  split at h
  · simp at h
  · obtain rfl := Option.some.inj h
    exact Nat.div_lt_of_lt_mul (Nat.mul_lt_mul_of_pos_right hx hn)

theorem lem_lost {N n : Nat} (hn : 0 < n) (hN : n ≤ N) : (List.range N).countP (fun x => lemT N n x == none) = N % n := by
  have ht : ∀ x v, (fun x => if x < N then lemT N n x else none) x = some v → v < n := by
    intro x v h
    simp only at h
    split at h
    · exact lemT_lt hN hn ‹_› h
    · simp at h
  have h := told_sum _ n ht (List.range N)
  have e : ∀ o : Option Nat, (List.range N).countP (fun x => (fun x => if x < N then lemT N n x else none) x == o) = (List.range N).countP (fun x => lemT N n x == o) := fun o =>
    countP_ext fun x hx => by simp only [if_pos (List.mem_range.1 hx)]
  rw [sum_const (c := N / n) fun v hv => (e _).trans (lem_each hn hN hv), e none, List.length_range] at h
  have := Nat.div_add_mod N n
  omega

theorem mask_lost {N s n q : Nat} (hq : N = s * q) (hs : n ≤ s) : n * q + (List.range N).countP (fun x => maskT s n x == none) = N := by
  have ht : ∀ x v, maskT s n x = some v → v < n := by
    intro x v h
    unfold maskT at h
    split at h
    · exact (Option.some.inj h) ▸ ‹_›
    · simp at h
  have h := told_sum _ n ht (List.range N)
  rw [sum_const (c := q) fun v hv => mask_each hq hs hv, List.length_range] at h
  exact h

end Go.Proofs.Ytnnaijbdimdhpaa
