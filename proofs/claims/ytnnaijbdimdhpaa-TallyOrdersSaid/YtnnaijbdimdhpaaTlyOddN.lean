/-
  Counting odd multipliers by which two keys meet: the plain law of TallyOdds.
-/
import Derived.Test.YtnnaijbdimdhpaaTlyNum
namespace Go.Proofs.Ytnnaijbdimdhpaa
set_option linter.unusedVariables false

theorem nodup_len_le : ∀ (l l' : List Nat), l.Nodup → (∀ x ∈ l, x ∈ l') → l.length ≤ l'.length := by
  intro l
  induction l with
  | nil => intro l' _ _; simp
  | cons x l ih =>
    intro l' hn hs
    have hx := hs x List.mem_cons_self
    have h := ih (l'.erase x) (List.nodup_cons.1 hn).2 fun y hy => (List.mem_erase_of_ne (fun (e : y = x) => (List.nodup_cons.1 hn).1 (by rw [← e]; exact hy))).2 (hs y (List.mem_cons_of_mem _ hy))
    rw [List.length_erase_of_mem hx] at h
    have := List.length_pos_of_mem hx
    simp only [List.length_cons]; omega

/-- an injection of the numbers below M into themselves: of those whose image is such there are no more than there are such -/
theorem countP_inj {M : Nat} (f : Nat → Nat) (hf : ∀ a, a < M → f a < M) (hi : ∀ a b, a < M → b < M → f a = f b → a = b) (G : Nat → Bool) :
    (List.range M).countP (fun a => G (f a)) ≤ (List.range M).countP G := by
  rw [List.countP_eq_length_filter, List.countP_eq_length_filter, ← List.length_map (f := f)]
  refine nodup_len_le _ _ ?_ ?_
  · have hn : ((List.range M).filter fun a => G (f a)).Nodup := List.Nodup.sublist List.filter_sublist List.nodup_range
    refine List.pairwise_map.2 (hn.imp_of_mem fun {a b} ha hb hab he => hab (hi a b ?_ ?_ he))
    · exact List.mem_range.1 (List.mem_filter.1 ha).1
    · exact List.mem_range.1 (List.mem_filter.1 hb).1
  · intro y hy
    obtain ⟨a, ha, rfl⟩ := List.mem_map.1 hy
    obtain ⟨h1, h2⟩ := List.mem_filter.1 ha
    exact List.mem_filter.2 ⟨List.mem_range.2 (hf a (List.mem_range.1 h1)), h2⟩

theorem countP_le {α : Type} {p q : α → Bool} {l : List α} (h : ∀ x ∈ l, p x = true → q x = true) : l.countP p ≤ l.countP q :=
  List.countP_mono_left h

theorem countP_or_le {α : Type} (p q : α → Bool) (l : List α) : l.countP (fun x => p x || q x) ≤ l.countP p + l.countP q := by
  induction l with
  | nil => simp
  | cons x l ih =>
    simp only [List.countP_cons]
    cases p x <;> cases q x <;> simp <;> omega

theorem countP_odd (P : Nat → Bool) : ∀ m, (List.range (2 * m)).countP (fun r => r % 2 == 1 && P r) = (List.range m).countP (fun j => P (2 * j + 1)) := by
  intro m
  induction m with
  | zero => simp
  | succ m ih =>
    rw [Nat.mul_succ, List.range_succ (n := 2 * m + 1), List.range_succ (n := 2 * m), List.countP_append, List.countP_append, ih, List.range_succ (n := m), List.countP_append]
    simp only [List.countP_singleton]
    have h1 : (2 * m % 2 == 1) = false := by rw [beq_eq_false_iff_ne]; omega
    have h2 : ((2 * m + 1) % 2 == 1) = true := by rw [beq_iff_eq]; omega
    rw [h1, h2]; simp

theorem pow_odd_of : ∀ d, 0 < d → ∃ k o, d = 2 ^ k * o ∧ o % 2 = 1 := by
  intro d
  induction d using Nat.strongRecOn with
  | ind d ih =>
    intro hd
    by_cases h : d % 2 = 1
    · exact ⟨0, d, by simp, h⟩
    · obtain ⟨k, o, h1, h2⟩ := ih (d / 2) (by omega) (by omega)
      exact ⟨k + 1, o, by rw [Nat.pow_succ, Nat.mul_comm (2 ^ k) 2, Nat.mul_assoc, ← h1]; omega, h2⟩

/-- multiplying by an odd number tells numbers below a power of two apart -/
theorem odd_inj {e o : Nat} (ho : o % 2 = 1) : ∀ a b, a < 2 ^ e → b < 2 ^ e → a * o % 2 ^ e = b * o % 2 ^ e → a = b := by
  have hc : Nat.Coprime (2 ^ e) o := by
    refine Nat.Coprime.pow_left e ?_
    unfold Nat.Coprime
    rw [Nat.gcd_rec, ho]; simp
  have key : ∀ a b, a ≤ b → b < 2 ^ e → a * o % 2 ^ e = b * o % 2 ^ e → a = b := by
    intro a b hab hb h
    have h1 : (b - a) * o % 2 ^ e = 0 := by
      rw [Nat.sub_mul]
      exact Nat.sub_mod_eq_zero_of_mod_eq h.symm
    have h2 : 2 ^ e ∣ b - a := hc.dvd_of_dvd_mul_right (Nat.dvd_of_mod_eq_zero h1)
    have h3 := Nat.eq_zero_of_dvd_of_lt h2 (by omega)
    omega
  intro a b ha hb h
  rcases Nat.le_total a b with hab | hab
  · exact key a b hab hb h
  · exact (key b a hab ha h.symm).symm

/-- how many odd numbers make two keys meet -/
def oddC (N part x y : Nat) : Nat := (List.range N).countP fun a => a % 2 == 1 && a * x % N / part == a * y % N / part

theorem oddC_le {w s x y : Nat} (hs : s < w) (hx : x < 2 ^ w) (hxy : y < x) : oddC (2 ^ w) (2 ^ s) x y ≤ 2 ^ s := by
  obtain ⟨k, o, hd, ho⟩ := pow_odd_of (x - y) (by omega)
  have hN0 : 0 < 2 ^ w := Nat.two_pow_pos w
  have hS0 : 0 < 2 ^ s := Nat.two_pow_pos s
  have hk0 : 0 < 2 ^ k := Nat.two_pow_pos k
  have hkw : k < w := by
    refine (Nat.pow_lt_pow_iff_right (a := 2) (by omega)).1 ?_
    have : 2 ^ k * 1 ≤ 2 ^ k * o := Nat.mul_le_mul_left _ (by omega)
    omega
  obtain ⟨e, he⟩ : ∃ e, w = k + (e + 1) := ⟨w - k - 1, by omega⟩
  have hNM : 2 ^ w = 2 ^ k * 2 ^ (e + 1) := by rw [he, Nat.pow_add]
  obtain ⟨G, hG⟩ : ∃ G : Nat → Bool, G = fun r => r % 2 == 1 && (decide (2 ^ k * r < 2 ^ s) || decide (2 ^ w - 2 ^ s < 2 ^ k * r)) := ⟨_, rfl⟩
  -- the keys meet only where the difference is small
  have h1 : oddC (2 ^ w) (2 ^ s) x y ≤ (List.range (2 ^ w)).countP (fun a => (fun r => G (r * o % 2 ^ (e + 1))) (a % 2 ^ (e + 1))) := by
    refine countP_le fun a _ h => ?_
    simp only [Bool.and_eq_true, beq_iff_eq] at h
    obtain ⟨ha, hm⟩ := h
    have hr : a % 2 ^ (e + 1) * o % 2 ^ (e + 1) = a * o % 2 ^ (e + 1) := by rw [Nat.mod_mul_mod]
    have hodd : a * o % 2 ^ (e + 1) % 2 = 1 := by
      rw [Nat.mod_mod_of_dvd _ ⟨2 ^ e, by rw [Nat.pow_succ]; omega⟩, Nat.mul_mod, ha, ho]
    have hbig : 2 ^ k * (a * o % 2 ^ (e + 1)) = a * (x - y) % 2 ^ w := by
      rw [hNM, ← Nat.mul_mod_mul_left, hd]
      congr 1
      rw [← Nat.mul_assoc, ← Nat.mul_assoc, Nat.mul_comm (2 ^ k) a]
    have hax : a * x = a * y + a * (x - y) := by rw [← Nat.mul_add]; congr 1; omega
    have hsum : a * x % 2 ^ w = (a * y % 2 ^ w + a * (x - y) % 2 ^ w) % 2 ^ w := by rw [hax, Nat.add_mod]
    have hu := Nat.mod_lt (a * y) hN0
    have hv := Nat.mod_lt (a * (x - y)) hN0
    have hq1 := Nat.div_add_mod (a * x % 2 ^ w) (2 ^ s)
    have hq2 := Nat.div_add_mod (a * y % 2 ^ w) (2 ^ s)
    have hl1 := Nat.mod_lt (a * x % 2 ^ w) hS0
    have hl2 := Nat.mod_lt (a * y % 2 ^ w) hS0
    rw [hm] at hq1
    simp only [hG, hr, hodd, hbig]
    simp only [Bool.and_eq_true, Bool.or_eq_true, decide_eq_true_eq, beq_self_eq_true, true_and]
    generalize a * y % 2 ^ w = U at *
    generalize a * (x - y) % 2 ^ w = D at *
    generalize a * x % 2 ^ w = V at *
    generalize 2 ^ s * (U / 2 ^ s) = Q at *
    by_cases hlt : U + D < 2 ^ w
    · rw [Nat.mod_eq_of_lt hlt] at hsum; omega
    · rw [Nat.mod_eq_sub_mod (by omega), Nat.mod_eq_of_lt (by omega)] at hsum; omega
  have h2 : (List.range (2 ^ w)).countP (fun a => (fun r => G (r * o % 2 ^ (e + 1))) (a % 2 ^ (e + 1))) ≤ 2 ^ k * (List.range (2 ^ (e + 1))).countP G := by
    have := countP_mod (2 ^ (e + 1)) (fun r => G (r * o % 2 ^ (e + 1))) (2 ^ k)
    rw [Nat.mul_comm (2 ^ (e + 1)) (2 ^ k), ← hNM] at this
    rw [this]
    refine Nat.mul_le_mul_left _ ?_
    exact countP_inj (fun r => r * o % 2 ^ (e + 1)) (fun a _ => Nat.mod_lt _ (Nat.two_pow_pos _)) (odd_inj ho) G
  refine Nat.le_trans h1 (Nat.le_trans h2 ?_)
  by_cases hks : s ≤ k
  · have hle : 2 ^ s ≤ 2 ^ k := Nat.pow_le_pow_right (by omega) hks
    have hz : (List.range (2 ^ (e + 1))).countP G = 0 := by
      rw [List.countP_eq_zero]
      intro r hr hg
      have hrM := List.mem_range.1 hr
      simp only [hG, Bool.and_eq_true, Bool.or_eq_true, decide_eq_true_eq, beq_iff_eq] at hg
      obtain ⟨ho1, hg⟩ := hg
      rcases hg with hg | hg
      · have : 2 ^ k * 1 ≤ 2 ^ k * r := Nat.mul_le_mul_left _ (by omega)
        omega
      · have : 2 ^ k * (r + 1) ≤ 2 ^ k * 2 ^ (e + 1) := Nat.mul_le_mul_left _ (by omega)
        rw [← hNM, Nat.mul_succ] at this
        omega
    rw [hz]; simp
  · obtain ⟨t, ht⟩ : ∃ t, s = k + (t + 1) := ⟨s - k - 1, by omega⟩
    have hST : 2 ^ s = 2 ^ k * 2 ^ (t + 1) := by rw [ht, Nat.pow_add]
    have hte : t + 1 ≤ e := by omega
    have hTM : 2 ^ (t + 1) ≤ 2 ^ e := Nat.pow_le_pow_right (by omega) hte
    have hM2 : 2 ^ (e + 1) = 2 * 2 ^ e := by rw [Nat.pow_succ]; omega
    have hT2 : 2 ^ (t + 1) = 2 * 2 ^ t := by rw [Nat.pow_succ]; omega
    rw [hST]
    refine Nat.mul_le_mul_left _ ?_
    have hlt1 : ∀ r, 2 ^ k * r < 2 ^ s ↔ r < 2 ^ (t + 1) := fun r => by rw [hST]; exact Nat.mul_lt_mul_left hk0
    have hlt2 : ∀ r, 2 ^ w - 2 ^ s < 2 ^ k * r ↔ 2 ^ (e + 1) - 2 ^ (t + 1) < r := fun r => by rw [hST, hNM, ← Nat.mul_sub]; exact Nat.mul_lt_mul_left hk0
    rw [hG]
    simp only [hlt1, hlt2]
    rw [hM2, countP_odd (fun r => decide (r < 2 ^ (t + 1)) || decide (2 * 2 ^ e - 2 ^ (t + 1) < r)) (2 ^ e)]
    refine Nat.le_trans (countP_or_le (fun j => decide (2 * j + 1 < 2 ^ (t + 1))) (fun j => decide (2 * 2 ^ e - 2 ^ (t + 1) < 2 * j + 1)) _) ?_
    have c1 := countP_interval 0 (2 ^ t) (2 ^ e) (by omega)
    have c2 := countP_interval (2 ^ e - 2 ^ t) (2 ^ t) (2 ^ e) (by omega)
    have d1 : (List.range (2 ^ e)).countP (fun j => decide (2 * j + 1 < 2 ^ (t + 1))) = 2 ^ t := by
      rw [← c1]; refine countP_ext fun j _ => ?_
      rw [Bool.eq_iff_iff]; simp only [decide_eq_true_eq]; omega
    have d2 : (List.range (2 ^ e)).countP (fun j => decide (2 * 2 ^ e - 2 ^ (t + 1) < 2 * j + 1)) = 2 ^ t := by
      rw [← c2]; refine countP_ext fun j hj => ?_
      have := List.mem_range.1 hj
      rw [Bool.eq_iff_iff]; simp only [decide_eq_true_eq]; omega
    rw [d1, d2]; omega

theorem oddC_symm (N part x y : Nat) : oddC N part x y = oddC N part y x := by
  refine countP_ext fun a _ => ?_
  rw [show (a * x % N / part == a * y % N / part) = (a * y % N / part == a * x % N / part) from Bool.beq_comm]

theorem oddC_bound {w s x y : Nat} (hs : s < w) (hx : x < 2 ^ w) (hy : y < 2 ^ w) (hxy : x ≠ y) : oddC (2 ^ w) (2 ^ s) x y ≤ 2 ^ s := by
  rcases Nat.lt_or_ge y x with h | h
  · exact oddC_le hs hx h
  · rw [oddC_symm]; exact oddC_le hs hy (by omega)

end Go.Proofs.Ytnnaijbdimdhpaa
