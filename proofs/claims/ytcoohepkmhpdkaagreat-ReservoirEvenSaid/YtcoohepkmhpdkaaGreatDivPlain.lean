/-
  Plain mathematics of the division bit by bit.
-/
import Derived.Test.YtcoohepkmhpdkaaGreatBits
namespace Go.Proofs.YtcoohepkmhpdkaaGreat

theorem bits_ext {a b : List Int} (h : a.length = b.length) (hk : ∀ i, i < a.length → a.getD i 0 = b.getD i 0) : a = b := by
  refine List.ext_getElem h fun i h1 h2 => ?_
  have := hk i h1
  simpa [List.getD, List.getElem?_eq_getElem h1, List.getElem?_eq_getElem h2] using this

theorem bit_two (r b : Nat) (hb : b < 2) (i : Nat) : bit (2 * r + b) i = if i = 0 then b else bit r (i - 1) := by
  unfold bit
  by_cases h : i = 0
  · subst h; rw [if_pos rfl, Nat.pow_zero, Nat.div_one]; omega
  · rw [if_neg h]
    obtain ⟨j, rfl⟩ : ∃ j, i = j + 1 := ⟨i - 1, by omega⟩
    have e : (2 * r + b) / 2 ^ (j + 1) = r / 2 ^ j := by
      rw [Nat.pow_succ, Nat.mul_comm (2 ^ j) 2, ← Nat.div_div_eq_div_mul]
      congr 1
      omega
    rw [e]; rfl
/-- the lowest bit is laid -/
theorem set_low (r b n : Nat) (hb : b < 2) (hn : 0 < n) : (bitsL (r * 2 ^ 1) n).set 0 (b : Int) = bitsL (2 * r + b) n := by
  refine bits_ext (by simp [bitsL_len]) fun i hi => ?_
  rw [List.length_set, bitsL_len] at hi
  rw [getD_set _ _ _ _ (by rw [bitsL_len]; exact hn), bitsL_get _ _ _ hi, bitsL_get _ _ _ hi, bit_two r b hb]
  by_cases h : i = 0
  · rw [if_pos h.symm, if_pos h]
  · rw [if_neg (fun h' => h h'.symm), if_neg h]
    have := bit_two r 0 (by decide) i
    rw [if_neg h] at this
    have e : r * 2 ^ 1 = 2 * r + 0 := by omega
    rw [e, this]
/-- a bit of the quotient -/
theorem set_quot (h j n : Nat) (hj : j < n) : (bitsL (2 * h * 2 ^ j) n).set j 1 = bitsL ((2 * h + 1) * 2 ^ j) n := by
  refine bits_ext (by simp [bitsL_len]) fun i hi => ?_
  rw [List.length_set, bitsL_len] at hi
  rw [getD_set _ _ _ _ (by rw [bitsL_len]; exact hj), bitsL_get _ _ _ hi, bitsL_get _ _ _ hi, shl_bit, shl_bit]
  by_cases h1 : j = i
  · subst h1
    rw [if_pos rfl, if_neg (by omega), Nat.sub_self]
    simp [bit]
  · rw [if_neg h1]
    by_cases h2 : i < j
    · rw [if_pos h2, if_pos h2]
    · rw [if_neg h2, if_neg h2]
      have h3 : i - j ≠ 0 := by omega
      have a1 := bit_two h 0 (by decide) (i - j)
      have a2 := bit_two h 1 (by decide) (i - j)
      rw [if_neg h3] at a1 a2
      rw [Nat.add_zero] at a1
      rw [a1, a2]
theorem div_step (hi b y : Nat) (hb : b < 2) (hy : 0 < y) :
    (2 * (hi % y) + b < y → (2 * hi + b) / y = 2 * (hi / y) ∧ (2 * hi + b) % y = 2 * (hi % y) + b) ∧
    (y ≤ 2 * (hi % y) + b → (2 * hi + b) / y = 2 * (hi / y) + 1 ∧ (2 * hi + b) % y = 2 * (hi % y) + b - y) := by
  have h1 := Nat.div_add_mod hi y
  have h2 := Nat.mod_lt hi hy
  constructor
  · intro h
    have e : 2 * hi + b = y * (2 * (hi / y)) + (2 * (hi % y) + b) := by
      rw [Nat.mul_left_comm]; omega
    rw [e, Nat.mul_add_div hy, Nat.mul_add_mod, Nat.div_eq_of_lt h, Nat.mod_eq_of_lt h]
    exact ⟨rfl, rfl⟩
  · intro h
    have e : 2 * hi + b = y * (2 * (hi / y) + 1) + (2 * (hi % y) + b - y) := by
      rw [Nat.mul_add, Nat.mul_left_comm]; omega
    have hl : 2 * (hi % y) + b - y < y := by omega
    rw [e, Nat.mul_add_div hy, Nat.mul_add_mod, Nat.div_eq_of_lt hl, Nat.mod_eq_of_lt hl]
    exact ⟨rfl, rfl⟩

end Go.Proofs.YtcoohepkmhpdkaaGreat
