/-
  Plain mathematics of numbers as rows of bits, the lowest first.
-/
import Derived.Test.YtcoohepkmhpdkaaGreatPlain
namespace Go.Proofs.YtcoohepkmhpdkaaGreat

/-- a bit -/
def bit (x i : Nat) : Nat := x / 2 ^ i % 2
theorem bit_lt (x i : Nat) : bit x i < 2 := Nat.mod_lt _ (by decide)
/-- so many bits -/
def bitsL (x n : Nat) : List Int := (List.range n).map fun i => ((bit x i : Nat) : Int)
theorem bitsL_len (x n : Nat) : (bitsL x n).length = n := by simp [bitsL]
theorem bitsL_zero (x : Nat) : bitsL x 0 = [] := rfl
theorem bitsL_succ (x n : Nat) : bitsL x (n + 1) = bitsL x n ++ [((bit x n : Nat) : Int)] := by simp [bitsL, List.range_succ]
theorem bitsL_get (x n i : Nat) (h : i < n) : (bitsL x n).getD i 0 = ((bit x i : Nat) : Int) := by simp [bitsL, List.getD, h]
theorem bit_big {x m i : Nat} (h : x < 2 ^ m) (hi : m ≤ i) : bit x i = 0 := by
  unfold bit
  have : x / 2 ^ i = 0 := Nat.div_eq_of_lt (Nat.lt_of_lt_of_le h (Nat.pow_le_pow_right (by decide) hi))
  rw [this]
theorem half (x i : Nat) : x / 2 ^ i = 2 * (x / 2 ^ (i + 1)) + bit x i := by
  unfold bit
  rw [Nat.pow_succ, ← Nat.div_div_eq_div_mul]
  omega
theorem mod_succ (x i : Nat) : x % 2 ^ (i + 1) = x % 2 ^ i + 2 ^ i * bit x i := by
  unfold bit
  rw [Nat.pow_succ, Nat.mod_mul]

theorem pow_pos2 (i : Nat) : 0 < 2 ^ i := Nat.two_pow_pos i

/-- what is carried -/
def carry (a b i : Nat) : Nat := (a % 2 ^ i + b % 2 ^ i) / 2 ^ i
theorem carry_zero (a b : Nat) : carry a b 0 = 0 := by simp [carry, Nat.mod_one]
theorem carry_lt (a b i : Nat) : carry a b i < 2 := by
  unfold carry
  have h1 := Nat.mod_lt a (pow_pos2 i)
  have h2 := Nat.mod_lt b (pow_pos2 i)
  exact (Nat.div_lt_iff_lt_mul (pow_pos2 i)).2 (by omega)
theorem add_div (a b i : Nat) : (a + b) / 2 ^ i = a / 2 ^ i + b / 2 ^ i + carry a b i := by
  have h1 := Nat.div_add_mod a (2 ^ i)
  have h2 := Nat.div_add_mod b (2 ^ i)
  have e : a + b = 2 ^ i * (a / 2 ^ i + b / 2 ^ i) + (a % 2 ^ i + b % 2 ^ i) := by
    rw [Nat.mul_add]; omega
  unfold carry
  have h3 : (a + b) / 2 ^ i = (2 ^ i * (a / 2 ^ i + b / 2 ^ i) + (a % 2 ^ i + b % 2 ^ i)) / 2 ^ i := by rw [← e]
  rw [h3, Nat.mul_add_div (pow_pos2 i)]
theorem add_bit (a b i : Nat) : bit (a + b) i = (bit a i + bit b i + carry a b i) % 2 := by
  have h1 := half a i
  have h2 := half b i
  have h3 := add_div a b i
  unfold bit at *
  omega
theorem carry_succ (a b i : Nat) : carry a b (i + 1) = (bit a i + bit b i + carry a b i) / 2 := by
  have h1 := add_div a b (i + 1)
  have h2 := add_div a b i
  have h3 := half a i
  have h4 := half b i
  have h5 := half (a + b) i
  have h6 := add_bit a b i
  omega

/-- what is lacking -/
def lack (a b i : Nat) : Nat := if a % 2 ^ i < b % 2 ^ i then 1 else 0
theorem lack_zero (a b : Nat) : lack a b 0 = 0 := by simp [lack, Nat.mod_one]
theorem sub_div (a b i : Nat) (h : b ≤ a) : (a - b) / 2 ^ i + b / 2 ^ i + lack a b i = a / 2 ^ i := by
  have h1 := add_div (a - b) b i
  have e : a - b + b = a := by omega
  rw [e] at h1
  have h2 : carry (a - b) b i = lack a b i := by
    unfold carry lack
    have m1 := Nat.mod_lt (a - b) (pow_pos2 i)
    have m2 := Nat.mod_lt b (pow_pos2 i)
    have m3 : a % 2 ^ i = ((a - b) % 2 ^ i + b % 2 ^ i) % 2 ^ i := by rw [← Nat.add_mod, e]
    generalize (a - b) % 2 ^ i = u at *
    generalize b % 2 ^ i = v at *
    generalize 2 ^ i = p at *
    by_cases hp : u + v < p
    · rw [Nat.mod_eq_of_lt hp] at m3
      rw [Nat.div_eq_of_lt hp, if_neg (by omega)]
    · have h3 : (u + v) / p = 1 := by
        have : u + v = p * 1 + (u + v - p) := by omega
        rw [this, Nat.mul_add_div (by omega), Nat.div_eq_of_lt (by omega)]
      have h4 : (u + v) % p = u + v - p := by
        have : u + v = (u + v - p) + p := by omega
        rw [this, Nat.add_mod_right, Nat.mod_eq_of_lt (by omega)]; omega
      rw [h3, if_pos (by omega)]
  omega
theorem sub_step (a b i : Nat) (h : b ≤ a) : (bit (a - b) i : Int) = ((bit a i : Int) - bit b i - lack a b i + 2) % 2 ∧ (lack a b (i + 1) : Int) = 1 - ((bit a i : Int) - bit b i - lack a b i + 2) / 2 := by
  have h1 := sub_div a b i h
  have h2 := sub_div a b (i + 1) h
  have h3 := half a i
  have h4 := half b i
  have h5 := half (a - b) i
  have b1 := bit_lt a i
  have b2 := bit_lt b i
  have b3 := bit_lt (a - b) i
  have l1 : lack a b i < 2 := by unfold lack; split <;> omega
  have l2 : lack a b (i + 1) < 2 := by unfold lack; split <;> omega
  omega

theorem shl_bit (x b i : Nat) : bit (x * 2 ^ b) i = if i < b then 0 else bit x (i - b) := by
  unfold bit
  by_cases h : i < b
  · rw [if_pos h]
    have : b = i + 1 + (b - i - 1) := by omega
    rw [this, Nat.pow_add, Nat.pow_succ]
    have e : x * (2 ^ i * 2 * 2 ^ (b - i - 1)) = 2 ^ i * (2 * (x * 2 ^ (b - i - 1))) := by
      simp only [Nat.mul_comm, Nat.mul_left_comm, Nat.mul_assoc]
    rw [e, Nat.mul_div_cancel_left _ (pow_pos2 i), Nat.mul_mod_right]
  · rw [if_neg h]
    have : i = b + (i - b) := by omega
    have e : x * 2 ^ b / 2 ^ i = x / 2 ^ (i - b) := by
      rw [this, Nat.pow_add, ← Nat.div_div_eq_div_mul, Nat.mul_div_cancel _ (pow_pos2 b)]
      congr 2; omega
    rw [e]

theorem zero_of_bits : ∀ {m x : Nat}, x < 2 ^ m → ((∀ j, j < m → bit x j = 0) ↔ x = 0)
  | 0, x, h => by
    have : x = 0 := by simpa using h
    simp [this]
  | m + 1, x, h => by
    constructor
    · intro hb
      have h1 : x / 2 ^ m = 0 := by
        have h2 := half x m
        have h3 : x / 2 ^ (m + 1) = 0 := Nat.div_eq_of_lt h
        have h4 := hb m (by omega)
        omega
      have h5 : x < 2 ^ m := (Nat.div_eq_zero_iff_lt (pow_pos2 m)).1 h1
      exact (zero_of_bits h5).1 fun j hj => hb j (by omega)
    · rintro rfl j _
      simp [bit]

end Go.Proofs.YtcoohepkmhpdkaaGreat
