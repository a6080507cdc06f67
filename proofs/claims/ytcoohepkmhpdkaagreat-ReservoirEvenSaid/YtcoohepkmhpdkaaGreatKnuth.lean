/-
  Plain mathematics of the division of two words by one, half a word of the quotient at a time.
-/
import Derived.Test.YtcoohepkmhpdkaaGreatPlain
namespace Go.Proofs.YtcoohepkmhpdkaaGreat

/-- what holds of a guess q and its rest r, where d1 B + d0 divides u B + un -/
structure Guess (B d1 d0 u un q r : Nat) : Prop where
  sum : q * d1 + r = u
  up : (u * B + un) / (d1 * B + d0) ≤ q
  top : q ≤ B + 1
  rest : r < B

section
variable {B d1 d0 u un q r : Nat}

theorem guess_id (h : q * d1 + r = u) : q * (d1 * B + d0) + r * B = u * B + q * d0 := by
  subst h
  rw [Nat.mul_add, Nat.add_mul, Nat.mul_assoc]
  omega

theorem guess_start (h1 : B ≤ 2 * d1) (hB : d1 < B) (h0 : d0 < B) (hu : u < d1 * B + d0) (hn : un < B) : Guess B d1 d0 u un (u / d1) (u - u / d1 * d1) := by
  have hp : 0 < d1 := by omega
  have hm := Nat.div_add_mod u d1
  have hc : d1 * (u / d1) = u / d1 * d1 := Nat.mul_comm _ _
  have hl := Nat.mod_lt u hp
  refine ⟨by omega, ?_, ?_, by omega⟩
  · refine (Nat.le_div_iff_mul_le hp).2 ?_
    have hD : 0 < d1 * B + d0 := by omega
    have hQ := Nat.div_mul_le_self (u * B + un) (d1 * B + d0)
    generalize (u * B + un) / (d1 * B + d0) = Q at *
    have e : Q * (d1 * B + d0) = Q * d1 * B + Q * d0 := by rw [Nat.mul_add, Nat.mul_assoc]
    have e2 : (u + 1) * B = u * B + B := by rw [Nat.add_mul]; omega
    have h3 : Q * d1 * B < (u + 1) * B := by omega
    have := Nat.lt_of_mul_lt_mul_right h3
    omega
  · have : u / d1 < B + 2 := by
      refine (Nat.div_lt_iff_lt_mul hp).2 ?_
      rw [Nat.add_mul, Nat.mul_comm B d1]
      omega
    omega

theorem guess_more (g : Guess B d1 d0 u un q r) (hd : 0 < d1 * B + d0) (hu : u < d1 * B + d0) (hn : un < B) (h : B ≤ q ∨ B * r + un < q * d0) : (u * B + un) / (d1 * B + d0) < q := by
  refine (Nat.div_lt_iff_lt_mul hd).2 ?_
  rcases h with h | h
  · have h1 : (u + 1) * B ≤ (d1 * B + d0) * B := Nat.mul_le_mul_right _ hu
    have h2 : B * (d1 * B + d0) ≤ q * (d1 * B + d0) := Nat.mul_le_mul_right _ h
    rw [Nat.mul_comm B] at h2
    rw [Nat.add_mul] at h1
    omega
  · have e := guess_id (B := B) (d0 := d0) g.sum
    have e2 : B * r = r * B := Nat.mul_comm _ _
    omega

theorem guess_step (g : Guess B d1 d0 u un (q + 1) r) (h : (u * B + un) / (d1 * B + d0) < q + 1) (hr : r + d1 < B) : Guess B d1 d0 u un q (r + d1) := by
  have := g.sum
  have := g.top
  rw [Nat.add_mul] at *
  exact ⟨by omega, by omega, by omega, hr⟩

theorem guess_stop (g : Guess B d1 d0 u un (q + 1) r) (hd : 0 < d1 * B + d0) (h0 : d0 < B) (h : (u * B + un) / (d1 * B + d0) < q + 1) (hr : B ≤ r + d1) : q = (u * B + un) / (d1 * B + d0) := by
  have hs := g.sum
  have ht := g.top
  have hs' : q * d1 + (r + d1) = u := by rw [Nat.add_mul] at hs; omega
  have e := guess_id (B := B) (d0 := d0) hs'
  have h1 : B * B ≤ (r + d1) * B := Nat.mul_le_mul_right _ hr
  have h2 : q * d0 ≤ B * B := Nat.mul_le_mul (by omega) (by omega)
  have : q ≤ (u * B + un) / (d1 * B + d0) := (Nat.le_div_iff_mul_le hd).2 (by omega)
  omega

theorem guess_end (g : Guess B d1 d0 u un q r) (hd : 0 < d1 * B + d0) (h : q * d0 ≤ B * r + un) : q = (u * B + un) / (d1 * B + d0) := by
  have e := guess_id (B := B) (d0 := d0) g.sum
  have e2 : B * r = r * B := Nat.mul_comm _ _
  have : q ≤ (u * B + un) / (d1 * B + d0) := (Nat.le_div_iff_mul_le hd).2 (by omega)
  have := g.up
  omega
end

theorem knuth_cut (B D U un un1 un0 : Nat) (hD : 0 < D) (hun : un = un1 * B + un0) :
    (U * (B * B) + un) / D = (U * B + un1) / D * B + ((U * B + un1) % D * B + un0) / D ∧ (U * (B * B) + un) % D = ((U * B + un1) % D * B + un0) % D := by
  have h1 := Nat.div_add_mod (U * B + un1) D
  generalize (U * B + un1) / D = q1 at *
  generalize (U * B + un1) % D = r1 at *
  have h2 := Nat.div_add_mod (r1 * B + un0) D
  have h3 := Nat.mod_lt (r1 * B + un0) hD
  generalize (r1 * B + un0) / D = q0 at *
  generalize (r1 * B + un0) % D = r0 at *
  have e : U * (B * B) + un = r0 + D * (q1 * B + q0) := by
    have e1 : U * (B * B) = U * B * B := (Nat.mul_assoc _ _ _).symm
    have e2 : (U * B + un1) * B = U * B * B + un1 * B := Nat.add_mul _ _ _
    have e3 : (D * q1 + r1) * B = D * (q1 * B) + r1 * B := by rw [Nat.add_mul, Nat.mul_assoc]
    rw [h1] at e3
    rw [Nat.mul_add]
    omega
  rw [e, Nat.add_mul_div_left _ _ hD, Nat.add_mul_mod_self_left, Nat.div_eq_of_lt h3, Nat.mod_eq_of_lt h3]
  exact ⟨by omega, rfl⟩

/-- the shift that sets the highest bit undone -/
theorem knuth_shift (W hi lo p p' : Nat) (hpp : p * p' = W) :
    (hi * p + lo / p') * W + lo * p % W = (hi * W + lo) * p := by
  subst hpp
  rw [Nat.mul_comm lo p, Nat.mul_mod_mul_left]
  have h := Nat.div_add_mod lo p'
  generalize lo / p' = a at *
  generalize lo % p' = b at *
  subst h
  simp only [Nat.add_mul]
  simp only [Nat.mul_comm, Nat.mul_left_comm]
  omega

end Go.Proofs.YtcoohepkmhpdkaaGreat
