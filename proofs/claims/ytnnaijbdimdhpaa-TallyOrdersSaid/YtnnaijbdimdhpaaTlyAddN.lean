/-
  Counting, number by number: a list of counts; and counting of pairs of multipliers and what is added: the plain law of TallyAdds.
-/
import Derived.Test.YtnnaijbdimdhpaaTlyNum
namespace Go.Proofs.Ytnnaijbdimdhpaa
set_option linter.unusedVariables false

/-- how often each number below n stands in a list -/
def cnt (n : Nat) (L : List Nat) : List Int := (List.range n).map fun v => ((L.count v : Nat) : Int)
theorem cnt_len (n : Nat) (L : List Nat) : (cnt n L).length = n := by simp [cnt]
theorem cnt_at (n : Nat) (L : List Nat) {v : Nat} (hv : v < n) : (cnt n L).getD v 0 = ((L.count v : Nat) : Int) := by
  simp [cnt, List.getD, hv]
theorem cnt_nil (n : Nat) : cnt n [] = List.replicate n 0 := by simp [cnt, List.map_const']
theorem cnt_snoc (n : Nat) (L : List Nat) {v : Nat} (hv : v < n) : cnt n (L ++ [v]) = (cnt n L).set v ((cnt n L).getD v 0 + 1) := by
  apply List.ext_getElem
  · simp [cnt]
  · intro j h1 h2
    have hj : j < n := by simpa [cnt] using h1
    rw [List.getElem_set]
    by_cases hjv : v = j
    · subst hjv
      rw [if_pos rfl, cnt_at n L hv]
      simp [cnt, List.count_append]
    · rw [if_neg hjv]
      simp [cnt, List.count_append, List.count_singleton, hjv]
theorem cnt_even {n c : Nat} {L : List Nat} (h : ∀ v, v < n → L.count v = c) : cnt n L = List.replicate n ((c : Nat) : Int) := by
  apply List.ext_getElem
  · simp [cnt]
  · intro j h1 h2
    have hj : j < n := by simpa [cnt] using h1
    simp [cnt, h j hj]

/-- a sum of so many -/
def sumB (f : Nat → Nat) : Nat → Nat
  | 0 => 0
  | n + 1 => sumB f n + f n
theorem sumB_congr {f g : Nat → Nat} : ∀ n, (∀ i, i < n → f i = g i) → sumB f n = sumB g n
  | 0, _ => rfl
  | n + 1, h => by simp only [sumB]; rw [sumB_congr n fun i hi => h i (by omega), h n (by omega)]
theorem sumB_add (f g : Nat → Nat) : ∀ n, sumB (fun i => f i + g i) n = sumB f n + sumB g n
  | 0 => rfl
  | n + 1 => by simp only [sumB]; rw [sumB_add f g n]; omega
theorem sumB_zero : ∀ n, sumB (fun _ => 0) n = 0
  | 0 => rfl
  | n + 1 => by simp only [sumB]; rw [sumB_zero n]
theorem sumB_pick (v x : Nat) : ∀ n, v < n → sumB (fun i => if v = i then x else 0) n = x
  | 0, h => by omega
  | n + 1, h => by
    simp only [sumB]
    by_cases hv : v = n
    · subst hv
      rw [if_pos rfl, sumB_congr (g := fun _ => 0) v (fun i hi => if_neg (by omega)), sumB_zero]; omega
    · rw [if_neg hv, sumB_pick v x n (by omega)]; rfl
theorem sum_range_map (f : Nat → Nat) : ∀ n, ((List.range n).map f).sum = sumB f n
  | 0 => rfl
  | n + 1 => by rw [List.range_succ, List.map_append, List.sum_append, sum_range_map f n]; simp [sumB]

theorem digits_lt {B : Nat} (d : Nat → Nat) : ∀ n, (∀ i, i < n → d i < B) → sumB (fun i => d i * B ^ i) n < B ^ n
  | 0, _ => by simp [sumB]
  | n + 1, h => by
    have h1 := digits_lt d n fun i hi => h i (by omega)
    have h2 : d n + 1 ≤ B := h n (by omega)
    have h3 := Nat.mul_le_mul_right (B ^ n) h2
    simp only [sumB]
    rw [Nat.pow_succ, Nat.mul_comm (B ^ n) B]
    rw [Nat.add_mul] at h3
    omega
theorem digits_inj {B : Nat} (d e : Nat → Nat) : ∀ n, (∀ i, i < n → d i < B) → (∀ i, i < n → e i < B) → sumB (fun i => d i * B ^ i) n = sumB (fun i => e i * B ^ i) n → ∀ i, i < n → d i = e i
  | 0, _, _, _, i, hi => by omega
  | n + 1, hd, he, h, i, hi => by
    have h1 := digits_lt d n fun i hi => hd i (by omega)
    have h2 := digits_lt e n fun i hi => he i (by omega)
    simp only [sumB] at h
    have hB : 0 < B ^ n := by omega
    have hn : d n = e n := by
      have e1 := Nat.add_mul_div_right (sumB (fun i => d i * B ^ i) n) (d n) hB
      have e2 := Nat.add_mul_div_right (sumB (fun i => e i * B ^ i) n) (e n) hB
      rw [h, e2, Nat.div_eq_of_lt h1, Nat.div_eq_of_lt h2] at e1
      omega
    by_cases hin : i = n
    · rw [hin, hn]
    · rw [hn] at h
      exact digits_inj d e n (fun i hi => hd i (by omega)) (fun i hi => he i (by omega)) (by omega) i (by omega)

/-- all counts at once, as one number's digits -/
theorem count_digits (B n : Nat) : ∀ L : List Nat, (∀ v ∈ L, v < n) → (L.map (B ^ ·)).sum = sumB (fun i => L.count i * B ^ i) n
  | [], _ => by simp [sumB_zero]
  | v :: L, h => by
    rw [List.map_cons, List.sum_cons, count_digits B n L fun x hx => h x (List.mem_cons_of_mem _ hx)]
    have : sumB (fun i => (v :: L).count i * B ^ i) n = sumB (fun i => L.count i * B ^ i + if v = i then B ^ v else 0) n := by
      refine sumB_congr n fun i hi => ?_
      rw [List.count_cons]
      by_cases hv : v = i
      · subst hv
        simp [Nat.add_mul]
      · simp [hv]
    rw [this, sumB_add, sumB_pick v _ n (h v List.mem_cons_self)]
    omega
theorem count_of_digits {B n c : Nat} {L : List Nat} (hB : L.length < B) (hc : c < B) (hL : ∀ v ∈ L, v < n) (h : (L.map (B ^ ·)).sum = sumB (fun i => c * B ^ i) n) : ∀ v, v < n → L.count v = c := by
  rw [count_digits B n L hL] at h
  exact digits_inj (fun i => L.count i) (fun _ => c) n (fun i _ => Nat.lt_of_le_of_lt List.count_le_length hB) (fun _ _ => hc) h

/-- what a pair brings two keys to, as one number -/
def addI (N S P x y a b : Nat) : Nat := (a * x + b) % N / S * P + (a * y + b) % N / S
/-- of all pairs -/
def addL (N S P x y : Nat) : List Nat := (List.range N).flatMap fun a => (List.range N).map (addI N S P x y a)

theorem addI_lt {N S P x y a b : Nat} (hS : 0 < S) (hP : 0 < P) (hN : N = S * P) : addI N S P x y a b < P * P := by
  have h1 : (a * x + b) % N / S < P := by
    rw [Nat.div_lt_iff_lt_mul hS, Nat.mul_comm P S, ← hN]
    exact Nat.mod_lt _ (by rw [hN]; exact Nat.mul_pos hS hP)
  have h2 : (a * y + b) % N / S < P := by
    rw [Nat.div_lt_iff_lt_mul hS, Nat.mul_comm P S, ← hN]
    exact Nat.mod_lt _ (by rw [hN]; exact Nat.mul_pos hS hP)
  unfold addI
  have h3 := Nat.mul_le_mul_right P (show (a * x + b) % N / S + 1 ≤ P from h1)
  rw [Nat.add_mul] at h3
  omega

/-- the check, by numbers alone -/
def addB (w b x y : Nat) : Bool := x == y || sumB (fun a => sumB (fun c => 2 ^ (11 * addI (2 ^ (w + b - 1)) (2 ^ (w - 1)) (2 ^ b) x y a c)) (2 ^ (w + b - 1))) (2 ^ (w + b - 1)) == sumB (fun i => 4 ^ (w - 1) * 2 ^ (11 * i)) (4 ^ b)
def addA : Bool := (List.range 3).all fun w => (List.range (w + 1)).all fun b => (List.range (2 ^ (w + 1))).all fun x => (List.range (2 ^ (w + 1))).all fun y => addB (w + 1) (b + 1) x y

set_option maxRecDepth 100000 in
theorem addA_true : addA = true := by decide +kernel

theorem addB_true {w b x y : Nat} (hw1 : 1 ≤ w) (hw : w ≤ 3) (hb1 : 1 ≤ b) (hb : b ≤ w) (hx : x < 2 ^ w) (hy : y < 2 ^ w) : addB w b x y = true := by
  have h := addA_true
  unfold addA at h
  have h1 := List.all_eq_true.1 h (w - 1) (List.mem_range.2 (by omega))
  rw [show w - 1 + 1 = w by omega] at h1
  have h2 := List.all_eq_true.1 h1 (b - 1) (List.mem_range.2 (by omega))
  rw [show b - 1 + 1 = b by omega] at h2
  exact List.all_eq_true.1 (List.all_eq_true.1 h2 x (List.mem_range.2 hx)) y (List.mem_range.2 hy)

theorem sum_map_flatMap (g : Nat → Nat) (f : Nat → List Nat) : ∀ L : List Nat, ((L.flatMap f).map g).sum = (L.map fun a => ((f a).map g).sum).sum
  | [] => rfl
  | a :: L => by rw [List.flatMap_cons, List.map_append, List.sum_append, sum_map_flatMap g f L]; simp
theorem flatMap_len (f : Nat → List Nat) (c : Nat) : ∀ L : List Nat, (∀ a, (f a).length = c) → (L.flatMap f).length = L.length * c
  | [], _ => by simp
  | a :: L, h => by rw [List.flatMap_cons, List.length_append, h a, flatMap_len f c L h]; simp [Nat.add_mul]; omega

/-- THE PLAIN LAW -/
theorem addL_even {w b x y : Nat} (hw1 : 1 ≤ w) (hw : w ≤ 3) (hb1 : 1 ≤ b) (hb : b ≤ w) (hx : x < 2 ^ w) (hy : y < 2 ^ w) (hxy : x ≠ y) :
    cnt (4 ^ b) (addL (2 ^ (w + b - 1)) (2 ^ (w - 1)) (2 ^ b) x y) = List.replicate (4 ^ b) ((4 ^ (w - 1) : Nat) : Int) := by
  have h := addB_true hw1 hw hb1 hb hx hy
  unfold addB at h
  rw [Bool.or_eq_true] at h
  have h := (h.resolve_left (by simpa using hxy))
  rw [beq_iff_eq] at h
  have hS : 0 < 2 ^ (w - 1) := Nat.two_pow_pos _
  have hP : 0 < 2 ^ b := Nat.two_pow_pos _
  have hN : 2 ^ (w + b - 1) = 2 ^ (w - 1) * 2 ^ b := by rw [← Nat.pow_add]; congr 1; omega
  have h4 : 2 ^ b * 2 ^ b = 4 ^ b := by rw [← Nat.mul_pow]
  have hN32 : 2 ^ (w + b - 1) ≤ 32 := Nat.pow_le_pow_right (n := 2) (j := 5) (by omega) (by omega)
  have hc : 4 ^ (w - 1) ≤ 16 := Nat.pow_le_pow_right (n := 4) (j := 2) (by omega) (by omega)
  refine cnt_even (count_of_digits (B := 2 ^ 11) ?_ (by omega) ?_ ?_)
  · unfold addL
    rw [flatMap_len _ (2 ^ (w + b - 1)) _ (by simp), List.length_range]
    have := Nat.mul_le_mul hN32 hN32
    omega
  · intro v hv
    obtain ⟨a, _, hv⟩ := List.mem_flatMap.1 hv
    obtain ⟨c, _, rfl⟩ := List.mem_map.1 hv
    rw [← h4]
    exact addI_lt hS hP hN
  · unfold addL
    rw [sum_map_flatMap, sum_range_map]
    have e1 : ∀ k, (2 ^ 11) ^ k = 2 ^ (11 * k) := fun k => by rw [← Nat.pow_mul]
    simp only [List.map_map, sum_range_map, Function.comp_def, e1]
    exact h

end Go.Proofs.Ytnnaijbdimdhpaa
