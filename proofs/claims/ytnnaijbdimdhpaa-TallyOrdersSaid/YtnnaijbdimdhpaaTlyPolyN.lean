/-
  Counting polynomials by their values at some points, modulo a small prime: the plain law of TallyPolys.
-/
import Derived.Test.YtnnaijbdimdhpaaTlyAddN
import Derived.Test.YtnnaijbdimdhpaaTly1
namespace Go.Proofs.Ytnnaijbdimdhpaa
set_option linter.unusedVariables false

/-- a polynomial's value -/
def evN (p x : Nat) : List Nat → Nat
  | [] => 0
  | a :: c => (evN p x c * x + a) % p
theorem evN_lt {p : Nat} (hp : 0 < p) (x : Nat) : ∀ c, evN p x c < p
  | [] => hp
  | a :: c => Nat.mod_lt _ hp

/-- the sum over all lists of k numbers below p -/
def nS (p : Nat) : Nat → (List Nat → Nat) → Nat
  | 0, f => f []
  | k + 1, f => sumB (fun a => nS p k (fun c => f (a :: c))) p
theorem nS_congr {p : Nat} : ∀ (k : Nat) {f g : List Nat → Nat}, (∀ c, c.length = k → (∀ a ∈ c, a < p) → f c = g c) → nS p k f = nS p k g
  | 0, f, g, h => h [] rfl (by simp)
  | k + 1, f, g, h => sumB_congr p fun a ha => nS_congr k fun c hc hb => h (a :: c) (by simp [hc]) (by
      intro b hb'
      rcases List.mem_cons.1 hb' with rfl | hb'
      · exact ha
      · exact hb b hb')
theorem nS_zero (p : Nat) : ∀ k, nS p k (fun _ => 0) = 0
  | 0 => rfl
  | k + 1 => by
    show sumB (fun a => nS p k (fun _ => 0)) p = 0
    rw [sumB_congr (g := fun _ => 0) p (fun a _ => nS_zero p k), sumB_zero]
theorem sumB_const (c : Nat) : ∀ n, sumB (fun _ => c) n = n * c
  | 0 => by simp [sumB]
  | n + 1 => by simp only [sumB]; rw [sumB_const c n, Nat.add_mul, Nat.one_mul]
theorem nS_one (p : Nat) : ∀ k, nS p k (fun _ => 1) = p ^ k
  | 0 => rfl
  | k + 1 => by
    show sumB (fun a => nS p k (fun _ => 1)) p = p ^ (k + 1)
    rw [sumB_congr (g := fun _ => p ^ k) p (fun a _ => nS_one p k), sumB_const, Nat.pow_succ, Nat.mul_comm]
theorem sumB_swap (h : Nat → Nat → Nat) (m : Nat) : ∀ n, sumB (fun a => sumB (fun b => h a b) m) n = sumB (fun b => sumB (fun a => h a b) n) m
  | 0 => by simp only [sumB]; rw [sumB_zero]
  | n + 1 => by
    simp only [sumB]
    rw [sumB_swap h m n, ← sumB_add]
theorem nS_swap (p n : Nat) : ∀ (k : Nat) (g : Nat → List Nat → Nat), sumB (fun a => nS p k (g a)) n = nS p k (fun c => sumB (fun a => g a c) n)
  | 0, g => rfl
  | k + 1, g => by
    show sumB (fun a => sumB (fun b => nS p k (fun c => g a (b :: c))) p) n = sumB (fun b => nS p k (fun c => sumB (fun a => g a (b :: c)) n)) p
    rw [sumB_swap]
    exact sumB_congr p fun b _ => nS_swap p n k fun a c => g a (b :: c)
theorem nS_last (p k : Nat) (f : List Nat → Nat) : nS p (k + 1) f = nS p k (fun c => sumB (fun a => f (a :: c)) p) := nS_swap p p k fun a c => f (a :: c)

theorem sumB_split (f : Nat → Nat) (m : Nat) : ∀ n, sumB f (m + n) = sumB f m + sumB (fun i => f (m + i)) n
  | 0 => by simp [sumB]
  | n + 1 => by
    rw [show m + (n + 1) = (m + n) + 1 by omega]
    simp only [sumB]
    rw [sumB_split f m n]
    omega
theorem sumB_shift {p : Nat} (hp : 0 < p) (e : Nat) (f : Nat → Nat) : sumB (fun a => f ((e + a) % p)) p = sumB f p := by
  obtain ⟨r, hr⟩ : ∃ r, r = e % p := ⟨_, rfl⟩
  have hrp : r < p := by rw [hr]; exact Nat.mod_lt _ hp
  have he : ∀ a, (e + a) % p = (r + a) % p := fun a => by rw [hr]; simp [Nat.add_mod]
  obtain ⟨m, rfl⟩ : ∃ m, p = m + r := ⟨p - r, by omega⟩
  rw [sumB_split _ m r, Nat.add_comm m r, sumB_split f r m, Nat.add_comm]
  congr 1
  · refine sumB_congr r fun i hi => ?_
    rw [Nat.add_comm r m, he, show r + (m + i) = i + (m + r) by omega, Nat.add_mod_right, Nat.mod_eq_of_lt (by omega)]
  · refine sumB_congr m fun i hi => ?_
    rw [Nat.add_comm r m, he, Nat.mod_eq_of_lt (by omega)]

/-- a polynomial, divided by X - x: the rest, and the quotient -/
def hor (p x : Nat) : List Nat → List Nat
  | [] => []
  | a :: c => (evN p x c * x + a) % p :: hor p x c
theorem nS_hor {p : Nat} (hp : 0 < p) (x : Nat) : ∀ (k : Nat) (f : List Nat → Nat), nS p k (fun c => f (hor p x c)) = nS p k f
  | 0, f => rfl
  | k + 1, f => by
    rw [nS_last, nS_last]
    have h1 : nS p k (fun c => sumB (fun a => f (hor p x (a :: c))) p) = nS p k (fun c => sumB (fun a => f (a :: hor p x c)) p) :=
      nS_congr k fun c _ _ => sumB_shift hp (evN p x c * x) fun b => f (b :: hor p x c)
    rw [h1]
    exact nS_hor hp x k fun b => sumB (fun a => f (a :: b)) p

theorem evN_hor_step (p x y : Nat) (c : List Nat) : evN p y (hor p x c) = (evN p y (hor p x c).tail * y + evN p x c) % p := by
  cases c with
  | nil => simp [hor, evN]
  | cons a c => rfl
theorem mod_mul_add (p X y a : Nat) : (X % p * y + a) % p = (X * y + a) % p := by
  rw [Nat.add_mod, Nat.mul_mod, Nat.mod_mod, ← Nat.mul_mod, ← Nat.add_mod]
theorem mod_add_mod' (p z Y W : Nat) : (z * (Y % p) + W % p) % p = (z * Y + W) % p := by
  rw [Nat.add_mod, Nat.mul_mod, Nat.mod_mod, Nat.mod_mod, ← Nat.mul_mod, ← Nat.add_mod]
theorem evN_hor {p x : Nat} (y : Nat) (hx : x < p) : ∀ c, evN p y c = ((y + p - x) * evN p y (hor p x c).tail + evN p x c) % p
  | [] => by simp [hor, evN]
  | a :: c => by
    have ih := evN_hor y hx c
    have hs := evN_hor_step p x y c
    show (evN p y c * y + a) % p = ((y + p - x) * evN p y (hor p x c) + (evN p x c * x + a) % p) % p
    rw [hs, ih]
    generalize evN p y (hor p x c).tail = E
    generalize evN p x c = e
    obtain ⟨z, hz⟩ : ∃ z, z = y + p - x := ⟨_, rfl⟩
    rw [← hz, mod_mul_add, mod_add_mod']
    have h1 : (z * E + e) * y + a + p * e = z * (E * y + e) + (e * x + a) := by
      have h2 : z + x = y + p := by omega
      have h3 : e * y + p * e = z * e + e * x := by
        have : (y + p) * e = (z + x) * e := by rw [h2]
        rw [Nat.add_mul, Nat.add_mul] at this
        rw [Nat.mul_comm e y, Nat.mul_comm e x]
        omega
      rw [Nat.add_mul, Nat.mul_add, ← Nat.mul_assoc]
      omega
    rw [← h1, Nat.add_mul_mod_self_left]

/-- one number of the quotient for each target -/
def solA (p : Nat) : Bool := (List.range (2 * p)).all fun z => z % p == 0 || (List.range p).all fun e => (List.range p).all fun t => (List.range p).any fun u => (List.range p).all fun g => ((z * g + e) % p == t) == (g == u)
set_option maxRecDepth 100000 in
theorem solA_true : (solA 2 && solA 3 && solA 5 && solA 7) = true := by decide +kernel
def smallP (p : Nat) : Prop := p = 2 ∨ p = 3 ∨ p = 5 ∨ p = 7
theorem solve {p z e t : Nat} (hp : smallP p) (hz : z < 2 * p) (hz0 : z % p ≠ 0) (he : e < p) (ht : t < p) : ∃ u, u < p ∧ ∀ g, g < p → ((z * g + e) % p = t ↔ g = u) := by
  have h : solA p = true := by
    have := solA_true
    simp only [Bool.and_eq_true] at this
    rcases hp with rfl | rfl | rfl | rfl
    · exact this.1.1.1
    · exact this.1.1.2
    · exact this.1.2
    · exact this.2
  have h1 := List.all_eq_true.1 h z (List.mem_range.2 hz)
  rw [Bool.or_eq_true] at h1
  have h2 := h1.resolve_left (by simpa using hz0)
  have h3 := List.all_eq_true.1 (List.all_eq_true.1 h2 e (List.mem_range.2 he)) t (List.mem_range.2 ht)
  obtain ⟨u, hu, h4⟩ := List.any_eq_true.1 h3
  refine ⟨u, List.mem_range.1 hu, fun g hg => ?_⟩
  have h5 := beq_iff_eq.1 (List.all_eq_true.1 h4 g (List.mem_range.2 hg))
  rw [← beq_iff_eq, h5, beq_iff_eq]

theorem solveAll {p x t : Nat} (hp : smallP p) (hx : x < p) (ht : t < p) : ∀ (xs ts : List Nat), xs.length = ts.length → (∀ y ∈ xs, y < p ∧ y ≠ x) → (∀ y ∈ ts, y < p) →
    ∃ us : List Nat, us.length = ts.length ∧ (∀ y ∈ us, y < p) ∧ ∀ g : List Nat, (xs.map (fun y => ((y + p - x) * evN p y g + t) % p) = ts ↔ xs.map (fun y => evN p y g) = us)
  | [], [], _, _, _ => ⟨[], rfl, by simp, fun g => by simp⟩
  | [], _ :: _, h, _, _ => by simp at h
  | _ :: _, [], h, _, _ => by simp at h
  | y :: xs, s :: ts, h, hxs, hts => by
    have hp0 : 0 < p := by omega
    obtain ⟨us, h1, h2, h3⟩ := solveAll hp hx ht xs ts (by simpa using h) (fun z hz => hxs z (List.mem_cons_of_mem _ hz)) (fun z hz => hts z (List.mem_cons_of_mem _ hz))
    obtain ⟨hy, hyx⟩ := hxs y List.mem_cons_self
    have hz0 : (y + p - x) % p ≠ 0 := by
      by_cases hlt : x ≤ y
      · rw [show y + p - x = (y - x) + p by omega, Nat.add_mod_right, Nat.mod_eq_of_lt (by omega)]; omega
      · rw [Nat.mod_eq_of_lt (by omega)]; omega
    obtain ⟨u, hu, h4⟩ := solve hp (show y + p - x < 2 * p by omega) hz0 ht (hts s List.mem_cons_self)
    refine ⟨u :: us, by simp [h1], ?_, fun g => ?_⟩
    · intro z hz
      rcases List.mem_cons.1 hz with rfl | hz
      · exact hu
      · exact h2 z hz
    · simp only [List.map_cons, List.cons.injEq]
      rw [h4 _ (evN_lt hp0 y g), h3 g]

/-- JUST AS MANY POLYNOMIALS COME TO EACH TARGETS -/
theorem nS_values {p : Nat} (hp : smallP p) : ∀ (xs ts : List Nat) (k : Nat), xs.length = ts.length → xs.length ≤ k → (∀ y ∈ xs, y < p) → xs.Nodup → (∀ y ∈ ts, y < p) →
    nS p k (fun c => if xs.map (fun y => evN p y c) = ts then 1 else 0) = p ^ (k - xs.length)
  | [], [], k, _, _, _, _, _ => by simpa using nS_one p k
  | [], _ :: _, _, h, _, _, _, _ => by simp at h
  | _ :: _, [], _, h, _, _, _, _ => by simp at h
  | x :: xs, t :: ts, 0, _, h, _, _, _ => by simp at h
  | x :: xs, t :: ts, k + 1, hl, hk, hxs, hnd, hts => by
    have hx := hxs x List.mem_cons_self
    have ht := hts t List.mem_cons_self
    have hp0 : 0 < p := by omega
    have hnd' := List.nodup_cons.1 hnd
    obtain ⟨us, h1, h2, h3⟩ := solveAll hp hx ht xs ts (by simpa using hl) (fun z hz => ⟨hxs z (List.mem_cons_of_mem _ hz), fun e => hnd'.1 (e ▸ hz)⟩) (fun z hz => hts z (List.mem_cons_of_mem _ hz))
    have hF : nS p (k + 1) (fun c => if (x :: xs).map (fun y => evN p y c) = t :: ts then 1 else 0) =
        nS p (k + 1) (fun c => (fun b : List Nat => if b.headD 0 = t ∧ xs.map (fun y => ((y + p - x) * evN p y b.tail + b.headD 0) % p) = ts then 1 else 0) (hor p x c)) := by
      refine nS_congr (k + 1) fun c hc _ => ?_
      cases c with
      | nil => simp at hc
      | cons a c =>
        have hh : (hor p x (a :: c)).headD 0 = evN p x (a :: c) := rfl
        have hm : xs.map (fun y => evN p y (a :: c)) = xs.map (fun y => ((y + p - x) * evN p y (hor p x (a :: c)).tail + (hor p x (a :: c)).headD 0) % p) :=
          List.map_congr_left fun y _ => by rw [hh]; exact evN_hor y hx (a :: c)
        simp only [List.map_cons, List.cons.injEq]
        rw [hm, hh]
    refine hF.trans ((nS_hor hp0 x (k + 1) (fun b : List Nat => if b.headD 0 = t ∧ xs.map (fun y => ((y + p - x) * evN p y b.tail + b.headD 0) % p) = ts then 1 else 0)).trans ?_)
    show sumB (fun a => nS p k (fun c => if a = t ∧ xs.map (fun y => ((y + p - x) * evN p y c + a) % p) = ts then 1 else 0)) p = _
    rw [sumB_congr (g := fun a => if t = a then p ^ (k - xs.length) else 0) p ?_, sumB_pick t _ p ht]
    · simp
    · intro a _
      by_cases ha : t = a
      · subst ha
        rw [if_pos rfl]
        have h4 : nS p k (fun c => if t = t ∧ xs.map (fun y => ((y + p - x) * evN p y c + t) % p) = ts then 1 else 0) = nS p k (fun c => if xs.map (fun y => evN p y c) = us then 1 else 0) := by
          refine nS_congr k fun c _ _ => ?_
          simp only [h3 c, true_and]
        rw [h4]
        exact nS_values hp xs us k (by rw [h1]; simpa using hl) (by simpa using hk) (fun z hz => hxs z (List.mem_cons_of_mem _ hz)) hnd'.2 h2
      · rw [if_neg ha]
        refine (nS_congr k (g := fun _ => 0) fun c _ _ => if_neg ?_).trans (nS_zero p k)
        rintro ⟨h, _⟩
        exact ha h.symm

/-- numbers below p as one number, the first one the highest -/
def valN (p : Nat) (acc : Nat) (ys : List Nat) : Nat := ys.foldl (fun at' y => at' * p + y) acc
theorem valN_acc (p : Nat) : ∀ (ys : List Nat) (acc : Nat), valN p acc ys = acc * p ^ ys.length + valN p 0 ys
  | [], acc => by simp [valN]
  | y :: ys, acc => by
    have h1 := valN_acc p ys (acc * p + y)
    have h2 := valN_acc p ys (0 * p + y)
    show valN p (acc * p + y) ys = _ + valN p (0 * p + y) ys
    rw [h1, h2, List.length_cons, Nat.pow_succ, Nat.mul_comm (p ^ ys.length) p, ← Nat.mul_assoc, Nat.add_mul]
    simp only [Nat.zero_mul, Nat.zero_add]
    omega
theorem valN_lt {p : Nat} (hp : 0 < p) : ∀ ys : List Nat, (∀ y ∈ ys, y < p) → valN p 0 ys < p ^ ys.length
  | [], _ => by simp [valN]
  | y :: ys, h => by
    have h1 := valN_lt hp ys fun z hz => h z (List.mem_cons_of_mem _ hz)
    have hy := h y List.mem_cons_self
    have h2 : valN p 0 (y :: ys) = y * p ^ ys.length + valN p 0 ys := by
      have := valN_acc p ys (0 * p + y)
      rw [Nat.zero_mul, Nat.zero_add] at this
      show valN p (0 * p + y) ys = _
      rw [Nat.zero_mul, Nat.zero_add]; exact this
    rw [h2, List.length_cons, Nat.pow_succ, Nat.mul_comm (p ^ ys.length) p]
    have := Nat.mul_le_mul_right (p ^ ys.length) (show y + 1 ≤ p from hy)
    rw [Nat.add_mul] at this
    omega
theorem valN_digits {p : Nat} (hp : 0 < p) : ∀ (r v : Nat), v < p ^ r → ∃ ts : List Nat, ts.length = r ∧ (∀ y ∈ ts, y < p) ∧ ∀ ys : List Nat, ys.length = r → (∀ y ∈ ys, y < p) → (valN p 0 ys = v ↔ ys = ts)
  | 0, v, hv => ⟨[], rfl, by simp, fun ys h _ => by
      have : ys = [] := List.length_eq_zero_iff.1 h
      subst this
      simp [valN] at hv ⊢
      omega⟩
  | r + 1, v, hv => by
    have hq : 0 < p ^ r := Nat.pow_pos hp
    obtain ⟨ts, h1, h2, h3⟩ := valN_digits hp r (v % p ^ r) (Nat.mod_lt _ hq)
    have hdv : v / p ^ r < p := by rw [Nat.div_lt_iff_lt_mul hq, Nat.mul_comm, ← Nat.pow_succ]; exact hv
    refine ⟨v / p ^ r :: ts, by simp [h1], ?_, fun ys hl hb => ?_⟩
    · intro y hy
      rcases List.mem_cons.1 hy with rfl | hy
      · exact hdv
      · exact h2 y hy
    · cases ys with
      | nil => simp at hl
      | cons y ys =>
        have hl' : ys.length = r := by simpa using hl
        have hb' : ∀ z ∈ ys, z < p := fun z hz => hb z (List.mem_cons_of_mem _ hz)
        have hlt := valN_lt hp ys hb'
        rw [hl'] at hlt
        have h4 : valN p 0 (y :: ys) = y * p ^ r + valN p 0 ys := by
          have := valN_acc p ys (0 * p + y)
          rw [Nat.zero_mul, Nat.zero_add, hl'] at this
          show valN p (0 * p + y) ys = _
          rw [Nat.zero_mul, Nat.zero_add]; exact this
        rw [h4, List.cons.injEq, ← h3 ys hl' hb']
        constructor
        · intro h
          subst h
          rw [Nat.add_comm, Nat.add_mul_div_right _ _ hq, Nat.div_eq_of_lt hlt, Nat.add_mul_mod_self_right, Nat.mod_eq_of_lt hlt]
          exact ⟨by omega, rfl⟩
        · rintro ⟨h5, h6⟩
          rw [h5, h6, Nat.mul_comm]
          exact Nat.div_add_mod v (p ^ r)

/-- what a polynomial comes to at some points -/
def idxP (p : Nat) (xs : List Nat) (c : List Nat) : Nat := valN p 0 (xs.map fun y => evN p y c)
theorem idxP_lt {p : Nat} (hp : 0 < p) (xs c : List Nat) : idxP p xs c < p ^ xs.length := by
  have := valN_lt hp (xs.map fun y => evN p y c) (by
    intro y hy
    obtain ⟨z, _, rfl⟩ := List.mem_map.1 hy
    exact evN_lt hp z c)
  rwa [List.length_map] at this
theorem nS_idx {p : Nat} (hp : smallP p) {xs : List Nat} {k v : Nat} (hk : xs.length ≤ k) (hxs : ∀ y ∈ xs, y < p) (hnd : xs.Nodup) (hv : v < p ^ xs.length) :
    nS p k (fun c => if idxP p xs c = v then 1 else 0) = p ^ (k - xs.length) := by
  have hp0 : 0 < p := by rcases hp with h | h | h | h <;> omega
  obtain ⟨ts, h1, h2, h3⟩ := valN_digits hp0 xs.length v hv
  rw [← nS_values hp xs ts k h1.symm hk hxs hnd h2]
  refine nS_congr k fun c _ _ => ?_
  have := h3 (xs.map fun y => evN p y c) (by simp) (by
    intro y hy
    obtain ⟨z, _, rfl⟩ := List.mem_map.1 hy
    exact evN_lt hp0 z c)
  unfold idxP
  simp only [this]

theorem count_range_map (F : Nat → Nat) (v : Nat) : ∀ n, ((List.range n).map F).count v = sumB (fun a => if F a = v then 1 else 0) n
  | 0 => rfl
  | n + 1 => by
    rw [List.range_succ, List.map_append, List.count_append, count_range_map F v n]
    simp only [sumB, List.map_cons, List.map_nil, List.count_singleton]
    simp
theorem count_flatMap (f : Nat → List Nat) (v : Nat) : ∀ n, ((List.range n).flatMap f).count v = sumB (fun a => (f a).count v) n
  | 0 => rfl
  | n + 1 => by
    rw [List.range_succ, List.flatMap_append, List.count_append, count_flatMap f v n]
    simp [sumB]
/-- all lists of numbers below p, one by one -/
theorem count_allL (p v : Nat) : ∀ (k : Nat) (F : List Nat → Nat), ((allL (List.replicate k (p : Int))).map fun l => F (l.map Int.toNat)).count v = nS p k (fun c => if F c = v then 1 else 0)
  | 0, F => by simp [allL, nS, List.count_singleton]
  | k + 1, F => by
    rw [List.replicate_succ]
    simp only [allL, Int.toNat_natCast, List.map_flatMap, List.map_map]
    rw [count_flatMap]
    refine sumB_congr p fun a _ => ?_
    have := count_allL p v k fun c => F (a :: c)
    rw [← this]
    congr 1

/-- a number's digits, the lowest first -/
def digs (p : Nat) : Nat → Nat → List Nat
  | 0, _ => []
  | k + 1, s => s % p :: digs p k (s / p)
theorem sumB_mul (g : Nat → Nat) (p : Nat) : ∀ M, sumB g (p * M) = sumB (fun a => sumB (fun s => g (a + p * s)) M) p
  | 0 => by simp only [Nat.mul_zero, sumB]; rw [sumB_zero]
  | M + 1 => by
    rw [Nat.mul_add, Nat.mul_one, sumB_split, sumB_mul g p M]
    simp only [sumB]
    rw [sumB_add]
    congr 1
    exact sumB_congr p fun a _ => by rw [Nat.add_comm]
theorem sumB_digs {p : Nat} (hp : 0 < p) : ∀ (k : Nat) (f : List Nat → Nat), sumB (fun s => f (digs p k s)) (p ^ k) = nS p k f
  | 0, f => by simp [sumB, digs, nS]
  | k + 1, f => by
    rw [Nat.pow_succ, Nat.mul_comm, sumB_mul]
    refine sumB_congr p fun a ha => ?_
    rw [← sumB_digs hp k fun c => f (a :: c)]
    refine sumB_congr _ fun s _ => ?_
    show f ((a + p * s) % p :: digs p k ((a + p * s) / p)) = _
    rw [Nat.add_mul_mod_self_left, Nat.mod_eq_of_lt ha, Nat.add_mul_div_left _ _ hp, Nat.div_eq_of_lt ha, Nat.zero_add]

/-- what is counted of all lists, and of all numbers' digits -/
def polyL (p k : Nat) (xs : List Nat) : List Nat := (allL (List.replicate k (p : Int))).map fun l => idxP p xs (l.map Int.toNat)
def polyR (p k : Nat) (xs : List Nat) : List Nat := (List.range (p ^ k)).map fun s => idxP p xs (digs p k s)
theorem polyL_even {p : Nat} (hp : smallP p) {xs : List Nat} {k : Nat} (hk : xs.length ≤ k) (hxs : ∀ y ∈ xs, y < p) (hnd : xs.Nodup) :
    cnt (p ^ xs.length) (polyL p k xs) = List.replicate (p ^ xs.length) ((p ^ (k - xs.length) : Nat) : Int) :=
  cnt_even fun v hv => by
    have := count_allL p v k (idxP p xs)
    unfold polyL
    rw [this, nS_idx hp hk hxs hnd hv]
theorem polyR_even {p : Nat} (hp : smallP p) {xs : List Nat} {k : Nat} (hk : xs.length ≤ k) (hxs : ∀ y ∈ xs, y < p) (hnd : xs.Nodup) :
    cnt (p ^ xs.length) (polyR p k xs) = List.replicate (p ^ xs.length) ((p ^ (k - xs.length) : Nat) : Int) :=
  cnt_even fun v hv => by
    have hp0 : 0 < p := by rcases hp with h | h | h | h <;> omega
    unfold polyR
    rw [count_range_map, sumB_digs hp0 k (fun c => if idxP p xs c = v then 1 else 0), nS_idx hp hk hxs hnd hv]

end Go.Proofs.Ytnnaijbdimdhpaa
