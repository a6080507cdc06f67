/-
  Counting decisions by the sets that they leave: the plain law of TallySlots.
-/
import Derived.Test.YtnnaijbdimdhpaaTlyPolyN
import Derived.Test.YtnnaijbdimdhpaaRes3
namespace Go.Proofs.Ytnnaijbdimdhpaa
set_option linter.unusedVariables false

/-- the numbers from k on, up to n, as ints -/
def upI (k n : Nat) : List Int := (List.range (n + 1 - k)).map fun i => ((k + i : Nat) : Int)
theorem upI_len (k n : Nat) : (upI k n).length = n + 1 - k := by simp [upI]
theorem upI_cons {k n : Nat} (h : k ≤ n) : upI k n = (k : Int) :: upI (k + 1) n := by
  obtain ⟨d, rfl⟩ : ∃ d, n = k + d := ⟨n - k, by omega⟩
  unfold upI
  rw [show k + d + 1 - k = d + 1 by omega, show k + d + 1 - (k + 1) = d by omega, List.range_succ_eq_map, List.map_cons, List.map_map]
  congr 1
  apply List.map_congr_left
  intro i _
  simp
  omega
theorem upI_nil {k n : Nat} (h : n < k) : upI k n = [] := by
  unfold upI
  rw [show n + 1 - k = 0 by omega]; rfl
theorem upI_snoc {k n : Nat} (h : k ≤ n + 1) : upI k n ++ [((n + 1 : Nat) : Int)] = upI k (n + 1) := by
  obtain ⟨d, hd⟩ : ∃ d, n + 1 = k + d := ⟨n + 1 - k, by omega⟩
  unfold upI
  rw [show n + 1 + 1 - k = (n + 1 - k) + 1 by omega, List.range_succ, List.map_append, List.map_cons, List.map_nil]
  congr 3
  omega

/-- a list's items as bits -/
def orB (l : List Int) : Nat := l.foldl (fun s x => s ||| (1 <<< x.toNat)) 0
/-- the same as a sum -/
def sumP (l : List Int) : Nat := l.foldl (fun s x => s + 2 ^ x.toNat) 0
/-- what a list of twos' digits tells: the places of its zeros, as bits; and how many -/
def bitsF (s : Nat × Nat) (z : Nat × Int) : Nat × Nat := (s.1 ||| ((1 - z.2.toNat) <<< z.1), s.2 + (1 - z.2.toNat))
def bitsN (l : List Int) : Nat × Nat := ((List.range l.length).map fun i => (i, l.getD i 0)).foldl bitsF (0, 0)
/-- all sets of k of n items, in the order in which they are told -/
def setsC (n k : Nat) : List Nat := ((allL (List.replicate n 2)).filter fun l => (bitsN l).2 == k).map fun l => (bitsN l).1
/-- the reference's sets -/
def setsR : Nat → Nat → Nat → List Nat
  | 0, _, _ => [0]
  | k + 1, from', n => (List.range (n - from')).flatMap fun i => (setsR k (from' + i + 1) n).map (· + 2 ^ (from' + i))
/-- all decisions -/
def decs (n k : Nat) : List (List Int) := allL (upI (k + 1) n)
def timesN (n : Nat) : Nat → Nat
  | 0 => 1
  | i + 1 => timesN n i * (n - i)

def slotC (n k : Nat) : Bool :=
  setsC n k == setsR k 0 n && (decs n k).all (fun d => orB (slotsL k d) == sumP (slotsR k d) && decide (orB (slotsL k d) < 64)) && (setsR k 0 n).all (fun s => ((decs n k).map fun d => orB (slotsL k d)).count s == timesN (n - k) (n - k))
def slotA : Bool := (List.range 7).all fun n => (List.range (n + 1)).all fun k => slotC n k
set_option maxRecDepth 100000 in
theorem slotA_true : slotA = true := by decide +kernel
theorem slot_facts {n k : Nat} (hn : n ≤ 6) (hk : k ≤ n) : setsC n k = setsR k 0 n ∧ (∀ d ∈ decs n k, orB (slotsL k d) = sumP (slotsR k d) ∧ orB (slotsL k d) < 64) ∧ ∀ s ∈ setsR k 0 n, ((decs n k).map fun d => orB (slotsL k d)).count s = timesN (n - k) (n - k) := by
  have h := List.all_eq_true.1 (List.all_eq_true.1 slotA_true n (List.mem_range.2 (by omega))) k (List.mem_range.2 (by omega))
  unfold slotC at h
  simp only [Bool.and_eq_true] at h
  refine ⟨beq_iff_eq.1 h.1.1, fun d hd => ?_, fun s hs => beq_iff_eq.1 (List.all_eq_true.1 h.2 s hs)⟩
  have := List.all_eq_true.1 h.1.2 d hd
  rw [Bool.and_eq_true] at this
  exact ⟨beq_iff_eq.1 this.1, of_decide_eq_true this.2⟩

end Go.Proofs.Ytnnaijbdimdhpaa
