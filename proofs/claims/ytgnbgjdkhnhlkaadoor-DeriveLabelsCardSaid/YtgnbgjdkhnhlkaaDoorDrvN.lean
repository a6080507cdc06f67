/-
  Keys by labels (plain mathematics): SipHash with 128 bits on lists of numbers, labels, paths.
-/
import Derived.Test.YtgnbgjdkhnhlkaaDoorRotPlain
namespace Go.Proofs.YtgnbgjdkhnhlkaaDoor

/-- bytes as a number, the lowest first -/
def leN : List Nat → Nat
  | [] => 0
  | b :: l => b + 256 * leN l

theorem leN_lt : ∀ (l : List Nat), (∀ b ∈ l, b < 256) → leN l < 256 ^ l.length
  | [], _ => by simp [leN]
  | b :: l, h => by
    have h1 := leN_lt l fun x hx => h x (List.mem_cons_of_mem _ hx)
    have h2 := h b List.mem_cons_self
    simp only [leN, List.length_cons, Nat.pow_succ]
    omega

/-- four lanes -/
structure V4 where
  a : Nat
  b : Nat
  c : Nat
  d : Nat

def W64 : Nat := 18446744073709551616

/-- one round -/
def sipR (v : V4) : V4 :=
  let a := (v.a + v.b) % 18446744073709551616
  let b := rotN v.b 13 ^^^ a
  let c := (v.c + v.d) % 18446744073709551616
  let d := rotN v.d 16 ^^^ c
  let e := (rotN a 32 + d) % 18446744073709551616
  let f := (c + b) % 18446744073709551616
  ⟨e, rotN b 17 ^^^ f, rotN f 32, rotN d 21 ^^^ e⟩

def sipRs : Nat → V4 → V4
  | 0, v => v
  | n + 1, v => sipR (sipRs n v)

def V4.ok (v : V4) : Prop := v.a < 18446744073709551616 ∧ v.b < 18446744073709551616 ∧ v.c < 18446744073709551616 ∧ v.d < 18446744073709551616

theorem rotN_lt (x k : Nat) (hx : x < 18446744073709551616) (hk : k < 64) : rotN x k < 18446744073709551616 := (rot_succ x k hx hk).2

theorem xor_lt {a b : Nat} (ha : a < 18446744073709551616) (hb : b < 18446744073709551616) : a ^^^ b < 18446744073709551616 :=
  Nat.xor_lt_two_pow (n := 64) ha hb

theorem sipR_ok {v : V4} (h : v.ok) : (sipR v).ok := by
  obtain ⟨h1, h2, h3, h4⟩ := h
  have ml : ∀ x : Nat, x % 18446744073709551616 < 18446744073709551616 := fun x => Nat.mod_lt _ (by decide)
  refine ⟨ml _, xor_lt (rotN_lt _ _ (xor_lt (rotN_lt _ _ h2 (by decide)) (ml _)) (by decide)) (ml _), rotN_lt _ _ (ml _) (by decide), xor_lt (rotN_lt _ _ (xor_lt (rotN_lt _ _ h4 (by decide)) (ml _)) (by decide)) (ml _)⟩

theorem sipRs_ok {v : V4} (h : v.ok) : ∀ n, (sipRs n v).ok
  | 0 => h
  | n + 1 => sipR_ok (sipRs_ok h n)

def xorA (m : Nat) (v : V4) : V4 := ⟨v.a ^^^ m, v.b, v.c, v.d⟩
def xorB (m : Nat) (v : V4) : V4 := ⟨v.a, v.b ^^^ m, v.c, v.d⟩
def xorC (m : Nat) (v : V4) : V4 := ⟨v.a, v.b, v.c ^^^ m, v.d⟩
def xorD (m : Nat) (v : V4) : V4 := ⟨v.a, v.b, v.c, v.d ^^^ m⟩
theorem xorA_ok {m : Nat} {v : V4} (hm : m < 18446744073709551616) (h : v.ok) : (xorA m v).ok := ⟨xor_lt h.1 hm, h.2.1, h.2.2.1, h.2.2.2⟩
theorem xorB_ok {m : Nat} {v : V4} (hm : m < 18446744073709551616) (h : v.ok) : (xorB m v).ok := ⟨h.1, xor_lt h.2.1 hm, h.2.2.1, h.2.2.2⟩
theorem xorC_ok {m : Nat} {v : V4} (hm : m < 18446744073709551616) (h : v.ok) : (xorC m v).ok := ⟨h.1, h.2.1, xor_lt h.2.2.1 hm, h.2.2.2⟩
theorem xorD_ok {m : Nat} {v : V4} (hm : m < 18446744073709551616) (h : v.ok) : (xorD m v).ok := ⟨h.1, h.2.1, h.2.2.1, xor_lt h.2.2.2 hm⟩

/-- a word, with two rounds -/
def sipW (m : Nat) (v : V4) : V4 := xorA m (sipRs 2 (xorD m v))

theorem sipW_ok {m : Nat} {v : V4} (hm : m < 18446744073709551616) (h : v.ok) : (sipW m v).ok := xorA_ok hm (sipRs_ok (xorD_ok hm h) 2)

/-- so many whole blocks -/
def sipBl : Nat → V4 → List Nat → V4
  | 0, v, _ => v
  | n + 1, v, l => sipBl n (sipW (leN (l.take 8)) v) (l.drop 8)

def sipF (hi lo : Nat) : V4 := ⟨8317987319222330741 ^^^ lo, (7237128888997146477 ^^^ hi) ^^^ 238, 7816392313619706465 ^^^ lo, 8387220255154660723 ^^^ hi⟩

def xall (v : V4) : Nat := ((v.a ^^^ v.b) ^^^ v.c) ^^^ v.d

/-- behind the last word -/
def sipE1 (v : V4) : V4 := sipRs 4 (xorC 238 v)
def sipE2 (v : V4) : V4 := sipRs 4 (xorB 221 v)

def sipLast (v : V4) (tail : List Nat) (long : Nat) : V4 := sipE1 (sipW (leN tail + long % 256 * 72057594037927936) v)

/-- the hash: the high half, the low one -/
def sipH (hi lo : Nat) (l : List Nat) : Nat × Nat :=
  let v := sipLast (sipBl (l.length / 8) (sipF hi lo) l) (l.drop (l.length / 8 * 8)) l.length
  (xall (sipE2 v), xall v)

/-- what is wrong with a label -/
def labC (c : Nat) : Bool := decide (97 ≤ c ∧ c ≤ 122) || decide (48 ≤ c ∧ c ≤ 57) || c == 45 || c == 95
def labE (s : List Nat) : Nat := if s.length = 0 then 3 else if 64 < s.length then 4 else if s.all labC then 0 else 5

/-- the parts between the bytes 47 -/
def splitN : List Nat → List (List Nat)
  | [] => [[]]
  | c :: l => if c = 47 then [] :: splitN l else
    match splitN l with
    | [] => [[c]]
    | s :: r => (c :: s) :: r

def firstBad : List (List Nat) → Nat
  | [] => 0
  | s :: l => if labE s ≠ 0 then labE s else firstBad l

def partsE (p : List Nat) : Nat :=
  if p = [] then 0 else if firstBad (splitN p) ≠ 0 then firstBad (splitN p) else if 16 < (splitN p).length then 9 else 0
def partsL (p : List Nat) : List (List Nat) := if p = [] ∨ partsE p ≠ 0 then [] else splitN p

def childK (k : Nat × Nat) (s : List Nat) : Nat × Nat := sipH k.1 k.2 (s ++ [108])
def pathK (k : Nat × Nat) (p : List Nat) : Nat × Nat := if partsE p ≠ 0 then (0, 0) else (partsL p).foldl childK k
def joinN (a b : List Nat) : List Nat := if a = [] ∨ b = [] then a ++ b else a ++ 47 :: b

theorem splitN_ne (p : List Nat) : splitN p ≠ [] := by
  induction p with
  | nil => simp [splitN]
  | cons c l ih =>
    simp only [splitN]
    split
    · simp
    · split <;> simp

theorem splitN_append (a b : List Nat) : splitN (a ++ 47 :: b) = splitN a ++ splitN b := by
  induction a with
  | nil => simp [splitN]
  | cons c l ih =>
    simp only [List.cons_append, splitN, ih]
    split
    · rfl
    · cases h : splitN l with
      | nil => exact absurd h (splitN_ne l)
      | cons s r => simp

theorem firstBad_append (a b : List (List Nat)) : firstBad (a ++ b) = if firstBad a ≠ 0 then firstBad a else firstBad b := by
  induction a with
  | nil => simp [firstBad]
  | cons s l ih =>
    simp only [List.cons_append, firstBad, ih]
    by_cases h : labE s = 0
    · simp [h]
    · simp [h]

/-- THE LAW OF JOINED PATHS -/
theorem join_law (k : Nat × Nat) (p q : List Nat) :
    (partsE p ≠ 0 ∨ partsE q ≠ 0 ∨ 16 < (partsL p).length + (partsL q).length → partsE (joinN p q) ≠ 0) ∧
    (partsE p = 0 → partsE q = 0 → (partsL p).length + (partsL q).length ≤ 16 → partsE (joinN p q) = 0 ∧ pathK k (joinN p q) = pathK (pathK k p) q) := by
  have e0 : partsE [] = 0 := rfl
  have l0 : partsL [] = [] := rfl
  have len : ∀ p, partsE p = 0 → (partsL p).length ≤ 16 := by
    intro p h
    unfold partsL
    split
    · simp
    · rename_i h1
      have hp : p ≠ [] := fun e => h1 (.inl e)
      unfold partsE at h
      simp only [hp, if_false] at h
      split at h
      · rename_i h2; exact absurd h h2
      · split at h
        · exact absurd h (by decide)
        · omega
  have kk : ∀ k : Nat × Nat, pathK k [] = k := fun k => by simp [pathK, e0, l0]
  by_cases hp : p = []
  · subst hp
    have : joinN [] q = q := by simp [joinN]
    rw [this, e0, l0, kk]
    refine ⟨fun h => ?_, fun _ h _ => ⟨h, rfl⟩⟩
    rcases h with h | h | h
    · exact absurd rfl h
    · exact h
    · intro hq; have := len q hq; simp at h; omega
  by_cases hq : q = []
  · subst hq
    have : joinN p [] = p := by simp [joinN]
    rw [this, e0, l0, kk]
    refine ⟨fun h => ?_, fun h _ _ => ⟨h, rfl⟩⟩
    rcases h with h | h | h
    · exact h
    · exact absurd rfl h
    · intro hp; have := len p hp; simp at h; omega
  have hj : joinN p q = p ++ 47 :: q := by simp [joinN, hp, hq]
  have hne : p ++ 47 :: q ≠ [] := by simp
  have pE : ∀ p, p ≠ [] → partsE p = if firstBad (splitN p) ≠ 0 then firstBad (splitN p) else if 16 < (splitN p).length then 9 else 0 := fun p h => by simp [partsE, h]
  have pL : ∀ p, p ≠ [] → partsE p = 0 → partsL p = splitN p := fun p h e => by simp [partsL, h, e]
  have pL' : ∀ p, partsE p ≠ 0 → partsL p = [] := fun p e => by simp [partsL, e]
  have eJ := pE _ hne
  rw [splitN_append, firstBad_append, List.length_append] at eJ
  have eP := pE p hp
  have eQ := pE q hq
  rw [hj]
  have iffP : partsE p = 0 ↔ firstBad (splitN p) = 0 ∧ (splitN p).length ≤ 16 := by
    rw [eP]; split
    · rename_i h; exact ⟨fun x => absurd x h, fun x => absurd x.1 h⟩
    · rename_i h; split
      · rename_i h2; exact ⟨fun x => absurd x (by decide), fun x => by omega⟩
      · rename_i h2; exact ⟨fun _ => ⟨by omega, by omega⟩, fun _ => rfl⟩
  have iffQ : partsE q = 0 ↔ firstBad (splitN q) = 0 ∧ (splitN q).length ≤ 16 := by
    rw [eQ]; split
    · rename_i h; exact ⟨fun x => absurd x h, fun x => absurd x.1 h⟩
    · rename_i h; split
      · rename_i h2; exact ⟨fun x => absurd x (by decide), fun x => by omega⟩
      · rename_i h2; exact ⟨fun _ => ⟨by omega, by omega⟩, fun _ => rfl⟩
  have iffJ : partsE (p ++ 47 :: q) = 0 ↔ firstBad (splitN p) = 0 ∧ firstBad (splitN q) = 0 ∧ (splitN p).length + (splitN q).length ≤ 16 := by
    rw [eJ]
    by_cases a1 : firstBad (splitN p) = 0
    · by_cases a2 : firstBad (splitN q) = 0
      · simp [a1, a2]
      · simp [a1, a2]
    · simp [a1]
  constructor
  · intro h hJ
    obtain ⟨j1, j2, j3⟩ := iffJ.1 hJ
    have hP0 : partsE p = 0 := iffP.2 ⟨j1, by omega⟩
    have hQ0 : partsE q = 0 := iffQ.2 ⟨j2, by omega⟩
    rcases h with h | h | h
    · exact h hP0
    · exact h hQ0
    · rw [pL p hp hP0, pL q hq hQ0] at h; omega
  · intro hP0 hQ0 h
    rw [pL p hp hP0, pL q hq hQ0] at h
    have hJ : partsE (p ++ 47 :: q) = 0 := iffJ.2 ⟨(iffP.1 hP0).1, (iffQ.1 hQ0).1, h⟩
    refine ⟨hJ, ?_⟩
    unfold pathK
    rw [if_neg (fun h => h hJ), if_neg (fun h => h hQ0), if_neg (fun h => h hP0), pL _ hne hJ, pL p hp hP0, pL q hq hQ0, splitN_append, List.foldl_append]
end Go.Proofs.YtgnbgjdkhnhlkaaDoor
