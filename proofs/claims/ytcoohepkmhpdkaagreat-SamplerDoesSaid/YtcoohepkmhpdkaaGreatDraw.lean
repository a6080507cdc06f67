/-
  Plain mathematics of draws from a list of words: one bounded draw, and draws one behind the other.
-/
import Derived.Test.YtcoohepkmhpdkaaGreatLem
namespace Go.Proofs.YtcoohepkmhpdkaaGreat
open Go.RowKit

/-- numbers as ints -/
def zsN (l : List Nat) : List Int := l.map fun (a : Nat) => (a : Int)
theorem zsN_len (l : List Nat) : (zsN l).length = l.length := by simp [zsN]
theorem zsN_get (l : List Nat) (k : Nat) : (zsN l).getD k 0 = ((l.getD k 0 : Nat) : Int) := by
  simp only [zsN, List.getD, List.getElem?_map]
  cases l[k]? <;> rfl
theorem zsN_drop (l : List Nat) (k : Nat) : zsN (l.drop k) = (zsN l).drop k := by simp [zsN]
theorem zsN_take (l : List Nat) (k : Nat) : zsN (l.take k) = (zsN l).take k := by simp [zsN]
theorem zsN_snoc (l : List Nat) (x : Nat) : zsN (l ++ [x]) = zsN l ++ [(x : Int)] := by simp [zsN]
theorem zsN_inj {a b : List Nat} (h : zsN a = zsN b) : a = b := by
  have : ∀ (a b : List Nat), zsN a = zsN b → a = b := by
    intro a
    induction a with
    | nil => intro b h; cases b with
      | nil => rfl
      | cons y b => simp [zsN] at h
    | cons x a ih => intro b h; cases b with
      | nil => simp [zsN] at h
      | cons y b =>
        simp only [zsN, List.map_cons, List.cons.injEq] at h
        obtain ⟨h1, h2⟩ := h
        rw [ih b h2, show x = y by omega]
  exact this a b h
/-- words are numbers of 64 bits -/
def W64 (l : List Nat) : Prop := ∀ a ∈ l, a < 2 ^ 64
theorem W64.at {l : List Nat} (h : W64 l) {k : Nat} (hk : k < l.length) : l.getD k 0 < 2 ^ 64 := by
  rw [List.getD_eq_getElem?_getD, List.getElem?_eq_getElem hk]
  exact h _ (List.getElem_mem hk)
theorem wf_u64 {x : Int} (h : (Lit.int .u64 x).wf = true) : 0 ≤ x ∧ x < 18446744073709551616 := by
  simp [Lit.wf, IntKind.min, IntKind.max, IntKind.bits, IntKind.signed] at h
  omega
theorem zsN_of : ∀ {l : List Int}, (∀ x ∈ l, (Lit.int .u64 x).wf = true) → ∃ n, l = zsN n ∧ W64 n
  | [], _ => ⟨[], rfl, fun a ha => by cases ha⟩
  | x :: l, h => by
    obtain ⟨n, rfl, hn⟩ := zsN_of (l := l) fun y hy => h y (List.mem_cons_of_mem _ hy)
    have hx := wf_u64 (h x (List.mem_cons_self ..))
    refine ⟨x.toNat :: n, ?_, ?_⟩
    · simp only [zsN, List.map_cons]
      rw [show ((x.toNat : Nat) : Int) = x by omega]
    · intro a ha
      rcases List.mem_cons.1 ha with rfl | ha
      · rw [p64]; omega
      · exact hn a ha

/-- what the frame of a law tells of words that came in -/
theorem rd_words {w : World} {a : Option Addr} {len cap : Nat} {zs : List Int}
    (h : (a = none ∧ len = 0 ∧ cap = 0 ∧ zs = []) ∨ ∃ x, a = some x ∧ len ≤ cap ∧ cap ≤ maxLen ∧ zs.length = cap ∧ (∀ i, i < zs.length → w.cell? (x.add i) = some (.int .u64 (zs.getD i 0))) ∧ ∀ n ∈ zs, (Lit.int .u64 n).wf = true) :
    ∃ l, Rd w 1 (.slice a len cap) len (u64s (zsN l)) ∧ W64 l := by
  obtain ⟨hr, -, hw⟩ := rd_of_raw h
  obtain ⟨l, hl, h64⟩ := zsN_of hw
  rw [hl] at hr
  exact ⟨l, hr, h64⟩

/-- a draw: the number, its rank, how many words came -/
abbrev Drw := Nat × Nat × Nat
/-- one draw below n; u words came before -/
def takeN (n : Nat) : Nat → List Nat → Option Drw
  | _, [] => none
  | u, a :: l => if tknB a n = true then some (telN a n, rnkN a n, u + 1) else takeN n (u + 1) l
/-- draws of limits, one behind the other -/
def rowA (l : List Nat) : List Nat → List Drw → Nat → Option (List Drw × Nat)
  | [], acc, used => some (acc, used)
  | n :: ns, acc, used => match takeN n 0 (l.drop used) with
    | none => none
    | some d => rowA l ns (acc ++ [d]) (used + d.2.2)
def rowN (l limits : List Nat) : Option (List Drw × Nat) := rowA l limits [] 0

theorem drop_cons {l : List Nat} {k : Nat} (h : k < l.length) : l.drop k = l.getD k 0 :: l.drop (k + 1) := by
  rw [List.getD_eq_getElem?_getD, List.getElem?_eq_getElem h]
  exact List.drop_eq_getElem_cons h
theorem takeN_yes {n u k : Nat} {l : List Nat} (h : k < l.length) (ht : tknB (l.getD k 0) n = true) : takeN n u (l.drop k) = some (telN (l.getD k 0) n, rnkN (l.getD k 0) n, u + 1) := by
  rw [drop_cons h]
  simp only [takeN, ht, if_true]
theorem takeN_no {n u k : Nat} {l : List Nat} (h : k < l.length) (ht : tknB (l.getD k 0) n = false) : takeN n u (l.drop k) = takeN n (u + 1) (l.drop (k + 1)) := by
  rw [drop_cons h]
  simp only [takeN, ht]
  simp
theorem takeN_end {n u : Nat} {l : List Nat} : takeN n u (l.drop l.length) = none := by simp [takeN]
theorem takeN_used : ∀ {l : List Nat} {n u : Nat} {d : Drw}, takeN n u l = some d → u < d.2.2 ∧ d.2.2 ≤ u + l.length
  | [], n, u, d, h => by simp [takeN] at h
  | a :: l, n, u, d, h => by
    by_cases ht : tknB a n = true
    · simp only [takeN, ht, if_true, Option.some.injEq] at h
      subst h
      simp
    · simp only [takeN, ht] at h
      have := takeN_used (l := l) (n := n) (u := u + 1) (d := d) (by simpa using h)
      simp only [List.length_cons]
      omega
/-- what was taken is a word that tells it -/
theorem takeN_word : ∀ {l : List Nat} {n u : Nat} {d : Drw}, takeN n u l = some d → tknB (l.getD (d.2.2 - u - 1) 0) n = true ∧ d.1 = telN (l.getD (d.2.2 - u - 1) 0) n ∧ d.2.1 = rnkN (l.getD (d.2.2 - u - 1) 0) n
  | [], n, u, d, h => by simp [takeN] at h
  | a :: l, n, u, d, h => by
    by_cases ht : tknB a n = true
    · simp only [takeN, ht, if_true, Option.some.injEq] at h
      subst h
      have : u + 1 - u - 1 = 0 := by omega
      simp only [this]
      exact ⟨ht, rfl, rfl⟩
    · simp only [takeN, ht] at h
      have h' : takeN n (u + 1) l = some d := by simpa using h
      have hu := takeN_used h'
      have := takeN_word h'
      have e : d.2.2 - u - 1 = (d.2.2 - (u + 1) - 1) + 1 := by omega
      rw [e]
      exact this
theorem rowA_len {l : List Nat} : ∀ {ns : List Nat} {acc : List Drw} {used : Nat} {r : List Drw × Nat}, rowA l ns acc used = some r → r.1.length = acc.length + ns.length
  | [], acc, used, r, h => by
    simp only [rowA, Option.some.injEq] at h
    subst h
    simp
  | n :: ns, acc, used, r, h => by
    simp only [rowA] at h
    cases ht : takeN n 0 (l.drop used) with
    | none => rw [ht] at h; cases h
    | some d =>
      rw [ht] at h
      have := rowA_len h
      simp only [List.length_append, List.length_cons, List.length_nil] at *
      omega
theorem rowA_step {l : List Nat} {ns : List Nat} {i : Nat} (hi : i < ns.length) (acc : List Drw) (used : Nat) :
    rowA l (ns.drop i) acc used = match takeN (ns.getD i 0) 0 (l.drop used) with
      | none => none
      | some d => rowA l (ns.drop (i + 1)) (acc ++ [d]) (used + d.2.2) := by
  rw [drop_cons hi]
  rfl
/-- the numbers that are drawn lie below their limits -/
theorem telN_lt {a n : Nat} (ha : a < 2 ^ 64) (h0 : 0 < n) : telN a n < n := tells_lt ha h0

/-- what is said of a draw, or of none -/
def TkE {α : Type} (R : Option α) (yes : α → Prop) (no : Prop) : Prop := match R with
  | some d => yes d
  | none => no

/-- the cells of draws -/
def dwC : List Drw → List Value
  | [] => []
  | d :: ds => [.int .u64 (d.1 : Int), .int .u64 (d.2.1 : Int), .int .i64 (d.2.2 : Int)] ++ dwC ds
abbrev dwZ : Drw := (0, 0, 0)
theorem dwC_len : ∀ (ds : List Drw), (dwC ds).length = ds.length * 3
  | [] => rfl
  | d :: ds => by simp only [dwC, List.length_append, dwC_len ds, List.length_cons, List.length_nil]; omega
theorem dwC_snoc : ∀ (ds : List Drw) (d : Drw), dwC (ds ++ [d]) = dwC ds ++ [.int .u64 (d.1 : Int), .int .u64 (d.2.1 : Int), .int .i64 (d.2.2 : Int)]
  | [], d => rfl
  | x :: ds, d => by simp only [List.cons_append, dwC, dwC_snoc ds d, List.append_assoc]
theorem dwC_at : ∀ (ds : List Drw) (i : Nat), i < ds.length → (dwC ds)[i * 3]? = some (.int .u64 ((ds.getD i dwZ).1 : Int)) ∧ (dwC ds)[i * 3 + 1]? = some (.int .u64 ((ds.getD i dwZ).2.1 : Int)) ∧ (dwC ds)[i * 3 + 2]? = some (.int .i64 ((ds.getD i dwZ).2.2 : Int))
  | [], i, h => by simp at h
  | d :: ds, 0, _ => ⟨rfl, rfl, rfl⟩
  | d :: ds, i + 1, h => by
    have e : ∀ j, (dwC (d :: ds))[(i + 1) * 3 + j]? = (dwC ds)[i * 3 + j]? := fun j => by
      have : (i + 1) * 3 + j = 3 + (i * 3 + j) := by omega
      rw [this]
      simp only [dwC]
      rw [List.getElem?_append_right (by simp)]
      simp
    have g := dwC_at ds i (by simpa using h)
    have e0 := e 0
    rw [Nat.add_zero, Nat.add_zero] at e0
    rw [e0, e 1, e 2]
    simpa using g

end Go.Proofs.YtcoohepkmhpdkaaGreat
