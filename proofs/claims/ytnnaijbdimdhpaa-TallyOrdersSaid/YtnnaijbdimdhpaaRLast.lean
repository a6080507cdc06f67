/-
  A region that draws its order, whose first m operations leave the world alone but for draws, and whose others come behind all of them, one by one (a store at the end; a slice that is built, and a call): one walk of the lexical order serves every order.
-/
import Derived.Test.YtnnaijbdimdhpaaRQuiet
namespace Go.Proofs.Ytnnaijbdimdhpaa
open Go.RowKit
set_option linter.unusedVariables false

/-- operation k waits for operation j -/
def waitsFor (md : Region.Mode) (ops : List Oper) (k j : Nat) : Bool := ((ops[k]?).map fun o => o.after.toList.any fun e => Region.binds md e && e.on == j).getD false
theorem waitsFor_spec {md : Region.Mode} {ops : List Oper} {k j : Nat} (h : waitsFor md ops k j = true) : ∃ o e, ops[k]? = some o ∧ e ∈ o.after ∧ Region.binds md e = true ∧ e.on = j := by
  unfold waitsFor at h
  cases ho : ops[k]? with
  | none => rw [ho] at h; simp at h
  | some o =>
    rw [ho] at h
    simp only [Option.map_some, Option.getD_some] at h
    obtain ⟨e, he, h3⟩ := List.any_eq_true.1 h
    rw [Bool.and_eq_true, beq_iff_eq] at h3
    exact ⟨o, e, rfl, Array.mem_toList_iff.1 he, h3.1, h3.2⟩
/-- the first k of M have come up -/
def upTo (M k : Nat) : Array Bool := ((List.range M).map fun j => decide (j < k)).toArray
/-- each operation ahead of number m is waited for by a later one, up to m; those behind m come one by one -/
def tailB (md : Region.Mode) (ops : List Oper) (m : Nat) : Bool :=
  ((List.range m).all fun j => (List.range (m + 1)).any fun k => decide (j < k) && waitsFor md ops k j) &&
  (((List.range (ops.length - 1 - m)).all fun d => waitsFor md ops (m + d + 1) (m + d)) &&
  (((List.range (ops.length - m)).all fun d => Region.ready md ops.toArray (upTo ops.length (m + d)) == [m + d]) && (Region.ready md ops.toArray (upTo ops.length ops.length)).isEmpty))
structure TailB (md : Region.Mode) (ops : List Oper) (m : Nat) : Prop where
  ahead : ∀ j, j < m → ∃ k o e, j < k ∧ k ≤ m ∧ ops[k]? = some o ∧ e ∈ o.after ∧ Region.binds md e = true ∧ e.on = j
  behind : ∀ k, m ≤ k → k + 1 < ops.length → ∃ o e, ops[k + 1]? = some o ∧ e ∈ o.after ∧ Region.binds md e = true ∧ e.on = k
  one : ∀ k, m ≤ k → k < ops.length → Region.ready md ops.toArray (upTo ops.length k) = [k]
  none : Region.ready md ops.toArray (upTo ops.length ops.length) = []
theorem tailB_spec {md : Region.Mode} {ops : List Oper} {m : Nat} (h : tailB md ops m = true) : TailB md ops m := by
  unfold tailB at h
  simp only [Bool.and_eq_true] at h
  obtain ⟨h1, h2, h3, h4⟩ := h
  refine ⟨fun j hj => ?_, fun k hk hk' => ?_, fun k hk hk' => ?_, List.isEmpty_iff.1 h4⟩
  · obtain ⟨k, hk, h⟩ := List.any_eq_true.1 (List.all_eq_true.1 h1 j (List.mem_range.2 hj))
    rw [Bool.and_eq_true] at h
    obtain ⟨o, e, w1, w2, w3, w4⟩ := waitsFor_spec h.2
    exact ⟨k, o, e, by simpa using h.1, by have := List.mem_range.1 hk; omega, w1, w2, w3, w4⟩
  · have := List.all_eq_true.1 h2 (k - m) (List.mem_range.2 (by omega))
    rw [show m + (k - m) = k by omega] at this
    exact waitsFor_spec this
  · have := List.all_eq_true.1 h3 (k - m) (List.mem_range.2 (by omega))
    rw [show m + (k - m) = k by omega] at this
    exact beq_iff_eq.1 this

theorem getD_false_of {l : Array Bool} {j : Nat} (h : l.getD j true = false) : l.getD j false = false := by
  simp only [Array.getD] at h ⊢
  split <;> simp_all

/-- what has come up waited for nothing that has not -/
def ShutL (md : Region.Mode) (ops : Array Oper) (listed : Array Bool) : Prop :=
  ∀ j o, ops[j]? = some o → listed.getD j false = true → ∀ e ∈ o.after, Region.binds md e = true → listed.getD e.on false = true
theorem ShutL.start (md : Region.Mode) (ops : Array Oper) (n : Nat) : ShutL md ops (Array.replicate n false) := by
  intro j o _ h
  exfalso
  revert h
  simp [Array.getD]
theorem ShutL.step {md : Region.Mode} {ops : Array Oper} {listed : Array Bool} {i : Nat} (h : ShutL md ops listed) (hi : i ∈ Region.ready md ops listed) : ShutL md ops (listed.setIfInBounds i true) := by
  intro j o ho hl e he hb
  obtain ⟨_, o', ho', hall⟩ := mem_ready.1 hi
  by_cases hij : i = j
  · subst hij
    rw [ho] at ho'
    cases ho'
    exact getD_set_true (hall e he hb)
  · rw [getD_set_ne false hij] at hl
    exact getD_set_true (h j o ho hl e he hb)
/-- where number m may come up all ahead of it have -/
theorem ShutL.all {md : Region.Mode} {ops : List Oper} {listed : Array Bool} {m : Nat} (hT : TailB md ops m) (h : ShutL md ops.toArray listed) (hr : m ∈ Region.ready md ops.toArray listed) :
    ∀ d j, j + d = m → d ≠ 0 → listed.getD j false = true := by
  intro d
  induction d using Nat.strongRecOn with
  | _ d ih =>
    intro j hj hd
    obtain ⟨k, o, e, hjk, hkm, ho, he, hb, hej⟩ := hT.ahead j (by omega)
    by_cases hk : k = m
    · subst hk
      obtain ⟨_, o', ho', hall⟩ := mem_ready.1 hr
      rw [List.getElem?_toArray, ho] at ho'
      cases ho'
      rw [← hej]
      exact hall e he hb
    · have hk := ih (m - k) (by omega) k (by omega) (by omega)
      have := h k o (by rw [List.getElem?_toArray]; exact ho) hk e he hb
      rw [← hej]
      exact this
/-- and none behind it -/
theorem ShutL.none {md : Region.Mode} {ops : List Oper} {listed : Array Bool} {m : Nat} (hT : TailB md ops m) (h : ShutL md ops.toArray listed) (hm : listed.getD m false = false) : ∀ d, m + d < ops.length → listed.getD (m + d) false = false := by
  intro d
  induction d with
  | zero => intro _; exact hm
  | succ d ih =>
    intro hd
    obtain ⟨o, e, ho, he, hb, hej⟩ := hT.behind (m + d) (by omega) (by omega)
    have h1 := ih (by omega)
    cases hl : listed.getD (m + (d + 1)) false with
    | false => rfl
    | true =>
      have := h (m + d + 1) o (by rw [List.getElem?_toArray]; exact ho) hl e he hb
      rw [hej, h1] at this
      cases this

section
variable {F : Fence} {n : Nat} {P : Program} {md : Region.Mode} {C : World → Prop}

/-- whatever order is picked till number m comes up -/
def wpAnyQL (F : Fence) (n : Nat) (P : Program) (md : Region.Mode) (ops : Array Oper) (C : World → Prop) (m r : Nat) (QL : Act → Prop) : Nat → Array Bool → Act → Prop
  | 0, _, _ => False
  | fuel + 1, listed, a => Region.ready md ops listed ≠ [] ∧ ∀ i ∈ Region.ready md ops listed, if i = m then fuel = r ∧ QL a else qOpIn F n P ops C i (wpAnyQL F n P md ops C m r QL fuel (listed.setIfInBounds i true)) a

theorem wpAnyQL_first {ops : List Oper} {QL : Act → Prop} {m r i : Nat} {oi : Oper} {v : Value} (hT : TailB md ops m) (him : i < m) (hi : ops.toArray[i]? = some oi) (hsel : ∀ (j : Nat) (o : Oper) cs b, ops.toArray[j]? = some o → o.op ≠ .select cs b) :
    ∀ (fuel : Nat) (listed : Array Bool) (a : Act), ShutL md ops.toArray listed →
      (∀ j oj, ops.toArray[j]? = some oj → j ≠ i → listed.getD j true = false → (∀ e ∈ oj.after, Region.binds md e = true → e.on ≠ i) → oi.apart ops.toArray oj = true) →
      i ∈ Region.ready md ops.toArray listed → YieldsQuiet F n P ops.toArray C oi v a →
      wpAnyQL F n P md ops.toArray C m r QL fuel (listed.setIfInBounds i true) (a.put oi.dst v) → wpAnyQL F n P md ops.toArray C m r QL (fuel + 1) listed a := by
  intro fuel
  induction fuel with
  | zero => intro _ _ _ _ _ _ H; exact H.elim
  | succ fuel ih =>
    intro listed a hS hfree hr hy H
    refine ⟨fun h => (by rw [h] at hr; cases hr), fun j hj => ?_⟩
    by_cases hji : j = i
    · subst hji
      rw [if_neg (by omega)]
      exact hy.qOpIn hi H
    · by_cases hjm : j = m
      · exfalso
        subst hjm
        have h1 := ShutL.all hT hS hj (j - i) i (by omega) (by omega)
        rw [getD_false_of (mem_ready.1 hr).1] at h1
        cases h1
      · rw [if_neg hjm]
        have h1 := H.2 j (ready_mono hj hji)
        rw [if_neg hjm] at h1
        obtain ⟨hjun, oj, hoj, hall⟩ := mem_ready.1 hj
        have hnot : ∀ e ∈ oj.after, Region.binds md e = true → e.on ≠ i := fun e he hb heq => by
          have h1 := hall e he hb
          rw [heq, getD_false_of (mem_ready.1 hr).1] at h1
          cases h1
        have h2 := qOpIn_put hoj (hfree j oj hoj hji hjun hnot) (fun cs b => hsel i oi cs b hi) (fun cs b => hsel j oj cs b hoj) hy h1
        have hfree' : ∀ k ok, ops.toArray[k]? = some ok → k ≠ i → (listed.setIfInBounds j true).getD k true = false →
            (∀ e ∈ ok.after, Region.binds md e = true → e.on ≠ i) → oi.apart ops.toArray ok = true := fun k ok hk hki hun hno => by
          refine hfree k ok hk hki ?_ hno
          by_cases hjk : j = k
          · subst hjk; exact hjun
          · rw [getD_set_ne true hjk] at hun; exact hun
        refine qOpIn_mono (fun a' h3 => ih (listed.setIfInBounds j true) a' (hS.step hj) hfree' (ready_mono hr (Ne.symm hji)) h3.1 ?_) h2
        rw [Array.setIfInBounds_comm _ _ hji]
        exact h3.2

theorem wpAnyQL_lex {ops : List Oper} {QL : Act → Prop} {m r : Nat} (hT : TailB md ops m) (hmr : m + 1 + r = ops.length) (hs : Region.noSelect ops.toArray = true) : ∀ (l : List Oper) (k : Nat) (listed : Array Bool) (a : Act), k + l.length = m → (∀ j, j < l.length → l[j]? = ops[k + j]?) → ShutL md ops.toArray listed →
    (∀ j, j < k → listed.getD j false = true) → Region.lexFrom md ops.toArray (l.length + (r + 1)) k listed = true → wpQuietIn F n P ops.toArray C QL l a → wpAnyQL F n P md ops.toArray C m r QL (l.length + (r + 1)) listed a
  | [], k, listed, a, hk, _, hS, hpre, hB, h => by
    simp only [List.length_nil, Nat.add_zero] at hk
    subst hk
    rw [List.length_nil, Nat.zero_add] at hB ⊢
    rw [Region.lexFrom] at hB
    simp only [Bool.and_eq_true] at hB
    obtain ⟨⟨hr, _⟩, _⟩ := hB
    have hr' : k ∈ Region.ready md ops.toArray listed := by simpa using hr
    refine ⟨fun h0 => (by rw [h0] at hr'; cases hr'), fun i hi => ?_⟩
    by_cases hik : i = k
    · rw [if_pos hik]; exact ⟨rfl, h⟩
    · exfalso
      obtain ⟨hu, o, ho, hall⟩ := mem_ready.1 hi
      have hu' := getD_false_of hu
      by_cases hlt : i < k
      · rw [hpre i hlt] at hu'; cases hu'
      · have hil : i < ops.length := by
          rw [List.getElem?_toArray] at ho
          exact (List.getElem?_eq_some_iff.1 ho).1
        have h1 := ShutL.none hT hS (getD_false_of (mem_ready.1 hr').1) (i - 1 - k) (by omega)
        obtain ⟨o', e, ho', he, hb, hej⟩ := hT.behind (i - 1) (by omega) (by omega)
        rw [show i - 1 + 1 = i by omega] at ho'
        rw [List.getElem?_toArray, ho'] at ho
        cases ho
        have h2 := hall e he hb
        rw [hej] at h2
        rw [show k + (i - 1 - k) = i - 1 by omega, h2] at h1
        cases h1
  | o :: l, k, listed, a, hk, hl, hS, hpre, hB, h => by
    simp only [List.length_cons] at hk
    have h0 : ops.toArray[k]? = some o := by rw [List.getElem?_toArray]; simpa using (hl 0 (by simp)).symm
    rw [List.length_cons, show l.length + 1 + (r + 1) = (l.length + (r + 1)) + 1 by omega] at hB ⊢
    rw [Region.lexFrom] at hB
    simp only [Bool.and_eq_true] at hB
    obtain ⟨⟨hr, hf⟩, hB'⟩ := hB
    have hr' : k ∈ Region.ready md ops.toArray listed := by simpa using hr
    have hst : qOpIn F n P ops.toArray C k (wpQuietIn F n P ops.toArray C QL l) a := by unfold qOpIn; simp only [h0]; exact h
    obtain ⟨v, hy, hK⟩ := yieldsQuiet_of_qOpIn h0 hst
    refine wpAnyQL_first hT (by omega) h0 (Region.noSelect_spec hs) (l.length + (r + 1)) listed a hS (Region.free_spec h0 hf) hr' hy
      (wpAnyQL_lex hT hmr hs l (k + 1) _ _ (by omega) (fun j hj => by have := hl (j + 1) (by simpa using hj); simpa [Nat.add_assoc, Nat.add_comm 1 j] using this) (hS.step hr') (fun j hj => ?_) hB' hK)
    by_cases hjk : j = k
    · subst hjk
      have hz : j < listed.size := by
        have := (mem_ready.1 hr').1
        rcases Nat.lt_or_ge j listed.size with h' | h'
        · exact h'
        · simp [Array.getElem?_eq_none h'] at this
      simp [hz]
    · rw [getD_set_ne false (Ne.symm hjk)]
      exact hpre j (by omega)

theorem upTo_set (M k : Nat) : (upTo M k).setIfInBounds k true = upTo M (k + 1) := by
  apply Array.ext
  · simp [upTo]
  · intro i h1 h2
    have e : ∀ (k' : Nat) (h : i < (upTo M k').size), (upTo M k')[i] = decide (i < k') := fun k' h => by simp [upTo]
    rw [Array.getElem_setIfInBounds (by simpa using h1), e (k + 1)]
    by_cases h : k = i
    · subst h; simp
    · rw [if_neg h, e k]
      exact decide_eq_decide.2 (by omega)

theorem wpAnyIn_tail {ops : List Oper} {Q : Exit → Act → World → Prop} {m : Nat} (hT : TailB md ops m) : ∀ (fuel k : Nat) (a : Act) (w : World), m ≤ k → k + fuel = ops.length → wpListIn F n P ops.toArray Q (ops.drop k) a w → wpAnyIn F n P md ops.toArray Q fuel (upTo ops.length k) a w
  | 0, k, a, w, hk, hf, h => by
    rw [show k = ops.length by omega] at h ⊢
    rw [List.drop_length] at h
    exact ⟨hT.none, h⟩
  | fuel + 1, k, a, w, hk, hf, h => by
    have h1 := hT.one k hk (by omega)
    refine ⟨fun h0 => (by rw [h1] at h0; cases h0), fun i hi => ?_⟩
    rw [h1, List.mem_singleton] at hi
    subst hi
    rw [List.drop_eq_getElem_cons (by omega)] at h
    refine wpOpIn_mono (K := wpListIn F n P ops.toArray Q (ops.drop (i + 1))) (fun a' w' hq => ?_) ?_
    · rw [upTo_set]
      exact wpAnyIn_tail hT fuel (i + 1) a' w' (by omega) (by omega) hq
    · unfold wpOpIn
      rw [List.getElem?_toArray, List.getElem?_eq_getElem (show i < ops.length by omega)]
      exact h

theorem wpAnyIn_of_quietL {ops : List Oper} {QL : Act → Prop} {Q' : Exit → Act → World → Prop} {m r : Nat} (hT : TailB md ops m) (hmr : m + 1 + r = ops.length) (hro : F.round = none)
    (hQ : ∀ a w, C w → QL a → wpListIn F n P ops.toArray Q' (ops.drop m) a w) : ∀ (fuel : Nat) (listed : Array Bool) (a : Act) (w : World), C w → ShutL md ops.toArray listed → listed.size = ops.length →
    wpAnyQL F n P md ops.toArray C m r QL fuel listed a → wpAnyIn F n P md ops.toArray Q' fuel listed a w
  | 0, _, _, _, _, _, _, h => h.elim
  | fuel + 1, listed, a, w, hw, hS, hz, h => by
    by_cases hm : m ∈ Region.ready md ops.toArray listed
    · have h2 := h.2 m hm
      rw [if_pos rfl] at h2
      have hu := getD_false_of (mem_ready.1 hm).1
      have hall := ShutL.all hT hS hm
      have hnone := ShutL.none hT hS hu
      have he : listed = upTo ops.length m := by
        apply Array.ext
        · simp [upTo, hz]
        · intro i h3 h4
          simp only [upTo, List.getElem_toArray, List.getElem_map, List.getElem_range]
          have hg : listed.getD i false = listed[i] := by simp [Array.getD, h3]
          by_cases him : i < m
          · rw [← hg, hall (m - i) i (by omega) (by omega)]
            simp [him]
          · have := hnone (i - m) (by omega)
            rw [show m + (i - m) = i by omega] at this
            rw [← hg, this]
            simp [him]
      rw [he]
      exact wpAnyIn_tail hT (fuel + 1) m a w (Nat.le_refl _) (by omega) (hQ a w hw h2.2)
    · refine ⟨fun h0 => (h.1 h0).elim, fun i hi => ?_⟩
      have h2 := h.2 i hi
      rw [if_neg (fun (e : i = m) => hm (by rw [← e]; exact hi))] at h2
      exact wpOpIn_of_qOpIn hro hw (fun a' w' hw' => wpAnyIn_of_quietL hT hmr hro hQ fuel _ a' w' hw' (hS.step hi) (by simpa using hz)) h2

theorem wpAnyIn_last {ops : List Oper} {Q : Exit → Act → World → Prop} {a : Act} {w : World} (m : Nat) (hro : F.round = none) (hB : Region.lexB .any ops.toArray = true) (hT : tailB .any ops m = true) (hm : m < ops.length) (hC : C { w with drawn := w.drawn + 1 })
    (h : wpQuietIn F n P ops.toArray C (fun a' => ∀ w', C w' → wpListIn F n P ops.toArray Q (ops.drop m) a' w') (ops.take m) a) :
    wpAnyIn F n P .any ops.toArray Q ops.toArray.size (Array.replicate ops.toArray.size false) a { w with drawn := w.drawn + 1 } := by
  obtain ⟨r, hr⟩ : ∃ r, m + 1 + r = ops.length := ⟨ops.length - m - 1, by omega⟩
  have hT := tailB_spec hT
  simp only [Region.lexB, Bool.and_eq_true] at hB
  rw [List.size_toArray] at hB ⊢
  have hlt : (ops.take m).length = m := by rw [List.length_take]; omega
  have hq := wpAnyQL_lex (QL := fun a' => ∀ w', C w' → wpListIn F n P ops.toArray Q (ops.drop m) a' w') hT hr hB.1 (ops.take m) 0 (Array.replicate ops.length false) a (by omega) (by
    intro j hj
    rw [hlt] at hj
    rw [List.getElem?_take, if_pos (by omega), Nat.zero_add]) (ShutL.start _ _ _) (fun j hj => by omega) (by rw [hlt, show m + (r + 1) = ops.length by omega]; exact hB.2) h
  rw [hlt, show m + (r + 1) = ops.length by omega] at hq
  exact wpAnyIn_of_quietL (C := C) hT hr hro (fun a' w' hw' hq => hq w' hw') _ _ _ _ hC (ShutL.start _ _ _) (by simp) hq

/-- A REGION THAT DRAWS ITS ORDER, its end one by one, in a round of a range over a function. -/
theorem wpIn_region_last_round {id : Nat} {Q : Exit → Act → World → Prop} {a : Act} {w : World} {ops : List Oper} (l m : Nat) (hm : P.follows .mixedOrders = true) (hB : Region.lexB .any ops.toArray = true) (hd : noDefer ops = true) (hT : tailB .any ops m = true) (hml : m < ops.length)
    (h : wpQuietIn Fence.wide n P ops.toArray (fun w' => ∃ n, w' = w.drewN n) (fun a' => ∀ w', (∃ n, w' = w.drewN n) → wpListIn Fence.wide n P ops.toArray Q (ops.drop m) a' w') (ops.take m) a) : (Code.region id ops.toArray true).wpIn (Fence.wide.inRound l) n P Q a w :=
  wpIn_region_any hm (wpAnyIn_round l hd _ _ _ _ (wpAnyIn_last (C := fun w' => ∃ n, w' = w.drewN n) m rfl hB hT hml ⟨1, rfl⟩ h))

/-- A REGION THAT DRAWS ITS ORDER, in a round, its operations quiet in a class of worlds. -/
theorem wpIn_region_class_round {id : Nat} {Q : Exit → Act → World → Prop} {a : Act} {w : World} {ops : List Oper} (C : World → Prop) (l : Nat) (hm : P.follows .mixedOrders = true) (hB : Region.lexB .any ops.toArray = true) (hd : noDefer ops = true) (hC : C { w with drawn := w.drawn + 1 })
    (h : wpQuietIn Fence.wide n P ops.toArray C (fun a' => ∀ w', C w' → Q .normal a' w') ops a) : (Code.region id ops.toArray true).wpIn (Fence.wide.inRound l) n P Q a w := by
  simp only [Region.lexB, Bool.and_eq_true] at hB
  refine wpIn_region_any hm (wpAnyIn_round l hd _ _ _ _ (wpAnyIn_of_quiet (C := C) (Q := fun a' => ∀ w', C w' → Q .normal a' w') rfl (fun _ w' hw' h => h w' hw') _ _ _ _ hC ?_))
  have := wpAnyQIn_lex (F := Fence.wide) (n := n) (C := C) (md := .any) hB.1 ops 0 (Array.replicate ops.toArray.size false) a (by simp) (by simpa using hB.2) h
  simpa using this

/-- a world that has at most new blocks against V -/
structure LaterW (V : World) where
  w : World
  h : Below V.heap.size V w
instance LaterW.there (V : World) : Nonempty (LaterW V) := ⟨⟨V, Below.refl _ _⟩⟩

/-- The same elsewhere. -/
theorem wpIn_region_last {id : Nat} {Q : Exit → Act → World → Prop} {a : Act} {w : World} {ops : List Oper} (m : Nat) (hm : P.follows .mixedOrders = true) (hB : Region.lexB .any ops.toArray = true) (hT : tailB .any ops m = true) (hml : m < ops.length)
    (h : wpQuietIn Fence.wide n P ops.toArray (fun w' => ∃ n, w' = w.drewN n) (fun a' => ∀ w', (∃ n, w' = w.drewN n) → wpListIn Fence.wide n P ops.toArray Q (ops.drop m) a' w') (ops.take m) a) : (Code.region id ops.toArray true).wpIn Fence.wide n P Q a w :=
  wpIn_region_any hm (wpAnyIn_last (C := fun w' => ∃ n, w' = w.drewN n) m rfl hB hT hml ⟨1, rfl⟩ h)

end
end Go.Proofs.Ytnnaijbdimdhpaa
