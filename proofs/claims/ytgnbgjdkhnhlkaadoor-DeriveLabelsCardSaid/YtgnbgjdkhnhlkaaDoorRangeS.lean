/-
  A range over a function whose iterator keeps its state in a captured variable, and whose body may leave the loop: the iterator's contract, and the statement's law.
-/
import Derived.Test.YtgnbgjdkhnhlkaaDoorBs
import Derived.RangeFuncNested
import Derived.RangeFuncBound
import Derived.RangeFuncCalls
import Derived.RangeFuncLeaves
namespace Go.Proofs.YtgnbgjdkhnhlkaaDoor
open Go.RowKit
set_option linter.unusedVariables false

/-- An iterator gives xs, one by one, till a round has said 'no more'; it writes to the blocks of ob alone, which the rounds leave alone. -/
def GivesCap {α : Type} (P : Program) (g : Nat) (lb : Array Value) (val : α → Value) (xs : List α) (ob : Nat → Prop) (w : World) : Prop :=
  ∀ (l : Nat) (J Jx : List α → World → Prop) (W : World), Below w.heap.size w W →
    (∀ pre A B, J pre A → Chg ob A B → J pre B) → (∀ pre A B, Jx pre A → Chg ob A B → Jx pre B) →
    (∀ pre x W1, J pre W1 → pre ++ [x] <+: xs → YieldAt Fence.wide 0 P l #[val x] W1 fun e W' =>
      ((e = .returned (.bool true) ∧ J (pre ++ [x]) W') ∨ (e = .returned (.bool false) ∧ Jx (pre ++ [x]) W')) ∧ W1.heap.size ≤ W'.heap.size ∧ ∀ k, ob k → W'.heap[k]? = W1.heap[k]?) →
    J [] W →
    CallsIn Fence.wide 0 P g (#[.func (.yield l) #[] #[]] ++ lb) W fun e W' => (∃ v, e = .returned v) ∧ (J xs W' ∨ ∃ pre x, pre ++ [x] <+: xs ∧ Jx (pre ++ [x]) W')

theorem chg_putObjS {S : Nat → Prop} (w : World) (l : Nat) (o : Obj) (h : S l) : Chg S w (w.putObj l o) :=
  ⟨rfl, rfl, rfl, by simp [World.putObj], fun k _ hk => World.putObj_heap_other (fun e => hk (by rw [e]; exact h))⟩

/-- how a round's body ends: off its end, or by leaving a block outside -/
def sPost {α : Type} (s : Nat) (ob : Nat → Prop) (I : List α → World → Prop) (Ix : Nat → List α → World → Prop) (xs : List α) (W : World) : Exit → Act → World → Prop
  | .normal, _, W' => I xs W' ∧ W.heap.size ≤ W'.heap.size ∧ ∀ k, (s ≤ k ∧ k < s + 2) ∨ ob k → k < W.heap.size → W'.heap[k]? = W.heap[k]?
  | .exit id, _, W' => Ix id xs W' ∧ W.heap.size ≤ W'.heap.size ∧ ∀ k, (s ≤ k ∧ k < s + 2) ∨ ob k → k < W.heap.size → W'.heap[k]? = W.heap[k]?
  | _, _, _ => False

section
variable {P : Program} {α : Type}

/-- the statement 'for x := range seq { body }', seq such an iterator -/
theorem wp_range_cap {g : Operand} {ps : Array Tmp} {assign body : Code} {Q : Exit → Act → World → Prop} {a : Act} {w : World} {gf : Nat} {lb : Array Value} (hg : a.eval g = .func (.func gf) #[] lb)
    (eg : ∀ args w, (callFunc gf args).run P w = .ok (.enter gf args) w) {val : α → Value} {xs : List α} {ob : Nat → Prop} (hob : ∀ k, ob k → k < w.heap.size) (hseq : GivesCap P gf lb val xs ob w) (hps : ps.size = 1)
    (I : List α → World → Prop) (Ix : Nat → List α → World → Prop) (hI : ∀ pre A B, I pre A → Chg (fun k => ob k ∨ (w.heap.size ≤ k ∧ k < w.heap.size + 2)) A B → I pre B) (hIx : ∀ id pre A B, Ix id pre A → Chg (fun k => ob k ∨ (w.heap.size ≤ k ∧ k < w.heap.size + 2)) A B → Ix id pre B) (h0 : I [] w) (a₁ : α → Act)
    (hassign : ∀ (l : Nat) (x : α) (W : World) (K : Act → World → Prop), K (a₁ x) W →
      assign.wpIn (Fence.wide.inRound l) 0 P (Exit.then K (fun _ _ _ => False)) { tmps := (ps.zip #[val x]).foldl (fun t (p, v) => t.setIfInBounds p v) a.tmps, defers := [] } W)
    (hbody : ∀ (l : Nat) (pre : List α) (x : α) (W : World), I pre W → pre ++ [x] <+: xs → w.heap.size + 1 + 1 ≤ W.heap.size →
      body.wpIn (Fence.wide.inRound l) 0 P (sPost w.heap.size ob I Ix (pre ++ [x]) W) (a₁ x) W)
    (hdone : ∀ (W : World), I xs W → W.heap[w.heap.size]? = some (.deferred (some [])) → Q .normal { a with defers := { target := .collected w.heap.size, args := #[] } :: a.defers } W)
    (hstop : ∀ (W : World) (id : Nat) (pre : List α) (x : α), pre ++ [x] <+: xs → Ix id (pre ++ [x]) W → W.heap[w.heap.size]? = some (.deferred (some [])) → (Code.exit id).wpIn Fence.wide 0 P Q { a with defers := { target := .collected w.heap.size, args := #[] } :: a.defers } W) :
    (Code.rangeFunc g ps assign body).wpIn Fence.wide 0 P Q a w := by
  refine wpIn_rangeFunc ?_
  intro fn hfn
  obtain ⟨rec, hrec⟩ : ∃ rec : LoopState → Option Code → Loop, rec = fun st pe => { state := st, pending := pe, fn, tmps := a.tmps, params := ps, assign, body, defers := w.heap.size } := ⟨_, rfl⟩
  obtain ⟨W1, hW1⟩ : ∃ W1, W1 = (w.alloc (.deferred (some []))).alloc (.loop (rec .ready none)) := ⟨_, rfl⟩
  have hL1 : W1.heap[w.heap.size + 1]? = some (.loop (rec .ready none)) := by
    rw [hW1]; have := World.alloc_heap_new (w.alloc (.deferred (some []))) (.loop (rec .ready none)); rwa [World.size_alloc] at this
  have hK1 : W1.heap[w.heap.size]? = some (.deferred (some [])) := by
    rw [hW1]; exact (Below.heap_alloc _ _ _ (by simp)).trans (World.alloc_heap_new w _)
  have hs1 : W1.heap.size = w.heap.size + 1 + 1 := by rw [hW1]; simp
  have hI1 : I [] W1 := hI _ _ _ h0 (by rw [hW1]; exact ((Chg.refl _ w).alloc _).alloc _)
  have hb1 : Below w.heap.size w W1 := by rw [hW1]; exact ((Below.refl _ w).alloc (Nat.le_refl _) _).alloc (by simp) _
  refine ⟨w.heap.size + 1, [{ target := .collected w.heap.size, args := #[] }], W1, { target := .fn (.func gf) lb, args := #[.func (.yield (w.heap.size + 1)) #[] #[]] }, W1, gf,
    #[.func (.yield (w.heap.size + 1)) #[] #[]] ++ lb, W1, ?_, ?_, fun _ _ => trivial, ?_, fun h => by simp [Fence.wide] at h, ?_⟩
  · rw [hW1, hrec]; exact run_enterLoop_outer _ _ _ _ _
  · simp only [resolve, hg]
    simp [go_sem]
  · simp [invoke, go_sem, eg]
  · refine (hseq (w.heap.size + 1) (fun pre W => I pre W ∧ W.heap[w.heap.size + 1]? = some (.loop (rec .ready none)) ∧ W.heap[w.heap.size]? = some (.deferred (some [])))
      (fun pre W => ∃ id, Ix id pre W ∧ W.heap[w.heap.size + 1]? = some (.loop (rec .done (some (.exit id)))) ∧ W.heap[w.heap.size]? = some (.deferred (some []))) W1 hb1 ?_ ?_ ?_ ⟨hI1, hL1, hK1⟩).mono ?_
    · rintro pre A B ⟨i1, i2, i3⟩ hc
      exact ⟨hI _ _ _ i1 (hc.mono fun k hk => .inl hk), (hc.block _ (Array.getElem?_eq_some_iff.1 i2).1 (fun h => by have := hob _ h; omega)).trans i2, (hc.block _ (Array.getElem?_eq_some_iff.1 i3).1 (fun h => by have := hob _ h; omega)).trans i3⟩
    · rintro pre A B ⟨id, i1, i2, i3⟩ hc
      exact ⟨id, hIx _ _ _ _ i1 (hc.mono fun k hk => .inl hk), (hc.block _ (Array.getElem?_eq_some_iff.1 i2).1 (fun h => by have := hob _ h; omega)).trans i2, (hc.block _ (Array.getElem?_eq_some_iff.1 i3).1 (fun h => by have := hob _ h; omega)).trans i3⟩
    · rintro pre x W ⟨i1, i2, i3⟩ hpre
      have hlt : w.heap.size + 1 < W.heap.size := (Array.getElem?_eq_some_iff.1 i2).1
      have hy := run_yield (P := P) (args := #[val x]) i2 (by rw [hrec]; simp [hps])
      rw [hrec] at hy
      refine ⟨fn, _, assign, body, hy, roundIn_of_wpIn hfn (hassign _ x W _ ⟨_, run_beginRound i2 (by rw [hrec]), ?_⟩)⟩
      obtain ⟨W2, hW2⟩ : ∃ W2, W2 = W.putObj (w.heap.size + 1) (.loop { rec .ready none with state := .busy }) := ⟨_, rfl⟩
      have l2 : W2.heap[w.heap.size + 1]? = some (.loop { rec .ready none with state := .busy }) := by rw [hW2]; exact World.putObj_heap_same hlt
      have k2 : ∀ k, k ≠ w.heap.size + 1 → W2.heap[k]? = W.heap[k]? := fun k hk => by rw [hW2]; exact World.putObj_heap_other hk
      have s2 : W2.heap.size = W.heap.size := by rw [hW2]; simp [World.putObj]
      have i2' : I pre W2 := hI _ _ _ i1 (by rw [hW2]; exact chg_putObjS _ _ _ (.inr (by omega)))
      rw [← hW2]
      refine wpIn_mono (hbody _ pre x W2 i2' hpre (by omega)) ?_
      rintro e a3 W3 hp
      cases e with
      | normal =>
        obtain ⟨j1, j2, j3⟩ := hp
        have l3 : W3.heap[w.heap.size + 1]? = some (.loop { rec .ready none with state := .busy }) := (j3 _ (.inl ⟨by omega, by omega⟩) (by omega)).trans l2
        have hr := run_endRound (P := P) none l3
        refine ⟨_, _, hr, .inl ⟨rfl, hI _ _ _ j1 (chg_putObjS _ _ _ (.inr (by omega))), ?_, ?_⟩, ?_, fun k hk => ?_⟩
        · rw [hrec]; exact World.putObj_heap_same (Array.getElem?_eq_some_iff.1 l3).1
        · exact (World.putObj_heap_other (by omega)).trans ((j3 _ (.inl ⟨by omega, by omega⟩) (by omega)).trans ((k2 _ (by omega)).trans i3))
        · simp only [World.putObj, Array.size_setIfInBounds]; omega
        · have hkl := hob k hk
          exact (World.putObj_heap_other (by omega)).trans ((j3 _ (.inr hk) (by omega)).trans (k2 _ (by omega)))
      | ret => exact hp.elim
      | exit id =>
        obtain ⟨j1, j2, j3⟩ := hp
        have l3 : W3.heap[w.heap.size + 1]? = some (.loop { rec .ready none with state := .busy }) := (j3 _ (.inl ⟨by omega, by omega⟩) (by omega)).trans l2
        have hr := run_endRound (P := P) (some (.exit id)) l3
        refine ⟨_, _, hr, .inr ⟨rfl, id, hIx _ _ _ _ j1 (chg_putObjS _ _ _ (.inr (by omega))), ?_, ?_⟩, ?_, fun k hk => ?_⟩
        · rw [hrec]; exact World.putObj_heap_same (Array.getElem?_eq_some_iff.1 l3).1
        · exact (World.putObj_heap_other (by omega)).trans ((j3 _ (.inl ⟨by omega, by omega⟩) (by omega)).trans ((k2 _ (by omega)).trans i3))
        · simp only [World.putObj, Array.size_setIfInBounds]; omega
        · have hkl := hob k hk
          exact (World.putObj_heap_other (by omega)).trans ((j3 _ (.inr hk) (by omega)).trans (k2 _ (by omega)))
      | goto t => exact hp.elim
      | panic ch => exact hp.elim
      | outgrown => exact hp.elim
    · rintro e W2 ⟨⟨v, rfl⟩, (⟨i1, i2, i3⟩ | ⟨pre, x, hpre, id, i1, i2, i3⟩)⟩
      · have he := run_endLoop (P := P) i2 (by rw [hrec]; simp)
        refine ⟨none, _, by rw [hrec] at he; exact he, hdone _ (hI _ _ _ i1 (chg_putObjS _ _ _ (.inr (by omega)))) ((World.putObj_heap_other (by omega)).trans i3)⟩
      · have he := run_endLoop (P := P) i2 (by rw [hrec]; simp)
        refine ⟨some (.exit id), _, by rw [hrec] at he; exact he, hstop _ id pre x hpre (hIx _ _ _ _ i1 (chg_putObjS _ _ _ (.inr (by omega)))) ((World.putObj_heap_other (by omega)).trans i3)⟩
end

end Go.Proofs.YtgnbgjdkhnhlkaaDoor
