/-
  A range over a function whose iterator keeps its state in blocks of its own: the iterator's contract, and the statement's law.
-/
import Derived.Test.YtnnaijbdimdhpaaBs
import Derived.RangeFuncNested
import Derived.RangeFuncBound
import Derived.RangeFuncCalls
import Derived.RangeFuncLeaves
namespace Go.Proofs.Ytnnaijbdimdhpaa
open Go.RowKit
set_option linter.unusedVariables false

/-- An iterator gives xs, one by one, and goes on: it writes to c blocks of its own, that it lays first of all; what it hands over is 'val', and 'here' is what then is known of the world; the rounds must leave its blocks alone, and those of kp, that it reads. -/
def GivesOwn {α : Type} (P : Program) (g : Nat) (lb : Array Value) (val : α → Nat → Value) (here : α → Nat → World → Prop) (xs : List α) (c : Nat) (kp : Nat → Prop) (w : World) : Prop :=
  ∀ (l : Nat) (J : List α → World → Prop) (W : World), Below w.heap.size w W →
    (∀ pre A B, J pre A → Chg (fun k => W.heap.size ≤ k ∧ k < W.heap.size + c) A B → J pre B) →
    (∀ pre x W1, J pre W1 → pre ++ [x] <+: xs → here x W.heap.size W1 → YieldAt Fence.wide 0 P l #[val x W.heap.size] W1 fun e W' =>
      e = .returned (.bool true) ∧ J (pre ++ [x]) W' ∧ W1.heap.size ≤ W'.heap.size ∧ ∀ k, (W.heap.size ≤ k ∧ k < W.heap.size + c) ∨ kp k → k < W1.heap.size → W'.heap[k]? = W1.heap[k]?) →
    J [] W →
    CallsIn Fence.wide 0 P g (#[.func (.yield l) #[] #[]] ++ lb) W fun e W' => (∃ v, e = .returned v) ∧ J xs W'

theorem chg_putObj {S : Nat → Prop} (w : World) (l : Nat) (o : Obj) (h : S l) : Chg S w (w.putObj l o) :=
  ⟨rfl, rfl, rfl, by simp [World.putObj], fun k _ hk => World.putObj_heap_other (fun e => hk (by rw [e]; exact h))⟩

/-- how a round's body ends: off its end, the loop's and the iterator's blocks as they were -/
def gPost {α : Type} (s n : Nat) (kp : Nat → Prop) (I : List α → World → Prop) (xs : List α) (W : World) : Exit → Act → World → Prop
  | .normal, _, W' => I xs W' ∧ W.heap.size ≤ W'.heap.size ∧ ∀ k, (s ≤ k ∧ k < s + n) ∨ kp k → k < W.heap.size → W'.heap[k]? = W.heap[k]?
  | _, _, _ => False

section
variable {P : Program} {α : Type}

/-- the statement 'for x := range seq { body }', seq such an iterator -/
theorem wp_range_own {g : Operand} {ps : Array Tmp} {assign body : Code} {Q : Exit → Act → World → Prop} {a : Act} {w : World} {gf : Nat} {lb : Array Value} (hg : a.eval g = .func (.func gf) #[] lb)
    (eg : ∀ args w, (callFunc gf args).run P w = .ok (.enter gf args) w) {val : α → Nat → Value} {here : α → Nat → World → Prop} {xs : List α} {c : Nat} {kp : Nat → Prop} (hkp : ∀ k, kp k → k < w.heap.size) (hseq : GivesOwn P gf lb val here xs c kp w) (hps : ps.size = 1)
    (hh : ∀ x s A B, here x s A → (∀ k, s ≤ k → k < s + c → B.heap[k]? = A.heap[k]?) → here x s B)
    (I : List α → World → Prop) (hI : ∀ pre A B, I pre A → Chg (fun k => w.heap.size ≤ k ∧ k < w.heap.size + (2 + c)) A B → I pre B) (h0 : I [] w) (a₁ : α → Act)
    (hassign : ∀ (l : Nat) (x : α) (W : World) (K : Act → World → Prop), K (a₁ x) W →
      assign.wpIn (Fence.wide.inRound l) 0 P (Exit.then K (fun _ _ _ => False)) { tmps := (ps.zip #[val x (w.heap.size + 1 + 1)]).foldl (fun t (p, v) => t.setIfInBounds p v) a.tmps, defers := [] } W)
    (hbody : ∀ (l : Nat) (pre : List α) (x : α) (W : World), I pre W → pre ++ [x] <+: xs → here x (w.heap.size + 1 + 1) W → w.heap.size + 1 + 1 ≤ W.heap.size →
      body.wpIn (Fence.wide.inRound l) 0 P (gPost w.heap.size (2 + c) kp I (pre ++ [x]) W) (a₁ x) W)
    (hdone : ∀ (W : World), I xs W → W.heap[w.heap.size]? = some (.deferred (some [])) → Q .normal { a with defers := { target := .collected w.heap.size, args := #[] } :: a.defers } W) :
    (Code.rangeFunc g ps assign body).wpIn Fence.wide 0 P Q a w := by
  refine wpIn_rangeFunc ?_
  intro fn hfn
  obtain ⟨rec, hrec⟩ : ∃ rec : LoopState → Option Code → Loop, rec = fun st pe => { state := st, pending := pe, fn, tmps := a.tmps, params := ps, assign, body, defers := w.heap.size } := ⟨_, rfl⟩
  obtain ⟨W1, hW1⟩ : ∃ W1, W1 = (w.alloc (.deferred (some []))).alloc (.loop (rec .ready none)) := ⟨_, rfl⟩
  have hL1 : W1.heap[w.heap.size + 1]? = some (.loop (rec .ready none)) := by
    rw [hW1]; have := World.alloc_heap_new (w.alloc (.deferred (some []))) (.loop (rec .ready none)); rwa [World.size_alloc] at this
  have hK1 : W1.heap[w.heap.size]? = some (.deferred (some [])) := by
    rw [hW1]; exact (Below.heap_alloc _ _ _ (by simp)).trans (World.alloc_heap_new w _)
  have hs1 : W1.heap.size = w.heap.size + 1 + 1 := by rw [hW1]; simp
  have hI1 : I [] W1 := hI _ _ _ h0 (by rw [hW1]; exact ((Chg.refl _ w).alloc _).alloc _)
  have hb1 : Below w.heap.size w W1 := by rw [hW1]; exact ((Below.refl _ w).alloc (Nat.le_refl _) _).alloc (by simp) _
  refine ⟨w.heap.size + 1, [{ target := .collected w.heap.size, args := #[] }], W1, { target := .fn (.func gf) lb, args := #[.func (.yield (w.heap.size + 1)) #[] #[]] }, W1, gf,
    #[.func (.yield (w.heap.size + 1)) #[] #[]] ++ lb, W1, ?_, ?_, fun _ _ => trivial, ?_, fun h => by simp [Fence.wide] at h, ?_⟩
  · rw [hW1, hrec]; exact run_enterLoop_outer _ _ _ _ _
  · simp only [resolve, hg]
    simp [go_sem]
  · simp [invoke, go_sem, eg]
  · refine (hseq (w.heap.size + 1) (fun pre W => I pre W ∧ W.heap[w.heap.size + 1]? = some (.loop (rec .ready none)) ∧ W.heap[w.heap.size]? = some (.deferred (some []))) W1 hb1 ?_ ?_ ⟨hI1, hL1, hK1⟩).mono ?_
    · rintro pre A B ⟨i1, i2, i3⟩ hc
      exact ⟨hI _ _ _ i1 (hc.mono fun k hk => by omega), (hc.block _ (Array.getElem?_eq_some_iff.1 i2).1 (by omega)).trans i2, (hc.block _ (Array.getElem?_eq_some_iff.1 i3).1 (by omega)).trans i3⟩
    · rintro pre x W ⟨i1, i2, i3⟩ hpre hhere
      rw [hs1] at hhere ⊢
      have hlt : w.heap.size + 1 < W.heap.size := (Array.getElem?_eq_some_iff.1 i2).1
      have hy := run_yield (P := P) (args := #[val x (w.heap.size + 1 + 1)]) i2 (by rw [hrec]; simp [hps])
      rw [hrec] at hy
      refine ⟨fn, _, assign, body, hy, roundIn_of_wpIn hfn (hassign _ x W _ ⟨_, run_beginRound i2 (by rw [hrec]), ?_⟩)⟩
      obtain ⟨W2, hW2⟩ : ∃ W2, W2 = W.putObj (w.heap.size + 1) (.loop { rec .ready none with state := .busy }) := ⟨_, rfl⟩
      have l2 : W2.heap[w.heap.size + 1]? = some (.loop { rec .ready none with state := .busy }) := by rw [hW2]; exact World.putObj_heap_same hlt
      have k2 : ∀ k, k ≠ w.heap.size + 1 → W2.heap[k]? = W.heap[k]? := fun k hk => by rw [hW2]; exact World.putObj_heap_other hk
      have s2 : W2.heap.size = W.heap.size := by rw [hW2]; simp [World.putObj]
      have i2' : I pre W2 := hI _ _ _ i1 (by rw [hW2]; exact chg_putObj _ _ _ (by omega))
      have hh2 : here x (w.heap.size + 1 + 1) W2 := hh _ _ _ _ hhere fun k h1 _ => k2 k (by omega)
      rw [← hW2]
      refine wpIn_mono (hbody _ pre x W2 i2' hpre hh2 (by omega)) ?_
      rintro e a3 W3 hp
      cases e with
      | normal =>
        obtain ⟨j1, j2, j3⟩ := hp
        have l3 : W3.heap[w.heap.size + 1]? = some (.loop { rec .ready none with state := .busy }) := (j3 _ (.inl ⟨by omega, by omega⟩) (by omega)).trans l2
        have hr := run_endRound (P := P) none l3
        refine ⟨_, _, hr, rfl, ⟨hI _ _ _ j1 (chg_putObj _ _ _ (by omega)), ?_, ?_⟩, ?_, fun k hk hkl => ?_⟩
        · rw [hrec]; exact World.putObj_heap_same (Array.getElem?_eq_some_iff.1 l3).1
        · exact (World.putObj_heap_other (by omega)).trans ((j3 _ (.inl ⟨by omega, by omega⟩) (by omega)).trans ((k2 _ (by omega)).trans i3))
        · simp only [World.putObj, Array.size_setIfInBounds]; omega
        · have hne : k ≠ w.heap.size + 1 := by rcases hk with h | h; omega; have := hkp k h; omega
          have hk' : (w.heap.size ≤ k ∧ k < w.heap.size + (2 + c)) ∨ kp k := hk.imp (fun h => by omega) id
          exact (World.putObj_heap_other hne).trans ((j3 _ hk' (by omega)).trans (k2 _ hne))
      | ret => exact hp.elim
      | exit id => exact hp.elim
      | goto t => exact hp.elim
      | panic ch => exact hp.elim
      | outgrown => exact hp.elim
    · rintro e W2 ⟨⟨v, rfl⟩, i1, i2, i3⟩
      have he := run_endLoop (P := P) i2 (by rw [hrec]; simp)
      refine ⟨none, _, by rw [hrec] at he; exact he, hdone _ (hI _ _ _ i1 (chg_putObj _ _ _ (by omega))) ((World.putObj_heap_other (by omega)).trans i3)⟩
end

end Go.Proofs.Ytnnaijbdimdhpaa
