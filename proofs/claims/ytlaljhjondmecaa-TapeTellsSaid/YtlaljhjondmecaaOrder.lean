/-
  A region that draws its order and holds calls: one order, given by the prover, serves every order. Operations that yield one value in every world may be taken ahead of the others; each other one must be the only one that may come up.
-/
import Derived.Test.YtlaljhjondmecaaBase
namespace Go.Proofs.Ytlaljhjondmecaa
open Go.RowKit

section
variable {P : Program} {ops : Array Oper} {md : Region.Mode}

/-- Only the normal end is left. -/
def OnlyN (Q : Exit → Act → World → Prop) : Exit → Act → World → Prop
  | .normal, a, w => Q .normal a w
  | _, _, _ => False
theorem OnlyN.normal {Q : Exit → Act → World → Prop} {a : Act} {w : World} (h : Q .normal a w) : OnlyN Q .normal a w := h
theorem OnlyN.le {Q : Exit → Act → World → Prop} : ∀ (e : Exit) (a : Act) (w : World), OnlyN Q e a w → Q e a w := fun e a w h => by
  cases e <;> first | exact h | exact (h : False).elim
theorem OnlyN.lets {Q : Exit → Act → World → Prop} : ¬ LetsOut (OnlyN Q) := by
  rintro ⟨a, w, h⟩
  exact h

/-- The walk in the order that the prover gives: 'true': taken ahead of others, for it yields one value in every world. -/
def wpMix (P : Program) (ops : Array Oper) (Q : Exit → Act → World → Prop) : List (Bool × Oper) → Act → World → Prop
  | [], a, w => Q .normal a w
  | (true, o) :: r, a, w => ∃ v, Yields P ops o v a ∧ wpMix P ops Q r (a.put o.dst v) w
  | (false, o) :: r, a, w =>
    if Region.wanted o (yielded ops a.tmps) then o.wp P a w (wpMix P ops Q r) Q else wpMix P ops Q r (a.put o.dst undef) w

/-- Whether the order serves: what is taken ahead is free of the others, all else comes up alone. -/
def mixOk (md : Region.Mode) (ops : Array Oper) : List (Bool × Nat) → Array Bool → Bool
  | [], listed => (Region.ready md ops listed).isEmpty
  | (b, i) :: r, listed =>
    (if b then (Region.ready md ops listed).contains i && Region.free md ops listed i else Region.ready md ops listed == [i]) && mixOk md ops r (listed.setIfInBounds i true)

/-- The operations in that order. -/
def mixPick (l : List Oper) : List (Bool × Nat) → List (Bool × Oper)
  | [] => []
  | (b, i) :: r => match l[i]? with
    | some o => (b, o) :: mixPick l r
    | none => []

theorem wpAny_of_mix {Q : Exit → Act → World → Prop} {l : List Oper} (hQ : ∀ c a w, ¬ Q (.panic c) a w) (hs : Region.noSelect l.toArray = true) : ∀ (σ : List (Bool × Nat)) (listed : Array Bool) (a : Act) (w : World),
    mixOk md l.toArray σ listed = true → (∀ x ∈ σ, x.2 < l.length) → wpMix P l.toArray Q (mixPick l σ) a w → wpAny P md l.toArray Q σ.length listed a w
  | [], listed, a, w, hB, _, h => ⟨by simpa [mixOk] using hB, h⟩
  | (b, i) :: r, listed, a, w, hB, hlt, h => by
    have hil : i < l.length := hlt (b, i) (List.mem_cons_self ..)
    have hi : l[i]? = some l[i] := List.getElem?_eq_getElem hil
    have hi' : l.toArray[i]? = some l[i] := by simp [hil]
    have hlt' : ∀ x ∈ r, x.2 < l.length := fun x hx => hlt x (List.mem_cons_of_mem _ hx)
    simp only [mixPick, hi] at h
    simp only [mixOk, Bool.and_eq_true] at hB
    obtain ⟨hB1, hB2⟩ := hB
    cases b with
    | true =>
      simp only [if_true, Bool.and_eq_true] at hB1
      obtain ⟨v, hy, hn⟩ := h
      exact wpAny_take hi' hs hB1.2 hB1.1 (fun c a w hq => (hQ _ _ _ hq).elim) hy (wpAny_of_mix hQ hs r _ _ _ hB2 hlt' hn)
    | false =>
      simp only [Bool.false_eq_true, if_false, beq_iff_eq] at hB1
      refine wpAny_all hB1 (by simp) fun j hj => ?_
      obtain rfl := List.mem_singleton.1 hj
      simp only [wpMix] at h
      unfold wpOp
      simp only [hi']
      split
      · rename_i hw
        rw [if_pos hw] at h
        exact .inl (Oper.wp_mono (fun a' w' hk => wpAny_of_mix hQ hs r _ _ _ hB2 hlt' hk) h)
      · rename_i hw
        rw [if_neg hw] at h
        exact wpAny_of_mix hQ hs r _ _ _ hB2 hlt' h

/-- All that is asked of the order, as one Bool. -/
def mixAll (l : List Oper) (σ : List (Bool × Nat)) : Bool :=
  Region.noSelect l.toArray && (σ.length == l.length) && σ.all (fun x => x.2 < l.length) && mixOk .any l.toArray σ (Array.replicate l.length false)

/-- THE RULE. -/
theorem wp_region_mix {id : Nat} {Q : Exit → Act → World → Prop} {a : Act} {w : World} {l : List Oper} (σ : List (Bool × Nat)) (hm : P.follows .mixedOrders = true) (hB : mixAll l σ = true)
    (h : wpMix P l.toArray (OnlyN Q) (mixPick l σ) a w.drew) : (Code.region id l.toArray true).wp P Q a w := by
  simp only [mixAll, Bool.and_eq_true, beq_iff_eq, List.all_eq_true, decide_eq_true_eq] at hB
  obtain ⟨⟨⟨hs, hl⟩, hlt⟩, hB⟩ := hB
  have := wpAny_of_mix (P := P) (Q := OnlyN Q) (md := .any) (fun c a w hq => hq) hs σ (Array.replicate l.length false) a w.drew hB hlt h
  rw [hl] at this
  exact Code.wp_mono OnlyN.le (wp_region_any hm this)

/-- the steps: what follows stands behind a variable -/
theorem mix_nil {Q : Exit → Act → World → Prop} {a : Act} {w : World} (h : Q .normal a w) : wpMix P ops (OnlyN Q) [] a w := h
theorem mix_take {Q : Exit → Act → World → Prop} {o : Oper} {r : List (Bool × Oper)} {a : Act} {w : World} (hw : Region.wanted o (yielded ops a.tmps) = true)
    (h : ∀ K : Act → World → Prop, (∀ a w, wpMix P ops Q r a w → K a w) → ∃ v, (∀ w, (execOp a.eval o).run P w = .ok (.value v) w) ∧ K (a.put o.dst v) w) : wpMix P ops Q ((true, o) :: r) a w := by
  obtain ⟨v, hv, hk⟩ := h _ (fun _ _ h => h)
  exact ⟨v, .inl ⟨hw, hv⟩, hk⟩
theorem mix_skip {Q : Exit → Act → World → Prop} {o : Oper} {b : Bool} {r : List (Bool × Oper)} {a : Act} {w : World} (hw : Region.wanted o (yielded ops a.tmps) = false)
    (h : ∀ K : Act → World → Prop, (∀ a w, wpMix P ops Q r a w → K a w) → K (a.put o.dst undef) w) : wpMix P ops Q ((b, o) :: r) a w := by
  have hk := h _ (fun _ _ h => h)
  cases b with
  | true => exact ⟨undef, .inr ⟨hw, rfl⟩, hk⟩
  | false => simp only [wpMix, hw]; exact hk
theorem mix_only {Q : Exit → Act → World → Prop} {o : Oper} {r : List (Bool × Oper)} {a : Act} {w : World} (hw : Region.wanted o (yielded ops a.tmps) = true)
    (h : ∀ K : Act → World → Prop, (∀ a w, wpMix P ops Q r a w → K a w) → o.wp P a w K Q) : wpMix P ops Q ((false, o) :: r) a w := by
  simp only [wpMix, hw, if_true]
  exact h _ fun _ _ h => h

end
end Go.Proofs.Ytlaljhjondmecaa
