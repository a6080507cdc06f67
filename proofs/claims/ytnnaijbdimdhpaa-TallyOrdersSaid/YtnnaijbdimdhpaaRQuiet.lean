/-
  A region that draws its order, inside a round of a range over a function: an operation that defers nothing runs there as elsewhere, so the laws for regions serve in a round, too.
-/
import Derived.Test.YtnnaijbdimdhpaaRange
import Derived.Sort.BigQuietIn
import Derived.OwnWalkIn
namespace Go.Proofs.Ytnnaijbdimdhpaa
open Go.RowKit
set_option linter.unusedVariables false

/-- no operation defers a call -/
def noDefer (l : List Oper) : Bool := l.all fun o => match o.op with | .defer _ => false | _ => true
theorem noDefer_spec {l : List Oper} (h : noDefer l = true) {o : Oper} (ho : o ∈ l) : ∀ c, o.op ≠ .defer c := by
  intro c hc
  have := List.all_eq_true.1 h o ho
  simp only [hc] at this
  cases this

/-- the wide fence asks nothing -/
theorem wide_fn (f : FuncId) : Fence.wide.fn f = True := rfl

section
variable {P : Program} {n : Nat}

theorem operIn_round {o : Oper} {a : Act} {w : World} {K : Act → World → Prop} {Q : Exit → Act → World → Prop} (l : Nat) (hd : ∀ c, o.op ≠ .defer c) (h : o.wpIn Fence.wide n P a w K Q) : o.wpIn (Fence.wide.inRound l) n P a w K Q := by
  refine ⟨h.1, ?_⟩
  have h2 := h.2
  rw [Oper.semAt_plain _ _ _ hd] at h2 ⊢
  exact h2

theorem wpAnyIn_round {md : Region.Mode} {ops : List Oper} {Q : Exit → Act → World → Prop} (l : Nat) (hd : noDefer ops = true) : ∀ (fuel : Nat) (listed : Array Bool) (a : Act) (w : World),
    wpAnyIn Fence.wide n P md ops.toArray Q fuel listed a w → wpAnyIn (Fence.wide.inRound l) n P md ops.toArray Q fuel listed a w
  | 0, _, _, _, h => h
  | fuel + 1, listed, a, w, h => by
    refine ⟨h.1, fun i hi => ?_⟩
    have h2 := h.2 i hi
    unfold wpOpIn at h2 ⊢
    cases ho : ops.toArray[i]? with
    | none =>
      simp only [ho] at h2 ⊢
      exact wpAnyIn_round l hd fuel _ _ _ h2
    | some o =>
      simp only [ho] at h2 ⊢
      have hmem : o ∈ ops := by
        rw [List.getElem?_toArray] at ho
        exact List.mem_of_getElem? ho
      split
      · rename_i hw
        rw [if_pos hw] at h2
        exact operIn_round l (noDefer_spec hd hmem) (Oper.wpIn_mono (fun a w => wpAnyIn_round l hd fuel _ a w) h2)
      · rename_i hw
        rw [if_neg hw] at h2
        exact ⟨h2.1, wpAnyIn_round l hd fuel _ _ _ h2.2⟩

/-- ONE WALK OF THE LEXICAL ORDER SERVES EVERY ORDER, in a round. -/
theorem wpIn_region_quiet_round {id : Nat} {Q : Exit → Act → World → Prop} {a : Act} {w : World} {ops : List Oper} (l : Nat) (hm : P.follows .mixedOrders = true) (hB : Region.lexB .any ops.toArray = true) (hd : noDefer ops = true)
    (h : wpQuietIn Fence.wide n P ops.toArray (fun w' => ∃ n, w' = w.drewN n) (fun a' => ∀ w', (∃ n, w' = w.drewN n) → Q .normal a' w') ops a) : (Code.region id ops.toArray true).wpIn (Fence.wide.inRound l) n P Q a w := by
  simp only [Region.lexB, Bool.and_eq_true] at hB
  refine wpIn_region_any hm (wpAnyIn_round l hd _ _ _ _ (wpAnyIn_of_quiet (C := fun w' => ∃ n, w' = w.drewN n) (Q := fun a' => ∀ w', (∃ n, w' = w.drewN n) → Q .normal a' w') rfl (fun _ w' hw' h => h w' hw') _ _ _ _ ⟨1, rfl⟩ ?_))
  have := wpAnyQIn_lex (F := Fence.wide) (n := n) (C := fun w' => ∃ n, w' = w.drewN n) (md := .any) hB.1 ops 0 (Array.replicate ops.toArray.size false) a (by simp) (by simpa using hB.2) h
  simpa using this

end
end Go.Proofs.Ytnnaijbdimdhpaa
