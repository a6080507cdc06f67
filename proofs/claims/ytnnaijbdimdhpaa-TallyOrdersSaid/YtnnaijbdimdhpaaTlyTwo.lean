/-
  Two rows of words that a call appends to, in one statement whose order is open, in a round.
-/
import Derived.Test.YtnnaijbdimdhpaaRMix
import Derived.Test.YtnnaijbdimdhpaaTly16
namespace Go.Proofs.Ytnnaijbdimdhpaa
open Go.RowKit Go.Shelf
set_option linter.unusedVariables false

/-- two rows of words of the call's own -/
structure TwoU (B : Nat) (w : World) (v1 v2 : Value) (m1 m2 : Nat) (x1 x2 : List Value) : Prop where
  r1 : w.ownsRow B 22 1 v1 m1 x1
  r2 : w.ownsRow B 22 1 v2 m2 x2
  ne : ∀ g, v1.ownBlock = some g → v2.ownBlock ≠ some g
theorem TwoU.swap {B : Nat} {w : World} {v1 v2 : Value} {m1 m2 : Nat} {x1 x2 : List Value} (h : TwoU B w v1 v2 m1 m2 x1 x2) : TwoU B w v2 v1 m2 m1 x2 x1 := ⟨h.r2, h.r1, fun g h1 h2 => h.ne g h2 h1⟩
theorem TwoU.alloc {B : Nat} {w : World} {v1 v2 : Value} {m1 m2 : Nat} {x1 x2 : List Value} (h : TwoU B w v1 v2 m1 m2 x1 x2) (o : Obj) : TwoU B (w.alloc o) v1 v2 m1 m2 x1 x2 := ⟨h.r1.alloc _, h.r2.alloc _, h.ne⟩
theorem TwoU.drew {B : Nat} {w : World} {v1 v2 : Value} {m1 m2 : Nat} {x1 x2 : List Value} (h : TwoU B w v1 v2 m1 m2 x1 x2) : TwoU B w.drew v1 v2 m1 m2 x1 x2 := ⟨h.r1.drew, h.r2.drew, h.ne⟩
theorem TwoU.kept {B : Nat} {w w' : World} {v1 v2 : Value} {m1 m2 : Nat} {x1 x2 : List Value} (h : TwoU B w v1 v2 m1 m2 x1 x2) (hk : ∀ g, B ≤ g → g < w.heap.size → w'.heap[g]? = w.heap[g]?) : TwoU B w' v1 v2 m1 m2 x1 x2 :=
  ⟨row_kept h.r1 fun g hg => hk g (h.r1.lt g hg).1 (h.r1.lt g hg).2, row_kept h.r2 fun g hg => hk g (h.r2.lt g hg).1 (h.r2.lt g hg).2, h.ne⟩

/-- a world whose blocks below B are as X's -/
structure LowW (B : Nat) (X : World) where
  w : World
  h : Below B X w
instance LowW.there (B : Nat) (X : World) : Nonempty (LowW B X) := ⟨⟨X, Below.refl _ _⟩⟩

theorem TwoU.low {B : Nat} {w w' : World} {v1 v2 : Value} {m1 m2 : Nat} {x1 x2 : List Value} (h : TwoU B w v1 v2 m1 m2 x1 x2) (hB : B ≤ w.heap.size) (hg : w.grownBy w' v1.ownBlock) : Below B w w' :=
  ⟨hg.os, hg.tape, hg.output, hg.size, fun k hk => hg.block k (by omega) fun e => by have := (h.r1.lt k e.symm).1; omega⟩

/-- 'append(s, x)', s the first of two rows, as one step -/
theorem step_appU {n : Nat} {B : Nat} {w : World} {v1 v2 : Value} {m1 m2 : Nat} {x1 x2 : List Value} {ops : Array Oper} {o : Oper} {a : Act} {K : Act → World → Prop} {Q : Exit → Act → World → Prop} {E : Prop} (hgd : o.guard = none) (s x : Operand)
    (ho : o.op = .call { callee := .builtin .append, args := #[s, x], argTypes := #[24, 24] })
    (hs : a.eval s = v1) (hT : TwoU B w v1 v2 m1 m2 x1 x2) (g : Nat) (y : Int) (hx : a.eval x = .slice (some ⟨g, 0, none⟩) 1 1) (hcell : w.cell? ⟨g, 0, none⟩ = some (.int .u64 y)) (hm : m1 ≤ 1000000) (hB : B ≤ w.heap.size)
    (h : ∀ sa cap w', TwoU B w' (.slice sa (m1 + 1) cap) v2 (m1 + 1) m2 (x1 ++ [.int .u64 y]) x2 → w.grownBy w' v1.ownBlock → K (a.put o.dst (.slice sa (m1 + 1) cap)) w') :
    if Region.wanted o (yielded ops a.tmps) = true then Oper.wpIn Fence.wide n Try.prog o a w K Q else E := by
  have hw : Region.wanted o (yielded ops a.tmps) = true := by simp [Region.wanted, hgd]
  rw [if_pos hw]
  obtain ⟨i0, hi, hz0, hz1, hz2⟩ := info_parts info_u64
  obtain ⟨v', w', hr, h2, h3, h4⟩ := app_where (P := Try.prog) w B _ o.type _ i0 _ 1 8 Try.underlying24 hi hz0 hz1 hz2 rfl (by decide) v1 m1 x1 hT.r1 ⟨g, 0, none⟩ 1 1 [.int .u64 y] rfl
    (fun j u hu => by
      cases j with
      | zero => simp only [List.getElem?_cons_zero, Option.some.injEq] at hu; subst hu; rw [Addr.add_lit]; exact hcell
      | succ j => simp at hu) (fun z hz => by simp at hz; subst hz; rfl) (by unfold maxLen; omega) (by omega) hB
  obtain ⟨sa, cap, rfl⟩ := (rd_of_row h2).form
  unfold Oper.wpIn
  refine ⟨fun _ _ => trivial, ?_⟩
  rw [show Fence.wide.round = none from rfl, Oper.semAt_none]
  unfold execOp
  simp only [ho, resolve, invoke, builtin, Sem.run_bind, Sem.run_pure, Result.andThen_ok, List.map_toArray, List.map_cons, List.map_nil, hs, hx, hr]
  have hb : ∀ b, b < w.heap.size → v1.ownBlock ≠ some b → w'.heap[b]? = w.heap[b]? := fun b hb hne => h3.block b hb (fun e => hne e.symm)
  refine h sa cap w' ⟨h2, row_kept hT.r2 fun b hb2 => hb b (hT.r2.lt b hb2).2 (fun e => hT.ne b e hb2), fun b hb1 hb2 => ?_⟩ h3
  rcases h4 with h4 | h4
  · rw [h4] at hb1; exact hT.ne b hb1 hb2
  · rw [h4] at hb1
    cases hb1
    exact Nat.lt_irrefl _ (hT.r2.lt _ hb2).2

end Go.Proofs.Ytnnaijbdimdhpaa
