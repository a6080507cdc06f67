/-
  A region that draws its order, in a round: some of its first m operations yield one value in every world of a class, and may be taken ahead; the others of them keep the class; those from m on come one by one.
-/
import Derived.Test.YtnnaijbdimdhpaaRLast
namespace Go.Proofs.Ytnnaijbdimdhpaa
open Go.RowKit
set_option linter.unusedVariables false

section
variable {n : Nat} {P : Program} {md : Region.Mode} {C : World → Prop} {Q : Exit → Act → World → Prop}

/-- only the normal end is left -/
def OnlyQ (Q : Exit → Act → World → Prop) : Exit → Act → World → Prop
  | .normal, a, w => Q .normal a w
  | _, _, _ => False
theorem OnlyQ.le {Q : Exit → Act → World → Prop} : ∀ (e : Exit) (a : Act) (w : World), OnlyQ Q e a w → Q e a w := fun e a w h => by
  cases e <;> first | exact h | exact (h : False).elim

theorem OnlyQ.normal {Q : Exit → Act → World → Prop} {a : Act} {w : World} (h : Q .normal a w) : OnlyQ Q .normal a w := h

/-- one value in every world of the class, which stays as it is -/
def YieldsC (P : Program) (ops : Array Oper) (C : World → Prop) (o : Oper) (v : Value) (a : Act) : Prop :=
  (Region.wanted o (yielded ops a.tmps) = true ∧ ∀ w, C w → (execOp a.eval o).run P w = .ok (.value v) w) ∨
  (Region.wanted o (yielded ops a.tmps) = false ∧ v = undef)
theorem YieldsC.of_same {ops : Array Oper} {o : Oper} {v : Value} {a a' : Act} (hy : YieldsC P ops C o v a) (he : execOp a'.eval o = execOp a.eval o)
    (hw : Region.wanted o (yielded ops a'.tmps) = Region.wanted o (yielded ops a.tmps)) : YieldsC P ops C o v a' := by
  unfold YieldsC at *
  rw [he, hw]
  exact hy
theorem YieldsC.wpOpIn {ops : Array Oper} {i : Nat} {o : Oper} {v : Value} {a : Act} (hi : ops[i]? = some o) (hy : YieldsC P ops C o v a)
    {K : Act → World → Prop} {w : World} (hC : C w) (h : K (a.put o.dst v) w) : wpOpIn Fence.wide n P ops Q i K a w := by
  unfold Go.wpOpIn
  simp only [hi]
  rcases hy with ⟨hw, hv⟩ | ⟨hw, rfl⟩
  · simp only [hw, if_true, Oper.wpIn, show Fence.wide.round = none from rfl, Oper.semAt_none, hv w hC, Oper.uponIn]; exact ⟨fun _ _ => trivial, h⟩
  · simp only [hw, Bool.false_eq_true, if_false]; exact ⟨fun _ _ => trivial, h⟩

theorem wpOpIn_putC {ops : Array Oper} {j : Nat} {oi oj : Oper} {v : Value} (hj : ops[j]? = some oj) (hap : oi.apart ops oj = true)
    (hsi : ∀ cs b, oi.op ≠ .select cs b) (hsj : ∀ cs b, oj.op ≠ .select cs b) {K : Act → World → Prop} {a : Act} {w : World}
    (hy : YieldsC P ops C oi v a) (h : wpOpIn Fence.wide n P ops (OnlyQ Q) j K (a.put oi.dst v) w) :
    wpOpIn Fence.wide n P ops (OnlyQ Q) j (fun a' w' => YieldsC P ops C oi v a' ∧ K (a'.put oi.dst v) w') a w := by
  obtain ⟨h1, h2, h3⟩ := Oper.apart_spec hap
  have keep : ∀ (a : Act), YieldsC P ops C oi v a → ∀ u, YieldsC P ops C oi v (a.put oj.dst u) := fun a hy u =>
    hy.of_same (execOp_put oi hsi a oj.dst u h3) (wanted_put oi a oj.dst u h3)
  have keepD : ∀ d, YieldsC P ops C oi v { a with defers := d :: a.defers } := fun d => hy.of_same rfl rfl
  unfold wpOpIn at *
  simp only [hj] at *
  rw [wanted_put oj a oi.dst v h1] at h
  split
  · rename_i hw
    simp only [hw, if_true] at h
    unfold Oper.wpIn at *
    refine ⟨fun _ _ => trivial, ?_⟩
    have h := h.2
    rw [show Fence.wide.round = none from rfl, Oper.semAt_none, execOp_put oj hsj a oi.dst v h1] at h
    rw [show Fence.wide.round = none from rfl, Oper.semAt_none]
    generalize (execOp a.eval oj).run P w = r at *
    cases r with
    | ok x w' =>
      cases x <;> simp only [Oper.uponIn] at h ⊢
      case value u => exact ⟨keep a hy u, by rw [← Act.put_comm a v u h2]; exact h⟩
      case skip => exact ⟨keep a hy _, by rw [← Act.put_comm a v undef h2]; exact h⟩
      case defer d =>
        refine ⟨keep _ (keepD d) _, ?_⟩
        rw [← Act.put_comm _ v undef h2, ← Act.put_defers]
        exact h
      case enter f args =>
        refine ⟨h.1, CallsIn.mono h.2 fun e w'' he => ?_⟩
        cases e with
        | returned u => exact ⟨keep a hy u, by rw [← Act.put_comm a v u h2]; exact he⟩
        | panicked c => exact he
        | outgrown => exact he
      case row row args => exact ⟨h.1, RowsIn.mono h.2 fun u w'' he => ⟨keep a hy u, by rw [← Act.put_comm a v u h2]; exact he⟩⟩
      case round l f tmps assign body =>
        refine ⟨h.1, RoundIn.mono h.2 fun e w'' he => ?_⟩
        cases e with
        | returned u => exact ⟨keep a hy u, by rw [← Act.put_comm a v u h2]; exact he⟩
        | panicked c => exact he
        | outgrown => exact he
    | halt x w' =>
      cases x <;> simp only [Oper.uponIn] at h ⊢
      case panic u => exact h
  · rename_i hw
    simp only [hw] at h
    exact ⟨fun _ _ => trivial, keep a hy _, by rw [← Act.put_comm a v undef h2]; exact h.2⟩

/-- whatever order is picked till number m comes up; the class is kept -/
def wpAnyM (n : Nat) (P : Program) (md : Region.Mode) (ops : Array Oper) (C : World → Prop) (Q : Exit → Act → World → Prop) (m r : Nat) (QL : Act → World → Prop) : Nat → Array Bool → Act → World → Prop
  | 0, _, _, _ => False
  | fuel + 1, listed, a, w => Region.ready md ops listed ≠ [] ∧ ∀ i ∈ Region.ready md ops listed, if i = m then fuel = r ∧ QL a w else wpOpIn Fence.wide n P ops (OnlyQ Q) i (fun a' w' => C w' ∧ wpAnyM n P md ops C Q m r QL fuel (listed.setIfInBounds i true) a' w') a w

theorem wpAnyM_first {ops : List Oper} {QL : Act → World → Prop} {m r i : Nat} {oi : Oper} {v : Value} (hT : TailB md ops m) (him : i < m) (hi : ops.toArray[i]? = some oi) (hsel : ∀ (j : Nat) (o : Oper) cs b, ops.toArray[j]? = some o → o.op ≠ .select cs b) :
    ∀ (fuel : Nat) (listed : Array Bool) (a : Act) (w : World), C w → ShutL md ops.toArray listed →
      (∀ j oj, ops.toArray[j]? = some oj → j ≠ i → listed.getD j true = false → (∀ e ∈ oj.after, Region.binds md e = true → e.on ≠ i) → oi.apart ops.toArray oj = true) →
      i ∈ Region.ready md ops.toArray listed → YieldsC P ops.toArray C oi v a →
      wpAnyM n P md ops.toArray C Q m r QL fuel (listed.setIfInBounds i true) (a.put oi.dst v) w → wpAnyM n P md ops.toArray C Q m r QL (fuel + 1) listed a w := by
  intro fuel
  induction fuel with
  | zero => intro _ _ _ _ _ _ _ _ H; exact H.elim
  | succ fuel ih =>
    intro listed a w hC hS hfree hr hy H
    refine ⟨fun h => (by rw [h] at hr; cases hr), fun j hj => ?_⟩
    by_cases hji : j = i
    · subst hji
      rw [if_neg (by omega)]
      exact hy.wpOpIn hi hC ⟨hC, H⟩
    · by_cases hjm : j = m
      · exfalso
        subst hjm
        have h1 := ShutL.all hT hS hj (j - i) i (by omega) (by omega)
        rw [getD_false_of (mem_ready.1 hr).1] at h1
        cases h1
      · rw [if_neg hjm]
        have h1 := H.2 j (ready_mono hj hji)
        rw [if_neg hjm] at h1
        obtain ⟨hjun, oj, hoj, hall⟩ := mem_ready.1 hj
        have hnot : ∀ e ∈ oj.after, Region.binds md e = true → e.on ≠ i := fun e he hb heq => by
          have h1 := hall e he hb
          rw [heq, getD_false_of (mem_ready.1 hr).1] at h1
          cases h1
        have h2 := wpOpIn_putC hoj (hfree j oj hoj hji hjun hnot) (fun cs b => hsel i oi cs b hi) (fun cs b => hsel j oj cs b hoj) hy h1
        have hfree' : ∀ k ok, ops.toArray[k]? = some ok → k ≠ i → (listed.setIfInBounds j true).getD k true = false →
            (∀ e ∈ ok.after, Region.binds md e = true → e.on ≠ i) → oi.apart ops.toArray ok = true := fun k ok hk hki hun hno => by
          refine hfree k ok hk hki ?_ hno
          by_cases hjk : j = k
          · subst hjk; exact hjun
          · rw [getD_set_ne true hjk] at hun; exact hun
        refine wpOpIn_mono (fun a' w' h3 => ⟨h3.2.1, ih (listed.setIfInBounds j true) a' w' h3.2.1 (hS.step hj) hfree' (ready_mono hr (Ne.symm hji)) h3.1 ?_⟩) h2
        rw [Array.setIfInBounds_comm _ _ hji]
        exact h3.2.2

/-- What has come up so far, and waits for nothing that has not, as a Bool. -/
def shutB (md : Region.Mode) (ops : List Oper) (listed : Array Bool) : Bool :=
  (List.range ops.length).all fun j => !listed.getD j false || ((ops[j]?).map fun o => o.after.toList.all fun e => !Region.binds md e || listed.getD e.on false).getD true
theorem shutB_spec {md : Region.Mode} {ops : List Oper} {listed : Array Bool} (h : shutB md ops listed = true) : ShutL md ops.toArray listed := by
  intro j o ho hl e he hb
  rw [List.getElem?_toArray] at ho
  have hjl := (List.getElem?_eq_some_iff.1 ho).1
  have h1 := List.all_eq_true.1 h j (List.mem_range.2 hjl)
  rw [hl, ho] at h1
  simp only [Bool.not_true, Bool.false_or, Option.map_some, Option.getD_some] at h1
  have h2 := List.all_eq_true.1 h1 e (Array.mem_toList_iff.2 he)
  rw [hb] at h2
  simpa using h2

/-- an operation taken first -/
theorem wpAnyM_take {ops : List Oper} {QL : Act → World → Prop} {m r fuel : Nat} (i : Nat) {oi : Oper} {v : Value} {listed : Array Bool} {a : Act} {w : World} (hT : TailB md ops m) (him : i < m) (hi : ops[i]? = some oi)
    (hB : (Region.noSelect ops.toArray && shutB md ops listed && Region.free md ops.toArray listed i && (Region.ready md ops.toArray listed).contains i) = true) (hC : C w) (hy : YieldsC P ops.toArray C oi v a)
    (h : wpAnyM n P md ops.toArray C Q m r QL fuel (listed.setIfInBounds i true) (a.put oi.dst v) w) : wpAnyM n P md ops.toArray C Q m r QL (fuel + 1) listed a w := by
  simp only [Bool.and_eq_true] at hB
  obtain ⟨⟨⟨hs, hsh⟩, hf⟩, hr⟩ := hB
  have hi' : ops.toArray[i]? = some oi := by rw [List.getElem?_toArray]; exact hi
  exact wpAnyM_first hT him hi' (Region.noSelect_spec hs) fuel listed a w hC (shutB_spec hsh) (Region.free_spec hi' hf) (by simpa using hr) hy h

/-- all that may come up -/
theorem wpAnyM_all {ops : List Oper} {QL : Act → World → Prop} {m r fuel : Nat} (rs : List Nat) {listed : Array Bool} {a : Act} {w : World} (hr : Region.ready md ops.toArray listed = rs) (hne : rs ≠ []) (hm : rs.contains m = false)
    (h : ∀ i ∈ rs, wpOpIn Fence.wide n P ops.toArray (OnlyQ Q) i (fun a' w' => C w' ∧ wpAnyM n P md ops.toArray C Q m r QL fuel (listed.setIfInBounds i true) a' w') a w) : wpAnyM n P md ops.toArray C Q m r QL (fuel + 1) listed a w := by
  refine ⟨fun h0 => hne (hr ▸ h0), fun i hi => ?_⟩
  rw [hr] at hi
  rw [if_neg (fun e => by subst e; rw [List.contains_iff_mem.2 hi] at hm; cases hm)]
  exact h i hi

/-- number m comes up -/
theorem wpAnyM_end {ops : List Oper} {QL : Act → World → Prop} {m r : Nat} {listed : Array Bool} {a : Act} {w : World} (hr : Region.ready md ops.toArray listed = [m]) (h : QL a w) : wpAnyM n P md ops.toArray C Q m r QL (r + 1) listed a w := by
  refine ⟨fun h0 => (by rw [hr] at h0; cases h0), fun i hi => ?_⟩
  rw [hr, List.mem_singleton] at hi
  rw [if_pos hi]
  exact ⟨rfl, h⟩

theorem wpAnyIn_of_M {ops : List Oper} {m r : Nat} (hT : TailB md ops m) (hmr : m + 1 + r = ops.length) : ∀ (fuel : Nat) (listed : Array Bool) (a : Act) (w : World), ShutL md ops.toArray listed → listed.size = ops.length →
    wpAnyM n P md ops.toArray C Q m r (fun a w => wpListIn Fence.wide n P ops.toArray (OnlyQ Q) (ops.drop m) a w) fuel listed a w → wpAnyIn Fence.wide n P md ops.toArray (OnlyQ Q) fuel listed a w
  | 0, _, _, _, _, _, h => h.elim
  | fuel + 1, listed, a, w, hS, hz, h => by
    by_cases hm : m ∈ Region.ready md ops.toArray listed
    · have h2 := h.2 m hm
      rw [if_pos rfl] at h2
      have hu := getD_false_of (mem_ready.1 hm).1
      have hall := ShutL.all hT hS hm
      have hnone := ShutL.none hT hS hu
      have he : listed = upTo ops.length m := by
        apply Array.ext
        · simp [upTo, hz]
        · intro i h3 h4
          simp only [upTo, List.getElem_toArray, List.getElem_map, List.getElem_range]
          have hg : listed.getD i false = listed[i] := by simp [Array.getD, h3]
          by_cases him : i < m
          · rw [← hg, hall (m - i) i (by omega) (by omega)]
            simp [him]
          · have := hnone (i - m) (by omega)
            rw [show m + (i - m) = i by omega] at this
            rw [← hg, this]
            simp [him]
      rw [he]
      exact wpAnyIn_tail hT (fuel + 1) m a w (Nat.le_refl _) (by omega) h2.2
    · refine ⟨fun h0 => (h.1 h0).elim, fun i hi => ?_⟩
      have h2 := h.2 i hi
      rw [if_neg (fun (e : i = m) => hm (by rw [← e]; exact hi))] at h2
      exact wpOpIn_mono (fun a' w' h3 => wpAnyIn_of_M hT hmr fuel _ a' w' (hS.step hi) (by simpa using hz) h3.2) h2

/-- THE RULE, in a round of a range over a function. -/
theorem wpIn_region_mix_round {id : Nat} {a : Act} {w : World} {ops : List Oper} (C : World → Prop) (l m r : Nat) (hm : P.follows .mixedOrders = true) (hd : noDefer ops = true) (hT : tailB .any ops m = true) (hmr : m + 1 + r = ops.length)
    (h : TailB .any ops m → wpAnyM n P .any ops.toArray C Q m r (fun a w => wpListIn Fence.wide n P ops.toArray (OnlyQ Q) (ops.drop m) a w) ops.length (Array.replicate ops.length false) a { w with drawn := w.drawn + 1 }) : (Code.region id ops.toArray true).wpIn (Fence.wide.inRound l) n P Q a w := by
  have hT' := tailB_spec hT
  refine wpIn_mono (wpIn_region_any (Q := OnlyQ Q) hm (wpAnyIn_round l hd _ _ _ _ ?_)) (fun e a w h => OnlyQ.le e a w h)
  rw [List.size_toArray]
  exact wpAnyIn_of_M hT' hmr _ _ _ _ (ShutL.start _ _ _) (by simp) (h hT')

end
end Go.Proofs.Ytnnaijbdimdhpaa
