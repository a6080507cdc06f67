/-
  A slice of structs of three numbers that came in, as a list.
-/
import Derived.Test.YtamjhblhkabpaaaHandOnce
import Derived.Deep.Slices
import Derived.Deep.Fields
import Derived.ChangeSame
namespace Go.Proofs.Ytamjhblhkabpaaa
open Go.RowKit Go.ChangeShapes Go.WideShapes Go.Deep
set_option linter.unusedVariables false

section
variable {H : Type} {enc : TypeId × Value → H} {P : Program} {w : World} {base : Nat} {spare : Nat → Bool} {held : Bool}
/-- (extra-structs.md's law, turned to what is wanted here.) -/
theorem open_fields {t e : TypeId} {fs : Array Field} {fuel : Nat} {cs : List Value} {x : DataW H × List MemPlace} (ht : P.underlying t = some (.slice e)) (he : P.underlying e = some (.struct fs))
    (hone : oneCellFields P fs = true) (hC : P.cellsOf e = fs.size) (h : DataW.trod enc P w base spare held fuel t cs = some x) :
    (cs = [.slice none 0 0]) ∨
    ∃ (a : Addr) (len cap : Nat), cs = [.slice (some a) len cap] ∧ len ≤ cap ∧ cap ≤ maxLen ∧
      ∀ i, i < len → ∀ (j : Nat) (f : Field), fs[j]? = some f → ∃ (v : Value) (y : DataW H × List MemPlace) (n : Nat), w.cell? (a.add (i * fs.size + j)) = some v ∧ DataW.trod enc P w base spare held n f.type [v] = some y := by
  rcases open_slice ht h with h0 | ⟨a, len, cap, m, n, D, Pl, hcs, hb, hl, hm, hmm, hx, hi⟩
  · exact .inl h0.1
  · refine .inr ⟨a, len, cap, hcs, hl, hm, fun i hil j f hj => ?_⟩
    have him : i < m := by rw [hmm]; split <;> omega
    obtain ⟨cs', hc, ht'⟩ := hi i him
    rw [hC] at hc
    obtain ⟨ys, n', hn', hy, hlen, hyl, hf⟩ := DataW.trod_struct he ht'
    obtain ⟨_, hcl, hat⟩ := World.cells?_some hc
    obtain ⟨ho, hk⟩ := hone_of hone j f hj
    have hjl : j < fs.size := (Array.getElem?_eq_some_iff.1 hj).1
    have hcell := hat j hjl
    have hv : cs'[j]? = some (cs'[j]'(by omega)) := List.getElem?_eq_getElem (by omega)
    have h1 := hf j f hj
    rw [ho, hk] at h1
    have hone' : (cs'.drop j).take 1 = [cs'[j]'(by omega)] := by
      rw [List.drop_eq_getElem_cons (by omega)]
      rfl
    rw [hone'] at h1
    have hys : ys[j]? = some (ys[j]'(by omega)) := List.getElem?_eq_getElem (by omega)
    refine ⟨_, _, _, ?_, h1.trans hys⟩
    rw [← Go.Deep.add_add, hcell, hv]
end

theorem ops_list {w : World} {b off : Nat} : ∀ len : Nat, (∀ i, i < len → ∃ p : Opp, (w.cell? ⟨b, off + i * 3, none⟩ = some (.int .i64 p.1) ∧ w.cell? ⟨b, off + (i * 3 + 1), none⟩ = some (.int .u64 p.2.1) ∧ w.cell? ⟨b, off + (i * 3 + 2), none⟩ = some (.int .i64 p.2.2)) ∧ 0 ≤ p.2.1 ∧ p.2.1 ≤ 18446744073709551615) →
    ∃ ops : List Opp, ops.length = len ∧ OpsOk ops ∧ ∀ i u, (opC ops)[i]? = some u → w.cell? ⟨b, off + i, none⟩ = some u
  | 0, _ => ⟨[], rfl, fun i hi => by simp at hi, fun i u hu => by simp [opC] at hu⟩
  | len + 1, h => by
    obtain ⟨ops, h1, h2, h3⟩ := ops_list len (fun i hi => h i (by omega))
    obtain ⟨p, ⟨c0, c1, c2⟩, hp0, hp1⟩ := h len (by omega)
    have hap : opC (ops ++ [p]) = opC ops ++ op3 p := by
      have : ∀ a b : List Opp, opC (a ++ b) = opC a ++ opC b := by
        intro a b
        induction a with
        | nil => rfl
        | cons x a ih => simp only [List.cons_append, opC, ih, List.append_assoc]
      rw [this]; simp [opC]
    refine ⟨ops ++ [p], by simp [h1], fun i hi => ?_, fun i u hu => ?_⟩
    · by_cases hil : i < ops.length
      · have := h2 i hil
        simpa [List.getD, List.getElem?_append_left hil] using this
      · have : i = ops.length := by simp at hi; omega
        subst this
        simpa [List.getD] using ⟨hp0, hp1⟩
    · rw [hap] at hu
      have hl : (opC ops).length = len * 3 := by rw [opC_len, h1]
      by_cases hil : i < len * 3
      · rw [List.getElem?_append_left (by omega)] at hu
        exact h3 i u hu
      · rw [List.getElem?_append_right (by omega), hl] at hu
        have hj : i - len * 3 < 3 := by
          have := (List.getElem?_eq_some_iff.1 hu).1
          simpa [op3] using this
        rcases (by omega : i = len * 3 ∨ i = len * 3 + 1 ∨ i = len * 3 + 2) with rfl | rfl | rfl
        · rw [Nat.sub_self] at hu; simp [op3] at hu; rw [← hu]; exact c0
        · rw [show len * 3 + 1 - len * 3 = 1 by omega] at hu; simp [op3] at hu; rw [← hu]; exact c1
        · rw [show len * 3 + 2 - len * 3 = 2 by omega] at hu; simp [op3] at hu; rw [← hu]; exact c2

theorem wf_u64_of {n : Int} (h : (Lit.int .u64 n).wf = true) : 0 ≤ n ∧ n ≤ 18446744073709551615 := by
  unfold Lit.wf at h
  rw [Bool.and_eq_true, decide_eq_true_iff, decide_eq_true_iff] at h
  have h1 : IntKind.u64.min = 0 := by decide
  have h2 : IntKind.u64.max = 18446744073709551615 := by decide
  rw [h1, h2] at h
  exact h

/-- ops that came in -/
theorem ops_of_raw {H : Type} {enc : TypeId × Value → H} {w : World} {base : Nat} {spare : Nat → Bool} {held : Bool} {a : Option Addr} {len cap : Nat} {d : DataW H} {p : List MemPlace}
    (h : DataW.Trod enc Try.prog w base spare held 22 (.slice a len cap) d p) :
    ∃ ops, Rd w 3 (.slice a len cap) len (opC ops) ∧ OpsOk ops := by
  obtain ⟨fuel, hf⟩ := h
  rcases open_fields Try.underlying22 Try.underlying30 (by kernel_rfl) (by kernel_rfl) hf with hcs | ⟨x, l, c, hcs, hl, hm, hcell⟩
  · simp [Value.cells] at hcs
    obtain ⟨rfl, rfl, rfl⟩ := hcs
    exact ⟨[], Rd.nil _ _, fun i hi => by simp at hi⟩
  · simp [Value.cells] at hcs
    obtain ⟨rfl, rfl, rfl⟩ := hcs
    by_cases h0 : 0 < len
    · have hsp : x.spot = none := by
        obtain ⟨v, y, n, hc, -⟩ := hcell 0 h0 0 _ rfl
        have hx : x.add (0 * 3 + 0) = x := by simp [Addr.add]
        have hc' : w.cell? x = some v := by rw [← hx]; exact hc
        cases hs : x.spot with
        | none => rfl
        | some q =>
          unfold World.cell? at hc'
          split at hc'
          · rw [hs] at hc'; simp at hc'
          · cases hc'
      obtain ⟨b, off, sp⟩ := x
      obtain rfl : sp = none := hsp
      obtain ⟨ops, g1, g2, g3⟩ := ops_list (w := w) (b := b) (off := off) len (fun i hi => by
        obtain ⟨v0, y0, n0, c0, t0⟩ := hcell i hi 0 _ rfl
        obtain ⟨v1, y1, n1, c1, t1⟩ := hcell i hi 1 _ rfl
        obtain ⟨v2, y2, n2, c2, t2⟩ := hcell i hi 2 _ rfl
        obtain ⟨k0, e0, -, -⟩ := DataW.trod_int Try.underlying3 t0
        obtain ⟨k1, e1, -, w1⟩ := DataW.trod_int Try.underlying28 t1
        obtain ⟨k2, e2, -, -⟩ := DataW.trod_int Try.underlying3 t2
        simp only [List.cons.injEq, and_true] at e0 e1 e2
        subst e0; subst e1; subst e2
        rw [Addr.add_lit] at c0 c1 c2
        exact ⟨(k0, k1, k2), ⟨c0, c1, c2⟩, wf_u64_of w1⟩)
      refine ⟨ops, ⟨by rw [opC_len, g1], by omega, _, _, rfl, hl, .inr ⟨b, off, rfl, g3⟩⟩, g2⟩
    · obtain rfl : len = 0 := by omega
      exact ⟨[], ⟨rfl, Nat.zero_le _, _, _, rfl, hl, .inl rfl⟩, fun i hi => by simp at hi⟩

end Go.Proofs.Ytamjhblhkabpaaa
