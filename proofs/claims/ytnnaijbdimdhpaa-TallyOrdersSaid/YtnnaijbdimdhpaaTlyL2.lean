/-
  The iterator that tally.lists gives, and that its blocks are laid when a round begins.
-/
import Derived.Test.YtnnaijbdimdhpaaTly1
namespace Go.Proofs.Ytnnaijbdimdhpaa
open Go.RowKit Go.Shelf
set_option linter.unusedVariables false
attribute [local go_sem] Oper.semAt_some

set_option maxRecDepth 100000 in
set_option maxHeartbeats 2000000 in
/-- the iterator that tally.lists gives -/
theorem lists_gives2 (Lb k : Nat) (limv : Value) (lims : List Int) (w : World) (hlen : lims.length = k) (hk : k ≤ 100000) (hpos : ∀ n ∈ lims, 0 ≤ n ∧ n < 18446744073709551616) (hLb : w.cell? ⟨Lb, 0, none⟩ = some limv) (hrd : Rd w 1 limv k (u64s lims))
    (hlv : ∀ b, sBlk limv = some b → b < w.heap.size) :
    GivesOwn Try.prog 77 #[.pointer (some ⟨Lb, 0, none⟩)] (fun (_ : List Int) s => .slice (some ⟨s + 1, 0, none⟩) k k) (fun x s W => Rd W 1 (.slice (some ⟨s + 1, 0, none⟩) k k) k (u64s x) ∧ s + 4 ≤ W.heap.size) (allL lims) 4 (fun b => b = Lb ∨ sBlk limv = some b) w := by
  intro l J W hW hJ hY h0
  have hLs : Lb < w.heap.size := World.block_lt_of_cell? _ _ hLb
  have hsz := hW.size
  have hkp : ∀ b, (b = Lb ∨ sBlk limv = some b) → b < w.heap.size := fun b hb => hb.elim (fun e => e ▸ hLs) (hlv b)
  obtain ⟨sa, cap, hlim⟩ := hrd.form
  have hcap : k ≤ cap := by rw [hlim] at hrd; exact hrd.cap_le.1
  obtain ⟨fv, hfv⟩ : ∃ fv, fv = Value.func (.func 78) #[] #[.pointer (some ⟨W.heap.size + 2, 0, none⟩), .pointer (some ⟨W.heap.size, 0, none⟩), .pointer (some ⟨Lb, 0, none⟩), .pointer (some ⟨W.heap.size + 3, 0, none⟩)] := ⟨_, rfl⟩
  have hlb0 : W.cell? ⟨Lb, 0, none⟩ = some limv := cell_same hLb (hW.block _ hLs)
  subst hlim
  have hlb1 : ∀ o, (W.alloc o).cell? ⟨Lb, 0, none⟩ = some (.slice sa k cap) := fun o => cell_same hlb0 (Below.heap_alloc _ _ _ (by omega))
  have hfin : ∀ W5, W5 = (((W.alloc (.cells #[.func (.yield l) #[] #[]] 115)).alloc (.cells (u64s (List.replicate k 0)).toArray 22)).alloc (.cells #[.slice (some ⟨W.heap.size + 1, 0, none⟩) k k] 24)).alloc (.cells #[fv] 116) →
      CallsIn Fence.wide 0 Try.prog 78 #[.int .i64 0, .pointer (some ⟨W.heap.size + 1 + 1, 0, none⟩), .pointer (some ⟨W.heap.size, 0, none⟩), .pointer (some ⟨Lb, 0, none⟩), .pointer (some ⟨W.heap.size + 1 + 1 + 1, 0, none⟩)] W5 fun e W' => e = .returned (.bool true) ∧ J (allL lims) W' := by
    intro W5 h5
    obtain ⟨W1, e1, s1, n1, k1⟩ := alloc_facts W (.cells #[.func (.yield l) #[] #[]] 115)
    obtain ⟨W2, e2, s2, n2, k2⟩ := alloc_facts W1 (.cells (u64s (List.replicate k 0)).toArray 22)
    obtain ⟨W3, e3, s3, n3, k3⟩ := alloc_facts W2 (.cells #[.slice (some ⟨W.heap.size + 1, 0, none⟩) k k] 24)
    obtain ⟨W4, e4, s4, n4, k4⟩ := alloc_facts W3 (.cells #[fv] 116)
    rw [← e1, ← e2, ← e3, ← e4] at h5
    subst h5
    rw [s1] at n2
    rw [s2, s1] at n3
    rw [s3, s2, s1] at n4
    have hc : Chg (fun b => W.heap.size ≤ b ∧ b < W.heap.size + 4) W W5 := by
      rw [e4, e3, e2, e1]
      exact (((Chg.refl _ W).alloc _).alloc _).alloc _ |>.alloc _
    have kw : ∀ b, b < W.heap.size → W5.heap[b]? = W.heap[b]? := fun b hb => hc.block b hb (by omega)
    have hF : LF l W.heap.size Lb k (.slice sa k cap) lims W5 := by
      refine ⟨cell0_of ((k4 _ (by omega)).trans ((k3 _ (by omega)).trans ((k2 _ (by omega)).trans n1))), cell0_of ((k4 _ (by omega)).trans n3), ?_, cell_same hlb0 (kw _ (by omega)), ?_⟩
      · rw [cell0_of n4, hfv]
      · exact hrd.keep fun b hb _ => (kw _ (by have := hlv b hb; omega)).trans (hW.block _ (hlv b hb))
    have hR : LRow W.heap.size k (List.replicate k 0) W5 := ⟨by simp, (k4 _ (by omega)).trans ((k3 _ (by omega)).trans n2)⟩
    have hs5 : W.heap.size + 4 ≤ W5.heap.size := by rw [s4, s3, s2, s1]; omega
    have := at_any l W.heap.size Lb k (.slice sa k cap) lims (allL lims) (fun pre X => J pre X ∧ W.heap.size + 4 ≤ X.heap.size) hlen hk hpos (by omega) (fun b hb => by have := hlv b hb; omega)
      (fun pre A B h hc => ⟨hJ _ _ _ h.1 hc, Nat.le_trans h.2 hc.size⟩)
      (fun pre x W1 h hp hrd => by
        obtain ⟨fn, tmps, assign, body, hy, hR⟩ := hY pre x W1 h.1 hp ⟨hrd, h.2⟩
        refine ⟨fn, tmps, assign, body, hy, hR.mono ?_⟩
        rintro e W' ⟨he, hj, hs, hb⟩
        exact ⟨he, ⟨hj, Nat.le_trans h.2 hs⟩, hs, hb⟩)
      k 0 [] [] (List.replicate k 0) W5 (by omega) rfl hF hR rfl ⟨hJ _ _ _ h0 hc, hs5⟩ (by simp)
    refine this.mono ?_
    rintro e W' ⟨he, hj, _⟩
    exact ⟨he, by simpa using hj.1⟩
  subst hfv
  refine callsIn_of_wp Try.func77 rfl trivial ?_ rfl
  simp only [Try.ntmps77, List.size_toArray, List.length_cons, List.length_nil, Nat.reduceAdd, Nat.reduceSub, Array.replicate_succ, Array.replicate_zero, List.push_toArray, List.append_toArray, List.nil_append, List.cons_append]
  gi_wp2_with (first
    | (gi_at_make; refine mkIn_u64 _ rfl _ _ rfl .i64 .i64 k rfl rfl (by omega) ?_)
    | ((try refine ⟨trivial, ?_⟩); (try refine ⟨rfl, ?_⟩); refine (hfin _ rfl).mono ?_; rintro e W' ⟨rfl, hj'⟩))
  go_end0
  exact ⟨⟨_, rfl⟩, hj'⟩

end Go.Proofs.Ytnnaijbdimdhpaa
