/-
  tally.Slots: what holds between the rounds of the second range.
-/
import Derived.Test.YtnnaijbdimdhpaaTlyTwo
import Derived.Test.YtnnaijbdimdhpaaTly25
namespace Go.Proofs.Ytnnaijbdimdhpaa
open Go.RowKit Go.Shelf
set_option linter.unusedVariables false

/-- what stands in Slots' boxes, and the counts -/
structure SlI (w : World) (n k : Nat) (L : List Nat) (V : World) : Prop where
  i1 : V.heap[w.heap.size]? = some (.cells #[.int .i64 n] 3 (0, 0))
  i2 : V.heap[w.heap.size + 1]? = some (.cells #[.int .i64 k] 3 (0, 0))
  i3 : V.heap[w.heap.size + 1 + 1]? = some (.cells (u64s (cnt 64 L)).toArray 87 (0, 0))
  i4 : Below w.heap.size w V

/-- and the rows of sets and of counts -/
structure SlJ (w : World) (n k : Nat) (L : List Nat) (K D B : Nat) (S : List Nat) (X : World) : Prop where
  i : SlI w n k L X
  kk : X.heap[K]? = some (.deferred (some []))
  box : ∃ v1 v2, X.heap[D]? = some (.cells #[v1] 24 (0, 0)) ∧ X.heap[D + 1]? = some (.cells #[v2] 24 (0, 0)) ∧ TwoU B X v1 v2 S.length S.length (u64s (castL S)) (u64s (castL (S.map fun s => L.count s)))

theorem SlI.low {w V X : World} {n k B : Nat} {L : List Nat} (h : SlI w n k L V) (hw : w.heap.size + 1 + 1 < B) (hb : Below B V X) : SlI w n k L X :=
  ⟨(hb.block _ (by omega)).trans h.i1, (hb.block _ (by omega)).trans h.i2, (hb.block _ (by omega)).trans h.i3, h.i4.trans (hb.mono (by omega))⟩

theorem SlJ.low {w X Y : World} {n k K D B : Nat} {L : List Nat} {S : List Nat} (h : SlJ w n k L K D B S X) (hw : w.heap.size + 1 + 1 < K) (hK : K < D) (hD : D + 1 < B) (hb : Below X.heap.size X Y) (hX : B ≤ X.heap.size) : SlJ w n k L K D B S Y := by
  obtain ⟨v1, v2, h1, h2, h3⟩ := h.box
  exact ⟨h.i.low (by omega) hb, (hb.block _ (by omega)).trans h.kk, v1, v2, (hb.block _ (by omega)).trans h1, (hb.block _ (by omega)).trans h2, h3.kept fun g _ hg => hb.block g hg⟩

theorem castL_snoc (S : List Nat) (x : Nat) : u64s (castL (S ++ [x])) = u64s (castL S) ++ [.int .u64 (x : Int)] := by simp [castL, u64s]

/-- a round that tells one set more -/
theorem slJ_more {w X Y : World} {n k K D B s : Nat} {L S : List Nat} {v1 v2 : Value} (h : SlJ w n k L K D B S X) (hw : w.heap.size + 1 + 1 < K) (hK : K < D) (hD : D + 1 < B) (hb : Below B X Y)
    (hT : TwoU B Y v1 v2 (S.length + 1) (S.length + 1) (u64s (castL S) ++ [.int .u64 (s : Int)]) (u64s (castL (S.map fun s => L.count s)) ++ [.int .u64 (L.count s : Int)])) :
    SlJ w n k L K D B (S ++ [s]) ((Y.setCell ⟨D, 0, none⟩ v1).setCell ⟨D + 1, 0, none⟩ v2) := by
  obtain ⟨u1, u2, h1, h2, h3⟩ := h.box
  have hk : ∀ b, b ≠ D → b ≠ D + 1 → ((Y.setCell ⟨D, 0, none⟩ v1).setCell ⟨D + 1, 0, none⟩ v2).heap[b]? = Y.heap[b]? := fun b hb1 hb2 => (Below.heap_setCell _ _ _ _ hb2).trans (Below.heap_setCell _ _ _ _ hb1)
  have hI := h.i.low (by omega) hb
  have hw2 := hI.i1
  refine ⟨⟨(hk _ (by omega) (by omega)).trans hI.i1, (hk _ (by omega) (by omega)).trans hI.i2, (hk _ (by omega) (by omega)).trans hI.i3, ?_⟩, (hk _ (by omega) (by omega)).trans ((hb.block _ (by omega)).trans h.kk), v1, v2, ?_, ?_, ?_⟩
  · exact (hI.i4.setCell (by show w.heap.size ≤ D; omega) _).setCell (by show w.heap.size ≤ D + 1; omega) _
  · refine (Below.heap_setCell _ _ _ _ (by show D ≠ D + 1; omega)).trans ?_
    rw [set_of ((hb.block _ (by omega)).trans h1) 0 v1]
    rfl
  · rw [set_of ((Below.heap_setCell _ _ _ _ (by show D + 1 ≠ D; omega)).trans ((hb.block _ (by omega)).trans h2)) 0 v2]
    rfl
  · rw [List.map_append, List.map_cons, List.map_nil, castL_snoc, castL_snoc, List.length_append, List.length_cons, List.length_nil]
    exact hT.kept fun g hg _ => hk g (by omega) (by omega)

/-- what the first q digits tell -/
def bitsP (l : List Int) (q : Nat) : Nat × Nat := ((List.range q).map fun i => (i, l.getD i 0)).foldl bitsF (0, 0)
theorem bitsP_succ (l : List Int) (q : Nat) : bitsP l (q + 1) = bitsF (bitsP l q) (q, l.getD q 0) := by simp [bitsP, List.range_succ, List.foldl_append]
theorem bitsP_end (l : List Int) : bitsP l l.length = bitsN l := rfl
/-- the sets told so far -/
def told (k : Nat) (pre : List (List Int)) : List Nat := (pre.filter fun l => (bitsN l).2 == k).map fun l => (bitsN l).1
theorem told_yes {k : Nat} {pre : List (List Int)} {l : List Int} (h : (bitsN l).2 = k) : told k (pre ++ [l]) = told k pre ++ [(bitsN l).1] := by simp [told, List.filter_append, h]
theorem told_no {k : Nat} {pre : List (List Int)} {l : List Int} (h : (bitsN l).2 ≠ k) : told k (pre ++ [l]) = told k pre := by simp [told, List.filter_append, h]
theorem told_len (k : Nat) (pre : List (List Int)) : (told k pre).length ≤ pre.length := by rw [told, List.length_map]; exact List.length_filter_le _ _

end Go.Proofs.Ytnnaijbdimdhpaa
