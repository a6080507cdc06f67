/-
  Tables by their handles: the list of places that the law keeps beside the table; the handles of what is in, rising.
-/
import Derived.Test.YtamjhblhkabpaaaHand2
import Derived.Test.YtamjhblhkabpaaaHandOnce
import Derived.Test.YtamjhblhkabpaaaBs
namespace Go.Proofs.Ytamjhblhkabpaaa
open Go.RowKit
set_option linter.unusedVariables false
set_option linter.unusedSimpArgs false

/-- h is the handle of something that is in -/
def InH (ps : List Plc) (h : Int) : Prop := ∃ i : Nat, i < ps.length ∧ (ps.getD i plZ).1 = true ∧ h = 16 * (ps.getD i plZ).2.1 + (i : Int)
/-- the handles of all that is in, rising -/
structure Hs (ps : List Plc) (L : List Int) : Prop where
  asc : L.Pairwise (· < ·)
  mem : ∀ h, h ∈ L ↔ InH ps h
theorem asc_nodup {L : List Int} (h : L.Pairwise (· < ·)) : L.Nodup := h.imp fun hab => by omega
theorem asc_ext : ∀ {a b : List Int}, a.Pairwise (· < ·) → b.Pairwise (· < ·) → (∀ x, x ∈ a ↔ x ∈ b) → a = b
  | [], [], _, _, _ => rfl
  | [], y :: b, _, _, h => by have := (h y).2 (by simp); simp at this
  | x :: a, [], _, _, h => by have := (h x).1 (by simp); simp at this
  | x :: a, y :: b, ha, hb, h => by
    rw [List.pairwise_cons] at ha hb
    have hxy : x = y := by
      have h1 := (h x).1 (by simp)
      have h2 := (h y).2 (by simp)
      rw [List.mem_cons] at h1 h2
      rcases h1 with h1 | h1
      · exact h1
      · rcases h2 with h2 | h2
        · exact h2.symm
        · have := ha.1 y h2
          have := hb.1 x h1
          omega
    subst hxy
    congr 1
    refine asc_ext ha.2 hb.2 fun z => ?_
    have hz := h z
    rw [List.mem_cons, List.mem_cons] at hz
    constructor
    · intro hm
      have := ha.1 z hm
      rcases hz.1 (.inr hm) with h1 | h1
      · omega
      · exact h1
    · intro hm
      have := hb.1 z hm
      rcases hz.2 (.inr hm) with h1 | h1
      · omega
      · exact h1

/-- the table and the list: alike but for what stands where nothing is in -/
structure Sim (ps ls : List Plc) : Prop where
  len : ls.length = ps.length
  isin : ∀ i, i < ps.length → (ls.getD i plZ).1 = (ps.getD i plZ).1
  times : ∀ i, i < ps.length → (ls.getD i plZ).2.1 = (ps.getD i plZ).2.1
  what : ∀ i, i < ps.length → (ps.getD i plZ).1 = true → (ls.getD i plZ).2.2 = (ps.getD i plZ).2.2
theorem Sim.refl (ps : List Plc) : Sim ps ps := ⟨rfl, fun _ _ => rfl, fun _ _ => rfl, fun _ _ _ => rfl⟩
theorem Sim.inH {ps ls : List Plc} (h : Sim ps ls) (x : Int) : InH ls x ↔ InH ps x := by
  constructor
  · rintro ⟨i, hi, h1, h2⟩
    rw [h.len] at hi
    exact ⟨i, hi, by rw [← h.isin i hi]; exact h1, by rw [← h.times i hi]; exact h2⟩
  · rintro ⟨i, hi, h1, h2⟩
    exact ⟨i, by rw [h.len]; exact hi, by rw [h.isin i hi]; exact h1, by rw [h.times i hi]; exact h2⟩
theorem Hs.uniq {ps ls : List Plc} (h : Sim ps ls) {L L' : List Int} (a : Hs ps L) (b : Hs ls L') : L' = L :=
  asc_ext b.asc a.asc fun x => (b.mem x).trans ((h.inH x).trans (a.mem x).symm)
theorem Sim.set {ps ls : List Plc} (h : Sim ps ls) {i : Nat} (hi : i < ps.length) (p q : Plc) (h1 : q.1 = p.1) (h2 : q.2.1 = p.2.1) (h3 : p.1 = true → q.2.2 = p.2.2) : Sim (ps.set i p) (ls.set i q) := by
  have hil : i < ls.length := by rw [h.len]; exact hi
  refine ⟨by simp [h.len], fun j hj => ?_, fun j hj => ?_, fun j hj => ?_⟩
  · rw [List.length_set] at hj
    rw [set_getD _ _ _ _ hi, set_getD _ _ _ _ hil]
    by_cases e : i = j
    · rw [if_pos e, if_pos e]; exact h1
    · rw [if_neg e, if_neg e]; exact h.isin j hj
  · rw [List.length_set] at hj
    rw [set_getD _ _ _ _ hi, set_getD _ _ _ _ hil]
    by_cases e : i = j
    · rw [if_pos e, if_pos e]; exact h2
    · rw [if_neg e, if_neg e]; exact h.times j hj
  · rw [List.length_set] at hj
    rw [set_getD _ _ _ _ hi, set_getD _ _ _ _ hil]
    by_cases e : i = j
    · rw [if_pos e, if_pos e]; exact h3
    · rw [if_neg e, if_neg e]; exact h.what j hj

/-- what a handle finds: the place, if any -/
theorem plOf_of {ps : List Plc} (hR : ps.length ≤ 16) {h : Int} {i : Nat} (hi : i < ps.length) (h1 : (ps.getD i plZ).1 = true) (h2 : 16 * (ps.getD i plZ).2.1 + (i : Int) = h) : plOf ps h = some i := by
  have e : h % 16 = (i : Int) := by omega
  unfold plOf
  rw [e, Int.toNat_natCast, if_pos ⟨hi, h1, h2⟩]
theorem plOf_some {ps : List Plc} {h : Int} {i : Nat} (hp : plOf ps h = some i) : i < ps.length ∧ (ps.getD i plZ).1 = true ∧ 16 * (ps.getD i plZ).2.1 + (i : Int) = h := by
  unfold plOf at hp
  split at hp
  · rename_i hc
    obtain ⟨a, b, c⟩ := hc
    injection hp with hp
    have e : h % 16 = (i : Int) := by omega
    rw [hp] at a b c
    exact ⟨a, b, by omega⟩
  · cases hp

/-- a store into a row of the call's own, of cells -/
theorem row_put {w : World} {B : Nat} {e : TypeId} {sz g n cap : Nat} {xs : List Value} (h : w.ownsRow B e sz (.slice (some ⟨g, 0, none⟩) n cap) n xs) (o : Nat) (u : Value) :
    (w.setCell ⟨g, o, none⟩ u).ownsRow B e sz (.slice (some ⟨g, 0, none⟩) n cap) n (xs.set o u) := by
  refine ⟨by rw [List.length_set]; exact h.1, ?_⟩
  rcases h.2 with ⟨h0, _⟩ | ⟨g', cap', cur, hv, hb, hg, hc, hm, hs, ht⟩
  · cases h0
  · cases hv
    refine .inr ⟨g, cap, cur.setIfInBounds o u, rfl, hb, set_of hg o u, hc, hm, by simpa using hs, ?_⟩
    rw [← ht]
    simp only [Array.toList_setIfInBounds]
    rw [List.take_set]
theorem list_set_same {l : List Value} {j : Nat} {x : Value} (h : l[j]? = some x) : l.set j x = l := by
  apply List.ext_getElem?
  intro k
  rw [List.getElem?_set]
  by_cases e : j = k
  · subst e
    rw [if_pos rfl, if_pos (List.getElem?_eq_some_iff.1 h).1, h]
  · rw [if_neg e]

/-- the reference's list of places -/
structure RefAt (B : Nat) (w : World) (lb cap : Nat) (ls : List Plc) : Prop where
  row : w.ownsRow B 47 3 (.slice (some ⟨lb, 0, none⟩) ls.length cap) ls.length (plC ls)
  pos : 1 ≤ ls.length
  le : ls.length ≤ 16
theorem RefAt.kept {B : Nat} {w w' : World} {lb cap : Nat} {ls : List Plc} (h : RefAt B w lb cap ls) (hk : w'.heap[lb]? = w.heap[lb]?) : RefAt B w' lb cap ls :=
  ⟨row_kept h.row fun b hb => by cases hb; exact hk, h.pos, h.le⟩
theorem RefAt.block {B : Nat} {w : World} {lb cap : Nat} {ls : List Plc} (h : RefAt B w lb cap ls) : B ≤ lb ∧ lb < w.heap.size ∧ ∀ i, w.frozen? ⟨lb, i, none⟩ = false := by
  rcases h.row.2 with ⟨h0, _⟩ | ⟨g', cap', cur, hv, hb, hg, _⟩
  · cases h0
  · cases hv
    exact ⟨hb, block_lt hg, fun i => frozen_of hg i⟩
theorem RefAt.below {B : Nat} {w w' : World} {lb cap : Nat} {ls : List Plc} (h : RefAt B w lb cap ls) (hb : Below w.heap.size w w') : RefAt B w' lb cap ls := h.kept (hb.block lb h.block.2.1)
theorem RefAt.at {B : Nat} {w : World} {lb cap : Nat} {ls : List Plc} (h : RefAt B w lb cap ls) {i : Nat} (hi : i < ls.length) :
    w.cell? ⟨lb, i * 3, none⟩ = some (.bool (ls.getD i plZ).1) ∧ w.cell? ⟨lb, i * 3 + 1, none⟩ = some (.int .u64 (ls.getD i plZ).2.1) ∧ w.cell? ⟨lb, i * 3 + 2, none⟩ = some (.int .i64 (ls.getD i plZ).2.2) := by
  obtain ⟨a, b, c⟩ := plC_at ls i hi
  obtain ⟨b', off, hsa, hcell⟩ := (rd_of_row h.row).at h.pos
  cases hsa
  have e : ∀ j, 0 + j = j := fun j => Nat.zero_add j
  have h1 := hcell _ _ a
  have h2 := hcell _ _ b
  have h3 := hcell _ _ c
  rw [e] at h1 h2 h3
  exact ⟨h1, h2, h3⟩
theorem RefAt.set {B : Nat} {w : World} {lb cap : Nat} {ls : List Plc} (h : RefAt B w lb cap ls) {i : Nat} (hi : i < ls.length) (q : Plc) :
    RefAt B (((w.setCell ⟨lb, i * 3, none⟩ (.bool q.1)).setCell ⟨lb, i * 3 + 1, none⟩ (.int .u64 q.2.1)).setCell ⟨lb, i * 3 + 2, none⟩ (.int .i64 q.2.2)) lb cap (ls.set i q) := by
  have hr := row_put (row_put (row_put h.row (i * 3) (.bool q.1)) (i * 3 + 1) (.int .u64 q.2.1)) (i * 3 + 2) (.int .i64 q.2.2)
  rw [← plC_set _ _ _ hi] at hr
  refine ⟨by rw [List.length_set]; exact hr, by rw [List.length_set]; exact h.pos, by rw [List.length_set]; exact h.le⟩
theorem RefAt.set0 {B : Nat} {w : World} {lb cap : Nat} {ls : List Plc} (h : RefAt B w lb cap ls) {i : Nat} (hi : i < ls.length) (b : Bool) :
    RefAt B (w.setCell ⟨lb, i * 3, none⟩ (.bool b)) lb cap (ls.set i (b, (ls.getD i plZ).2)) := by
  obtain ⟨a0, a1, a2⟩ := plC_at ls i hi
  have hr := row_put h.row (i * 3) (.bool b)
  have e : plC (ls.set i (b, (ls.getD i plZ).2)) = (plC ls).set (i * 3) (.bool b) := by
    rw [plC_set _ _ _ hi]
    have e1 : ((plC ls).set (i * 3) (.bool b)).set (i * 3 + 1) (.int .u64 (ls.getD i plZ).2.1) = (plC ls).set (i * 3) (.bool b) := list_set_same (by rw [List.getElem?_set_ne (by omega)]; exact a1)
    rw [e1]
    exact list_set_same (by rw [List.getElem?_set_ne (by omega)]; exact a2)
  rw [← e] at hr
  refine ⟨by rw [List.length_set]; exact hr, by rw [List.length_set]; exact h.pos, by rw [List.length_set]; exact h.le⟩
theorem RefAt.set2 {B : Nat} {w : World} {lb cap : Nat} {ls : List Plc} (h : RefAt B w lb cap ls) {i : Nat} (hi : i < ls.length) (x : Int) :
    RefAt B (w.setCell ⟨lb, i * 3 + 2, none⟩ (.int .i64 x)) lb cap (ls.set i ((ls.getD i plZ).1, (ls.getD i plZ).2.1, x)) := by
  obtain ⟨a0, a1, a2⟩ := plC_at ls i hi
  have hr := row_put h.row (i * 3 + 2) (.int .i64 x)
  have e : plC (ls.set i ((ls.getD i plZ).1, (ls.getD i plZ).2.1, x)) = (plC ls).set (i * 3 + 2) (.int .i64 x) := by
    rw [plC_set _ _ _ hi]
    have e0 : (plC ls).set (i * 3) (.bool (ls.getD i plZ).1) = plC ls := list_set_same a0
    have e1 : (plC ls).set (i * 3 + 1) (.int .u64 (ls.getD i plZ).2.1) = plC ls := list_set_same a1
    show (((plC ls).set (i * 3) (.bool (ls.getD i plZ).1)).set (i * 3 + 1) (.int .u64 (ls.getD i plZ).2.1)).set (i * 3 + 2) (.int .i64 x) = _
    rw [e0, e1]
  rw [← e] at hr
  refine ⟨by rw [List.length_set]; exact hr, by rw [List.length_set]; exact h.pos, by rw [List.length_set]; exact h.le⟩

end Go.Proofs.Ytamjhblhkabpaaa
