/-
  slices.SortFunc at a row of lists.
-/
import Derived.Test.YtnnaijbdimdhpaaTlyOrd1
import Derived.Test.YtnnaijbdimdhpaaSortF
import Derived.Test.YtnnaijbdimdhpaaTlyL2
import Derived.Test.YtnnaijbdimdhpaaTly23
namespace Go.Proofs.Ytnnaijbdimdhpaa
open Go.RowKit Go.Shelf
set_option linter.unusedVariables false
set_option linter.unusedSimpArgs false

/-- slices, each of which reads a list; none lies in the block 'own' -/
structure Lists (B : Nat) (V : World) (own : Option Nat) (vs : List Value) (L : List (List Int)) : Prop where
  len : vs.length = L.length
  at' : ∀ (i : Nat) (x : List Int), L[i]? = some x → ∃ sv, vs[i]? = some sv ∧ Rd V 1 sv x.length (i64s x) ∧ ∀ b, sBlk sv = some b → B ≤ b ∧ b < V.heap.size ∧ own ≠ some b
theorem Lists.nil (B : Nat) (V : World) (own : Option Nat) : Lists B V own [] [] := ⟨rfl, fun i x h => by simp at h⟩
theorem Lists.keep {B : Nat} {V W : World} {own : Option Nat} {vs : List Value} {L : List (List Int)} (h : Lists B V own vs L) (hs : V.heap.size ≤ W.heap.size) (hk : ∀ b, B ≤ b → b < V.heap.size → own ≠ some b → W.heap[b]? = V.heap[b]?) : Lists B W own vs L :=
  ⟨h.len, fun i x hx => by
    obtain ⟨sv, h1, h2, h3⟩ := h.at' i x hx
    exact ⟨sv, h1, h2.keep fun b hb _ => hk b (h3 b hb).1 (h3 b hb).2.1 (h3 b hb).2.2, fun b hb => ⟨(h3 b hb).1, Nat.lt_of_lt_of_le (h3 b hb).2.1 hs, (h3 b hb).2.2⟩⟩⟩

/-- pairs out of two lists -/
theorem pairs_of {Good : Value → List Int → Prop} : ∀ (vs : List Value) (L : List (List Int)), vs.length = L.length → (∀ (i : Nat) (x : List Int), L[i]? = some x → ∃ sv, vs[i]? = some sv ∧ Good sv x) →
    ∃ ds : List { p : Value × List Int // Good p.1 p.2 }, ds.map (fun d => d.1.1) = vs ∧ ds.map (fun d => d.1.2) = L
  | [], [], _, _ => ⟨[], rfl, rfl⟩
  | v :: vs, x :: L, h, hg => by
    obtain ⟨ds, h1, h2⟩ := pairs_of vs L (by simpa using h) fun i y hy => by
      obtain ⟨sv, e1, e2⟩ := hg (i + 1) y (by simpa using hy)
      exact ⟨sv, by simpa using e1, e2⟩
    obtain ⟨sv, e1, e2⟩ := hg 0 x rfl
    simp at e1
    subst e1
    exact ⟨⟨(v, x), e2⟩ :: ds, by simp [h1], by simp [h2]⟩
  | [], _ :: _, h, _ => by simp at h
  | _ :: _, [], h, _ => by simp at h

/-- the cells of a row written anew -/
theorem own_putG {α : Type} [Inhabited α] {enc : α → Value} {w : World} {B : Nat} {e : TypeId} {g n cap : Nat} {cs : List Value} (h : w.ownsRow B e 1 (.slice (some ⟨g, 0, none⟩) n cap) n cs) (l : Array α) (hl : l.size = n) (q : Nat) (os : Array Obj) :
    (Sort.grow (Sort.putRow enc (Sort.ahead w q) g 0 l) os).ownsRow B e 1 (.slice (some ⟨g, 0, none⟩) n cap) n (l.toList.map enc) ∧ Chg (fun k => k = g) w (Sort.grow (Sort.putRow enc (Sort.ahead w q) g 0 l) os) := by
  have hheap : (Sort.grow (Sort.putRow enc (Sort.ahead w q) g 0 l) os).heap = w.heap.modify g (Sort.onCells (Sort.putCells enc 0 l)) ++ os := rfl
  rcases h.2 with ⟨h0, _⟩ | ⟨g', cap', cur, hv, hb, hg, hc, hm, hs, ht⟩
  · cases h0
  · cases hv
    have hgl := block_lt hg
    have hnew : (Sort.grow (Sort.putRow enc (Sort.ahead w q) g 0 l) os).heap[g]? = some (.cells (Sort.putCells enc 0 l cur) e (0, 0)) := by
      rw [hheap, Array.getElem?_append_left (by simpa using hgl), Array.getElem?_modify, if_pos rfl, hg]
      rfl
    refine ⟨⟨by simp [hl], .inr ⟨g, cap, _, rfl, hb, hnew, hc, hm, by simpa [Sort.putCells] using hs, ?_⟩⟩, ⟨rfl, rfl, rfl, by rw [hheap]; simp, fun k hk hs => ?_⟩⟩
    · refine List.ext_getElem? fun i => ?_
      rw [List.getElem?_take]
      by_cases hi : i < n * 1
      · rw [if_pos hi]
        have hin : i < n := by omega
        have hic : i < cur.size := by rw [hs]; omega
        have hil : i < l.size := by omega
        simp only [Sort.putCells, Array.getElem?_toList, Array.getElem?_mapIdx, Array.getElem?_eq_getElem hic, Option.map_some]
        rw [if_pos ⟨Nat.zero_le _, by simp [hl, hin]⟩, List.getElem?_map, Array.getElem?_toList, Array.getElem?_eq_getElem hil, Nat.sub_zero, getElem!_pos l i hil]
        rfl
      · rw [if_neg hi, List.getElem?_eq_none (by simp [hl]; omega)]
    · rw [hheap, Array.getElem?_append_left (by simpa using hk), Array.getElem?_modify, if_neg (fun h => hs h.symm)]

def cfL {Good : Value → List Int → Prop} (x y : { p : Value × List Int // Good p.1 p.2 }) : Int := cmpL x.1.2 y.1.2
theorem swo_cfL {Good : Value → List Int → Prop} : Sort.SWO (ltOf (cfL (Good := Good))) := by
  refine ⟨fun x => ?_, fun x y z h1 h2 => ?_, fun x y z h1 h2 => ?_⟩
  · simp [ltOf, cfL, cmpL_self]
  · exact decide_eq_true (cmpL_trans (of_decide_eq_true h1) (of_decide_eq_true h2))
  · exact decide_eq_false (cmpL_ntrans (of_decide_eq_false h1) (of_decide_eq_false h2))

set_option maxRecDepth 100000 in
theorem sort_lists (V : World) (B : Nat) (v : Value) (L : List (List Int)) (vs : List Value) (own : V.ownsRow B 66 1 v L.length vs) (hL : Lists B V v.ownBlock vs L) (h6 : ∀ x ∈ L, x.length ≤ 100000) (hpos : 0 < L.length) (hbig : L.length ≤ 1000000) :
    Calls Try.prog 72 #[v, .func (.func 73) #[] #[]] V fun e W => e = .returned (.tuple #[]) ∧ ∃ vs' L', L'.Perm L ∧ L'.Pairwise (fun x y => ¬ cmpL y x < 0) ∧ W.ownsRow B 66 1 v L'.length vs' ∧ Lists B W v.ownBlock vs' L' ∧ Chg (fun k => v.ownBlock = some k) V W := by
  obtain ⟨sa, cap, rfl⟩ := (rd_of_row own).form
  obtain ⟨g, rfl, hg1, hg2, hg3, hcell, hfz⟩ := row_ptr own hpos
  obtain ⟨Good, hGood⟩ : ∃ Good : Value → List Int → Prop, Good = fun sv x => Rd V 1 sv x.length (i64s x) ∧ x.length ≤ 100000 ∧ ∀ b, sBlk sv = some b → B ≤ b ∧ b < V.heap.size ∧ g ≠ b := ⟨_, rfl⟩
  have hGi : ∀ sv x, Good sv x ↔ Rd V 1 sv x.length (i64s x) ∧ x.length ≤ 100000 ∧ ∀ b, sBlk sv = some b → B ≤ b ∧ b < V.heap.size ∧ g ≠ b := fun sv x => by rw [hGood]
  clear hGood
  have hG0 : Good (.slice none 0 0) [] := by
    rw [hGi]
    exact ⟨Rd.nil _ _, by simp, fun b hb => by cases hb⟩
  letI : Inhabited { p : Value × List Int // Good p.1 p.2 } := ⟨⟨(.slice none 0 0, []), hG0⟩⟩
  obtain ⟨ds, hd1, hd2⟩ := pairs_of (Good := Good) vs L hL.len (fun i x hx => by
    obtain ⟨sv, e1, e2, e3⟩ := hL.at' i x hx
    refine ⟨sv, e1, ?_⟩
    rw [hGi]
    exact ⟨e2, h6 x (List.mem_of_getElem? hx), fun b hb => ⟨(e3 b hb).1, (e3 b hb).2.1, fun e => (e3 b hb).2.2 (by rw [e]; rfl)⟩⟩)
  have hdl : ds.length = L.length := by rw [← hd2, List.length_map]
  have h1 : OneCell (fun x : { p : Value × List Int // Good p.1 p.2 } => x.1.1) := fun x => by
    have := (hGi _ _).1 x.2
    obtain ⟨a, b, e⟩ := this.1.form
    show (x.1.1).oneCell' = true
    rw [e]; rfl
  have hH : Go.Sort.Holds (fun x : { p : Value × List Int // Good p.1 p.2 } => x.1.1) V g 0 ds.toArray := by
    intro j hj
    have hj' : j < ds.length := by simpa using hj
    rw [Nat.zero_add]
    refine ⟨?_, hfz j⟩
    rw [hcell j _ (show vs[j]? = some (ds[j].1.1) by rw [← hd1, List.getElem?_map, List.getElem?_eq_getElem hj']; rfl), getElem!_pos ds.toArray j hj]
    simp
  have hcmp : CmpLays1 Try.prog 73 #[] (fun x : { p : Value × List Int // Good p.1 p.2 } => x.1.1) cfL g 0 ds.toArray.size V := by
    refine CmpReads.lays ?_
    intro m os dk hdk x y
    have hx := (hGi _ _).1 x.2
    have hy := (hGi _ _).1 y.2
    have hch := (own_putG (enc := fun x : { p : Value × List Int // Good p.1 p.2 } => x.1.1) own dk (by simpa [hdl] using hdk) m os).2
    have k1 := hx.1.keep (W' := sortWorld (fun x : { p : Value × List Int // Good p.1 p.2 } => x.1.1) V g 0 m dk os) fun b hb hlt => hch.block b hlt fun e => (hx.2.2 b hb).2.2 e.symm
    have k2 := hy.1.keep (W' := sortWorld (fun x : { p : Value × List Int // Good p.1 p.2 } => x.1.1) V g 0 m dk os) fun b hb hlt => hch.block b hlt fun e => (hy.2.2 b hb).2.2 e.symm
    refine (compare_any _ _ _ _ _ _ _ k1 k2 hx.2.1).mono ?_
    rintro e w' ⟨rfl, rfl⟩
    exact ⟨rfl, 0, rfl⟩
  have hS := Try.ord_SortFunc (fun x : { p : Value × List Int // Good p.1 p.2 } => x.1.1) h1 cfL swo_cfL 73 #[] g 0 cap ds.toArray V (enters_of Try.func73 (by kernel_rfl) rfl) hcmp hH hg2 (by simp; omega)
  rw [List.size_toArray, hdl] at hS
  refine hS.mono ?_
  rintro e W ⟨rfl, d', n, os, hp, hs, rfl⟩
  obtain ⟨p1, p2, p3⟩ := hp
  have p1 : d'.size = L.length := by rw [p1]; simpa using hdl
  have hdp : d'.toList.Perm ds := by
    have e1 : d'.extract 0 L.length = d' := by rw [← p1]; exact Array.extract_size
    have e2 : ds.toArray.extract 0 L.length = ds.toArray := by rw [← hdl, ← List.size_toArray]; exact Array.extract_size
    rw [e1, e2] at p3
    simpa using p3
  obtain ⟨o1, o2⟩ := own_putG (enc := fun x : { p : Value × List Int // Good p.1 p.2 } => x.1.1) own d' p1 n os
  refine ⟨rfl, d'.toList.map (fun x => x.1.1), d'.toList.map (fun x => x.1.2), ?_, ?_, ?_, ?_, o2.mono fun k hk => by rw [hk]; rfl⟩
  · rw [← hd2]; exact hdp.map _
  · rw [List.pairwise_map, List.pairwise_iff_getElem]
    intro i j hi hj hij
    have hi' : i < d'.size := by simpa using hi
    have hj' : j < d'.size := by simpa using hj
    have := hs i j (Nat.zero_le _) hij (by omega)
    rw [getElem!_pos d' i hi', getElem!_pos d' j hj'] at this
    exact of_decide_eq_false this
  · have hl' : (d'.toList.map (fun x => x.1.2)).length = L.length := by simpa using p1
    rw [hl']
    exact o1
  · refine ⟨by simp, fun i x hx => ?_⟩
    rw [List.getElem?_map] at hx
    obtain ⟨y, hy, rfl⟩ := Option.map_eq_some_iff.1 hx
    refine ⟨y.1.1, by rw [List.getElem?_map, hy]; rfl, ?_⟩
    have hyy := (hGi _ _).1 y.2
    refine ⟨hyy.1.keep fun b hb hlt => o2.block b hlt fun e => (hyy.2.2 b hb).2.2 e.symm, fun b hb => ?_⟩
    have := hyy.2.2 b hb
    exact ⟨this.1, Nat.lt_of_lt_of_le this.2.1 o2.size, fun e => this.2.2 (by simpa [Value.ownBlock] using e)⟩

end Go.Proofs.Ytnnaijbdimdhpaa
