/-
  The words that all proofs of this seat share: a slice that reads as a list, the walk's small extra laws, append of one element.
  slices.Clone at []uint64 and []int: a new slice of the same cells, nothing that was there changed.
  slices.Clone at []int: a new slice of the same cells, nothing that was there changed.
  Rows of ints: the program's and the references' lists 0, 1, 2, .., comparisons of ints, and small laws on rows of the call's own.
  The references' comparisons of two slices of numbers.
-/
import Derived.Test.YtamjhblhkabpaaaRows
import Derived.WalkKit
import Derived.WalkSpells
import Derived.WalkLawsBesides
import Derived.BigQuiet
import Derived.Deep.QuietTactic
import Derived.Deep.RegionWith
import Derived.Deep.LoopGhost
import Derived.Lib.Hide
import Derived.Lib.SliceRun
import Derived.Test.YtamjhblhkabpaaaPl
namespace Go.Proofs.Ytamjhblhkabpaaa
open Go.RowKit

section
variable {P : Program}

theorem run_equalIn_func_nil (w : World) (d : Nat) (t : TypeId) {ps rs : Array TypeId} {vd : Bool} (fn : Fn) (fi ca : Array Value) (h : P.underlying t = some (.func ps rs vd)) :
    (Op.equalIn (d + 1) t (.func fn fi ca) .nilFunc).run P w = .ok false w := by
  simp [Op.equalIn, run_underlying h]

/-- 'f != nil', f a function. -/
theorem run_neq_func_nil (w : World) (t : TypeId) {ps rs : Array TypeId} {vd : Bool} (fn : Fn) (fi ca : Array Value) (h : P.underlying t = some (.func ps rs vd)) :
    (binOp .neq t (.func fn fi ca) .nilFunc).run P w = .ok (.bool true) w := by
  simp only [binOp]
  simp [Op.equal, Op.maxDepth, run_equalIn_func_nil w 9999 t fn fi ca h]
end

/-- A slice of n elements, of sz cells each, that reads cs. -/
def Rd (w : World) (sz : Nat) (v : Value) (n : Nat) (cs : List Value) : Prop :=
  cs.length = n * sz ∧ n ≤ maxLen ∧ ∃ sa cap, v = .slice sa n cap ∧ n ≤ cap ∧ (n = 0 ∨ ∃ b off, sa = some ⟨b, off, none⟩ ∧ ∀ i u, cs[i]? = some u → w.cell? ⟨b, off + i, none⟩ = some u)

/-- A slice that reads and that may be written, in a block from B on. -/
def Own (w : World) (B : Nat) (sz : Nat) (v : Value) (n : Nat) (cs : List Value) : Prop :=
  cs.length = n * sz ∧ n ≤ maxLen ∧ ∃ sa cap, v = .slice sa n cap ∧ n ≤ cap ∧ (n = 0 ∨ ∃ g off cur e, sa = some ⟨g, off, none⟩ ∧ B ≤ g ∧ w.heap[g]? = some (.cells cur e (0, 0)) ∧ ∀ i u, cs[i]? = some u → cur[off + i]? = some u)

theorem Own.rd {w : World} {B sz : Nat} {v : Value} {n : Nat} {cs : List Value} (h : Own w B sz v n cs) : Rd w sz v n cs := by
  obtain ⟨h1, h2, sa, cap, hv, hc, h3⟩ := h
  refine ⟨h1, h2, sa, cap, hv, hc, ?_⟩
  rcases h3 with h3 | ⟨g, off, cur, e, h4, h5, h6, h7⟩
  · exact .inl h3
  · refine .inr ⟨g, off, h4, fun i u hu => ?_⟩
    simp [World.cell?, h6, h7 i u hu]

theorem own_of_row {w : World} {B : Nat} {e : TypeId} {sz : Nat} {v : Value} {n : Nat} {cs : List Value} (h : w.ownsRow B e sz v n cs) : Own w B sz v n cs := by
  obtain ⟨h1, h2⟩ := h
  rcases h2 with ⟨rfl, rfl⟩ | ⟨g, cap, cur, rfl, hb, hg, hc, hm, hs, ht⟩
  · exact ⟨h1, Nat.zero_le _, none, 0, rfl, Nat.le_refl _, .inl rfl⟩
  · refine ⟨h1, Nat.le_trans hc hm, _, _, rfl, hc, .inr ⟨g, 0, cur, e, rfl, hb, hg, fun i u hu => ?_⟩⟩
    rw [← ht, List.getElem?_take] at hu
    split at hu
    · simpa using hu
    · cases hu

theorem rd_of_row {w : World} {B : Nat} {e : TypeId} {sz : Nat} {v : Value} {n : Nat} {cs : List Value} (h : w.ownsRow B e sz v n cs) : Rd w sz v n cs := (own_of_row h).rd

/-- What reads goes on reading where nothing that was there has turned. -/
theorem Rd.below {w w' : World} {sz : Nat} {v : Value} {n : Nat} {cs : List Value} (h : Rd w sz v n cs) (hb : Below w.heap.size w w') : Rd w' sz v n cs := by
  obtain ⟨h1, h2, sa, cap, hv, hc, h3⟩ := h
  refine ⟨h1, h2, sa, cap, hv, hc, ?_⟩
  rcases h3 with h3 | ⟨b, off, h4, h5⟩
  · exact .inl h3
  · exact .inr ⟨b, off, h4, fun i u hu => (hb.cell (World.block_lt_of_cell? _ _ (h5 i u hu))).trans (h5 i u hu)⟩

theorem Rd.nil (w : World) (sz : Nat) : Rd w sz (.slice none 0 0) 0 [] := ⟨by simp, Nat.zero_le _, none, 0, rfl, Nat.le_refl _, .inl rfl⟩

/-- The slice's form, and the cell of each place. -/
theorem Rd.form {w : World} {sz : Nat} {v : Value} {n : Nat} {cs : List Value} (h : Rd w sz v n cs) : ∃ sa cap, v = .slice sa n cap := by
  obtain ⟨_, _, sa, cap, hv, _⟩ := h
  exact ⟨sa, cap, hv⟩

theorem Rd.cap_le {w : World} {sz : Nat} {sa : Option Addr} {n m cap : Nat} {cs : List Value} (h : Rd w sz (.slice sa n cap) m cs) : n ≤ cap ∧ n = m := by
  obtain ⟨h1, h2, sa', cap', hv, hc, h3⟩ := h
  simp only [Value.slice.injEq] at hv
  obtain ⟨rfl, rfl, rfl⟩ := hv
  exact ⟨hc, rfl⟩

/-- v[:k] -/
theorem Rd.to {w : World} {sz : Nat} {sa : Option Addr} {n cap : Nat} {cs : List Value} (h : Rd w sz (.slice sa n cap) n cs) {k : Nat} (hk : k ≤ n) (cap' : Nat) (hc' : k ≤ cap') : Rd w sz (.slice sa k cap') k (cs.take (k * sz)) := by
  obtain ⟨h1, h2, sa', cap'', hv, hc, h3⟩ := h
  simp only [Value.slice.injEq] at hv
  obtain ⟨rfl, -, rfl⟩ := hv
  refine ⟨?_, by omega, _, _, rfl, hc', ?_⟩
  · rw [List.length_take, h1]
    exact Nat.min_eq_left (Nat.mul_le_mul_right _ hk)
  · rcases h3 with h3 | ⟨b, off, h4, h5⟩
    · exact .inl (by omega)
    · exact .inr ⟨b, off, h4, fun i u hu => h5 i u (by
        rw [List.getElem?_take] at hu
        split at hu
        · exact hu
        · cases hu)⟩

theorem Rd.at {w : World} {sz : Nat} {sa : Option Addr} {n m cap : Nat} {cs : List Value} (h : Rd w sz (.slice sa n cap) m cs) (hn : 0 < n) : ∃ b off, sa = some ⟨b, off, none⟩ ∧ ∀ i u, cs[i]? = some u → w.cell? ⟨b, off + i, none⟩ = some u := by
  obtain ⟨h1, h2, sa', cap', hv, hc, h3⟩ := h
  simp only [Value.slice.injEq] at hv
  obtain ⟨rfl, rfl, rfl⟩ := hv
  rcases h3 with h3 | h3
  · omega
  · exact h3

/-- Lists of numbers as cells. -/
def u64s (l : List Int) : List Value := l.map (Value.int .u64)
def i64s (l : List Int) : List Value := l.map (Value.int .i64)
theorem u64s_len (l : List Int) : (u64s l).length = l.length := by simp [u64s]
theorem i64s_len (l : List Int) : (i64s l).length = l.length := by simp [i64s]
theorem u64s_snoc (l : List Int) (x : Int) : u64s (l ++ [x]) = u64s l ++ [.int .u64 x] := by simp [u64s]
theorem i64s_snoc (l : List Int) (x : Int) : i64s (l ++ [x]) = i64s l ++ [.int .i64 x] := by simp [i64s]
theorem u64s_nil : u64s [] = [] := rfl
theorem i64s_nil : i64s [] = [] := rfl
theorem u64s_at (l : List Int) (k : Nat) (h : k < l.length) : (u64s l)[k]? = some (.int .u64 (l.getD k 0)) := by simp [u64s, List.getD, List.getElem?_eq_getElem h]
theorem i64s_at (l : List Int) (k : Nat) (h : k < l.length) : (i64s l)[k]? = some (.int .i64 (l.getD k 0)) := by simp [i64s, List.getD, List.getElem?_eq_getElem h]
theorem u64s_take (l : List Int) (k : Nat) (h : k < l.length) : u64s (l.take (k + 1)) = u64s (l.take k) ++ [.int .u64 (l.getD k 0)] := by
  rw [List.take_succ_eq_append_getElem h, u64s_snoc]
  simp [List.getD, List.getElem?_eq_getElem h]
theorem i64s_take (l : List Int) (k : Nat) (h : k < l.length) : i64s (l.take (k + 1)) = i64s (l.take k) ++ [.int .i64 (l.getD k 0)] := by
  rw [List.take_succ_eq_append_getElem h, i64s_snoc]
  simp [List.getD, List.getElem?_eq_getElem h]
theorem u64s_drop (l : List Int) (k : Nat) : u64s (l.drop k) = (u64s l).drop k := by simp [u64s]
theorem i64s_drop (l : List Int) (k : Nat) : i64s (l.drop k) = (i64s l).drop k := by simp [i64s]
theorem Rd.to_u64 {w : World} {sa : Option Addr} {n cap : Nat} {l : List Int} (h : Rd w 1 (.slice sa n cap) n (u64s l)) {k : Nat} (hk : k ≤ n) (cap' : Nat) (hc' : k ≤ cap') : Rd w 1 (.slice sa k cap') k (u64s (l.take k)) := by
  have := h.to hk cap' hc'
  simpa [u64s] using this
theorem Rd.to_i64 {w : World} {sa : Option Addr} {n cap : Nat} {l : List Int} (h : Rd w 1 (.slice sa n cap) n (i64s l)) {k : Nat} (hk : k ≤ n) (cap' : Nat) (hc' : k ≤ cap') : Rd w 1 (.slice sa k cap') k (i64s (l.take k)) := by
  have := h.to hk cap' hc'
  simpa [i64s] using this
theorem Rd.len_u64 {w : World} {v : Value} {n : Nat} {l : List Int} (h : Rd w 1 v n (u64s l)) : n = l.length := by
  have := h.1
  rw [u64s_len] at this
  omega
theorem Rd.len_i64 {w : World} {v : Value} {n : Nat} {l : List Int} (h : Rd w 1 v n (i64s l)) : n = l.length := by
  have := h.1
  rw [i64s_len] at this
  omega
theorem u64s_one {l : List Int} : ∀ u ∈ u64s l, u.oneCell' = true := by
  intro u hu; obtain ⟨x, _, rfl⟩ := List.mem_map.1 hu; rfl
theorem i64s_one {l : List Int} : ∀ u ∈ i64s l, u.oneCell' = true := by
  intro u hu; obtain ⟨x, _, rfl⟩ := List.mem_map.1 hu; rfl

theorem ret_bool {a b : Bool} (h : a = b) : Ending.returned (.bool a) = .returned (.bool b) := by rw [h]
theorem ret_int {k : IntKind} {a b : Int} (h : a = b) : Ending.returned (.int k a) = .returned (.int k b) := by rw [h]

/-- Alike, as Go's own loop finds it. -/
def eqL (a b : List Int) : Bool := decide (a = b)
theorem eqL_self (a : List Int) : eqL a a = true := by simp [eqL]
theorem eqL_iff {a b : List Int} : eqL a b = true ↔ a = b := by simp [eqL]
theorem eqL_len {a b : List Int} (h : a.length ≠ b.length) : eqL a b = false := by
  simp only [eqL, decide_eq_false_iff_not]; rintro rfl; exact h rfl
theorem eqL_all {a b : List Int} (h : a.length = b.length) (hk : ∀ j, j < a.length → a.getD j 0 = b.getD j 0) : eqL a b = true := by
  rw [eqL_iff]
  refine List.ext_getElem h fun j h1 h2 => ?_
  have := hk j h1
  simpa [List.getD, List.getElem?_eq_getElem h1, List.getElem?_eq_getElem h2] using this
theorem eqL_not {a b : List Int} (k : Nat) (hk : a.getD k 0 ≠ b.getD k 0) : eqL a b = false := by
  simp only [eqL, decide_eq_false_iff_not]; rintro rfl; exact hk rfl

theorem Below.trans' {B : Nat} {a b c : World} (h : Below B a b) (k : Below b.heap.size b c) (hB : B ≤ a.heap.size) : Below B a c :=
  h.trans (k.mono (Nat.le_trans hB h.size))

theorem below_two {a b c : World} (h : Below a.heap.size a b) (k : Below b.heap.size b c) : Below a.heap.size a c := h.trans (k.mono h.size)

/-- Nothing that was there has turned but the blocks of S. -/
structure Chg (S : Nat → Prop) (w w' : World) : Prop where
  os : w'.os = w.os
  tape : w'.tape = w.tape
  output : w'.output = w.output
  size : w.heap.size ≤ w'.heap.size
  block : ∀ k, k < w.heap.size → ¬ S k → w'.heap[k]? = w.heap[k]?

theorem Chg.refl (S : Nat → Prop) (w : World) : Chg S w w := ⟨rfl, rfl, rfl, Nat.le_refl _, fun _ _ _ => rfl⟩
theorem Chg.trans {S : Nat → Prop} {a b c : World} (h : Chg S a b) (k : Chg S b c) : Chg S a c :=
  ⟨k.os.trans h.os, k.tape.trans h.tape, k.output.trans h.output, Nat.le_trans h.size k.size, fun i hi hs => (k.block i (Nat.lt_of_lt_of_le hi h.size) hs).trans (h.block i hi hs)⟩
/-- The second step may write to what is new in the first one, too. -/
theorem Chg.trans' {S S' : Nat → Prop} {a b c : World} (h : Chg S a b) (k : Chg S' b c) (hs : ∀ i, S' i → i < a.heap.size → S i) : Chg S a c :=
  ⟨k.os.trans h.os, k.tape.trans h.tape, k.output.trans h.output, Nat.le_trans h.size k.size, fun i hi hn => (k.block i (Nat.lt_of_lt_of_le hi h.size) (fun hx => hn (hs i hx hi))).trans (h.block i hi hn)⟩
theorem Chg.drew {S : Nat → Prop} {a w : World} (h : Chg S a w) : Chg S a w.drew := ⟨h.os, h.tape, h.output, h.size, h.block⟩
theorem drewN_heap (w : World) (n : Nat) : (w.drewN n).heap = w.heap := by
  induction n with
  | zero => rfl
  | succ n ih => exact ih
theorem Chg.drewN {S : Nat → Prop} {a w : World} (h : Chg S a w) (n : Nat) : Chg S a (w.drewN n) := by
  induction n with
  | zero => exact h
  | succ n ih => exact ih.drew
theorem below_drewN' {B : Nat} {a w : World} (h : Below B a w) (n : Nat) : Below B a (w.drewN n) := by
  induction n with
  | zero => exact h
  | succ n ih => exact ih.drew
theorem Chg.alloc {S : Nat → Prop} {a w : World} (h : Chg S a w) (o : Obj) : Chg S a (w.alloc o) :=
  ⟨h.os, h.tape, h.output, by have := h.size; simp; omega, fun k hk hs => by
    have := h.size
    rw [Below.heap_alloc _ _ _ (by omega)]
    exact h.block k hk hs⟩
theorem Chg.setCell {S : Nat → Prop} {a w : World} (h : Chg S a w) {p : Addr} (hp : S p.block ∨ a.heap.size ≤ p.block) (u : Value) : Chg S a (w.setCell p u) :=
  ⟨h.os, h.tape, h.output, by simpa [World.setCell] using h.size, fun k hk hs => by
    rw [Below.heap_setCell _ _ _ _ (by rintro rfl; rcases hp with hp | hp; exact hs hp; omega)]
    exact h.block k hk hs⟩
theorem Chg.grown {S : Nat → Prop} {a w w' : World} {row : Option Nat} (h : Chg S a w) (hg : w.grownBy w' row) (hr : ∀ k, row = some k → S k ∨ a.heap.size ≤ k) : Chg S a w' :=
  ⟨hg.os.trans h.os, hg.tape.trans h.tape, hg.output.trans h.output, Nat.le_trans h.size hg.size, fun k hk hs => by
    have := h.size
    rw [hg.block k (by omega) (by rintro hx; rcases hr k hx.symm with hy | hy; exact hs hy; omega)]
    exact h.block k hk hs⟩
theorem Chg.of_below {S : Nat → Prop} {w w' : World} (h : Below w.heap.size w w') : Chg S w w' :=
  ⟨h.os, h.tape, h.output, h.size, fun k hk _ => h.block k hk⟩
theorem Chg.below {S : Nat → Prop} {B : Nat} {w w' : World} (h : Chg S w w') (hB : B ≤ w.heap.size) (hs : ∀ k, S k → B ≤ k) : Below B w w' :=
  ⟨h.os, h.tape, h.output, h.size, fun k hk => h.block k (by omega) (fun hx => by have := hs k hx; omega)⟩
theorem Chg.mono {S S' : Nat → Prop} {w w' : World} (h : Chg S w w') (hs : ∀ k, S k → S' k) : Chg S' w w' :=
  ⟨h.os, h.tape, h.output, h.size, fun k hk hn => h.block k hk (fun hx => hn (hs k hx))⟩

/-- A row that is owned stays where its block has not turned. -/
theorem row_kept {w w' : World} {B : Nat} {e : TypeId} {sz : Nat} {v : Value} {n : Nat} {cs : List Value} (h : w.ownsRow B e sz v n cs) (hk : ∀ g, v.ownBlock = some g → w'.heap[g]? = w.heap[g]?) : w'.ownsRow B e sz v n cs := by
  refine ⟨h.1, ?_⟩
  rcases h.2 with hn | ⟨g, cap, cur, rfl, hb, hgg, rest⟩
  · exact .inl hn
  · exact .inr ⟨g, cap, cur, rfl, hb, by rw [hk g rfl]; exact hgg, rest⟩
theorem row_chg {S : Nat → Prop} {w w' : World} {B : Nat} {e : TypeId} {sz : Nat} {v : Value} {n : Nat} {cs : List Value} (h : w.ownsRow B e sz v n cs) (hc : Chg S w w') (hs : ∀ g, v.ownBlock = some g → ¬ S g) : w'.ownsRow B e sz v n cs :=
  row_kept h fun g hg => hc.block g (h.lt g hg).2 (hs g hg)
theorem row_mono {w : World} {B B' : Nat} {e : TypeId} {sz : Nat} {v : Value} {n : Nat} {cs : List Value} (h : w.ownsRow B e sz v n cs) (hb : B' ≤ B) : w.ownsRow B' e sz v n cs := by
  refine ⟨h.1, ?_⟩
  rcases h.2 with hn | ⟨g, cap, cur, rfl, hbg, rest⟩
  · exact .inl hn
  · exact .inr ⟨g, cap, cur, rfl, by omega, rest⟩

/-- What is known of a block gives its cells. -/
theorem cell_of {w : World} {b : Nat} {cs : Array Value} {e : TypeId} {f : Nat × Nat} (h : w.heap[b]? = some (.cells cs e f)) (o : Nat) {u : Value} (hu : cs[o]? = some u) : w.cell? ⟨b, o, none⟩ = some u := by
  simp [World.cell?, h, hu]
theorem frozen_of {w : World} {b : Nat} {cs : Array Value} {e : TypeId} (h : w.heap[b]? = some (.cells cs e (0, 0))) (o : Nat) : w.frozen? ⟨b, o, none⟩ = false := by
  simp [World.frozen?, h]
theorem block_lt {w : World} {b : Nat} {o : Obj} (h : w.heap[b]? = some o) : b < w.heap.size := (Array.getElem?_eq_some_iff.1 h).1
theorem set_of {w : World} {b : Nat} {cs : Array Value} {e : TypeId} {f : Nat × Nat} (h : w.heap[b]? = some (.cells cs e f)) (o : Nat) (u : Value) : (w.setCell ⟨b, o, none⟩ u).heap[b]? = some (.cells (cs.setIfInBounds o u) e f) := by
  simp [World.setCell, Array.getElem?_modify, h]

/-- The one cell of a block that was just made. -/
theorem cell_one_at (w : World) (u : Value) (e : TypeId) (g : Nat) (hg : g = w.heap.size) : ∀ j x, [u][j]? = some x → (w.alloc (.cells #[u] e)).cell? ((⟨g, 0, none⟩ : Addr).add j) = some x := by
  subst hg
  exact cell_one_new w u e

/-- A slice over a block that was just made. -/
theorem rd_new (W : World) (cs : Array Value) (e : TypeId) (n sz : Nat) (h : cs.size = n * sz) (hn : n ≤ maxLen) (g cap : Nat) (hg : g = W.heap.size) (hc : n ≤ cap) : Rd (W.alloc (.cells cs e)) sz (.slice (some ⟨g, 0, none⟩) n cap) n cs.toList := by
  subst hg
  refine ⟨by simpa using h, hn, _, _, rfl, hc, .inr ⟨_, 0, rfl, fun i u hu => ?_⟩⟩
  rw [cell_of_row (W.alloc (.cells cs e)) W.heap.size _ cs e (0, 0) (heap_alloc_new W _)]
  simpa using hu

/-- What the frame of a law tells of a slice of numbers that came in. -/
theorem rd_of_raw {k : IntKind} {w : World} {a : Option Addr} {len cap : Nat} {zs : List Int}
    (h : (a = none ∧ len = 0 ∧ cap = 0 ∧ zs = []) ∨ ∃ x, a = some x ∧ len ≤ cap ∧ cap ≤ maxLen ∧ zs.length = cap ∧ (∀ i, i < zs.length → w.cell? (x.add i) = some (.int k (zs.getD i 0))) ∧ ∀ n ∈ zs, (Lit.int k n).wf = true) :
    Rd w 1 (.slice a len cap) len ((zs.take len).map (Value.int k)) ∧ (zs.take len).length = len ∧ ∀ n ∈ zs.take len, (Lit.int k n).wf = true := by
  rcases h with ⟨rfl, rfl, rfl, rfl⟩ | ⟨x, rfl, hl, hm, hz, hc, hw⟩
  · exact ⟨Rd.nil _ _, rfl, by simp⟩
  · have hlen : (zs.take len).length = len := by rw [List.length_take, hz]; omega
    refine ⟨⟨by rw [List.length_map, hlen, Nat.mul_one], by omega, _, _, rfl, hl, ?_⟩, hlen, fun n hn => hw n (List.mem_of_mem_take hn)⟩
    by_cases h0 : len = 0
    · exact .inl h0
    · have h00 := hc 0 (by omega)
      have hs : x.spot = none := by
        have hx : x.add 0 = x := by simp [Addr.add]
        rw [hx] at h00
        cases hsp : x.spot with
        | none => rfl
        | some q =>
          unfold World.cell? at h00
          split at h00
          · rw [hsp] at h00; simp at h00
          · cases h00
      obtain ⟨b, off, sp⟩ := x
      obtain rfl : sp = none := hs
      refine .inr ⟨b, off, rfl, fun i u hu => ?_⟩
      rw [List.getElem?_map, List.getElem?_take] at hu
      split at hu
      · rename_i hi
        have hil : i < zs.length := by omega
        have := hc i hil
        rw [Addr.add_lit] at this
        rw [this]
        rw [List.getElem?_eq_getElem hil] at hu
        simp only [Option.map_some, Option.some.injEq] at hu
        rw [← hu]
        simp [List.getD, List.getElem?_eq_getElem hil]
      · cases hu

section
variable {P : Program}

/-- Append onto a row of the call's own: where the new slice lies. -/
theorem app_where (w : World) (base : Nat) (t ty e : TypeId) (i : TypeInfo) (z : Value) (size bytes : Nat) (ht : P.underlying t = some (.slice e)) (hi : P.info? e = some i) (hz : i.zero = some z)
    (hsize : i.size = size) (hby : i.bytes = bytes) (hzs : z.cells.size = size) (hsz : 0 < size)
    (v : Value) (n : Nat) (xs : List Value) (hown : w.ownsRow base e size v n xs)
    (a : Addr) (m c : Nat) (news : List Value) (hl : news.length = m * size) (hnews : ∀ j u, news[j]? = some u → w.cell? (a.add j) = some u) (h1 : ∀ u ∈ news, u.oneCell' = true)
    (h63 : n + m ≤ maxLen) (hbytes : (n + m) * bytes ≤ 140737488355328) (hbase : base ≤ w.heap.size) :
    ∃ v' w', (Builtin.append_ #[t, t] ty #[v, .slice (some a) m c]).run P w = .ok v' w' ∧ w'.ownsRow base e size v' (n + m) (xs ++ news) ∧ w.grownBy w' v.ownBlock ∧
      (v'.ownBlock = v.ownBlock ∨ v'.ownBlock = some w.heap.size) := by
  obtain ⟨v', w', hr, h2, h3, h4⟩ := run_append_own (P := P) w base t ty e i z size bytes ht hi hz hsize hby hzs hsz v n xs hown a m c news hl hnews h1 h63 hbytes hbase
  refine ⟨v', w', hr, h2, h3, ?_⟩
  subst hsize
  subst hby
  have hsmall : n + m ≤ 9223372036854775807 := by simp only [maxLen] at h63; omega
  rcases hown.2 with ⟨rfl, rfl⟩ | ⟨g, cap, cur, rfl, hbg, hg, hnc, hcm, hcs, htake⟩
  · by_cases hm : m = 0
    · exact .inl (by rw [h4.2 ⟨rfl, hm⟩])
    · have hr' := run_append_nil (P := P) w t ty e i z ht hi hz a m c news hl hnews (by omega) (by omega) (by have hb := hbytes; simp only [Nat.zero_add] at hb; omega)
      rw [hr] at hr'
      cases hr'
      exact .inr rfl
  · by_cases hroom : n + m ≤ cap
    · have hfit : n * i.size + news.length ≤ cur.size := by rw [hl, hcs, ← Nat.add_mul]; exact Nat.mul_le_mul_right _ hroom
      have hr' := run_append_room (P := P) w t ty e i ht hi g n cap cur hg a m c news hl hnews h1 hroom hfit
      rw [hr] at hr'
      cases hr'
      exact .inl rfl
    · have holds : ∀ j u, xs[j]? = some u → w.cell? ((⟨g, 0, none⟩ : Addr).add j) = some u := hown.cells (g := g) rfl
      have hr' := run_append_grow (P := P) w t ty e i z ht hi hz ⟨g, 0, none⟩ n cap xs hown.1 holds a m c news hl hnews (by omega) (by omega) (growslice_fits (by omega) hbytes)
      rw [hr] at hr'
      cases hr'
      exact .inr rfl

/-- 'append(s, u)', s a row of the call's own, u of one cell: as a step of the walk. W: the world ahead of the block that the new element lies in. -/
theorem app1 (W : World) {ops : Array Oper} {rest : List Oper} {o : Oper} {a : Act} {Q : Exit → Act → World → Prop} (hgd : o.guard = none) (s x : Operand) (t : TypeId)
    (ho : o.op = .call { callee := .builtin .append, args := #[s, x], argTypes := #[t, t] })
    (base : Nat) (e : TypeId) (i : TypeInfo) (z : Value) (bytes : Nat) (ht : P.underlying t = some (.slice e)) (hi : P.info? e = some i) (hz : i.zero = some z)
    (hsize : i.size = 1) (hby : i.bytes = bytes) (hzs : z.cells.size = 1)
    (v : Value) (n : Nat) (xs : List Value) (hs : a.eval s = v) (hown : W.ownsRow base e 1 v n xs)
    (g : Nat) (u : Value) (hx : a.eval x = .slice (some ⟨g, 0, none⟩) 1 1) (hg : g = W.heap.size) (h1 : u.oneCell' = true)
    (h63 : n + 1 ≤ maxLen) (hbytes : (n + 1) * bytes ≤ 140737488355328) (hbase : base ≤ W.heap.size)
    (h : ∀ v' w', w'.ownsRow base e 1 v' (n + 1) (xs ++ [u]) → Chg (fun k => v.ownBlock = some k) W w' → (∀ k, v'.ownBlock = some k → v.ownBlock = some k ∨ W.heap.size ≤ k) → wpList P ops Q rest (a.put o.dst v') w') :
    wpList P ops Q (o :: rest) a (W.alloc (.cells #[u] e)) := by
  refine wpList_plain hgd fun K hK => ?_
  obtain ⟨v', w', hr, h2, h3, h4⟩ := app_where (P := P) (W.alloc (.cells #[u] e)) base t o.type e i z 1 bytes ht hi hz hsize hby hzs (by decide) v n xs (hown.alloc _) ⟨g, 0, none⟩ 1 1 [u] rfl
    (cell_one_at W u e g hg) (fun y hy => by simp at hy; subst hy; exact h1) h63 hbytes (by simp; omega)
  unfold Oper.wp execOp
  simp only [ho, resolve, invoke, builtin, Sem.run_bind, Sem.run_pure, Result.andThen_ok, List.map_toArray, List.map_cons, List.map_nil, hs, hx, hr]
  refine hK _ _ (h v' w' h2 (((Chg.refl _ W).alloc _).grown h3 (fun k hk => .inl hk)) fun k hk => ?_)
  rcases h4 with h4 | h4
  · exact .inl (h4 ▸ hk)
  · rw [h4] at hk
    simp at hk
    omega
end

end Go.Proofs.Ytamjhblhkabpaaa

namespace Go.Proofs.Ytamjhblhkabpaaa
open Go.RowKit

theorem info_u64 : (Try.prog.info? 28).map (fun i => (i.zero, i.size, i.bytes)) = some (some (.int .u64 0), 1, 8) := by kernel_rfl
theorem info_i64 : (Try.prog.info? 3).map (fun i => (i.zero, i.size, i.bytes)) = some (some (.int .i64 0), 1, 8) := by kernel_rfl

theorem app_u64 (W : World) {ops : Array Oper} {rest : List Oper} {o : Oper} {a : Act} {Q : Exit → Act → World → Prop} (hgd : o.guard = none) (s x : Operand)
    (ho : o.op = .call { callee := .builtin .append, args := #[s, x], argTypes := #[34, 34] })
    (base : Nat) (v : Value) (n : Nat) (xs : List Value) (hs : a.eval s = v) (hown : W.ownsRow base 28 1 v n xs)
    (g : Nat) (y : Int) (hx : a.eval x = .slice (some ⟨g, 0, none⟩) 1 1) (hg : g = W.heap.size) (hn : n ≤ 1000000) (hbase : base ≤ W.heap.size)
    (h : ∀ v' w', w'.ownsRow base 28 1 v' (n + 1) (xs ++ [.int .u64 y]) → Chg (fun k => v.ownBlock = some k) W w' → (∀ k, v'.ownBlock = some k → v.ownBlock = some k ∨ W.heap.size ≤ k) → wpList Try.prog ops Q rest (a.put o.dst v') w') :
    wpList Try.prog ops Q (o :: rest) a (W.alloc (.cells #[.int .u64 y] 28)) := by
  obtain ⟨i0, hi, hz0, hz1, hz2⟩ := info_parts info_u64
  exact app1 W hgd s x _ ho base _ i0 _ 8 Try.underlying34 hi hz0 hz1 hz2 rfl v n xs hs hown g _ hx hg rfl (by unfold maxLen; omega) (by omega) hbase h

end Go.Proofs.Ytamjhblhkabpaaa

namespace Go.Proofs.Ytamjhblhkabpaaa
open Go.RowKit

end Go.Proofs.Ytamjhblhkabpaaa

namespace Go.Proofs.Ytamjhblhkabpaaa
open Go.RowKit
set_option linter.unusedVariables false

/-- A row of the call's own that has an element: where it lies. -/
theorem row_ptr {w : World} {B : Nat} {e : TypeId} {sa : Option Addr} {n cap : Nat} {xs : List Value} (h : w.ownsRow B e 1 (.slice sa n cap) n xs) (hn : 0 < n) :
    ∃ g, sa = some ⟨g, 0, none⟩ ∧ B ≤ g ∧ g < w.heap.size ∧ n ≤ cap ∧ (∀ i u, xs[i]? = some u → w.cell? ⟨g, i, none⟩ = some u) ∧ ∀ i, w.frozen? ⟨g, i, none⟩ = false := by
  have hr := rd_of_row h
  have hc := hr.cap_le
  obtain ⟨b, off, rfl, hcell⟩ := hr.at hn
  rcases h.2 with ⟨h0, _⟩ | ⟨g, cap', cur, hv, hb, hg, _⟩
  · cases h0
  · cases hv
    exact ⟨b, rfl, hb, block_lt hg, hc.1, fun i u hu => by have := hcell i u hu; rwa [Nat.zero_add] at this, fun i => frozen_of hg i⟩

/-- A store into such a row. -/
theorem row_set {w : World} {B : Nat} {e : TypeId} {g n cap : Nat} {xs : List Value} (h : w.ownsRow B e 1 (.slice (some ⟨g, 0, none⟩) n cap) n xs) {i : Nat} (hi : i < n) (u : Value) :
    (w.setCell ⟨g, i, none⟩ u).ownsRow B e 1 (.slice (some ⟨g, 0, none⟩) n cap) n (xs.set i u) := by
  refine ⟨by rw [List.length_set]; exact h.1, ?_⟩
  have hl := h.1
  rcases h.2 with ⟨h0, _⟩ | ⟨g', cap', cur, hv, hb, hg, hc, hm, hs, ht⟩
  · cases h0
  · cases hv
    refine .inr ⟨g, cap, cur.setIfInBounds i u, rfl, hb, set_of hg i u, hc, hm, by simpa using hs, ?_⟩
    rw [← ht]
    simp only [Array.toList_setIfInBounds]
    rw [List.take_set]

theorem i64s_set (l : List Int) (i : Nat) (x : Int) : i64s (l.set i x) = (i64s l).set i (.int .i64 x) := by simp [i64s, List.map_set]
theorem u64s_set (l : List Int) (i : Nat) (x : Int) : u64s (l.set i x) = (u64s l).set i (.int .u64 x) := by simp [u64s, List.map_set]

end Go.Proofs.Ytamjhblhkabpaaa

namespace Go.Proofs.Ytamjhblhkabpaaa
open Go.RowKit
set_option linter.unusedVariables false

end Go.Proofs.Ytamjhblhkabpaaa
