/-
  alias.Build: the table of weights.
-/
import Derived.Test.YtcoohepkmhpdkaaGreatAli1
namespace Go.Proofs.YtcoohepkmhpdkaaGreat
open Go.RowKit
set_option linter.unusedVariables false
set_option linter.unusedSimpArgs false

theorem info_bool : (Tryz.prog.info? 4).map (fun i => (i.zero, i.size, i.bytes)) = some (some (.bool false), 1, 1) := by kernel_rfl

/-- 'make([]T, n)': a rule for the walk -/
theorem run_mk {t e : TypeId} {z : Value} {bytes : Nat} (hu : Tryz.prog.underlying t = some (.slice e)) (hinfo : (Tryz.prog.info? e).map (fun i => (i.zero, i.size, i.bytes)) = some (some z, 1, bytes)) (hz : z.cells = #[z]) (hby : bytes ≤ 8) (k : IntKind) (n : Nat) (hn : n ≤ 1000000) :
    ∃ cs : Array Value, cs.toList = List.replicate n z ∧ ∀ w : World, (Instr.makeSlice t (.int k (n : Int)) (.int k (n : Int))).run Tryz.prog w = .ok (.slice (some ⟨w.heap.size, 0, none⟩) n n) (w.alloc (.cells cs e)) := by
  obtain ⟨i0, hi, hz0, hz1, hz2⟩ := info_parts hinfo
  refine ⟨madeCells z.cells (n * 1), by rw [hz, toList_madeCells_one, Nat.mul_one], fun w => ?_⟩
  have hb' : (i0.bytes : Int) * (n : Int) ≤ 281474976710656 := by
    have : bytes * n ≤ 8 * n := Nat.mul_le_mul_right _ hby
    have h : ((bytes * n : Nat) : Int) ≤ 281474976710656 := by omega
    rw [hz2]
    rwa [Int.natCast_mul] at h
  have hr := run_make (P := Tryz.prog) w t e i0 z hu hi hz0 k k n n (by omega) (Int.le_refl _) hb' (by omega)
  simp only [Int.toNat_natCast, hz1] at hr
  exact hr
theorem mk_row (w : World) (B : Nat) (e : TypeId) {z : Value} {cs : Array Value} {n : Nat} (hcs : cs.toList = List.replicate n z) (hB : B ≤ w.heap.size) (hn : n ≤ 1000000) : (w.alloc (.cells cs e)).ownsRow B e 1 (.slice (some ⟨w.heap.size, 0, none⟩) n n) n (List.replicate n z) := by
  have h1 : cs.size = n := by rw [← Array.length_toList, hcs, List.length_replicate]
  have := World.ownsRow_lit (base := B) (e := e) (size := 1) w cs n hB (by unfold maxLen; omega) (by rw [h1, Nat.mul_one])
  rw [hcs] at this
  exact this

theorem heap_at {w : World} {cs : Array Value} {e : TypeId} {k : Nat} (hk : k = w.heap.size) : (w.alloc (.cells cs e)).heap[k]? = some (.cells cs e (0, 0)) := by subst hk; exact heap_alloc_new _ _
theorem heap_up {w : World} {o : Obj} {k : Nat} {x : Obj} (h : w.heap[k]? = some x) : (w.alloc o).heap[k]? = some x := (heap_alloc_old _ _ (block_lt h)).trans h
/-- a row that fills its block -/
theorem row_full {w : World} {B b : Nat} {e : TypeId} {cs : Array Value} {n : Nat} {l : List Value} (h : w.heap[b]? = some (.cells cs e (0, 0))) (hB : B ≤ b) (hl : cs.toList = l) (hn : l.length = n) (hm : n ≤ 1000000) : w.ownsRow B e 1 (.slice (some ⟨b, 0, none⟩) n n) n l := by
  have hs : cs.size = n := by rw [← Array.length_toList, hl, hn]
  exact ⟨by rw [hn, Nat.mul_one], .inr ⟨b, n, cs, rfl, hB, h, Nat.le_refl _, by unfold maxLen; omega, by rw [hs, Nat.mul_one], by rw [← hl]; exact List.take_of_length_le (by rw [Array.length_toList, hs]; omega)⟩⟩

/-- the boxes of a table that was just made -/
structure TabP (n : Nat) (W0 wx : World) (bt bb ba : Nat) : Prop where
  tb : wx.heap[bt]? = some (.cells #[.int .u64 0, .slice (some ⟨bb, 0, none⟩) n n, .slice (some ⟨ba, 0, none⟩) n n] 73 (0, 0))
  rb : wx.ownsRow W0.heap.size 48 1 (.slice (some ⟨bb, 0, none⟩) n n) n (List.replicate n (.int .u64 0))
  ra : wx.ownsRow W0.heap.size 3 1 (.slice (some ⟨ba, 0, none⟩) n n) n (List.replicate n (.int .i64 0))
  bel : Below W0.heap.size W0 wx
  lt : W0.heap.size ≤ bt

/-- what lies in the blocks of the call's own while a table is built -/
structure AliB (n : Nat) (W0 wr : World) (bt bb ba bh hb : Nat) (T : Nat) (has bl : List Nat) (al : List Int) : Prop where
  tb : wr.heap[bt]? = some (.cells #[.int .u64 (T : Int), .slice (some ⟨bb, 0, none⟩) n n, .slice (some ⟨ba, 0, none⟩) n n] 73 (0, 0))
  hx : wr.heap[bh]? = some (.cells #[.slice (some ⟨hb, 0, none⟩) n n] 22 (0, 0))
  rb : wr.ownsRow W0.heap.size 48 1 (.slice (some ⟨bb, 0, none⟩) n n) n (u64s (zsN bl))
  ra : wr.ownsRow W0.heap.size 3 1 (.slice (some ⟨ba, 0, none⟩) n n) n (i64s al)
  rh : wr.ownsRow W0.heap.size 48 1 (.slice (some ⟨hb, 0, none⟩) n n) n (u64s (zsN has))
  bel : Below W0.heap.size W0 wr
  lt : W0.heap.size ≤ bt
  lh : W0.heap.size ≤ bh
  ne : bb ≠ hb
theorem blk_neA {w : World} {a b : Nat} {ca cb : Array Value} {e e' : TypeId} {f f' : Nat × Nat} (h : w.heap[a]? = some (.cells ca e f)) (h' : w.heap[b]? = some (.cells cb e' f')) (hne : e ≠ e') : a ≠ b := by
  rintro rfl
  rw [h] at h'
  injection h' with h'
  injection h' with _ h3
  exact hne h3
theorem row_blk {w : World} {B b : Nat} {e : TypeId} {n cap : Nat} {xs : List Value} (h : w.ownsRow B e 1 (.slice (some ⟨b, 0, none⟩) n cap) n xs) : ∃ cs, w.heap[b]? = some (.cells cs e (0, 0)) := by
  rcases h.2 with ⟨h0, _⟩ | ⟨g1, c1, cur1, hv, _, h1, _⟩
  · cases h0
  · cases hv; exact ⟨_, h1⟩
theorem row_otherA {w : World} {B b : Nat} {e : TypeId} {n cap : Nat} {xs : List Value} {p : Addr} {u : Value} (h : w.ownsRow B e 1 (.slice (some ⟨b, 0, none⟩) n cap) n xs) (hne : b ≠ p.block) : (w.setCell p u).ownsRow B e 1 (.slice (some ⟨b, 0, none⟩) n cap) n xs :=
  row_kept h fun g hg => by cases hg; exact Below.heap_setCell _ _ _ _ hne
theorem AliB.setT {n : Nat} {W0 wr : World} {bt bb ba bh hb T : Nat} {has bl : List Nat} {al : List Int} (h : AliB n W0 wr bt bb ba bh hb T has bl al) (T' : Nat) : AliB n W0 (wr.setCell ⟨bt, 0, none⟩ (.int .u64 (T' : Int))) bt bb ba bh hb T' has bl al := by
  obtain ⟨c1, e1⟩ := row_blk h.rb
  obtain ⟨c2, e2⟩ := row_blk h.ra
  obtain ⟨c3, e3⟩ := row_blk h.rh
  refine ⟨?_, ?_, row_otherA h.rb (blk_neA e1 h.tb (by decide)), row_otherA h.ra (blk_neA e2 h.tb (by decide)), row_otherA h.rh (blk_neA e3 h.tb (by decide)), h.bel.setCell (p := ⟨bt, 0, none⟩) h.lt _, h.lt, h.lh, h.ne⟩
  · rw [set_of h.tb 0 _]; simp
  · rw [Below.heap_setCell _ _ _ _ (blk_neA h.hx h.tb (by decide))]; exact h.hx
theorem AliB.setH {n : Nat} {W0 wr : World} {bt bb ba bh hb T : Nat} {has bl : List Nat} {al : List Int} (h : AliB n W0 wr bt bb ba bh hb T has bl al) {i : Nat} (hi : i < n) (v : Nat) : AliB n W0 (wr.setCell ⟨hb, i, none⟩ (.int .u64 (v : Int))) bt bb ba bh hb T (has.set i v) bl al := by
  obtain ⟨c2, e2⟩ := row_blk h.ra
  obtain ⟨c3, e3⟩ := row_blk h.rh
  refine ⟨?_, ?_, row_otherA h.rb h.ne, row_otherA h.ra (blk_neA e2 e3 (by decide)), ?_, h.bel.setCell (p := ⟨hb, i, none⟩) (h.rh.lt _ rfl).1 _, h.lt, h.lh, h.ne⟩
  · rw [Below.heap_setCell _ _ _ _ (blk_neA h.tb e3 (by decide))]; exact h.tb
  · rw [Below.heap_setCell _ _ _ _ (blk_neA h.hx e3 (by decide))]; exact h.hx
  · have h2 := row_set h.rh hi (.int .u64 (v : Int))
    rw [← u64s_set] at h2
    rw [show zsN (has.set i v) = (zsN has).set i (v : Int) by simp [zsN, List.map_set]]
    exact h2
theorem AliB.setB {n : Nat} {W0 wr : World} {bt bb ba bh hb T : Nat} {has bl : List Nat} {al : List Int} (h : AliB n W0 wr bt bb ba bh hb T has bl al) {i : Nat} (hi : i < n) (v : Nat) : AliB n W0 (wr.setCell ⟨bb, i, none⟩ (.int .u64 (v : Int))) bt bb ba bh hb T has (bl.set i v) al := by
  obtain ⟨c2, e2⟩ := row_blk h.ra
  obtain ⟨c3, e3⟩ := row_blk h.rb
  refine ⟨?_, ?_, ?_, row_otherA h.ra (blk_neA e2 e3 (by decide)), row_otherA h.rh (Ne.symm h.ne), h.bel.setCell (p := ⟨bb, i, none⟩) (h.rb.lt _ rfl).1 _, h.lt, h.lh, h.ne⟩
  · rw [Below.heap_setCell _ _ _ _ (blk_neA h.tb e3 (by decide))]; exact h.tb
  · rw [Below.heap_setCell _ _ _ _ (blk_neA h.hx e3 (by decide))]; exact h.hx
  · have h2 := row_set h.rb hi (.int .u64 (v : Int))
    rw [← u64s_set] at h2
    rw [show zsN (bl.set i v) = (zsN bl).set i (v : Int) by simp [zsN, List.map_set]]
    exact h2
theorem AliB.setA {n : Nat} {W0 wr : World} {bt bb ba bh hb T : Nat} {has bl : List Nat} {al : List Int} (h : AliB n W0 wr bt bb ba bh hb T has bl al) {i : Nat} (hi : i < n) (v : Int) : AliB n W0 (wr.setCell ⟨ba, i, none⟩ (.int .i64 v)) bt bb ba bh hb T has bl (al.set i v) := by
  obtain ⟨c1, e1⟩ := row_blk h.rb
  obtain ⟨c2, e2⟩ := row_blk h.rh
  obtain ⟨c3, e3⟩ := row_blk h.ra
  refine ⟨?_, ?_, row_otherA h.rb (blk_neA e1 e3 (by decide)), ?_, row_otherA h.rh (blk_neA e2 e3 (by decide)), h.bel.setCell (p := ⟨ba, i, none⟩) (h.ra.lt _ rfl).1 _, h.lt, h.lh, h.ne⟩
  · rw [Below.heap_setCell _ _ _ _ (blk_neA h.tb e3 (by decide))]; exact h.tb
  · rw [Below.heap_setCell _ _ _ _ (blk_neA h.hx e3 (by decide))]; exact h.hx
  · have h2 := row_set h.ra hi (.int .i64 v)
    rw [← i64s_set] at h2
    exact h2

/-- weights as far as they were read -/
def hasK (ws : List Nat) (k : Nat) : List Nat := (List.range ws.length).map fun i => if i < k then ws.length * ws.getD i 0 else 0
def alK (n k : Nat) : List Int := (List.range n).map fun i => if i < k then (i : Int) else 0
theorem hasK_zero (ws : List Nat) : hasK ws 0 = List.replicate ws.length 0 := by
  refine List.ext_getElem (by simp [hasK]) fun i h1 h2 => ?_
  simp [hasK]
theorem alK_zero (n : Nat) : alK n 0 = List.replicate n 0 := by
  refine List.ext_getElem (by simp [alK]) fun i h1 h2 => ?_
  simp [alK]
theorem mapset {α : Type} (n k : Nat) (hk : k < n) (f : Nat → α) (d : α) : ((List.range n).map fun i => if i < k then f i else d).set k (f k) = (List.range n).map fun i => if i < k + 1 then f i else d := by
  refine List.ext_getElem (by simp) fun i h1 h2 => ?_
  simp only [List.length_set, List.length_map, List.length_range] at h1
  rw [List.getElem_set]
  simp only [List.getElem_map, List.getElem_range]
  by_cases h : k = i
  · subst h; simp
  · rw [if_neg h]
    by_cases h2 : i < k
    · rw [if_pos h2, if_pos (by omega)]
    · rw [if_neg h2, if_neg (by omega)]
theorem hasK_succ (ws : List Nat) (k : Nat) (hk : k < ws.length) : hasK ws (k + 1) = (hasK ws k).set k (ws.length * ws.getD k 0) := (mapset _ k hk (fun i => ws.length * ws.getD i 0) 0).symm
theorem alK_succ (n k : Nat) (hk : k < n) : alK n (k + 1) = (alK n k).set k (k : Int) := (mapset n k hk (fun i => (i : Int)) 0).symm
theorem hasK_end (ws : List Nat) : hasK ws ws.length = ws.map (ws.length * ·) := by
  refine List.ext_getElem (by simp [hasK]) fun i h1 h2 => ?_
  simp only [hasK, List.length_map, List.length_range] at h1
  simp [hasK, h1, List.getD, List.getElem?_eq_getElem h1]
theorem alK_end (n : Nat) : alK n n = (List.range n).map Int.ofNat := by
  refine List.ext_getElem (by simp [alK]) fun i h1 h2 => ?_
  simp only [alK, List.length_map, List.length_range] at h1
  simp [alK, h1]
theorem sum_take_le (ws : List Nat) (M : Nat) (h : ∀ x ∈ ws, x ≤ M) : ∀ k, (ws.take k).sum ≤ k * M := by
  intro k
  induction k with
  | zero => simp
  | succ k ih =>
    by_cases hk : k < ws.length
    · rw [List.take_succ_eq_append_getElem hk, List.sum_append]
      have := h _ (List.getElem_mem hk)
      simp only [List.sum_cons, List.sum_nil, Nat.add_zero, Nat.succ_mul]
      omega
    · rw [List.take_of_length_le (by omega)]
      rw [List.take_of_length_le (by omega)] at ih
      rw [Nat.succ_mul]; omega
theorem sum_take_succ (ws : List Nat) (k : Nat) (hk : k < ws.length) : (ws.take (k + 1)).sum = (ws.take k).sum + ws.getD k 0 := by
  rw [List.take_succ_eq_append_getElem hk, List.sum_append]
  simp [List.getD, List.getElem?_eq_getElem hk]

theorem AliB.drew {n : Nat} {W0 wr : World} {bt bb ba bh hb T : Nat} {has bl : List Nat} {al : List Int} (h : AliB n W0 wr bt bb ba bh hb T has bl al) : AliB n W0 wr.drew bt bb ba bh hb T has bl al :=
  ⟨h.tb, h.hx, h.rb.drew, h.ra.drew, h.rh.drew, h.bel.drew, h.lt, h.lh, h.ne⟩
/-- a store into a block of another type -/
theorem AliB.setO {n : Nat} {W0 wr : World} {bt bb ba bh hb T : Nat} {has bl : List Nat} {al : List Int} (h : AliB n W0 wr bt bb ba bh hb T has bl al) {g i : Nat} {cs : Array Value} (hg : wr.heap[g]? = some (.cells cs 4 (0, 0))) (hW : W0.heap.size ≤ g) (u : Value) : AliB n W0 (wr.setCell ⟨g, i, none⟩ u) bt bb ba bh hb T has bl al := by
  obtain ⟨c1, e1⟩ := row_blk h.rb
  obtain ⟨c2, e2⟩ := row_blk h.ra
  obtain ⟨c3, e3⟩ := row_blk h.rh
  refine ⟨?_, ?_, row_otherA h.rb (blk_neA e1 hg (by decide)), row_otherA h.ra (blk_neA e2 hg (by decide)), row_otherA h.rh (blk_neA e3 hg (by decide)), h.bel.setCell (p := ⟨g, i, none⟩) hW _, h.lt, h.lh, h.ne⟩
  · rw [Below.heap_setCell _ _ _ _ (blk_neA h.tb hg (by decide))]; exact h.tb
  · rw [Below.heap_setCell _ _ _ _ (blk_neA h.hx hg (by decide))]; exact h.hx

/-- the columns' numbers, as far as they are filled -/
def belP (s : StA) : List Nat := (List.range s.dn.length).map fun i => if s.dn.getD i true then s.bl.getD i 0 else 0
def finK (s : StA) (T k : Nat) : List Nat := (List.range s.dn.length).map fun i => if s.dn.getD i true then s.bl.getD i 0 else if i < k then T else 0
theorem belP_len (s : StA) : (belP s).length = s.dn.length := by simp [belP]
theorem finK_len (s : StA) (T k : Nat) : (finK s T k).length = s.dn.length := by simp [finK]
theorem finK_zero (s : StA) (T : Nat) : finK s T 0 = belP s := by
  unfold finK belP
  refine List.map_congr_left fun i _ => ?_
  simp
theorem finK_end {T n B : Nat} {s : StA} (h : InvA T n B s) : finK s T n = s.bl := by
  refine List.ext_getElem (by rw [finK_len, h.ld, h.lb]) fun i h1 h2 => ?_
  rw [finK_len, h.ld] at h1
  have hb := h.bt i h1
  simp only [finK, List.getElem_map, List.getElem_range]
  rw [← List.getElem?_eq_getElem h2 |> fun e => show s.bl.getD i 0 = s.bl[i] by rw [List.getD_eq_getElem?_getD, e]; rfl]
  cases hd : s.dn.getD i true with
  | true => simp
  | false => rw [hd] at hb; rw [if_neg (by decide), if_pos h1]; exact (hb rfl).symm
theorem finK_done {s : StA} {T k : Nat} (hd : s.dn.getD k true = true) : finK s T (k + 1) = finK s T k := by
  unfold finK
  refine List.map_congr_left fun i _ => ?_
  by_cases h : i = k
  · subst h; rw [if_pos hd, if_pos hd]
  · by_cases h2 : i < k
    · rw [if_pos h2, if_pos (show i < k + 1 by omega)]
    · rw [if_neg h2, if_neg (show ¬ i < k + 1 by omega)]
theorem finK_set {s : StA} {T k : Nat} (hk : k < s.dn.length) (hd : s.dn.getD k true = false) : finK s T (k + 1) = (finK s T k).set k T := by
  refine List.ext_getElem (by simp [finK]) fun i h1 h2 => ?_
  simp only [finK_len] at h1
  rw [List.getElem_set]
  simp only [finK, List.getElem_map, List.getElem_range]
  by_cases h : k = i
  · subst h; rw [if_neg (by rw [hd]; decide), if_pos (Nat.lt_succ_self _), if_pos rfl]
  · rw [if_neg h]
    by_cases h3 : i < k
    · rw [if_pos h3, if_pos (show i < k + 1 by omega)]
    · rw [if_neg h3, if_neg (show ¬ i < k + 1 by omega)]
theorem belP_next {T n B : Nat} {s : StA} (h : InvA T n B s) {j g : Nat} (hj : j < n) : belP (nextA T s j g) = (belP s).set j (s.has.getD j 0) := by
  refine List.ext_getElem (by simp [belP, nextA]) fun i h1 h2 => ?_
  have hi : i < n := by rw [List.length_set, belP_len, h.ld] at h2; exact h2
  rw [List.getElem_set]
  simp only [belP, nextA, List.getElem_map, List.getElem_range]
  rw [getD_setN _ _ _ _ _ (by rw [h.ld]; exact hj), getD_setN _ _ _ _ _ (by rw [h.lb]; exact hj)]
  by_cases hji : j = i
  · subst hji; simp
  · rw [if_neg hji, if_neg hji, if_neg hji]
theorem belP_start (ws : List Nat) : belP (startA ws) = List.replicate ws.length 0 := by
  refine List.ext_getElem (by simp [belP, startA]) fun i h1 h2 => ?_
  simp only [List.length_replicate] at h2
  simp [belP, startA, List.getD, h2]

structure AliC (n : Nat) (W0 wr : World) (bt bb ba bh hb bd db T : Nat) (s : StA) : Prop where
  a : AliB n W0 wr bt bb ba bh hb T s.has (belP s) s.al
  dx : wr.heap[bd]? = some (.cells #[.slice (some ⟨db, 0, none⟩) n n] 104 (0, 0))
  rd : wr.ownsRow W0.heap.size 4 1 (.slice (some ⟨db, 0, none⟩) n n) n (bools s.dn)
  ld : W0.heap.size ≤ bd

/-- the four stores of a round -/
theorem AliC.next {n B : Nat} {W0 wr : World} {bt bb ba bh hb bd db T : Nat} {s : StA} (h : AliC n W0 wr bt bb ba bh hb bd db T s) (hi : InvA T n B s) {j g : Nat} (hj : j < n) (hg : g < n) {x v : Nat} (hx : s.has.getD j 0 = x) (hv : s.has.getD g 0 - (T - x) = v) :
    AliC n W0 (((((wr.setCell ⟨bb, j, none⟩ (.int .u64 (x : Int))).setCell ⟨ba, j, none⟩ (.int .i64 (g : Int))).setCell ⟨db, j, none⟩ (.bool true))).setCell ⟨hb, g, none⟩ (.int .u64 (v : Int))) bt bb ba bh hb bd db T (nextA T s j g) := by
  obtain ⟨cd, ed⟩ := row_blk h.rd
  obtain ⟨c1, e1⟩ := row_blk h.a.rb
  obtain ⟨c2, e2⟩ := row_blk h.a.ra
  obtain ⟨c3, e3⟩ := row_blk h.a.rh
  have n1 : bd ≠ bb := blk_neA h.dx e1 (by decide)
  have n2 : bd ≠ ba := blk_neA h.dx e2 (by decide)
  have n3 : bd ≠ hb := blk_neA h.dx e3 (by decide)
  have n4 : bd ≠ db := blk_neA h.dx ed (by decide)
  have m1 : db ≠ bb := blk_neA ed e1 (by decide)
  have m2 : db ≠ ba := blk_neA ed e2 (by decide)
  have m3 : db ≠ hb := blk_neA ed e3 (by decide)
  have a2 := (h.a.setB hj x).setA hj (g : Int)
  have ed2 : (((wr.setCell ⟨bb, j, none⟩ (.int .u64 (x : Int))).setCell ⟨ba, j, none⟩ (.int .i64 (g : Int)))).heap[db]? = some (.cells cd 4 (0, 0)) := by
    rw [Below.heap_setCell _ _ _ _ m2, Below.heap_setCell _ _ _ _ m1]; exact ed
  have a3 := a2.setO (i := j) ed2 (h.rd.lt _ rfl).1 (.bool true)
  have a4 := a3.setH hg v
  have r2 := row_otherA (p := ⟨ba, j, none⟩) (u := .int .i64 (g : Int)) (row_otherA (p := ⟨bb, j, none⟩) (u := .int .u64 (x : Int)) h.rd m1) m2
  have r3 := row_set r2 hj (.bool true)
  have r4 := row_otherA (p := ⟨hb, g, none⟩) (u := .int .u64 (v : Int)) r3 m3
  refine ⟨?_, ?_, ?_, h.ld⟩
  · show AliB n W0 _ bt bb ba bh hb T (s.has.set g (s.has.getD g 0 - (T - s.has.getD j 0))) (belP (nextA T s j g)) (s.al.set j (g : Int))
    rw [belP_next hi hj, hx, hv]
    exact a4
  · rw [Below.heap_setCell _ _ _ _ n3, Below.heap_setCell _ _ _ _ n4, Below.heap_setCell _ _ _ _ n2, Below.heap_setCell _ _ _ _ n1]; exact h.dx
  · show World.ownsRow _ _ _ _ _ _ (bools (s.dn.set j true))
    rw [bools_set]
    exact r4
theorem AliC.drew {n : Nat} {W0 wr : World} {bt bb ba bh hb bd db T : Nat} {s : StA} (h : AliC n W0 wr bt bb ba bh hb bd db T s) : AliC n W0 wr.drew bt bb ba bh hb bd db T s := ⟨h.a.drew, h.dx, h.rd.drew, h.ld⟩

/-- the blocks are different ones -/
structure NeA (bt bb ba bh hb bd db : Nat) : Prop where
  b1 : bt ≠ bb
  b2 : bd ≠ bb
  b3 : bh ≠ bb
  b4 : hb ≠ bb
  a1 : bt ≠ ba
  a2 : bd ≠ ba
  a3 : bh ≠ ba
  a4 : hb ≠ ba
  d1 : bt ≠ db
  d2 : bd ≠ db
  d3 : bh ≠ db
  d4 : hb ≠ db
  h3 : bh ≠ hb
  h4 : bt ≠ hb
  c1 : ba ≠ bb
  c2 : db ≠ bb
  c3 : db ≠ ba
theorem AliC.nes {n : Nat} {W0 wr : World} {bt bb ba bh hb bd db T : Nat} {s : StA} (h : AliC n W0 wr bt bb ba bh hb bd db T s) : NeA bt bb ba bh hb bd db := by
  obtain ⟨cb, eb⟩ := row_blk h.a.rb
  obtain ⟨ca, ea⟩ := row_blk h.a.ra
  obtain ⟨ch, eh⟩ := row_blk h.a.rh
  obtain ⟨cd, ed⟩ := row_blk h.rd
  exact ⟨blk_neA h.a.tb eb (by decide), blk_neA h.dx eb (by decide), blk_neA h.a.hx eb (by decide), Ne.symm h.a.ne, blk_neA h.a.tb ea (by decide), blk_neA h.dx ea (by decide), blk_neA h.a.hx ea (by decide), blk_neA eh ea (by decide),
    blk_neA h.a.tb ed (by decide), blk_neA h.dx ed (by decide), blk_neA h.a.hx ed (by decide), blk_neA eh ed (by decide), blk_neA h.a.hx eh (by decide), blk_neA h.a.tb eh (by decide), blk_neA ea eb (by decide), blk_neA ed eb (by decide), blk_neA ed ea (by decide)⟩

/-- what is wrong with weights -/
def aliBad (ws : List Nat) : Bool := ws.any fun x => decide (4294967296 < x)
def aliE (ws : List Nat) : Int := if ws.length < 1 ∨ 256 < ws.length then 1 else if aliBad ws then 9 else if ws.sum = 0 then 8 else 0
theorem aliBad_iff {ws : List Nat} : aliBad ws = false ↔ ∀ x ∈ ws, x ≤ 4294967296 := by
  simp only [aliBad, List.any_eq_false, decide_eq_true_eq, Nat.not_lt]
theorem aliBad_at {ws : List Nat} {k : Nat} (hk : k < ws.length) (h : 4294967296 < ws.getD k 0) : aliBad ws = true := by
  rw [aliBad, List.any_eq_true]
  exact ⟨_, List.getElem_mem hk, by rw [decide_eq_true_eq]; rwa [List.getD_eq_getElem?_getD, List.getElem?_eq_getElem hk] at h⟩

end Go.Proofs.YtcoohepkmhpdkaaGreat
