/-
  The document's table of weights (Build): what lies in its blocks, and the walk.
  The document's table of weights: the walk of Build.
-/
import Derived.Test.YtcoohepkmhpdkaaGreatAli5
import Derived.Deep.RegionHeld3
namespace Go.Proofs.YtcoohepkmhpdkaaGreat
open Go.RowKit
set_option linter.unusedVariables false
set_option linter.unusedSimpArgs false

theorem app_bool (W : World) {ops : Array Oper} {rest : List Oper} {o : Oper} {a : Act} {Q : Exit → Act → World → Prop} (hgd : o.guard = none) (s x : Operand)
    (ho : o.op = .call { callee := .builtin .append, args := #[s, x], argTypes := #[104, 104] })
    (base : Nat) (v : Value) (n : Nat) (xs : List Value) (hs : a.eval s = v) (hown : W.ownsRow base 4 1 v n xs)
    (g : Nat) (y : Bool) (hx : a.eval x = .slice (some ⟨g, 0, none⟩) 1 1) (hg : g = W.heap.size) (hn : n ≤ 1000000) (hbase : base ≤ W.heap.size)
    (h : ∀ v' w', w'.ownsRow base 4 1 v' (n + 1) (xs ++ [.bool y]) → Chg (fun k => v.ownBlock = some k) W w' → (∀ k, v'.ownBlock = some k → v.ownBlock = some k ∨ W.heap.size ≤ k) → wpList Tryz.prog ops Q rest (a.put o.dst v') w') :
    wpList Tryz.prog ops Q (o :: rest) a (W.alloc (.cells #[.bool y] 4)) := by
  obtain ⟨i0, hi, hz0, hz1, hz2⟩ := info_parts info_bool
  exact app1 W hgd s x _ ho base _ i0 _ 1 Tryz.underlying104 hi hz0 hz1 hz2 rfl v n xs hs hown g _ hx hg rfl (by unfold maxLen; omega) (by omega) hbase h

theorem own_blk {w : World} {B : Nat} {e : TypeId} {sz n : Nat} {v : Value} {xs : List Value} (h : w.ownsRow B e sz v n xs) {g : Nat} (hg : v.ownBlock = some g) : ∃ cs, w.heap[g]? = some (.cells cs e (0, 0)) := by
  rcases h.2 with ⟨rfl, -⟩ | ⟨g', cap, cur, rfl, -, hh, -⟩
  · cases hg
  · cases hg; exact ⟨cur, hh⟩

/-- what lies in the blocks of the call's own while the document's table is built -/
structure RfB (w wr : World) (b T : Nat) (hv dv bv av : Value) (has : List Nat) (dn : List Bool) (bl : List Nat) (al : List Int) : Prop where
  res : wr.heap[w.heap.size]? = some (.cells #[.int .u64 0, .slice none 0 0, .slice none 0 0] 73 (0, 0))
  tb : wr.heap[b]? = some (.cells #[.int .u64 (T : Int), bv, av] 73 (0, 0))
  rh : wr.ownsRow w.heap.size 48 1 hv has.length (u64s (zsN has))
  rd : wr.ownsRow w.heap.size 4 1 dv dn.length (bools dn)
  rb : wr.ownsRow w.heap.size 48 1 bv bl.length (u64s (zsN bl))
  ra : wr.ownsRow w.heap.size 3 1 av al.length (i64s al)
  ne : ∀ g, hv.ownBlock = some g → bv.ownBlock ≠ some g
  bel : Below w.heap.size w wr
  lt : w.heap.size < b

section
variable {w wr wr' : World} {b T : Nat} {hv dv bv av hv' dv' bv' av' : Value} {has has' : List Nat} {dn dn' : List Bool} {bl bl' : List Nat} {al al' : List Int}

theorem RfB.keepH (h : RfB w wr b T hv dv bv av has dn bl al) (hc : Chg (fun k => hv.ownBlock = some k) wr wr') (ho : wr'.ownsRow w.heap.size 48 1 hv' has'.length (u64s (zsN has')))
    (hf : ∀ k, hv'.ownBlock = some k → hv.ownBlock = some k ∨ wr.heap.size ≤ k) : RfB w wr' b T hv' dv bv av has' dn bl al := by
  have ty : ∀ {k : Nat} {cs : Array Value} {e : TypeId} {f : Nat × Nat}, wr.heap[k]? = some (.cells cs e f) → e ≠ 48 → ¬ hv.ownBlock = some k := fun hk he hs => by
    obtain ⟨cs', h1⟩ := own_blk h.rh hs
    exact blk_neA hk h1 he rfl
  refine ⟨(hc.block _ (block_lt h.res) (ty h.res (by decide))).trans h.res, (hc.block _ (block_lt h.tb) (ty h.tb (by decide))).trans h.tb, ho, row_chg h.rd hc fun g hg => ?_, row_chg h.rb hc fun g hg hs => h.ne g hs hg, row_chg h.ra hc fun g hg => ?_, fun g hg hb => ?_, h.bel.trans (hc.below h.bel.size fun k hk => (h.rh.lt k hk).1), h.lt⟩
  · obtain ⟨cs, h1⟩ := own_blk h.rd hg
    exact ty h1 (by decide)
  · obtain ⟨cs, h1⟩ := own_blk h.ra hg
    exact ty h1 (by decide)
  · rcases hf g hg with h1 | h1
    · exact h.ne g h1 hb
    · have := (h.rb.lt g hb).2; omega

theorem RfB.keepD (h : RfB w wr b T hv dv bv av has dn bl al) (hc : Chg (fun k => dv.ownBlock = some k) wr wr') (ho : wr'.ownsRow w.heap.size 4 1 dv' dn'.length (bools dn')) : RfB w wr' b T hv dv' bv av has dn' bl al := by
  have ty : ∀ {k : Nat} {cs : Array Value} {e : TypeId} {f : Nat × Nat}, wr.heap[k]? = some (.cells cs e f) → e ≠ 4 → ¬ dv.ownBlock = some k := fun hk he hs => by
    obtain ⟨cs', h1⟩ := own_blk h.rd hs
    exact blk_neA hk h1 he rfl
  refine ⟨(hc.block _ (block_lt h.res) (ty h.res (by decide))).trans h.res, (hc.block _ (block_lt h.tb) (ty h.tb (by decide))).trans h.tb, row_chg h.rh hc fun g hg => ?_, ho, row_chg h.rb hc fun g hg => ?_, row_chg h.ra hc fun g hg => ?_, h.ne, h.bel.trans (hc.below h.bel.size fun k hk => (h.rd.lt k hk).1), h.lt⟩
  · obtain ⟨cs, h1⟩ := own_blk h.rh hg
    exact ty h1 (by decide)
  · obtain ⟨cs, h1⟩ := own_blk h.rb hg
    exact ty h1 (by decide)
  · obtain ⟨cs, h1⟩ := own_blk h.ra hg
    exact ty h1 (by decide)

theorem RfB.keepB (h : RfB w wr b T hv dv bv av has dn bl al) (hc : Chg (fun k => bv.ownBlock = some k ∨ k = b) wr wr') (ht : wr'.heap[b]? = some (.cells #[.int .u64 (T : Int), bv', av] 73 (0, 0)))
    (ho : wr'.ownsRow w.heap.size 48 1 bv' bl'.length (u64s (zsN bl'))) (hf : ∀ k, bv'.ownBlock = some k → bv.ownBlock = some k ∨ wr.heap.size ≤ k) : RfB w wr' b T hv dv bv' av has dn bl' al := by
  have ty : ∀ {k : Nat} {cs : Array Value} {e : TypeId} {f : Nat × Nat}, wr.heap[k]? = some (.cells cs e f) → e ≠ 48 → k ≠ b → ¬ (bv.ownBlock = some k ∨ k = b) := fun hk he hkb hs => by
    rcases hs with hs | hs
    · obtain ⟨cs', h1⟩ := own_blk h.rb hs
      exact blk_neA hk h1 he rfl
    · exact hkb hs
  have hlt := h.lt
  refine ⟨(hc.block _ (block_lt h.res) (ty h.res (by decide) (by omega))).trans h.res, ht, row_chg h.rh hc fun g hg hs => ?_, row_chg h.rd hc fun g hg => ?_, ho, row_chg h.ra hc fun g hg => ?_, fun g hg hb => ?_, h.bel.trans (hc.below h.bel.size fun k hk => ?_), h.lt⟩
  · rcases hs with hs | hs
    · exact h.ne g hg hs
    · obtain ⟨cs, h1⟩ := own_blk h.rh hg
      exact blk_neA h1 h.tb (by decide) hs
  · obtain ⟨cs, h1⟩ := own_blk h.rd hg
    exact ty h1 (by decide) (blk_neA h1 h.tb (by decide))
  · obtain ⟨cs, h1⟩ := own_blk h.ra hg
    exact ty h1 (by decide) (blk_neA h1 h.tb (by decide))
  · rcases hf g hb with h1 | h1
    · exact h.ne g hg h1
    · have := (h.rh.lt g hg).2; omega
  · rcases hk with hk | rfl
    · exact (h.rb.lt k hk).1
    · omega

theorem RfB.keepA (h : RfB w wr b T hv dv bv av has dn bl al) (hc : Chg (fun k => av.ownBlock = some k ∨ k = b) wr wr') (ht : wr'.heap[b]? = some (.cells #[.int .u64 (T : Int), bv, av'] 73 (0, 0)))
    (ho : wr'.ownsRow w.heap.size 3 1 av' al'.length (i64s al')) : RfB w wr' b T hv dv bv av' has dn bl al' := by
  have ty : ∀ {k : Nat} {cs : Array Value} {e : TypeId} {f : Nat × Nat}, wr.heap[k]? = some (.cells cs e f) → e ≠ 3 → k ≠ b → ¬ (av.ownBlock = some k ∨ k = b) := fun hk he hkb hs => by
    rcases hs with hs | hs
    · obtain ⟨cs', h1⟩ := own_blk h.ra hs
      exact blk_neA hk h1 he rfl
    · exact hkb hs
  have hlt := h.lt
  refine ⟨(hc.block _ (block_lt h.res) (ty h.res (by decide) (by omega))).trans h.res, ht, row_chg h.rh hc fun g hg => ?_, row_chg h.rd hc fun g hg => ?_, row_chg h.rb hc fun g hg => ?_, ho, h.ne, h.bel.trans (hc.below h.bel.size fun k hk => ?_), h.lt⟩
  · obtain ⟨cs, h1⟩ := own_blk h.rh hg
    exact ty h1 (by decide) (blk_neA h1 h.tb (by decide))
  · obtain ⟨cs, h1⟩ := own_blk h.rd hg
    exact ty h1 (by decide) (blk_neA h1 h.tb (by decide))
  · obtain ⟨cs, h1⟩ := own_blk h.rb hg
    exact ty h1 (by decide) (blk_neA h1 h.tb (by decide))
  · rcases hk with hk | rfl
    · exact (h.ra.lt k hk).1
    · omega

theorem RfB.drew (h : RfB w wr b T hv dv bv av has dn bl al) : RfB w wr.drew b T hv dv bv av has dn bl al := ⟨h.res, h.tb, h.rh.drew, h.rd.drew, h.rb.drew, h.ra.drew, h.ne, h.bel.drew, h.lt⟩

/-- stores into the rows -/
theorem RfB.setH {g c : Nat} (h : RfB w wr b T (.slice (some ⟨g, 0, none⟩) has.length c) dv bv av has dn bl al) {i : Nat} (hi : i < has.length) (v : Nat) :
    RfB w (wr.setCell ⟨g, i, none⟩ (.int .u64 (v : Int))) b T (.slice (some ⟨g, 0, none⟩) has.length c) dv bv av (has.set i v) dn bl al := by
  refine h.keepH (Chg.setCell (S := fun k => (Value.slice (some ⟨g, 0, none⟩) has.length c).ownBlock = some k) (Chg.refl _ wr) (p := ⟨g, i, none⟩) (.inl rfl) _) ?_ (fun k hk => .inl hk)
  have h2 := row_set h.rh hi (.int .u64 (v : Int))
  rw [← u64s_set] at h2
  rw [show zsN (has.set i v) = (zsN has).set i (v : Int) by simp [zsN, List.map_set], List.length_set]
  exact h2
theorem RfB.setD {g c : Nat} (h : RfB w wr b T hv (.slice (some ⟨g, 0, none⟩) dn.length c) bv av has dn bl al) {i : Nat} (hi : i < dn.length) (v : Bool) :
    RfB w (wr.setCell ⟨g, i, none⟩ (.bool v)) b T hv (.slice (some ⟨g, 0, none⟩) dn.length c) bv av has (dn.set i v) bl al := by
  refine h.keepD (Chg.setCell (S := fun k => (Value.slice (some ⟨g, 0, none⟩) dn.length c).ownBlock = some k) (Chg.refl _ wr) (p := ⟨g, i, none⟩) (.inl rfl) _) ?_
  rw [bools_set, List.length_set]
  exact row_set h.rd hi (.bool v)
theorem RfB.setB {g c : Nat} (h : RfB w wr b T hv dv (.slice (some ⟨g, 0, none⟩) bl.length c) av has dn bl al) {i : Nat} (hi : i < bl.length) (v : Nat) :
    RfB w (wr.setCell ⟨g, i, none⟩ (.int .u64 (v : Int))) b T hv dv (.slice (some ⟨g, 0, none⟩) bl.length c) av has dn (bl.set i v) al := by
  obtain ⟨cs, h1⟩ := own_blk h.rb rfl
  refine h.keepB (Chg.setCell (S := fun k => (Value.slice (some ⟨g, 0, none⟩) bl.length c).ownBlock = some k ∨ k = b) (Chg.refl _ wr) (p := ⟨g, i, none⟩) (.inl (.inl rfl)) _) ?_ ?_ (fun k hk => .inl hk)
  · rw [Below.heap_setCell _ _ _ _ (show b ≠ g from blk_neA h.tb h1 (by decide))]; exact h.tb
  · have h2 := row_set h.rb hi (.int .u64 (v : Int))
    rw [← u64s_set] at h2
    rw [show zsN (bl.set i v) = (zsN bl).set i (v : Int) by simp [zsN, List.map_set], List.length_set]
    exact h2
theorem RfB.setA {g c : Nat} (h : RfB w wr b T hv dv bv (.slice (some ⟨g, 0, none⟩) al.length c) has dn bl al) {i : Nat} (hi : i < al.length) (v : Int) :
    RfB w (wr.setCell ⟨g, i, none⟩ (.int .i64 v)) b T hv dv bv (.slice (some ⟨g, 0, none⟩) al.length c) has dn bl (al.set i v) := by
  obtain ⟨cs, h1⟩ := own_blk h.ra rfl
  refine h.keepA (Chg.setCell (S := fun k => (Value.slice (some ⟨g, 0, none⟩) al.length c).ownBlock = some k ∨ k = b) (Chg.refl _ wr) (p := ⟨g, i, none⟩) (.inl (.inl rfl)) _) ?_ ?_
  · rw [Below.heap_setCell _ _ _ _ (show b ≠ g from blk_neA h.tb h1 (by decide))]; exact h.tb
  · rw [i64s_set, List.length_set]
    exact row_set h.ra hi (.int .i64 v)

/-- the same, with the lengths by name -/
theorem RfB.setH' {g c n : Nat} (h : RfB w wr b T (.slice (some ⟨g, 0, none⟩) n c) dv bv av has dn bl al) (hl : has.length = n) {i : Nat} (hi : i < n) (v : Nat) :
    RfB w (wr.setCell ⟨g, i, none⟩ (.int .u64 (v : Int))) b T (.slice (some ⟨g, 0, none⟩) n c) dv bv av (has.set i v) dn bl al := by
  subst hl; exact h.setH hi v
theorem RfB.setD' {g c n : Nat} (h : RfB w wr b T hv (.slice (some ⟨g, 0, none⟩) n c) bv av has dn bl al) (hl : dn.length = n) {i : Nat} (hi : i < n) (v : Bool) :
    RfB w (wr.setCell ⟨g, i, none⟩ (.bool v)) b T hv (.slice (some ⟨g, 0, none⟩) n c) bv av has (dn.set i v) bl al := by
  subst hl; exact h.setD hi v
theorem RfB.setB' {g c n : Nat} (h : RfB w wr b T hv dv (.slice (some ⟨g, 0, none⟩) n c) av has dn bl al) (hl : bl.length = n) {i : Nat} (hi : i < n) (v : Nat) :
    RfB w (wr.setCell ⟨g, i, none⟩ (.int .u64 (v : Int))) b T hv dv (.slice (some ⟨g, 0, none⟩) n c) av has dn (bl.set i v) al := by
  subst hl; exact h.setB hi v
theorem RfB.setA' {g c n : Nat} (h : RfB w wr b T hv dv bv (.slice (some ⟨g, 0, none⟩) n c) has dn bl al) (hl : al.length = n) {i : Nat} (hi : i < n) (v : Int) :
    RfB w (wr.setCell ⟨g, i, none⟩ (.int .i64 v)) b T hv dv bv (.slice (some ⟨g, 0, none⟩) n c) has dn bl (al.set i v) := by
  subst hl; exact h.setA hi v
/-- what was appended -/
theorem RfB.appH (h : RfB w wr b T hv dv bv av has dn bl al) {x k : Nat} (hl : has.length = k) (ho : wr'.ownsRow w.heap.size 48 1 hv' (k + 1) (u64s (zsN has) ++ [.int .u64 (x : Int)])) (hc : Chg (fun k => hv.ownBlock = some k) wr wr')
    (hf : ∀ k, hv'.ownBlock = some k → hv.ownBlock = some k ∨ wr.heap.size ≤ k) : RfB w wr' b T hv' dv bv av (has ++ [x]) dn bl al := by
  subst hl
  refine h.keepH hc ?_ hf
  rw [zsN_snoc, u64s_snoc, List.length_append]
  exact ho
theorem RfB.appD (h : RfB w wr b T hv dv bv av has dn bl al) {x : Bool} {k : Nat} (hl : dn.length = k) (ho : wr'.ownsRow w.heap.size 4 1 dv' (k + 1) (bools dn ++ [.bool x])) (hc : Chg (fun k => dv.ownBlock = some k) wr wr') : RfB w wr' b T hv dv' bv av has (dn ++ [x]) bl al := by
  subst hl
  refine h.keepD hc ?_
  rw [show bools (dn ++ [x]) = bools dn ++ [.bool x] by simp [bools], List.length_append]
  exact ho
/-- what was appended, and stored into the table -/
theorem RfB.appB (h : RfB w wr b T hv dv bv av has dn bl al) {x k : Nat} (hl : bl.length = k) (ho : wr'.ownsRow w.heap.size 48 1 bv' (k + 1) (u64s (zsN bl) ++ [.int .u64 (x : Int)])) (hc : Chg (fun k => bv.ownBlock = some k) wr wr')
    (hf : ∀ k, bv'.ownBlock = some k → bv.ownBlock = some k ∨ wr.heap.size ≤ k) : RfB w (wr'.setCell ⟨b, 1, none⟩ bv') b T hv dv bv' av has dn (bl ++ [x]) al := by
  subst hl
  have hbn : ¬ bv.ownBlock = some b := fun hs => by
    obtain ⟨cs', h1⟩ := own_blk h.rb hs
    exact blk_neA h.tb h1 (by decide) rfl
  have htb := (hc.block _ (block_lt h.tb) hbn).trans h.tb
  refine h.keepB ((hc.mono fun k hk => .inl hk).setCell (p := ⟨b, 1, none⟩) (.inl (.inr rfl)) _) ?_ ?_ hf
  · rw [set_of htb 1 _]; simp
  · obtain ⟨x1, x2⟩ : bl.length + 1 = (bl ++ [x]).length ∧ u64s (zsN bl) ++ [Value.int .u64 (x : Int)] = u64s (zsN (bl ++ [x])) := ⟨by simp, by rw [zsN_snoc, u64s_snoc]⟩
    rw [x1, x2] at ho
    exact row_kept ho fun g hg => Below.heap_setCell _ _ _ _ (by
      rintro rfl
      rcases hf g hg with h1 | h1
      · exact hbn h1
      · have := block_lt h.tb; omega)
theorem RfB.appA (h : RfB w wr b T hv dv bv av has dn bl al) {x : Int} {k : Nat} (hl : al.length = k) (ho : wr'.ownsRow w.heap.size 3 1 av' (k + 1) (i64s al ++ [.int .i64 x])) (hc : Chg (fun k => av.ownBlock = some k) wr wr')
    (hf : ∀ k, av'.ownBlock = some k → av.ownBlock = some k ∨ wr.heap.size ≤ k) : RfB w (wr'.setCell ⟨b, 2, none⟩ av') b T hv dv bv av' has dn bl (al ++ [x]) := by
  subst hl
  have hbn : ¬ av.ownBlock = some b := fun hs => by
    obtain ⟨cs', h1⟩ := own_blk h.ra hs
    exact blk_neA h.tb h1 (by decide) rfl
  have htb := (hc.block _ (block_lt h.tb) hbn).trans h.tb
  refine h.keepA ((hc.mono fun k hk => .inl hk).setCell (p := ⟨b, 2, none⟩) (.inl (.inr rfl)) _) ?_ ?_
  · rw [set_of htb 2 _]; simp
  · obtain ⟨x1, x2⟩ : al.length + 1 = (al ++ [x]).length ∧ i64s al ++ [Value.int .i64 x] = i64s (al ++ [x]) := ⟨by simp, by rw [i64s_snoc]⟩
    rw [x1, x2] at ho
    exact row_kept ho fun g hg => Below.heap_setCell _ _ _ _ (by
      rintro rfl
      rcases hf g hg with h1 | h1
      · exact hbn h1
      · have := block_lt h.tb; omega)
/-- the table's cells behind an append -/
theorem RfB.tbB (h : RfB w wr b T hv dv bv av has dn bl al) (hc : Chg (fun k => bv.ownBlock = some k) wr wr') : wr'.heap[b]? = some (.cells #[.int .u64 (T : Int), bv, av] 73 (0, 0)) :=
  (hc.block _ (block_lt h.tb) fun hs => by
    obtain ⟨cs', h1⟩ := own_blk h.rb hs
    exact blk_neA h.tb h1 (by decide) rfl).trans h.tb
theorem RfB.tbA (h : RfB w wr b T hv dv bv av has dn bl al) (hc : Chg (fun k => av.ownBlock = some k) wr wr') : wr'.heap[b]? = some (.cells #[.int .u64 (T : Int), bv, av] 73 (0, 0)) :=
  (hc.block _ (block_lt h.tb) fun hs => by
    obtain ⟨cs', h1⟩ := own_blk h.ra hs
    exact blk_neA h.tb h1 (by decide) rfl).trans h.tb
end

/-- what Build of the document answers -/
def Bld43 (w : World) (ws : List Nat) (e : Ending) (w' : World) : Prop :=
  ∃ bv av, e = .returned (.agg #[.int .u64 (ws.sum : Int), bv, av]) ∧ w'.ownsRow w.heap.size 48 1 bv ws.length (u64s (zsN (aliF ws).bl)) ∧ w'.ownsRow w.heap.size 3 1 av ws.length (i64s (aliF ws).al) ∧ Below w.heap.size w w'

end Go.Proofs.YtcoohepkmhpdkaaGreat

namespace Go.Proofs.YtcoohepkmhpdkaaGreat
open Go.RowKit
set_option linter.unusedVariables false
set_option linter.unusedSimpArgs false

/-- weights as far as they were read, times how many there are -/
def hasT (n : Nat) (ws : List Nat) (k : Nat) : List Nat := (ws.take k).map (n * ·)
def alT (k : Nat) : List Int := (List.range k).map Int.ofNat
def dnT (k : Nat) : List Bool := List.replicate k false
def blT (T k : Nat) : List Nat := List.replicate k T
theorem hasT_snoc (ws : List Nat) (k : Nat) (hk : k < ws.length) (n : Nat) : hasT n ws (k + 1) = hasT n ws k ++ [n * ws.getD k 0] := by
  unfold hasT
  rw [List.take_succ_eq_append_getElem hk, List.map_append]
  simp [List.getD, List.getElem?_eq_getElem hk]
theorem alT_snoc (k : Nat) : alT (k + 1) = alT k ++ [(k : Int)] := by
  unfold alT
  rw [List.range_succ, List.map_append]; rfl
theorem dnT_snoc (k : Nat) : dnT (k + 1) = dnT k ++ [false] := by unfold dnT; exact List.replicate_succ'
theorem blT_snoc (T k : Nat) : blT T (k + 1) = blT T k ++ [T] := by unfold blT; exact List.replicate_succ'
theorem hasT_len (n : Nat) {ws : List Nat} {k : Nat} (hk : k ≤ ws.length) : (hasT n ws k).length = k := by unfold hasT; rw [List.length_map, List.length_take]; omega
theorem alT_len (k : Nat) : (alT k).length = k := by simp [alT]
theorem dnT_len (k : Nat) : (dnT k).length = k := by simp [dnT]
theorem blT_len (T k : Nat) : (blT T k).length = k := by simp [blT]

set_option maxRecDepth 100000 in
set_option maxHeartbeats 16000000 in
theorem build43_any (w : World) (sa : Option Addr) (n cap : Nat) (ws : List Nat) (h : Rd w 1 (.slice sa n cap) n (u64s (zsN ws))) (hE : aliE ws = 0) :
    Calls Tryz.prog 31 #[.slice sa n cap] w (Bld43 w ws) := by
  have hln : ws.length = n := by have := h.len_u64; rw [zsN_len] at this; exact this.symm
  obtain ⟨o1, o2, o3, o4⟩ := aliE_ok hE
  have h1 : 1 ≤ n := by omega
  have h2 : n ≤ 256 := by omega
  have bS : ws.sum ≤ 1099511627776 := by
    have := sum_bound o2 o3 ws.length
    rwa [List.take_length] at this
  have C := Lib.hid (fun w1 (hb : Below w.heap.size w w1) => total43_any w1 (.slice sa n cap) n ws (h.below hb) o2 o3)
  have hmb : ∀ i, i < n → n * ws.getD i 0 ≤ 1099511627776 := fun i hi => by
    have h5 := o3 _ (List.getElem_mem (show i < ws.length by omega))
    rw [List.getD_eq_getElem?_getD, List.getElem?_eq_getElem (by omega)]
    exact Nat.le_trans (Nat.mul_le_mul h2 h5) (by decide)
  obtain ⟨hi0, hc0⟩ := start_inv ws 1099511627776 (by rw [hln]; exact hmb) bS
  rw [hln] at hi0 hc0
  obtain ⟨T, hT⟩ : ∃ T, T = ws.sum := ⟨_, rfl⟩
  have hfin : runA T (cntA (startA ws).dn) (startA ws) = aliF ws := by rw [hc0, hT]; unfold aliF; rw [hln]
  have hst : startA ws = { has := hasT n ws n, dn := dnT n, bl := blT T n, al := alT n } := by
    unfold startA hasT dnT blT alT; rw [hln, hT, List.take_of_length_le (by omega)]
  rw [← hT] at bS hi0 C
  have HR := Lib.hid h; have HLN := Lib.hid hln; have HMB := Lib.hid hmb; have HI0 := Lib.hid hi0; have HC0 := Lib.hid hc0; have HFIN := Lib.hid hfin; have HST := Lib.hid hst; have HTT := Lib.hid hT
  clear h hE hln o1 o2 o3 o4 hmb hi0 hc0 hfin hst hT
  go_enter Tryz.func31, Tryz.ntmps31
  go_wp2_with fail
  refine (C.out _ ((Below.refl _ _).alloc (Nat.le_refl _) _)).mono ?_
  rintro e w1 ⟨rfl, rfl⟩
  go_wp2_with fail
  go_loopw [4, 5, 15] (fun s4 s5 i wr => ∃ (k : Nat) (sh sd sb sl : Option Addr) (ch cd cb cl : Nat), k ≤ n ∧ i = .int .i64 (k : Int) ∧ s4 = .slice sh k ch ∧ s5 = .slice sd k cd ∧ Hid (RfB w wr (w.heap.size + 1) T (.slice sh k ch) (.slice sd k cd) (.slice sb k cb) (.slice sl k cl) (hasT n ws k) (dnT k) (blT T k) (alT k))) (fun _ _ i _ => n - (intOf i).toNat)
  case atStart =>
    refine ⟨0, none, none, none, none, 0, 0, 0, 0, Nat.zero_le _, rfl, rfl, rfl, Lib.hid ⟨?_, ?_, World.ownsRow_nil _ _ _ _, World.ownsRow_nil _ _ _ _, World.ownsRow_nil _ _ _ _, World.ownsRow_nil _ _ _ _, (fun g hg => by cases hg), ((Below.refl _ _).alloc (Nat.le_refl _) _).alloc (by simp) _, by omega⟩⟩
    · exact heap_up (heap_at rfl)
    · exact heap_at (by simp)
  case round =>
    obtain ⟨k, sh, sd, sb, sl, ch, cd, cb, cl, hk, rfl, rfl, rfl, HF⟩ := hrel
    by_cases hlt : k < n
    · obtain ⟨b0, o0, rfl, hc0⟩ := (HR.out.below HF.out.bel).at (by omega)
      have hkl : k < ws.length := by rw [HLN.out]; exact hlt
      have x0 := hc0 k _ (u64s_at (zsN ws) k (by rw [zsN_len]; exact hkl))
      rw [zsN_get] at x0
      have hms := hasT_snoc ws k hkl n
      have hmb := HMB.out k hlt
      generalize ws.getD k 0 = x at *
      obtain ⟨m, hm⟩ : ∃ m, m = n * x := ⟨_, rfl⟩
      rw [← hm] at hms hmb
      have e2 : ((n : Int) * (x : Int)) = (m : Int) := by rw [mulN, ← hm]
      have u1 : IntKind.u64.wrap (n : Int) = (n : Int) := by rw [IntKind.wrap_u64]; omega
      have u2 : IntKind.u64.wrap (m : Int) = (m : Int) := by rw [IntKind.wrap_u64]; omega
      have HMS := Lib.hid hms
      have HL1 := Lib.hid (hasT_len n (ws := ws) (k := k) (by omega)); have HL2 := Lib.hid (dnT_len k); have HL3 := Lib.hid (blT_len T k); have HL4 := Lib.hid (alT_len k)
      have h0 := HF.out.rh
      rw [HL1.out] at h0
      have H0 := Lib.hid h0
      clear hm hms hc0 hkl h0
      go_wp2_with (at_builtin; refine app_u64 _ rfl _ _ rfl w.heap.size _ _ _ rfl H0.out _ _ rfl ?qg ?qn ?qb ?_)
      case qg => rfl
      case qn => omega
      case qb => exact HF.out.bel.size
      intro v1 w1 hown hchg hfresh
      obtain ⟨sh1, ch1, rfl⟩ := (rd_of_row hown).form
      have hf1 := HF.out.appH HL1.out hown hchg hfresh
      have h0 := hf1.rd
      rw [HL2.out] at h0
      have HF1 := Lib.hid hf1; have H1 := Lib.hid h0
      clear hown hchg hfresh hf1 h0 H0 x0 e2 u1 u2
      go_wp2_with (at_builtin; refine app_bool _ rfl _ _ rfl w.heap.size _ _ _ rfl H1.out _ _ rfl ?qg2 ?qn2 ?qb2 ?_)
      case qg2 => rfl
      case qn2 => omega
      case qb2 => exact HF1.out.bel.size
      intro v2 w2 hown hchg hfresh
      obtain ⟨sd1, cd1, rfl⟩ := (rd_of_row hown).form
      have hf2 := HF1.out.appD HL2.out hown hchg
      have h0 := hf2.rb
      rw [HL3.out] at h0
      have t0 := cell_of hf2.tb 0 rfl
      have t1 := cell_of hf2.tb 1 rfl
      have HF2 := Lib.hid hf2; have H2 := Lib.hid h0
      clear hown hchg hfresh hf2 h0 H1
      go_wp2_with (at_builtin; refine app_u64 _ rfl _ _ rfl w.heap.size _ _ _ rfl H2.out _ _ rfl ?qg3 ?qn3 ?qb3 ?_)
      case qg3 => rfl
      case qn3 => omega
      case qb3 => exact HF2.out.bel.size
      intro v3 w3 hown hchg hfresh
      obtain ⟨sb1, cb1, rfl⟩ := (rd_of_row hown).form
      have hf3 := HF2.out.appB HL3.out hown hchg hfresh
      have ht3 := HF2.out.tbB hchg
      have r1 := cell_of ht3 1 rfl
      have r1f := frozen_of ht3 1
      have h0 := hf3.ra
      rw [HL4.out] at h0
      have s2 := cell_of hf3.tb 2 rfl
      have HF3 := Lib.hid hf3; have H3 := Lib.hid h0
      clear hown hchg hfresh hf3 h0 H2 t0 t1 ht3
      go_wp2_with (at_builtin; refine app_i64 _ rfl _ _ rfl w.heap.size _ _ _ rfl H3.out _ _ rfl ?qg4 ?qn4 ?qb4 ?_)
      case qg4 => simp [World.setCell]
      case qn4 => omega
      case qb4 => exact HF3.out.bel.size
      intro v4 w4 hown hchg hfresh
      obtain ⟨sl1, cl1, rfl⟩ := (rd_of_row hown).form
      have hf4 := HF3.out.appA HL4.out hown hchg (fun g hg => by have := hfresh g hg; simpa [World.setCell] using this)
      have ht4 := HF3.out.tbA hchg
      have q1 := cell_of ht4 2 rfl
      have q1f := frozen_of ht4 2
      have HF4 := Lib.hid hf4
      clear hown hchg hfresh hf4 H3 r1 r1f s2 ht4
      go_wp2_with fail
      go_roundw
      case rel => exact ⟨k + 1, sh1, sd1, sb1, sl1, ch1, cd1, cb1, cl1, by omega, by go_num, rfl, rfl, Lib.hid (by rw [HMS.out, dnT_snoc, blT_snoc, alT_snoc]; exact HF4.out)⟩
      case measure => simp [intOf]; omega
    · obtain rfl : k = n := by omega
      have HF0 := Lib.hid (show RfB w wr (w.heap.size + 1) T (.slice sh k ch) (.slice sd k cd) (.slice sb k cb) (.slice sl k cl) (startA ws).has (startA ws).dn (startA ws).bl (startA ws).al from by rw [HST.out]; exact HF.out)
      have h0 := HF.out.rh
      rw [hasT_len k (by have := HLN.out; omega)] at h0
      obtain ⟨gh, rfl, -, -, -, -, -⟩ := row_ptr h0 (by omega)
      have h0 := HF.out.rd
      rw [dnT_len] at h0
      obtain ⟨gd, rfl, -, -, -, -, -⟩ := row_ptr h0 (by omega)
      have h0 := HF.out.rb
      rw [blT_len] at h0
      obtain ⟨gb, rfl, -, -, -, -, -⟩ := row_ptr h0 (by omega)
      have h0 := HF.out.ra
      rw [alT_len] at h0
      obtain ⟨gl, rfl, -, -, -, -, -⟩ := row_ptr h0 (by omega)
      clear h0 HF HST HMB C
      go_wp2_with fail
      go_loopg [8] k (fun g s8 wx => ∃ s : StA, cntA s.dn = g ∧ Hid (InvA T k 1099511627776 s) ∧ Hid (RfB w wx (w.heap.size + 1) T (.slice (some ⟨gh, 0, none⟩) k ch) (.slice (some ⟨gd, 0, none⟩) k cd) (.slice (some ⟨gb, 0, none⟩) k cb) (.slice (some ⟨gl, 0, none⟩) k cl) s.has s.dn s.bl s.al) ∧ Hid (runA T (cntA s.dn) s = aliF ws))
      case atStart => exact ⟨startA ws, HC0.out, HI0, HF0, HFIN⟩
      case round =>
        obtain ⟨s, hcnt, HI, HF, HR2⟩ := hrel
        have cT : wr.cell? ⟨w.heap.size + 1, 0, none⟩ = some (.int .u64 (T : Int)) := cell_of HF.out.tb 0 rfl
        have rh := HF.out.rh
        rw [HI.out.lh] at rh
        have rd := HF.out.rd
        rw [HI.out.ld] at rd
        have rb := HF.out.rb
        rw [HI.out.lb] at rb
        have ra := HF.out.ra
        rw [HI.out.la] at ra
        have C1 := find_less wr _ _ k T s (rd_of_row rh) (rd_of_row rd) h2
        have C2 := find_more wr _ _ k T s (rd_of_row rh) (rd_of_row rd) h2
        cases hl : lessA T s with
        | none =>
          rw [hl, ixA_none] at C1
          have hend := HR2.out
          rw [run_end hl] at hend
          have HC1 := Lib.hid C1; have HEND := Lib.hid hend; have HRB := Lib.hid rb; have HRA := Lib.hid ra
          clear C1 C2 hl hend hcnt rh rd rb ra
          have t1 := cell_of HF.out.tb 1 rfl
          have t2 := cell_of HF.out.tb 2 rfl
          have y0 := cell_of HF.out.res 0 rfl
          have y1 := cell_of HF.out.res 1 rfl
          have y2 := cell_of HF.out.res 2 rfl
          have yf := frozen_of HF.out.res
          go_wp2_with fail
          refine HC1.out.mono ?_
          rintro e w' ⟨rfl, rfl⟩
          go_wp2_with fail
          refine bodyPost_ret (v := .agg #[.int .u64 (T : Int), .slice (some ⟨gb, 0, none⟩) k cb, .slice (some ⟨gl, 0, none⟩) k cl]) (by simp [results, Tryz.results31, go_sem, *]) rfl ?_
          obtain ⟨c1, e1⟩ := row_blk HRB.out
          obtain ⟨c2, e2⟩ := row_blk HRA.out
          have m1 : gb ≠ w.heap.size := blk_neA e1 HF.out.res (by decide)
          have m2 : gl ≠ w.heap.size := blk_neA e2 HF.out.res (by decide)
          refine ⟨_, _, by rw [← HTT.out], ?_, ?_, ((HF.out.bel.setCell (p := ⟨w.heap.size, 0, none⟩) (Nat.le_refl _) _).setCell (p := ⟨w.heap.size, 1, none⟩) (Nat.le_refl _) _).setCell (p := ⟨w.heap.size, 2, none⟩) (Nat.le_refl _) _⟩
          · rw [HLN.out, ← HEND.out]
            exact row_otherA (row_otherA (row_otherA HRB.out (p := ⟨w.heap.size, 0, none⟩) m1) (p := ⟨w.heap.size, 1, none⟩) m1) (p := ⟨w.heap.size, 2, none⟩) m1
          · rw [HLN.out, ← HEND.out]
            exact row_otherA (row_otherA (row_otherA HRA.out (p := ⟨w.heap.size, 0, none⟩) m2) (p := ⟨w.heap.size, 1, none⟩) m2) (p := ⟨w.heap.size, 2, none⟩) m2
        | some j =>
          obtain ⟨g, hg⟩ := HI.out.more hl
          rw [hl, ixA_some] at C1
          rw [hg, ixA_some] at C2
          obtain ⟨j1, j2, j3⟩ := less_facts HI.out hl
          obtain ⟨g1, g2, g3⟩ := more_facts HI.out hg
          have hnx := HI.out.next hl hg
          have hrun := run_next HI.out hl hg
          rw [HR2.out] at hrun
          obtain ⟨g9, hg9, -, -, -, xh, yh⟩ := row_ptr rh (by omega)
          cases hg9
          obtain ⟨g9, hg9, -, -, -, xb, yb⟩ := row_ptr rb (by omega)
          cases hg9
          have hhj := xh j _ (u64s_at (zsN s.has) j (by rw [zsN_len, HI.out.lh]; exact j1))
          rw [zsN_get] at hhj
          have hbj := xb j _ (u64s_at (zsN s.bl) j (by rw [zsN_len, HI.out.lb]; exact j1))
          have hbf := yb j
          have cB : wr.cell? ⟨w.heap.size + 1, 1, none⟩ = some (.slice (some ⟨gb, 0, none⟩) k cb) := cell_of HF.out.tb 1 rfl
          have hbd := HI.out.bd g g1
          have hne : j ≠ g := fun e => by subst e; omega
          obtain ⟨x, hx⟩ : ∃ x, s.has.getD j 0 = x := ⟨_, rfl⟩
          obtain ⟨y, hy⟩ : ∃ y, s.has.getD g 0 = y := ⟨_, rfl⟩
          rw [hx] at hhj j3
          rw [hy] at g3 hbd
          generalize (zsN s.bl).getD j 0 = ob at hbj
          -- the four stores
          have hw2 := HF.out.setB' HI.out.lb j1 x
          have hw3 := hw2.drew.setA' HI.out.la j1 (g : Int)
          have hw4 := hw3.setD' HI.out.ld j1 true
          have HX := Lib.hid hx; have HY := Lib.hid hy; have HC1 := Lib.hid C1; have HC2 := Lib.hid C2; have HNX := Lib.hid hnx; have HRUN := Lib.hid hrun; have HCN := Lib.hid hcnt
          have HW2 := Lib.hid hw2; have HW3 := Lib.hid hw3; have HW4 := Lib.hid hw4; have J3 := Lib.hid j3; have G3 := Lib.hid g3; have NE := Lib.hid hne; have HBD := Lib.hid hbd
          clear hx hy C1 C2 hnx hrun hcnt hl hg j2 g2 rh rd rb ra xh yh xb yb hw2 hw3 hw4 j3 g3 hne hbd
          go_wp2_with fail
          refine HC1.out.mono ?_
          rintro e w' ⟨rfl, rfl⟩
          go_wp2_with fail
          refine HC2.out.mono ?_
          rintro e w' ⟨rfl, rfl⟩
          go_upto_region 16 with fail
          go_region
          obtain ⟨W2, hW2⟩ : ∃ W2, W2 = (wr.setCell ⟨gb, j, none⟩ (.int .u64 (x : Int))).drew := ⟨_, rfl⟩
          have hw2 := HW2.out.drew
          rw [← hW2] at HW3 HW4 hw2 ⊢
          have a2 : W2.cell? ⟨w.heap.size + 1, 2, none⟩ = some (.slice (some ⟨gl, 0, none⟩) k cl) := cell_of hw2.tb 2 rfl
          have ra := hw2.ra
          rw [HI.out.la] at ra
          obtain ⟨g9, hg9, -, -, -, xa, ya⟩ := row_ptr ra (by omega)
          cases hg9
          have haj := xa j _ (i64s_at s.al j (by rw [HI.out.la]; exact j1))
          have haf := ya j
          generalize s.al.getD j 0 = oa at haj
          clear hW2 hw2 xa ya ra HW2 cT cB hhj hbj hbf
          go_upto_region 18 with fail
          obtain ⟨W3, hW3⟩ : ∃ W3, W3 = W2.setCell ⟨gl, j, none⟩ (.int .i64 (g : Int)) := ⟨_, rfl⟩
          rw [← hW3] at HW3 HW4 ⊢
          have rd := HW3.out.rd
          rw [HI.out.ld] at rd
          obtain ⟨g9, hg9, -, -, -, xd, yd⟩ := row_ptr rd (by omega)
          cases hg9
          have hdj := xd j _ (bools_at s.dn j (by rw [HI.out.ld]; exact j1))
          have hdf := yd j
          generalize s.dn.getD j true = od at hdj
          clear hW3 HW3 a2 haj haf xd yd rd
          go_upto_region 19 with fail
          obtain ⟨W4, hW4⟩ : ∃ W4, W4 = W3.setCell ⟨gd, j, none⟩ (.bool true) := ⟨_, rfl⟩
          rw [← hW4] at HW4 ⊢
          have rh := HW4.out.rh
          rw [HI.out.lh] at rh
          obtain ⟨g9, hg9, -, -, -, xh, yh⟩ := row_ptr rh (by omega)
          cases hg9
          have hhj := xh j _ (u64s_at (zsN s.has) j (by rw [zsN_len, HI.out.lh]; exact j1))
          have hhg := xh g _ (u64s_at (zsN s.has) g (by rw [zsN_len, HI.out.lh]; exact g1))
          rw [zsN_get, HX.out] at hhj
          rw [zsN_get, HY.out] at hhg
          have hhf := yh g
          have cT : W4.cell? ⟨w.heap.size + 1, 0, none⟩ = some (.int .u64 (T : Int)) := cell_of HW4.out.tb 0 rfl
          obtain ⟨d, hd⟩ : ∃ d, d = T - x := ⟨_, rfl⟩
          obtain ⟨v, hv⟩ : ∃ v, v = y - d := ⟨_, rfl⟩
          have hfin := HW4.out.setH' HI.out.lh g1 v
          have hnx : ({ has := s.has.set g v, dn := s.dn.set j true, bl := s.bl.set j x, al := s.al.set j (g : Int) } : StA) = nextA T s j g := by
            unfold nextA; rw [HX.out, HY.out, ← hd, ← hv]
          have HFN := Lib.hid hfin; have HNE := Lib.hid hnx
          have v1 : ((T : Int) - (x : Int)) = (d : Int) := by have := J3.out; omega
          have v2 : ((y : Int) - (d : Int)) = (v : Int) := by have := G3.out; omega
          have u1 : IntKind.u64.wrap (d : Int) = (d : Int) := by rw [IntKind.wrap_u64]; omega
          have u2 : IntKind.u64.wrap (v : Int) = (v : Int) := by have := HBD.out; rw [IntKind.wrap_u64]; omega
          clear hW4 hdj hdf xh yh rh hd hv hfin hnx
          go_region
          go_wp2_with fail
          go_roundg (cntA (nextA T s j g).dn)
          case measure => have h5 := HCN.out; have h6 := HNX.out.2; omega
          case rel => exact ⟨nextA T s j g, rfl, Lib.hid HNX.out.1, Lib.hid (by rw [← HNE.out]; first | exact HFN.out.drew | exact HFN.out), Lib.hid HRUN.out.symm⟩

end Go.Proofs.YtcoohepkmhpdkaaGreat
