/-
  slices.Clone at []uint64 and []int: a new slice of the same cells, nothing that was there changed.
-/
import Derived.Test.YtcoohepkmhpdkaaGreatBase
namespace Go.Proofs.YtcoohepkmhpdkaaGreat
open Go.RowKit

theorem info_u64 : (Tryz.prog.info? 48).map (fun i => (i.zero, i.size, i.bytes)) = some (some (.int .u64 0), 1, 8) := by kernel_rfl
theorem info_i64 : (Tryz.prog.info? 3).map (fun i => (i.zero, i.size, i.bytes)) = some (some (.int .i64 0), 1, 8) := by kernel_rfl

theorem app_u64 (W : World) {ops : Array Oper} {rest : List Oper} {o : Oper} {a : Act} {Q : Exit → Act → World → Prop} (hgd : o.guard = none) (s x : Operand)
    (ho : o.op = .call { callee := .builtin .append, args := #[s, x], argTypes := #[22, 22] })
    (base : Nat) (v : Value) (n : Nat) (xs : List Value) (hs : a.eval s = v) (hown : W.ownsRow base 48 1 v n xs)
    (g : Nat) (y : Int) (hx : a.eval x = .slice (some ⟨g, 0, none⟩) 1 1) (hg : g = W.heap.size) (hn : n ≤ 1000000) (hbase : base ≤ W.heap.size)
    (h : ∀ v' w', w'.ownsRow base 48 1 v' (n + 1) (xs ++ [.int .u64 y]) → Chg (fun k => v.ownBlock = some k) W w' → (∀ k, v'.ownBlock = some k → v.ownBlock = some k ∨ W.heap.size ≤ k) → wpList Tryz.prog ops Q rest (a.put o.dst v') w') :
    wpList Tryz.prog ops Q (o :: rest) a (W.alloc (.cells #[.int .u64 y] 48)) := by
  obtain ⟨i0, hi, hz0, hz1, hz2⟩ := info_parts info_u64
  exact app1 W hgd s x _ ho base _ i0 _ 8 Tryz.underlying22 hi hz0 hz1 hz2 rfl v n xs hs hown g _ hx hg rfl (by unfold maxLen; omega) (by omega) hbase h

theorem app_i64 (W : World) {ops : Array Oper} {rest : List Oper} {o : Oper} {a : Act} {Q : Exit → Act → World → Prop} (hgd : o.guard = none) (s x : Operand)
    (ho : o.op = .call { callee := .builtin .append, args := #[s, x], argTypes := #[36, 36] })
    (base : Nat) (v : Value) (n : Nat) (xs : List Value) (hs : a.eval s = v) (hown : W.ownsRow base 3 1 v n xs)
    (g : Nat) (y : Int) (hx : a.eval x = .slice (some ⟨g, 0, none⟩) 1 1) (hg : g = W.heap.size) (hn : n ≤ 1000000) (hbase : base ≤ W.heap.size)
    (h : ∀ v' w', w'.ownsRow base 3 1 v' (n + 1) (xs ++ [.int .i64 y]) → Chg (fun k => v.ownBlock = some k) W w' → (∀ k, v'.ownBlock = some k → v.ownBlock = some k ∨ W.heap.size ≤ k) → wpList Tryz.prog ops Q rest (a.put o.dst v') w') :
    wpList Tryz.prog ops Q (o :: rest) a (W.alloc (.cells #[.int .i64 y] 3)) := by
  obtain ⟨i0, hi, hz0, hz1, hz2⟩ := info_parts info_i64
  exact app1 W hgd s x _ ho base _ i0 _ 8 Tryz.underlying36 hi hz0 hz1 hz2 rfl v n xs hs hown g _ hx hg rfl (by unfold maxLen; omega) (by omega) hbase h

/-- 'append(s, x...)', s a row of the call's own, x any slice of ints. -/
theorem apps_i64 (W : World) {ops : Array Oper} {rest : List Oper} {o : Oper} {a : Act} {Q : Exit → Act → World → Prop} (hgd : o.guard = none) (s x : Operand)
    (ho : o.op = .call { callee := .builtin .append, args := #[s, x], argTypes := #[36, 36] })
    (base : Nat) (v : Value) (n : Nat) (xs : List Value) (hs : a.eval s = v) (hown : W.ownsRow base 3 1 v n xs)
    (vx : Value) (m : Nat) (l : List Int) (hx : a.eval x = vx) (hr : Rd W 1 vx m (i64s l)) (hn : n + m ≤ 1000000) (hbase : base ≤ W.heap.size)
    (h : ∀ v' w', w'.ownsRow base 3 1 v' (n + m) (xs ++ i64s l) → Chg (fun k => v.ownBlock = some k) W w' → (∀ k, v'.ownBlock = some k → v.ownBlock = some k ∨ W.heap.size ≤ k) → wpList Tryz.prog ops Q rest (a.put o.dst v') w') :
    wpList Tryz.prog ops Q (o :: rest) a W := by
  obtain ⟨i0, hi, hz0, hz1, hz2⟩ := info_parts info_i64
  obtain ⟨h1, h2, sa, cap, rfl, hc, h3⟩ := hr
  refine wpList_plain hgd fun K hK => ?_
  cases sa with
  | none =>
    have hm : m = 0 := by
      rcases h3 with h | ⟨b, off, h, _⟩
      · exact h
      · cases h
    subst hm
    have hl : i64s l = [] := List.eq_nil_of_length_eq_zero (by rw [h1])
    have hrun : (Builtin.append_ #[36, 36] o.type #[v, .slice none 0 cap]).run Tryz.prog W = .ok v W := by
      rcases hown.2 with ⟨rfl, rfl⟩ | ⟨g, cap', cur, rfl, _, _, hnc, _⟩
      · simp [Builtin.append_, run_underlying Tryz.underlying36, sizeOf, typeInfo, hi, Builtin.lenOf, Builtin.firstCells]
      · simp [Builtin.append_, run_underlying Tryz.underlying36, sizeOf, typeInfo, hi, Builtin.lenOf, Builtin.firstCells, hnc, storeCells]
    unfold Oper.wp execOp
    simp only [ho, resolve, invoke, builtin, Sem.run_bind, Sem.run_pure, Result.andThen_ok, List.map_toArray, List.map_cons, List.map_nil, hs, hx, hrun]
    refine hK _ _ (h v W ?_ (Chg.refl _ _) (fun k hk => .inl hk))
    rw [hl, List.append_nil]
    exact hown
  | some ad =>
    obtain ⟨v', w', hr, g2, g3, g4⟩ := app_where (P := Tryz.prog) W base 36 o.type 3 i0 _ 1 8 Tryz.underlying36 hi hz0 hz1 hz2 rfl (by decide) v n xs hown ad m cap (i64s l) h1
      (fun j u hj => by
        rcases h3 with h | ⟨b, off, h, hcell⟩
        · have hl : i64s l = [] := List.eq_nil_of_length_eq_zero (by rw [h1, h])
          rw [hl] at hj; cases hj
        · cases h
          rw [Addr.add_lit]
          exact hcell j u hj) i64s_one (by unfold maxLen; omega) (by omega) hbase
    unfold Oper.wp execOp
    simp only [ho, resolve, invoke, builtin, Sem.run_bind, Sem.run_pure, Result.andThen_ok, List.map_toArray, List.map_cons, List.map_nil, hs, hx, hr]
    refine hK _ _ (h v' w' g2 ((Chg.refl _ W).grown g3 (fun k hk => .inl hk)) fun k hk => ?_)
    rcases g4 with g4 | g4
    · exact .inl (g4 ▸ hk)
    · rw [g4] at hk
      simp at hk
      omega

/-- 'make([]int, n)' as a step of the walk. -/
theorem mk_i64 (w : World) {ops : Array Oper} {rest : List Oper} {o : Oper} {a : Act} {Q : Exit → Act → World → Prop} (hg : o.guard = none) (l c : Operand) (hop : o.op = Op.makeSlice 36 l c)
    (base : Nat) (L C : Int) (n : Nat) (hl : a.eval l = .int .i64 L) (hc : a.eval c = .int .i64 C) (hL : L = (n : Int)) (hC : C = (n : Int)) (hn : n ≤ 1000000) (hb : base ≤ w.heap.size)
    (hK : ∀ w', w'.ownsRow base 3 1 (.slice (some ⟨w.heap.size, 0, none⟩) n n) n (i64s (List.replicate n 0)) → Chg (fun _ => False) w w' → w.heap.size < w'.heap.size → wpList Tryz.prog ops Q rest (a.put o.dst (.slice (some ⟨w.heap.size, 0, none⟩) n n)) w') :
    wpList Tryz.prog ops Q (o :: rest) a w := by
  obtain ⟨i0, hi, hz0, hz1, hz2⟩ := info_parts info_i64
  refine wpList_make_full w hg l c _ hop base _ i0 _ 1 Tryz.underlying36 hi hz0 hz1 _ _ L C n hl hc hL hC (by rw [hz2]; omega) (by unfold maxLen; omega) hb fun w' h1 h2 => ?_
  have e : (madeCells (Value.cells (.int .i64 0)) (n * 1)).toList = i64s (List.replicate n 0) := by
    rw [show Value.cells (.int .i64 0) = #[.int .i64 0] from rfl, toList_madeCells_one, Nat.mul_one]
    simp [i64s]
  rw [e] at h1
  exact hK w' h1 ((Chg.refl _ w).grown h2 (fun k hk => by cases hk)) (h1.lt _ rfl).2

set_option maxHeartbeats 1000000 in
theorem clone_u64 (v : Value) (n : Nat) (l : List Int) (w : World) (hr : Rd w 1 v n (u64s l)) (hbig : n * 8 ≤ 140737488355328) :
    Calls Tryz.prog 23 #[v] w fun e w' => ∃ sa cap, e = .returned (.slice sa n cap) ∧ w'.ownsRow w.heap.size 48 1 (.slice sa n cap) n (u64s l) ∧ Below w.heap.size w w' := by
  obtain ⟨i0, hi, hz0, hz1, hz2⟩ := info_parts info_u64
  have q22 : ∀ (w : World) (a : Option Addr) (n c n' c' : Nat), (binOp .eql 22 (.slice a n c) (.slice none n' c')).run Tryz.prog w = .ok (.bool a.isNone) w := fun w a n c n' c' => Lib.run_eql_slice_nil w _ _ a n c n' c' Tryz.underlying22
  obtain ⟨h1, h2, sa, cap, rfl, hcap, h3⟩ := hr
  have H1 := Lib.hid h1; have H3 := Lib.hid h3; clear h1 h3
  cases sa with
  | none =>
    go_enter Tryz.func23, Tryz.ntmps23
    go_wp2
    go_ret
    have hn : n = 0 := by
      rcases H3.out with h | ⟨b, off, h, _⟩
      · exact h
      · cases h
    have hl : u64s l = [] := List.eq_nil_of_length_eq_zero (by rw [H1.out, hn])
    rw [hn, hl]
    exact ⟨none, 0, rfl, World.ownsRow_nil _ _ _ _, Below.refl _ _⟩
  | some ad =>
    go_enter Tryz.func23, Tryz.ntmps23
    go_wp2_with (at_builtin; refine wpList_append_own _ rfl _ _ 22 rfl w.heap.size 48 i0 (.int .u64 0) 1 8 Tryz.underlying22 hi hz0 hz1 hz2 rfl (by decide) _ _ _ rfl (World.ownsRow_made w #[] 0 (Nat.le_refl _) (Nat.zero_le _) rfl) ad n cap (u64s l) rfl ?qc1 ?qc2 ?qc3 ?qc4 ?qc5 ?qc6 ?_)
    case qc1 => exact H1.out
    case qc2 =>
      intro j u hj
      rcases H3.out with h | ⟨b, off, h, hc⟩
      · have hl : u64s l = [] := List.eq_nil_of_length_eq_zero (by rw [H1.out, h])
        rw [hl] at hj; cases hj
      · cases h
        rw [Addr.add_lit]
        exact Lib.cell?_alloc_some _ (hc j u hj)
    case qc3 => exact u64s_one
    case qc4 => unfold maxLen; omega
    case qc5 => omega
    case qc6 => simp
    intro v' w1 hown hgrow hnil
    obtain ⟨sa, ca, rfl⟩ := (rd_of_row hown).form
    go_wp2
    go_ret
    refine ⟨sa, ca, by simp, by simpa using hown, ?_⟩
    exact ((Below.refl _ w).alloc (Nat.le_refl _) _).grown hgrow (by simp) (by intro k hk; simp [Value.ownBlock] at hk; omega)

end Go.Proofs.YtcoohepkmhpdkaaGreat
