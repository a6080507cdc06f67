/-
  The reference's draws from a list of words: Take, Row; and whether draws are alike: Same.
-/
import Derived.Test.YtcoohepkmhpdkaaGreatDraw
namespace Go.Proofs.YtcoohepkmhpdkaaGreat
open Go.RowKit
set_option linter.unusedVariables false

theorem cell_three_at (w : World) (x y z : Value) (e : TypeId) (g : Nat) (hg : g = w.heap.size) : ∀ j u, [x, y, z][j]? = some u → (w.alloc (.cells #[x, y, z] e)).cell? ((⟨g, 0, none⟩ : Addr).add j) = some u := by
  subst hg
  intro j u hu
  rw [Addr.add_lit, cell_of_row (w.alloc (.cells #[x, y, z] e)) w.heap.size _ _ e (0, 0) (heap_alloc_new w _)]
  simpa using hu

theorem info_dw : (Tryz.prog.info? 65).map (fun i => (i.zero, i.size, i.bytes)) = some (some (.agg #[.int .u64 0, .int .u64 0, .int .i64 0]), 3, 24) := by kernel_rfl

/-- 'append(s, d)', s a row of draws of the call's own: as a step of the walk. -/
theorem app_dw (W : World) {ops : Array Oper} {rest : List Oper} {o : Oper} {a : Act} {Q : Exit → Act → World → Prop} (hgd : o.guard = none) (s x : Operand)
    (ho : o.op = .call { callee := .builtin .append, args := #[s, x], argTypes := #[41, 41] })
    (base : Nat) (v : Value) (n : Nat) (xs : List Value) (hs : a.eval s = v) (hown : W.ownsRow base 65 3 v n xs)
    (g : Nat) (d1 d2 d3 : Int) (hx : a.eval x = .slice (some ⟨g, 0, none⟩) 1 1) (hg : g = W.heap.size) (hn : n ≤ 1000000) (hbase : base ≤ W.heap.size)
    (h : ∀ v' w', w'.ownsRow base 65 3 v' (n + 1) (xs ++ [.int .u64 d1, .int .u64 d2, .int .i64 d3]) → Chg (fun k => v.ownBlock = some k) W w' → (∀ k, v'.ownBlock = some k → v.ownBlock = some k ∨ W.heap.size ≤ k) → wpList Tryz.prog ops Q rest (a.put o.dst v') w') :
    wpList Tryz.prog ops Q (o :: rest) a (W.alloc (.cells #[.int .u64 d1, .int .u64 d2, .int .i64 d3] 65)) := by
  obtain ⟨i0, hi, hz0, hz1, hz2⟩ := info_parts info_dw
  refine wpList_plain hgd fun K hK => ?_
  obtain ⟨v', w', hr, h2, h3, h4⟩ := app_where (P := Tryz.prog) (W.alloc (.cells #[.int .u64 d1, .int .u64 d2, .int .i64 d3] 65)) base _ o.type _ i0 _ 3 24 Tryz.underlying41 hi hz0 hz1 hz2 rfl (by decide) v n xs (hown.alloc _) ⟨g, 0, none⟩ 1 1 [.int .u64 d1, .int .u64 d2, .int .i64 d3] rfl
    (cell_three_at W _ _ _ _ g hg) (fun y hy => by simp at hy; rcases hy with rfl | rfl | rfl <;> rfl) (by unfold maxLen; omega) (by omega) (by simp; omega)
  unfold Oper.wp execOp
  simp only [ho, resolve, invoke, builtin, Sem.run_bind, Sem.run_pure, Result.andThen_ok, List.map_toArray, List.map_cons, List.map_nil, hs, hx, hr]
  refine hK _ _ (h v' w' h2 (((Chg.refl _ W).alloc _).grown h3 (fun k hk => .inl hk)) fun k hk => ?_)
  rcases h4 with h4 | h4
  · exact .inl (h4 ▸ hk)
  · rw [h4] at hk
    simp at hk
    omega

set_option maxRecDepth 100000 in
set_option maxHeartbeats 4000000 in
theorem rtake_any (w : World) (v : Value) (m : Nat) (l : List Nat) (n : Nat) (hr : Rd w 1 v m (u64s (zsN l))) (hm : m < 50000) (hw : W64 l) (h0 : 0 < n) (hn : n < 2 ^ 64) :
    Calls Tryz.prog 25 #[v, .int .u64 (n : Int)] w fun e w' => TkE (takeN n 0 l) (fun d => e = .returned (.tuple #[.agg #[.int .u64 (d.1 : Int), .int .u64 (d.2.1 : Int), .int .i64 (d.2.2 : Int)], .bool true]))
      (e = .returned (.tuple #[.agg #[.int .u64 0, .int .u64 0, .int .i64 0], .bool false])) ∧ Below w.heap.size w w' := by
  obtain rfl := hr.len_u64
  rw [zsN_len] at *
  obtain ⟨sa, cap, rfl⟩ := hr.form
  have HR := Lib.hid hr; have HW := Lib.hid hw; have HN := Lib.hid hn; have H0 := Lib.hid h0
  clear hr hw hn h0
  obtain ⟨R, hR⟩ : ∃ R, R = takeN n 0 l := ⟨_, rfl⟩
  rw [← hR]
  have HR0 := Lib.hid hR; clear hR
  go_enter Tryz.func25, Tryz.ntmps25
  go_wp2
  go_loopw [12] (fun i wr => ∃ k : Nat, k ≤ l.length ∧ i = .int .i64 k ∧ Hid (wr.heap[w.heap.size]? = some (.cells #[.int .u64 0, .int .u64 0, .int .i64 0] 65 (0, 0))) ∧ Hid (Below w.heap.size w wr) ∧ Hid (R = takeN n k (l.drop k))) (fun i _ => l.length - (intOf i).toNat)
  case atStart => exact ⟨0, Nat.zero_le _, rfl, heap_alloc_new _ _, (Below.refl _ w).alloc (Nat.le_refl _) _, HR0⟩
  case round =>
    obtain ⟨k, hk, rfl, HC, HB, HRk⟩ := hrel
    have hsz := block_lt HC.out
    by_cases hlt : k < l.length
    · have hw1 := HW.out.at (k := k) (by omega)
      obtain ⟨bb, off, rfl, hc⟩ := (HR.out.below HB.out).at (by omega)
      have cx := hc k _ (u64s_at (zsN l) k (by rw [zsN_len]; exact hlt))
      rw [zsN_get] at cx
      have hyes := takeN_yes (n := n) (u := k) (k := k) (l := l) hlt
      have hno := takeN_no (n := n) (u := k) (k := k) (l := l) hlt
      have T := fun w => rtakes_any w (l.getD k 0) n H0.out hw1 HN.out
      have K := fun w => rrank_any w (l.getD k 0) n hw1 HN.out
      generalize l.getD k 0 = a at *
      have HTT := Lib.hid T; have HKK := Lib.hid K; have HY := Lib.hid hyes; have HNO := Lib.hid hno
      clear T K hyes hno hw1 hc
      go_wp2_with fail
      refine (HTT.out _).mono ?_
      rintro e w3 ⟨rfl, hb3⟩
      have hC3 := (hb3.block _ hsz).trans HC.out
      have HC3 := Lib.hid hC3; have HB3 := Lib.hid (HB.out.trans (hb3.mono (Nat.le_of_lt hsz))); clear hC3 hb3 cx
      cases htk : tknB a n with
      | true =>
        have hK := HKK.out w3 (tknB_iff.1 htk)
        have hYY := HY.out htk
        rw [show a * n / 2 ^ 64 = telN a n from rfl, show a - firstN (telN a n) n = rnkN a n from rfl] at hK
        have HK := Lib.hid hK; have HYY := Lib.hid hYY
        clear hK hYY
        generalize telN a n = v at *
        generalize rnkN a n = r at *
        clear htk
        go_wp2_with fail
        refine HK.out.mono ?_
        rintro e w4 ⟨rfl, hb4⟩
        have hC4 := (hb4.block _ (block_lt HC3.out)).trans HC3.out
        have d0 := cell_of hC4 0 rfl
        have d1 := cell_of hC4 1 rfl
        have d2 := cell_of hC4 2 rfl
        have g0 := frozen_of hC4 0
        have g1 := frozen_of hC4 1
        have g2 := frozen_of hC4 2
        have HB4 := Lib.hid (HB3.out.trans (hb4.mono HB3.out.size)); clear hb4 hC4
        go_wp2_with fail
        refine bodyPost_ret (v := .tuple #[.agg #[.int .u64 (v : Int), .int .u64 (r : Int), .int .i64 ((k : Int) + 1)], .bool true]) ?hres rfl ?_
        case hres => simp [results, Tryz.results25, go_sem, d0, d1, d2]
        rw [HRk.out, HYY.out]
        refine ⟨?_, ((HB4.out.setCell (by simp) _).setCell (by simp) _).setCell (by simp) _⟩
        exact (rfl : _ = _)
      | false =>
        have HNN := Lib.hid (HNO.out htk)
        clear htk
        go_wp2_with fail
        go_roundw
        case rel => exact ⟨k + 1, by omega, by go_num, HC3, HB3, Lib.hid (by rw [HRk.out, HNN.out])⟩
        case measure => simp [intOf]; omega
    · obtain rfl : k = l.length := by omega
      have hE : takeN n l.length (l.drop l.length) = none := takeN_end
      have hC4 := HC.out
      have d0 := cell_of hC4 0 rfl
      have d1 := cell_of hC4 1 rfl
      have d2 := cell_of hC4 2 rfl
      have g0 := frozen_of hC4 0
      have g1 := frozen_of hC4 1
      have g2 := frozen_of hC4 2
      have HE := Lib.hid hE
      clear hE hC4
      go_wp2_with fail
      refine bodyPost_ret (v := .tuple #[.agg #[.int .u64 0, .int .u64 0, .int .i64 0], .bool false]) ?hres2 rfl ?_
      case hres2 => simp [results, Tryz.results25, go_sem, d0, d1, d2]
      rw [HRk.out, HE.out]
      refine ⟨?_, ((HB.out.setCell (by simp) _).setCell (by simp) _).setCell (by simp) _⟩
      exact (rfl : _ = _)

end Go.Proofs.YtcoohepkmhpdkaaGreat
