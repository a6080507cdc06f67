/-
  The law's list of places: made, searched.
-/
import Derived.Test.YtamjhblhkabpaaaHl1
import Derived.Deep.CutBlock
import Derived.Deep.DeepCutAuto
namespace Go.Proofs.Ytamjhblhkabpaaa
open Go.RowKit
set_option linter.unusedVariables false
set_option linter.unusedSimpArgs false

section
variable {P : Program}
/-- 'append(s, u)', s a row of the call's own, u of some cells: as a step of the walk. -/
theorem appK (W : World) {ops : Array Oper} {rest : List Oper} {o : Oper} {a : Act} {Q : Exit → Act → World → Prop} (hgd : o.guard = none) (s x : Operand) (t : TypeId)
    (ho : o.op = .call { callee := .builtin .append, args := #[s, x], argTypes := #[t, t] })
    (base : Nat) (e : TypeId) (i : TypeInfo) (z : Value) (size bytes : Nat) (ht : P.underlying t = some (.slice e)) (hi : P.info? e = some i) (hz : i.zero = some z)
    (hsize : i.size = size) (hby : i.bytes = bytes) (hzs : z.cells.size = size) (hsz : 0 < size)
    (v : Value) (n : Nat) (xs : List Value) (hs : a.eval s = v) (hown : W.ownsRow base e size v n xs)
    (g : Nat) (us : Array Value) (hus : us.size = size) (hx : a.eval x = .slice (some ⟨g, 0, none⟩) 1 1) (hg : g = W.heap.size) (h1 : ∀ u ∈ us.toList, u.oneCell' = true)
    (h63 : n + 1 ≤ maxLen) (hbytes : (n + 1) * bytes ≤ 140737488355328) (hbase : base ≤ W.heap.size)
    (h : ∀ v' w', w'.ownsRow base e size v' (n + 1) (xs ++ us.toList) → Chg (fun k => v.ownBlock = some k) W w' → (∀ k, v'.ownBlock = some k → v.ownBlock = some k ∨ W.heap.size ≤ k) → wpList P ops Q rest (a.put o.dst v') w') :
    wpList P ops Q (o :: rest) a (W.alloc (.cells us e)) := by
  refine wpList_plain hgd fun K hK => ?_
  subst hg
  obtain ⟨v', w', hr, h2, h3, h4⟩ := app_where (P := P) (W.alloc (.cells us e)) base t o.type e i z size bytes ht hi hz hsize hby hzs hsz v n xs (hown.alloc _) ⟨W.heap.size, 0, none⟩ 1 1 us.toList (by simp [hus])
    (fun j u hu => by
      rw [Addr.add_lit, Nat.zero_add]
      exact cell_of (heap_alloc_new W _) j (by simpa using hu)) h1 h63 hbytes (by simp; omega)
  unfold Oper.wp execOp
  simp only [ho, resolve, invoke, builtin, Sem.run_bind, Sem.run_pure, Result.andThen_ok, List.map_toArray, List.map_cons, List.map_nil, hs, hx, hr]
  refine hK _ _ (h v' w' h2 (((Chg.refl _ W).alloc _).grown h3 (fun k hk => .inl hk)) fun k hk => ?_)
  rcases h4 with h4 | h4
  · exact .inl (h4 ▸ hk)
  · rw [h4] at hk
    simp at hk
    omega
end

theorem info_lplace : (Try.prog.info? 47).map (fun i => (i.zero, i.size, i.bytes)) = some (some (.agg #[.bool false, .int .u64 0, .int .i64 0]), 3, 24) := by kernel_rfl

theorem app_place (W : World) {ops : Array Oper} {rest : List Oper} {o : Oper} {a : Act} {Q : Exit → Act → World → Prop} (hgd : o.guard = none) (s x : Operand)
    (ho : o.op = .call { callee := .builtin .append, args := #[s, x], argTypes := #[26, 26] })
    (base : Nat) (v : Value) (n : Nat) (ls : List Plc) (hs : a.eval s = v) (hown : W.ownsRow base 47 3 v n (plC ls))
    (g : Nat) (hx : a.eval x = .slice (some ⟨g, 0, none⟩) 1 1) (hg : g = W.heap.size) (hn : n ≤ 1000000) (hbase : base ≤ W.heap.size)
    (h : ∀ v' w', w'.ownsRow base 47 3 v' (n + 1) (plC (ls ++ [plZ])) → Chg (fun k => v.ownBlock = some k) W w' → (∀ k, v'.ownBlock = some k → v.ownBlock = some k ∨ W.heap.size ≤ k) → wpList Try.prog ops Q rest (a.put o.dst v') w') :
    wpList Try.prog ops Q (o :: rest) a (W.alloc (.cells #[.bool false, .int .u64 0, .int .i64 0] 47)) := by
  obtain ⟨i0, hi, hz0, hz1, hz2⟩ := info_parts info_lplace
  refine appK W hgd s x _ ho base _ i0 _ 3 24 Try.underlying26 hi hz0 hz1 hz2 rfl (by decide) v n (plC ls) hs hown g #[.bool false, .int .u64 0, .int .i64 0] rfl hx hg (fun u hu => by simp at hu; rcases hu with rfl | rfl | rfl <;> rfl) (by unfold maxLen; omega) (by omega) hbase ?_
  intro v' w' h1 h2 h3
  rw [show plC ls ++ (#[Value.bool false, Value.int IntKind.u64 0, Value.int IntKind.i64 0] : Array Value).toList = plC (ls ++ [plZ]) by rw [plC_append]; rfl] at h1
  exact h v' w' h1 h2 h3

set_option maxRecDepth 100000 in
set_option maxHeartbeats 4000000 in
theorem places_any (w : World) (room : Int) :
    Calls Try.prog 6 #[.int .i64 room] w fun e w' => ∃ lb cap, e = .returned (.slice (some ⟨lb, 0, none⟩) (roomN room) cap) ∧ RefAt w.heap.size w' lb cap (List.replicate (roomN room) plZ) ∧ Below w.heap.size w w' := by
  have hp := roomN_pos room
  have hr : (room < 1 ∧ roomN room = 1) ∨ (¬ room < 1 ∧ ¬ 16 < room ∧ room = (roomN room : Int)) ∨ (¬ room < 1 ∧ 16 < room ∧ roomN room = 16) := by unfold roomN; omega
  generalize roomN room = R at *
  go_enter Try.func6, Try.ntmps6
  go_wp2_with fail
  go_loopw [3, 4] (fun u i wr => ∃ (j cap : Nat) (so : Option Addr), i = .int .i64 j ∧ j ≤ R ∧ u = .slice so j cap ∧ Hid (wr.ownsRow w.heap.size 47 3 (.slice so j cap) j (plC (List.replicate j plZ))) ∧ Hid (Below w.heap.size w wr)) (fun _ i _ => R - (intOf i).toNat)
  case atStart => exact ⟨0, 0, none, rfl, Nat.zero_le _, rfl, World.ownsRow_nil _ _ _ _, Below.refl _ _⟩
  case round =>
    obtain ⟨j, cap, so, rfl, hj, rfl, HO, HB⟩ := hrel
    rcases hr with ⟨h1, h2⟩ | ⟨h1, h2, h3⟩ | ⟨h1, h2, h3⟩
    · subst h2
      by_cases hlt : j < 1
      · have zj : (j : Int) < 1 := by omega
        go_wp2_with (at_builtin; refine app_place _ rfl _ _ rfl w.heap.size _ _ (List.replicate j plZ) rfl HO.out _ rfl ?qg0 ?qn0 ?qb0 ?_)
        case qg0 => rfl
        case qn0 => omega
        case qb0 => exact HB.out.size
        intro v' w4 hown hchg hfresh
        obtain ⟨so', co', rfl⟩ := (rd_of_row hown).form
        rw [← List.replicate_succ'] at hown
        have hB4 : Below w.heap.size w w4 := HB.out.trans (hchg.below HB.out.size fun i hi => (HO.out.lt i hi).1)
        have HO4 := Lib.hid hown; have HB4 := Lib.hid hB4
        clear hown hchg hfresh hB4
        go_wp2_with fail
        go_roundw
        case rel => exact ⟨j + 1, co', so', by go_num, by omega, rfl, HO4, HB4⟩
        case measure => simp [intOf]; omega
      · obtain rfl : j = 1 := by omega
        go_wp2_with fail
        go_ret
        obtain ⟨b, off, hsa, -⟩ := (rd_of_row HO.out).at (by omega)
        subst hsa
        have hown := HO.out
        rcases hown.2 with ⟨h0, _⟩ | ⟨g', cap', cur, hv, hb, hg, hc⟩
        · cases h0
        · cases hv
          refine ⟨_, _, rfl, ⟨?_, ?_, ?_⟩, HB.out⟩
          · rw [List.length_replicate]; exact hown
          · rw [List.length_replicate]; omega
          · rw [List.length_replicate]; omega
    · subst h3
      by_cases hlt : j < R
      · have zj : (j : Int) < (R : Int) := by omega
        go_wp2_with (at_builtin; refine app_place _ rfl _ _ rfl w.heap.size _ _ (List.replicate j plZ) rfl HO.out _ rfl ?qg1 ?qn1 ?qb1 ?_)
        case qg1 => rfl
        case qn1 => omega
        case qb1 => exact HB.out.size
        intro v' w4 hown hchg hfresh
        obtain ⟨so', co', rfl⟩ := (rd_of_row hown).form
        rw [← List.replicate_succ'] at hown
        have hB4 : Below w.heap.size w w4 := HB.out.trans (hchg.below HB.out.size fun i hi => (HO.out.lt i hi).1)
        have HO4 := Lib.hid hown; have HB4 := Lib.hid hB4
        clear hown hchg hfresh hB4
        go_wp2_with fail
        go_roundw
        case rel => exact ⟨j + 1, co', so', by go_num, by omega, rfl, HO4, HB4⟩
        case measure => simp [intOf]; omega
      · obtain rfl : j = R := by omega
        go_wp2_with fail
        go_ret
        obtain ⟨b, off, hsa, -⟩ := (rd_of_row HO.out).at (by omega)
        subst hsa
        have hown := HO.out
        rcases hown.2 with ⟨h0, _⟩ | ⟨g', cap', cur, hv, hb, hg, hc⟩
        · cases h0
        · cases hv
          refine ⟨_, _, rfl, ⟨?_, ?_, ?_⟩, HB.out⟩
          · rw [List.length_replicate]; exact hown
          · rw [List.length_replicate]; omega
          · rw [List.length_replicate]; omega
    · subst h3
      by_cases hlt : j < 16
      · have zj : (j : Int) < 16 := by omega
        go_wp2_with (at_builtin; refine app_place _ rfl _ _ rfl w.heap.size _ _ (List.replicate j plZ) rfl HO.out _ rfl ?qg2 ?qn2 ?qb2 ?_)
        case qg2 => rfl
        case qn2 => omega
        case qb2 => exact HB.out.size
        intro v' w4 hown hchg hfresh
        obtain ⟨so', co', rfl⟩ := (rd_of_row hown).form
        rw [← List.replicate_succ'] at hown
        have hB4 : Below w.heap.size w w4 := HB.out.trans (hchg.below HB.out.size fun i hi => (HO.out.lt i hi).1)
        have HO4 := Lib.hid hown; have HB4 := Lib.hid hB4
        clear hown hchg hfresh hB4
        go_wp2_with fail
        go_roundw
        case rel => exact ⟨j + 1, co', so', by go_num, by omega, rfl, HO4, HB4⟩
        case measure => simp [intOf]; omega
      · obtain rfl : j = 16 := by omega
        go_wp2_with fail
        go_ret
        obtain ⟨b, off, hsa, -⟩ := (rd_of_row HO.out).at (by omega)
        subst hsa
        have hown := HO.out
        rcases hown.2 with ⟨h0, _⟩ | ⟨g', cap', cur, hv, hb, hg, hc⟩
        · cases h0
        · cases hv
          refine ⟨_, _, rfl, ⟨?_, ?_, ?_⟩, HB.out⟩
          · rw [List.length_replicate]; exact hown
          · rw [List.length_replicate]; omega
          · rw [List.length_replicate]; omega

set_option maxRecDepth 100000 in
set_option maxHeartbeats 4000000 in
/-- the first free place -/
theorem put48_any (w : World) (B lb cap : Nat) (ls : List Plc) (hL : RefAt B w lb cap ls) :
    Calls Try.prog 15 #[.slice (some ⟨lb, 0, none⟩) ls.length cap] w fun e w' => Below w.heap.size w w' ∧
      ((e = .returned (.int .i64 (-1)) ∧ ∀ i, i < ls.length → (ls.getD i plZ).1 = true) ∨ ∃ i : Nat, e = .returned (.int .i64 (i : Int)) ∧ i < ls.length ∧ (ls.getD i plZ).1 = false ∧ ∀ j, j < i → (ls.getD j plZ).1 = true) := by
  have hle := hL.le
  have HT := Lib.hid hL; clear hL
  go_enter Try.func15, Try.ntmps15
  go_wp2_with fail
  go_loopw [7] (fun i wr => ∃ s : Nat, s ≤ ls.length ∧ i = .int .i64 s ∧ Hid (∀ j, j < s → (ls.getD j plZ).1 = true) ∧ Hid (Below w.heap.size w wr)) (fun i _ => ls.length - (intOf i).toNat)
  case atStart => exact ⟨0, Nat.zero_le _, rfl, fun j hj => by omega, Below.refl _ _⟩
  case round =>
    obtain ⟨s, hs, rfl, HS, HB⟩ := hrel
    by_cases hlt : s < ls.length
    · obtain ⟨c0, c1, c2⟩ := (HT.out.below HB.out).at hlt
      obtain ⟨⟨b, t, x⟩, hp⟩ : ∃ p : Plc, ls.getD s plZ = p := ⟨_, rfl⟩
      rw [hp] at c0 c1 c2
      have d0 : wr.cell? ⟨lb, s * 3, none⟩ = some (.bool b) := c0
      have d1 : wr.cell? ⟨lb, s * 3 + 1, none⟩ = some (.int .u64 t) := c1
      have d2 : wr.cell? ⟨lb, s * 3 + 2, none⟩ = some (.int .i64 x) := c2
      have HP := Lib.hid hp; clear hp c0 c1 c2
      have hB2 : Hid (Below w.heap.size w (wr.alloc (.cells #[.bool b, .int .u64 t, .int .i64 x] 47))) := HB.out.alloc HB.out.size _
      cases b with
      | false =>
        go_wp2_with fail
        go_ret
        exact ⟨hB2.out, .inr ⟨s, rfl, hlt, by rw [HP.out], HS.out⟩⟩
      | true =>
        go_wp2_with fail
        go_roundw
        case rel =>
          refine ⟨s + 1, by omega, by go_num, fun j hj => ?_, hB2⟩
          by_cases hjs : j = s
          · subst hjs; rw [HP.out]
          · exact HS.out j (by omega)
        case measure => simp [intOf]; omega
    · obtain rfl : s = ls.length := by omega
      go_wp2_with fail
      go_ret
      exact ⟨HB.out, .inl ⟨rfl, HS.out⟩⟩

set_option maxRecDepth 100000 in
set_option maxHeartbeats 4000000 in
/-- the place of a handle -/
theorem find48_any (w : World) (B lb cap : Nat) (ls : List Plc) (h : Int) (hL : RefAt B w lb cap ls) (hF : Few 50000 ls) :
    Calls Try.prog 16 #[.slice (some ⟨lb, 0, none⟩) ls.length cap, .int .u64 h] w fun e w' => Below w.heap.size w w' ∧
      ((plOf ls h = none ∧ e = .returned (.int .i64 (-1))) ∨ ∃ i : Nat, plOf ls h = some i ∧ e = .returned (.int .i64 (i : Int))) := by
  have hle := hL.le
  have HT := Lib.hid hL; have HF := Lib.hid hF; clear hL hF
  go_enter Try.func16, Try.ntmps16
  go_wp2_with fail
  go_loopw [9] (fun i wr => ∃ s : Nat, s ≤ ls.length ∧ i = .int .i64 s ∧ Hid (∀ j, j < s → plOf ls h ≠ some j) ∧ Hid (Below w.heap.size w wr)) (fun i _ => ls.length - (intOf i).toNat)
  case atStart => exact ⟨0, Nat.zero_le _, rfl, fun j hj => by omega, Below.refl _ _⟩
  case round =>
    obtain ⟨s, hs, rfl, HS, HB⟩ := hrel
    by_cases hlt : s < ls.length
    · obtain ⟨c0, c1, c2⟩ := (HT.out.below HB.out).at hlt
      have hf := HF.out s hlt
      have hno : ∀ (q : ¬ ((ls.getD s plZ).1 = true ∧ 16 * (ls.getD s plZ).2.1 + (s : Int) = h)), ∀ j, j < s + 1 → plOf ls h ≠ some j := by
        intro q j hj e
        by_cases hjs : j = s
        · subst hjs
          have := plOf_some e
          exact q ⟨this.2.1, this.2.2⟩
        · exact HS.out j (by omega) e
      have hyes : (ls.getD s plZ).1 = true → 16 * (ls.getD s plZ).2.1 + (s : Int) = h → plOf ls h = some s := fun q1 q2 => plOf_of hle hlt q1 q2
      obtain ⟨⟨b, t, x⟩, hp⟩ : ∃ p : Plc, ls.getD s plZ = p := ⟨_, rfl⟩
      rw [hp] at c0 c1 c2 hf hno hyes
      have f0 : 0 ≤ t := hf.1
      have f1 : t ≤ 50000 := hf.2
      have d0 : wr.cell? ⟨lb, s * 3, none⟩ = some (.bool b) := c0
      have d1 : wr.cell? ⟨lb, s * 3 + 1, none⟩ = some (.int .u64 t) := c1
      have d2 : wr.cell? ⟨lb, s * 3 + 2, none⟩ = some (.int .i64 x) := c2
      have HNO := Lib.hid hno; have HYES := Lib.hid hyes
      have hB2 : Hid (Below w.heap.size w (wr.alloc (.cells #[.bool b, .int .u64 t, .int .i64 x] 47))) := HB.out.alloc HB.out.size _
      clear hp c0 c1 c2 hf hno hyes
      cases b with
      | false =>
        go_wp2_with fail
        go_roundw
        case rel => exact ⟨s + 1, by omega, by go_num, HNO.out (fun q => by cases q.1), hB2⟩
        case measure => simp [intOf]; omega
      | true =>
        by_cases hh : 16 * t + (s : Int) = h
        · have hq : (16 * t + (s : Int) == h) = true := by simp [hh]
          have HP := Lib.hid (HYES.out rfl hh)
          clear hh
          go_wp2_with fail
          go_ret
          exact ⟨hB2.out, .inr ⟨s, HP.out, rfl⟩⟩
        · have hq : (16 * t + (s : Int) == h) = false := by simp [hh]
          have HP := Lib.hid (HNO.out (fun q => hh q.2))
          clear hh
          go_wp2_with fail
          go_roundw
          case rel => exact ⟨s + 1, by omega, by go_num, HP, hB2⟩
          case measure => simp [intOf]; omega
    · obtain rfl : s = ls.length := by omega
      go_wp2_with fail
      go_ret
      refine ⟨HB.out, .inl ⟨?_, rfl⟩⟩
      cases hp : plOf ls h with
      | none => rfl
      | some i => exact absurd hp (HS.out i (plOf_some hp).1)

end Go.Proofs.Ytamjhblhkabpaaa
