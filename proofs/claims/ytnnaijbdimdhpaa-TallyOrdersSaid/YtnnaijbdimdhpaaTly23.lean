/-
  tally.up, tally.ints; the references Times, sets.
-/
import Derived.Test.YtnnaijbdimdhpaaTlySlotN
import Derived.Test.YtnnaijbdimdhpaaTly14
namespace Go.Proofs.Ytnnaijbdimdhpaa
open Go.RowKit Go.Shelf
set_option linter.unusedVariables false

set_option maxRecDepth 100000 in
set_option maxHeartbeats 1000000 in
theorem up_any (k n : Nat) (w : World) (hk : k ≤ n + 1) (hn : n ≤ 1000) :
    Calls Try.prog 57 #[.int .i64 k, .int .i64 n] w fun e w' => ∃ sa cap, e = .returned (.slice sa (n + 1 - k) cap) ∧ w'.ownsRow w.heap.size 22 1 (.slice sa (n + 1 - k) cap) (n + 1 - k) (u64s (upI k n)) ∧ Below w.heap.size w w' := by
  go_enter Try.func57, Try.ntmps57
  go_wp2
  go_loopw [5, 6] (fun v i wr => ∃ (j : Nat) (sa : Option Addr) (cap : Nat), j ≤ n + 1 - k ∧ i = .int .i64 ((k + j : Nat) : Int) ∧ v = .slice sa j cap ∧ Hid (wr.ownsRow w.heap.size 22 1 (.slice sa j cap) j (u64s ((List.range j).map fun i => ((k + i : Nat) : Int)))) ∧ Hid (Below w.heap.size w wr)) (fun _ i _ => n + 1 - (intOf i).toNat)
  case atStart => exact ⟨0, none, 0, Nat.zero_le _, rfl, rfl, World.ownsRow_nil _ _ _ _, Below.refl _ _⟩
  case round =>
    obtain ⟨j, sa, cap, hj, rfl, rfl, HO, HB⟩ := hrel
    obtain ⟨i, hi⟩ : ∃ i, i = k + j := ⟨_, rfl⟩
    rw [← hi]
    by_cases hlt : i ≤ n
    · have HI := Lib.hid hi
      have hjn : j < n + 1 - k := by omega
      clear hi
      go_wp2_with (at_builtin; refine app_u64 _ rfl _ _ rfl w.heap.size _ _ _ rfl HO.out _ _ rfl ?qg ?qn ?qb ?_)
      case qg => rfl
      case qn => omega
      case qb => exact HB.out.size
      intro v' w1 hown hchg hfresh
      obtain ⟨sa', cap', rfl⟩ := (rd_of_row hown).form
      have HO1 := Lib.hid hown; have HC1 := Lib.hid hchg
      clear hown hchg hfresh
      go_wp2
      go_roundw
      case rel =>
        refine ⟨j + 1, sa', cap', by omega, by have := HI.out; go_num, rfl, ?_, ?_⟩
        · have := HO1.out
          rw [HI.out] at this
          show World.ownsRow _ _ _ _ _ _ _
          rw [List.range_succ, List.map_append, List.map_cons, List.map_nil, u64s_snoc]
          exact this
        · exact HB.out.trans (HC1.out.below HB.out.size fun i hi => (HO.out.lt i hi).1)
      case measure => simp [intOf]; omega
    · obtain rfl : j = n + 1 - k := by omega
      clear hi
      go_wp2
      go_ret
      exact ⟨sa, cap, rfl, HO.out, HB.out⟩

set_option maxRecDepth 100000 in
set_option maxHeartbeats 1000000 in
theorem tints_any (L : List Int) (v : Value) (n : Nat) (w : World) (hr : Rd w 1 v n (u64s L)) (hn : n ≤ 1000) (hL : ∀ x ∈ L, 0 ≤ x ∧ x < 9223372036854775808) :
    Calls Try.prog 59 #[v] w fun e w' => ∃ sa cap, e = .returned (.slice sa n cap) ∧ w'.ownsRow w.heap.size 3 1 (.slice sa n cap) n (i64s L) ∧ Below w.heap.size w w' := by
  obtain rfl := hr.len_u64
  obtain ⟨sx, cx, rfl⟩ := hr.form
  have HRD := Lib.hid hr
  have HL := Lib.hid hL
  clear hr hL
  go_enter Try.func59, Try.ntmps59
  go_wp2
  go_loopw [3, 5, 8] (fun v u i wr => ∃ (j : Nat) (sa : Option Addr) (cap : Nat), j ≤ L.length ∧ i = .int .i64 j ∧ v = .slice sa j cap ∧ Hid (wr.ownsRow w.heap.size 3 1 (.slice sa j cap) j (i64s (L.take j))) ∧ Hid (Below w.heap.size w wr)) (fun _ _ i _ => L.length - (intOf i).toNat)
  case atStart => exact ⟨0, none, 0, Nat.zero_le _, rfl, rfl, World.ownsRow_nil _ _ _ _, Below.refl _ _⟩
  case round =>
    obtain ⟨j, sa, cap, hj, rfl, rfl, HO, HB⟩ := hrel
    by_cases hlt : j < L.length
    · obtain ⟨b, off, rfl, hcell⟩ := (HRD.out.below HB.out).at (by omega)
      have hc := hcell j _ (u64s_at L j hlt)
      have hx := HL.out (L.getD j 0) (by simp [List.getD, List.getElem?_eq_getElem hlt])
      have htk : L.take (j + 1) = L.take j ++ [L.getD j 0] := by rw [List.take_add_one, List.getElem?_eq_getElem hlt]; simp [List.getD, List.getElem?_eq_getElem hlt]
      generalize L.getD j 0 = x at *
      have hwr : IntKind.i64.wrap x = x := by rw [IntKind.wrap_i64]; omega
      have HTK := Lib.hid htk
      clear hcell htk
      go_wp2_with (at_builtin; refine app_i64 _ rfl _ _ rfl w.heap.size _ _ _ rfl HO.out _ _ rfl ?qg ?qn ?qb ?_)
      case qg => rfl
      case qn => omega
      case qb => exact HB.out.size
      intro v' w1 hown hchg hfresh
      obtain ⟨sa', cap', rfl⟩ := (rd_of_row hown).form
      have HO1 := Lib.hid hown; have HC1 := Lib.hid hchg
      clear hown hchg hfresh
      go_wp2
      go_roundw
      case rel =>
        refine ⟨j + 1, sa', cap', by omega, by go_num, rfl, ?_, ?_⟩
        · have := HO1.out
          show World.ownsRow _ _ _ _ _ _ _
          rw [HTK.out, i64s_snoc]
          exact this
        · exact HB.out.trans (HC1.out.below HB.out.size fun i hi => (HO.out.lt i hi).1)
      case measure => simp [intOf]; omega
    · obtain rfl : j = L.length := by omega
      go_wp2
      go_ret
      refine ⟨sa, cap, rfl, ?_, HB.out⟩
      have := HO.out
      rwa [List.take_length] at this

end Go.Proofs.Ytnnaijbdimdhpaa
