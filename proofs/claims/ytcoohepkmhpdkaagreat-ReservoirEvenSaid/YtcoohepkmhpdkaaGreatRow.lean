/-
  Rows of ints: the program's and the references' lists 0, 1, 2, .., comparisons of ints, and small laws on rows of the call's own.
-/
import Derived.Test.YtcoohepkmhpdkaaGreatClone
import Derived.Test.YtcoohepkmhpdkaaGreatPlain
namespace Go.Proofs.YtcoohepkmhpdkaaGreat
open Go.RowKit
set_option linter.unusedVariables false

/-- A row of the call's own that has an element: where it lies. -/
theorem row_ptr {w : World} {B : Nat} {e : TypeId} {sa : Option Addr} {n cap : Nat} {xs : List Value} (h : w.ownsRow B e 1 (.slice sa n cap) n xs) (hn : 0 < n) :
    ∃ g, sa = some ⟨g, 0, none⟩ ∧ B ≤ g ∧ g < w.heap.size ∧ n ≤ cap ∧ (∀ i u, xs[i]? = some u → w.cell? ⟨g, i, none⟩ = some u) ∧ ∀ i, w.frozen? ⟨g, i, none⟩ = false := by
  have hr := rd_of_row h
  have hc := hr.cap_le
  obtain ⟨b, off, rfl, hcell⟩ := hr.at hn
  rcases h.2 with ⟨h0, _⟩ | ⟨g, cap', cur, hv, hb, hg, _⟩
  · cases h0
  · cases hv
    exact ⟨b, rfl, hb, block_lt hg, hc.1, fun i u hu => by have := hcell i u hu; rwa [Nat.zero_add] at this, fun i => frozen_of hg i⟩

/-- A store into such a row. -/
theorem row_set {w : World} {B : Nat} {e : TypeId} {g n cap : Nat} {xs : List Value} (h : w.ownsRow B e 1 (.slice (some ⟨g, 0, none⟩) n cap) n xs) {i : Nat} (hi : i < n) (u : Value) :
    (w.setCell ⟨g, i, none⟩ u).ownsRow B e 1 (.slice (some ⟨g, 0, none⟩) n cap) n (xs.set i u) := by
  refine ⟨by rw [List.length_set]; exact h.1, ?_⟩
  have hl := h.1
  rcases h.2 with ⟨h0, _⟩ | ⟨g', cap', cur, hv, hb, hg, hc, hm, hs, ht⟩
  · cases h0
  · cases hv
    refine .inr ⟨g, cap, cur.setIfInBounds i u, rfl, hb, set_of hg i u, hc, hm, by simpa using hs, ?_⟩
    rw [← ht]
    simp only [Array.toList_setIfInBounds]
    rw [List.take_set]

theorem i64s_set (l : List Int) (i : Nat) (x : Int) : i64s (l.set i x) = (i64s l).set i (.int .i64 x) := by simp [i64s, List.map_set]
theorem u64s_set (l : List Int) (i : Nat) (x : Int) : u64s (l.set i x) = (u64s l).set i (.int .u64 x) := by simp [u64s, List.map_set]

set_option maxRecDepth 100000 in
set_option maxHeartbeats 1000000 in
theorem resrow_any (w : World) (n : Nat) (hn : n ≤ 100000) :
    Calls Tryz.prog 76 #[.int .i64 (n : Int)] w fun e w' => ∃ sa cap, e = .returned (.slice sa n cap) ∧ w'.ownsRow w.heap.size 3 1 (.slice sa n cap) n (i64s (rowL n)) ∧ Below w.heap.size w w' := by
  go_enter Tryz.func76, Tryz.ntmps76
  go_wp2
  go_loopw [3, 6] (fun v i wr => ∃ (k : Nat) (sa : Option Addr) (cap : Nat), k ≤ n ∧ i = .int .i64 k ∧ v = .slice sa k cap ∧ Hid (wr.ownsRow w.heap.size 3 1 (.slice sa k cap) k (i64s (rowL k))) ∧ Hid (Below w.heap.size w wr)) (fun _ i _ => n - (intOf i).toNat)
  case atStart => exact ⟨0, none, 0, Nat.zero_le _, rfl, rfl, World.ownsRow_nil _ _ _ _, Below.refl _ _⟩
  case round =>
    obtain ⟨k, sa, cap, hk, rfl, rfl, HO, HB⟩ := hrel
    by_cases hlt : k < n
    · go_wp2_with (at_builtin; refine app_i64 _ rfl _ _ rfl w.heap.size _ _ _ rfl HO.out _ _ rfl ?qg ?qn ?qb ?_)
      case qg => rfl
      case qn => omega
      case qb => exact HB.out.size
      intro v' w1 hown hchg hfresh
      obtain ⟨sa', cap', rfl⟩ := (rd_of_row hown).form
      have HO1 := Lib.hid hown; have HC1 := Lib.hid hchg
      clear hown hchg hfresh
      go_wp2
      go_roundw
      case rel =>
        refine ⟨k + 1, sa', cap', by omega, by go_num, rfl, ?_, ?_⟩
        · have := HO1.out; rw [rowL_succ, i64s_snoc]; exact this
        · exact HB.out.trans (HC1.out.below HB.out.size fun i hi => (HO.out.lt i hi).1)
      case measure => simp [intOf]; omega
    · obtain rfl : k = n := by omega
      go_wp2
      go_ret
      exact ⟨sa, cap, rfl, HO.out, HB.out⟩

set_option maxRecDepth 100000 in
set_option maxHeartbeats 1000000 in
theorem shufrow_any (w : World) (n : Nat) (hn : n ≤ 100000) :
    Calls Tryz.prog 126 #[.int .i64 (n : Int)] w fun e w' => ∃ sa cap, e = .returned (.slice sa n cap) ∧ w'.ownsRow w.heap.size 3 1 (.slice sa n cap) n (i64s (rowL n)) ∧ Below w.heap.size w w' := by
  go_enter Tryz.func126, Tryz.ntmps126
  go_wp2
  go_loopw [3, 6] (fun v i wr => ∃ (k : Nat) (sa : Option Addr) (cap : Nat), k ≤ n ∧ i = .int .i64 k ∧ v = .slice sa k cap ∧ Hid (wr.ownsRow w.heap.size 3 1 (.slice sa k cap) k (i64s (rowL k))) ∧ Hid (Below w.heap.size w wr)) (fun _ i _ => n - (intOf i).toNat)
  case atStart => exact ⟨0, none, 0, Nat.zero_le _, rfl, rfl, World.ownsRow_nil _ _ _ _, Below.refl _ _⟩
  case round =>
    obtain ⟨k, sa, cap, hk, rfl, rfl, HO, HB⟩ := hrel
    by_cases hlt : k < n
    · go_wp2_with (at_builtin; refine app_i64 _ rfl _ _ rfl w.heap.size _ _ _ rfl HO.out _ _ rfl ?qg ?qn ?qb ?_)
      case qg => rfl
      case qn => omega
      case qb => exact HB.out.size
      intro v' w1 hown hchg hfresh
      obtain ⟨sa', cap', rfl⟩ := (rd_of_row hown).form
      have HO1 := Lib.hid hown; have HC1 := Lib.hid hchg
      clear hown hchg hfresh
      go_wp2
      go_roundw
      case rel =>
        refine ⟨k + 1, sa', cap', by omega, by go_num, rfl, ?_, ?_⟩
        · have := HO1.out; rw [rowL_succ, i64s_snoc]; exact this
        · exact HB.out.trans (HC1.out.below HB.out.size fun i hi => (HO.out.lt i hi).1)
      case measure => simp [intOf]; omega
    · obtain rfl : k = n := by omega
      go_wp2
      go_ret
      exact ⟨sa, cap, rfl, HO.out, HB.out⟩


set_option maxRecDepth 100000 in
set_option maxHeartbeats 1000000 in
theorem refrow_any (w : World) (n : Nat) (hn : n ≤ 100000) :
    Calls Tryz.prog 68 #[.int .i64 (n : Int)] w fun e w' => ∃ sa cap, e = .returned (.slice sa n cap) ∧ w'.ownsRow w.heap.size 3 1 (.slice sa n cap) n (i64s (rowL n)) ∧ Below w.heap.size w w' := by
  go_enter Tryz.func68, Tryz.ntmps68
  go_wp2
  go_loopw [3, 4] (fun v i wr => ∃ (k : Nat) (sa : Option Addr) (cap : Nat), k ≤ n ∧ i = .int .i64 k ∧ v = .slice sa k cap ∧ Hid (wr.ownsRow w.heap.size 3 1 (.slice sa k cap) k (i64s (rowL k))) ∧ Hid (Below w.heap.size w wr)) (fun _ i _ => n - (intOf i).toNat)
  case atStart => exact ⟨0, none, 0, Nat.zero_le _, rfl, rfl, World.ownsRow_nil _ _ _ _, Below.refl _ _⟩
  case round =>
    obtain ⟨k, sa, cap, hk, rfl, rfl, HO, HB⟩ := hrel
    by_cases hlt : k < n
    · go_wp2_with (at_builtin; refine app_i64 _ rfl _ _ rfl w.heap.size _ _ _ rfl HO.out _ _ rfl ?qg ?qn ?qb ?_)
      case qg => rfl
      case qn => omega
      case qb => exact HB.out.size
      intro v' w1 hown hchg hfresh
      obtain ⟨sa', cap', rfl⟩ := (rd_of_row hown).form
      have HO1 := Lib.hid hown; have HC1 := Lib.hid hchg
      clear hown hchg hfresh
      go_wp2
      go_roundw
      case rel =>
        refine ⟨k + 1, sa', cap', by omega, by go_num, rfl, ?_, ?_⟩
        · have := HO1.out; rw [rowL_succ, i64s_snoc]; exact this
        · exact HB.out.trans (HC1.out.below HB.out.size fun i hi => (HO.out.lt i hi).1)
      case measure => simp [intOf]; omega
    · obtain rfl : k = n := by omega
      go_wp2
      go_ret
      exact ⟨sa, cap, rfl, HO.out, HB.out⟩

end Go.Proofs.YtcoohepkmhpdkaaGreat
