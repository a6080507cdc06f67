/-
  New tables; nobody's table; the example; the law HandlesNone.
-/
import Derived.Test.YtamjhblhkabpaaaHand
namespace Go.Proofs.Ytamjhblhkabpaaa
open Go.RowKit
set_option linter.unusedVariables false

theorem info_place : (Try.prog.info? 54).map (fun i => (i.zero, i.size, i.bytes)) = some (some (.agg #[.bool false, .int .u64 0, .int .i64 0]), 3, 24) := by kernel_rfl

/-- how many places there are -/
def roomN (room : Int) : Nat := (min (max room 1) 16).toNat
theorem roomN_pos (room : Int) : 1 ≤ roomN room ∧ roomN room ≤ 16 := by unfold roomN; omega
theorem plC_append : ∀ a b : List Plc, plC (a ++ b) = plC a ++ plC b
  | [], b => rfl
  | p :: a, b => by simp only [List.cons_append, plC, plC_append a b, List.append_assoc]
theorem plC_made (c : Array Value) (hc : c = #[.bool false, .int .u64 0, .int .i64 0]) (n m : Nat) (hm : m = n * 3) : (madeCells c m).toList = plC (List.replicate n plZ) := by
  subst hc; subst hm
  have key : ∀ n : Nat, (List.range (n * 3)).map (fun x => ([.bool false, .int .u64 0, .int .i64 0] : List Value)[x % 3]?.getD default) = plC (List.replicate n plZ) := by
    intro n
    induction n with
    | zero => rfl
    | succ n ih =>
      have e : (n + 1) * 3 = n * 3 + 1 + 1 + 1 := by omega
      rw [e, List.range_succ, List.range_succ, List.range_succ, List.replicate_succ', plC_append, ← ih]
      simp only [List.map_append, List.map_cons, List.map_nil, List.append_assoc]
      have e0 : n * 3 % 3 = 0 := by omega
      have e1 : (n * 3 + 1) % 3 = 1 := by omega
      have e2 : (n * 3 + 1 + 1) % 3 = 2 := by omega
      rw [e0, e1, e2]
      rfl
  rw [← key n]
  simp [madeCells]

theorem row_made {w : World} {B : Nat} {e : TypeId} {sz g n : Nat} {cs ds : List Value} (h : w.ownsRow B e sz (.slice (some ⟨g, 0, none⟩) n n) n cs) (hd : cs = ds) : w.heap[g]? = some (.cells ds.toArray e (0, 0)) := by
  subst hd
  have hl := h.1
  rcases h.2 with ⟨h0, _⟩ | ⟨g', cap', cur, hv, hb, hg, hc, hm, hs, ht⟩
  · cases h0
  · cases hv
    rw [hg]
    have : cur.toList = cs := by rw [← ht, List.take_of_length_le (by simp [hs])]
    rw [← this]

set_option maxRecDepth 100000 in
set_option maxHeartbeats 1000000 in
theorem hnew_any (w : World) (room : Int) :
    Calls Try.prog 5 #[.int .i64 room] w fun e w' => ∃ tb pb, e = .returned (.pointer (some ⟨tb, 0, none⟩)) ∧ TabAt w.heap.size w' tb pb (List.replicate (roomN room) plZ) ∧ Below w.heap.size w w' := by
  obtain ⟨i0, hi, hz0, hz1, hz2⟩ := info_parts info_place
  have hp := roomN_pos room
  have hr : (room < 1 ∧ roomN room = 1) ∨ (¬ room < 1 ∧ ¬ 16 < room ∧ room = (roomN room : Int)) ∨ (¬ room < 1 ∧ 16 < room ∧ roomN room = 16) := by unfold roomN; omega
  generalize roomN room = R at *
  rcases hr with ⟨h1, h2⟩ | ⟨h1, h2, h3⟩ | ⟨h1, h2, h3⟩
  · subst h2
    go_enter Try.func5, Try.ntmps5
    go_wp2_with (at_make; go_must (refine wpList_make_full _ rfl _ _ _ rfl w.heap.size _ i0 _ 3 Try.underlying43 hi hz0 hz1 _ _ _ _ 1 rfl rfl ?hL1 ?hC1 ?hN1 ?hM1 ?hB1 ?_))
    try any_goals (first | omega | exact Nat.le_refl _ | (unfold maxLen; omega) | (rw [hz2]; omega))
    intro w1 g1 g2
    have hrow : w1.heap[w.heap.size]? = some (.cells (plC (List.replicate 1 plZ)).toArray 54 (0, 0)) := row_made g1 (plC_made _ rfl _ _ rfl)
    have hb1 : Below w.heap.size w w1 := (Below.refl _ w).grown g2 (Nat.le_refl _) (fun k hk => by cases hk)
    have hs1 := block_lt hrow
    have HROW := Lib.hid hrow; have HB1 := Lib.hid hb1
    clear g1 g2 hrow hb1
    go_wp2
    go_ret
    refine ⟨w1.heap.size, w.heap.size, rfl, ⟨?_, ?_, by omega, by omega, Nat.le_refl _, by rw [List.length_replicate]; omega, by rw [List.length_replicate]; omega⟩, HB1.out.alloc HB1.out.size _⟩
    · rw [List.length_replicate]; exact heap_alloc_new _ _
    · rw [Below.heap_alloc _ _ _ hs1]; exact HROW.out
  · subst h3
    go_enter Try.func5, Try.ntmps5
    go_wp2_with (at_make; go_must (refine wpList_make_full _ rfl _ _ _ rfl w.heap.size _ i0 _ 3 Try.underlying43 hi hz0 hz1 _ _ _ _ R rfl rfl ?hL2 ?hC2 ?hN2 ?hM2 ?hB2 ?_))
    try any_goals (first | omega | exact Nat.le_refl _ | (unfold maxLen; omega) | (rw [hz2]; omega))
    intro w1 g1 g2
    have hrow : w1.heap[w.heap.size]? = some (.cells (plC (List.replicate R plZ)).toArray 54 (0, 0)) := row_made g1 (plC_made _ rfl _ _ rfl)
    have hb1 : Below w.heap.size w w1 := (Below.refl _ w).grown g2 (Nat.le_refl _) (fun k hk => by cases hk)
    have hs1 := block_lt hrow
    have HROW := Lib.hid hrow; have HB1 := Lib.hid hb1
    clear g1 g2 hrow hb1
    go_wp2
    go_ret
    refine ⟨w1.heap.size, w.heap.size, rfl, ⟨?_, ?_, by omega, by omega, Nat.le_refl _, by rw [List.length_replicate]; omega, by rw [List.length_replicate]; omega⟩, HB1.out.alloc HB1.out.size _⟩
    · rw [List.length_replicate]; exact heap_alloc_new _ _
    · rw [Below.heap_alloc _ _ _ hs1]; exact HROW.out
  · subst h3
    go_enter Try.func5, Try.ntmps5
    go_wp2_with (at_make; go_must (refine wpList_make_full _ rfl _ _ _ rfl w.heap.size _ i0 _ 3 Try.underlying43 hi hz0 hz1 _ _ _ _ 16 rfl rfl ?hL3 ?hC3 ?hN3 ?hM3 ?hB3 ?_))
    try any_goals (first | omega | exact Nat.le_refl _ | (unfold maxLen; omega) | (rw [hz2]; omega))
    intro w1 g1 g2
    have hrow : w1.heap[w.heap.size]? = some (.cells (plC (List.replicate 16 plZ)).toArray 54 (0, 0)) := row_made g1 (plC_made _ rfl _ _ rfl)
    have hb1 : Below w.heap.size w w1 := (Below.refl _ w).grown g2 (Nat.le_refl _) (fun k hk => by cases hk)
    have hs1 := block_lt hrow
    have HROW := Lib.hid hrow; have HB1 := Lib.hid hb1
    clear g1 g2 hrow hb1
    go_wp2
    go_ret
    refine ⟨w1.heap.size, w.heap.size, rfl, ⟨?_, ?_, by omega, by omega, Nat.le_refl _, by rw [List.length_replicate]; omega, by rw [List.length_replicate]; omega⟩, HB1.out.alloc HB1.out.size _⟩
    · rw [List.length_replicate]; exact heap_alloc_new _ _
    · rw [Below.heap_alloc _ _ _ hs1]; exact HROW.out

set_option maxRecDepth 100000 in
set_option maxHeartbeats 1000000 in
theorem put_nil (w : World) (x : Int) : Calls Try.prog 13 #[.pointer none, .int .i64 x] w fun e w' => e = .returned (.tuple #[.int .u64 0, .int .i64 10]) ∧ w = w' := by
  go_enter Try.func13, Try.ntmps13
  go_wp2_with fail
  refine (made_nil _).mono ?_
  rintro e w1 ⟨rfl, rfl⟩
  go_wp2
  go_ret2
  exact ⟨rfl, rfl⟩
set_option maxRecDepth 100000 in
set_option maxHeartbeats 1000000 in
theorem find_nil (w : World) (x : Int) : Calls Try.prog 24 #[.pointer none, .int .u64 x] w fun e w' => e = .returned (.tuple #[.int .i64 0, .int .i64 10]) ∧ w = w' := by
  go_enter Try.func24, Try.ntmps24
  go_wp2_with fail
  refine (made_nil _).mono ?_
  rintro e w1 ⟨rfl, rfl⟩
  go_wp2
  go_ret2
  exact ⟨rfl, rfl⟩
set_option maxRecDepth 100000 in
set_option maxHeartbeats 1000000 in
theorem get_nil (w : World) (x : Int) : Calls Try.prog 17 #[.pointer none, .int .u64 x] w fun e w' => e = .returned (.tuple #[.int .i64 0, .int .i64 10]) ∧ w = w' := by
  go_enter Try.func17, Try.ntmps17
  go_wp2_with fail
  refine (find_nil _ _).mono ?_
  rintro e w1 ⟨rfl, rfl⟩
  go_wp2
  go_ret2
  exact ⟨rfl, rfl⟩
set_option maxRecDepth 100000 in
set_option maxHeartbeats 1000000 in
theorem set_nil (w : World) (x y : Int) : Calls Try.prog 18 #[.pointer none, .int .u64 x, .int .i64 y] w fun e w' => e = .returned (.int .i64 10) ∧ w = w' := by
  go_enter Try.func18, Try.ntmps18
  go_wp2_with fail
  refine (find_nil _ _).mono ?_
  rintro e w1 ⟨rfl, rfl⟩
  go_wp2
  go_ret
  exact ⟨rfl, rfl⟩
set_option maxRecDepth 100000 in
set_option maxHeartbeats 1000000 in
theorem drop_nil (w : World) (x : Int) : Calls Try.prog 14 #[.pointer none, .int .u64 x] w fun e w' => e = .returned (.int .i64 10) ∧ w = w' := by
  go_enter Try.func14, Try.ntmps14
  go_wp2_with fail
  refine (find_nil _ _).mono ?_
  rintro e w1 ⟨rfl, rfl⟩
  go_wp2
  go_ret
  exact ⟨rfl, rfl⟩
set_option maxRecDepth 100000 in
set_option maxHeartbeats 1000000 in
theorem all_nil (w : World) : Calls Try.prog 11 #[.pointer none] w fun e w' => e = .returned (.slice none 0 0) ∧ w = w' := by
  go_enter Try.func11, Try.ntmps11
  go_wp2_with fail
  refine (made_nil _).mono ?_
  rintro e w1 ⟨rfl, rfl⟩
  go_wp2
  go_ret
  exact ⟨rfl, rfl⟩
set_option maxRecDepth 100000 in
set_option maxHeartbeats 1000000 in
theorem len_nil (w : World) : Calls Try.prog 8 #[.pointer none] w fun e w' => e = .returned (.int .i64 0) ∧ w = w' := by
  go_enter Try.func8, Try.ntmps8
  go_wp2_with fail
  refine (all_nil _).mono ?_
  rintro e w1 ⟨rfl, rfl⟩
  go_wp2
  go_ret
  exact ⟨rfl, rfl⟩
set_option maxRecDepth 100000 in
set_option maxHeartbeats 1000000 in
theorem room_nil (w : World) : Calls Try.prog 12 #[.pointer none] w fun e w' => e = .returned (.int .i64 0) ∧ w = w' := by
  go_enter Try.func12, Try.ntmps12
  go_wp2_with fail
  refine (made_nil _).mono ?_
  rintro e w1 ⟨rfl, rfl⟩
  go_wp2
  go_ret
  exact ⟨rfl, rfl⟩

theorem few_zero (T : Int) (hT : 0 ≤ T) (n : Nat) : Few T (List.replicate n plZ) := by
  intro i hi
  have : (List.replicate n plZ).getD i plZ = plZ := by
    rw [List.length_replicate] at hi
    simp [List.getD, hi]
  rw [this]
  exact ⟨Int.le_refl _, hT⟩

set_option maxRecDepth 100000 in
set_option maxHeartbeats 2000000 in
theorem awake48 (w : World) : Calls Try.prog 4 #[] w fun e w' => e = .returned (.bool true) ∧ Below w.heap.size w w' := by
  go_enter Try.func4, Try.ntmps4
  go_wp2_with fail
  refine (hnew_any _ 2).mono ?_
  rintro e w1 ⟨tb, pb, rfl, hT1, hb1⟩
  have HT1 := Lib.hid hT1; have HB1 := Lib.hid hb1; clear hT1 hb1
  go_wp2_with fail
  refine (put_any _ w.heap.size tb pb _ 5 HT1.out (few_zero _ (by decide) _)).mono ?_
  rintro e w2 ⟨hb2, -, (⟨rfl, -, hall⟩ | ⟨i, rfl, hi, hf, hbef, hT2⟩)⟩
  · exact absurd (hall 0 (by decide)) (by decide)
  · have hi0 : i = 0 := by
      by_cases h : 0 < i
      · exact absurd (hbef 0 h) (by decide)
      · omega
    subst hi0
    have hT2' : TabAt w.heap.size w2 tb pb [(true, 1, 5), plZ] := hT2
    have hF2 : Few 40000 [(true, 1, 5), plZ] := by
      intro i hi
      have : i = 0 ∨ i = 1 := by simp at hi; omega
      rcases this with rfl | rfl <;> decide
    have hh : 16 * (((List.replicate (roomN 2) plZ).getD 0 plZ).2.1 + 1) + ((0 : Nat) : Int) = 16 := by decide
    rw [hh]
    have HT2 := Lib.hid hT2'; have HB2 := Lib.hid (HB1.out.trans hb2); have HF2 := Lib.hid hF2
    clear hT2 hT2' hb2 hF2 hh hbef hf hi HT1 HB1
    go_wp2_with fail
    refine (drop_any _ w.heap.size tb pb _ 16 HT2.out (fun i hi => by have := HF2.out i hi; omega) (by decide) (by decide)).mono ?_
    rintro e w3 ⟨hb3, -, (⟨hn, -⟩ | ⟨i, hs, rfl, hi, hin, hT3⟩)⟩
    · exact absurd hn (by decide)
    · have hi0 : i = 0 := by
        have h1 : plOf [(true, 1, 5), plZ] 16 = some 0 := by decide
        rw [h1] at hs
        injection hs with hs
        exact hs.symm
      subst hi0
      have hT3' : TabAt w.heap.size w3 tb pb [(false, 1, 0), plZ] := hT3
      have hF3 : Few 40000 [(false, 1, 0), plZ] := by
        intro i hi
        have : i = 0 ∨ i = 1 := by simp at hi; omega
        rcases this with rfl | rfl <;> decide
      have HT3 := Lib.hid hT3'; have HB3 := Lib.hid (HB2.out.trans hb3); have HF3 := Lib.hid hF3
      clear hT3 hT3' hb3 hF3 hin hi hs HT2 HB2
      go_wp2_with fail
      refine (put_any _ w.heap.size tb pb _ 6 HT3.out HF3.out).mono ?_
      rintro e w4 ⟨hb4, -, (⟨rfl, -, hall⟩ | ⟨i, rfl, hi, hf, hbef, hT4⟩)⟩
      · exact absurd (hall 0 (by decide)) (by decide)
      · have hi0 : i = 0 := by
          by_cases h : 0 < i
          · exact absurd (hbef 0 h) (by decide)
          · omega
        subst hi0
        have hh : 16 * ((([(false, 1, 0), plZ] : List Plc).getD 0 plZ).2.1 + 1) + ((0 : Nat) : Int) = 32 := by decide
        rw [hh]
        have HB4 := Lib.hid (HB3.out.trans hb4)
        clear hT4 hb4 hh hbef hf hi HT3 HB3
        go_wp2
        go_ret
        exact ⟨rfl, HB4.out⟩

end Go.Proofs.Ytamjhblhkabpaaa
