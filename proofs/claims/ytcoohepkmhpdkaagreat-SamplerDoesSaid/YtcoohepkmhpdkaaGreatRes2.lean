/-
  The program's reservoirs: each, Slots, Order; the references' Slots and Order.
-/
import Derived.Test.YtcoohepkmhpdkaaGreatRes
namespace Go.Proofs.YtcoohepkmhpdkaaGreat
open Go.RowKit
set_option linter.unusedVariables false

theorem ent_slots1 (args : Array Value) (w : World) : (callFunc 77 args).run Tryz.prog w = .ok (.enter 77 args) w :=
  enters Tryz.func77 (by kernel_rfl) (by kernel_rfl) args w
theorem ent_order1 (args : Array Value) (w : World) : (callFunc 124 args).run Tryz.prog w = .ok (.enter 124 args) w :=
  enters Tryz.func124 (by kernel_rfl) (by kernel_rfl) args w

set_option maxRecDepth 100000 in
set_option maxHeartbeats 1000000 in
/-- each: what it hands over to a function that keeps an invariant -/
theorem each_any (w0 w : World) (k : Nat) (vd : Value) (nd : Nat) (d : List Int) (F : Nat) (caps : Array Value) (inv : Nat → World → Prop) (hr : Rd w0 1 vd nd (i64s d)) (hk : k ≤ 1000) (hd : d.length ≤ 1000)
    (hF : ∀ args w, (callFunc F args).run Tryz.prog w = .ok (.enter F args) w)
    (hb : ∀ i w, inv i w → Below w0.heap.size w0 w) (h0 : inv 0 w)
    (hstep : ∀ i w, i < d.length → inv i w → Calls Tryz.prog F (#[.int .i64 ((k : Int) + (i : Int)), .int .i64 (d.getD i 0)] ++ caps) w fun e w' => e = .returned (.tuple #[]) ∧ inv (i + 1) w') :
    Calls Tryz.prog 38 #[.int .i64 (k : Int), vd, .func (.func F) #[] caps] w fun e w' => e = .returned (.tuple #[]) ∧ inv d.length w' := by
  obtain rfl := hr.len_i64
  obtain ⟨sa, ca, rfl⟩ := hr.form
  have HR := Lib.hid hr; have HB := Lib.hid hb; have H0 := Lib.hid h0; have HS := Lib.hid hstep
  clear hr hb h0 hstep
  go_enter Tryz.func38, Tryz.ntmps38
  go_wp2
  go_loopw [10] (fun i wr => ∃ j : Nat, j ≤ d.length ∧ i = .int .i64 j ∧ Hid (inv j wr)) (fun i _ => d.length - (intOf i).toNat)
  case atStart => exact ⟨0, Nat.zero_le _, rfl, H0⟩
  case round =>
    obtain ⟨j, hj, rfl, HJ⟩ := hrel
    by_cases hlt : j < d.length
    · obtain ⟨b, off, rfl, hc⟩ := ((HR.out).below (HB.out j wr HJ.out)).at (by omega)
      have cx := hc j _ (i64s_at d j hlt)
      clear hc
      generalize hx : d.getD j 0 = x at *
      have HX := Lib.hid hx; clear hx
      go_wp2_with fail
      have hc := HS.out j wr hlt HJ.out
      rw [HX.out] at hc
      refine hc.mono ?_
      rintro e w' ⟨rfl, hinv⟩
      have HI := Lib.hid hinv
      clear hc hinv
      go_wp2
      go_roundw
      case rel => exact ⟨j + 1, by omega, by go_num, HI⟩
      case measure => simp [intOf]; omega
    · obtain rfl : j = d.length := by omega
      go_wp2
      go_end0
      exact ⟨rfl, HJ.out⟩

set_option maxRecDepth 100000 in
set_option maxHeartbeats 1000000 in
theorem slots1_lt (w : World) (bk bo g cap n : Nat) (k item x y : Int) (hk : w.cell? ⟨bk, 0, none⟩ = some (.int .i64 k)) (ho : w.cell? ⟨bo, 0, none⟩ = some (.slice (some ⟨g, 0, none⟩) n cap))
    (h0 : 0 ≤ x) (h1 : x < k) (h2 : x < (n : Int)) (hc : w.cell? ⟨g, x.toNat, none⟩ = some (.int .i64 y)) (hf : w.frozen? ⟨g, x.toNat, none⟩ = false) :
    Calls Tryz.prog 77 #[.int .i64 item, .int .i64 x, .pointer (some ⟨bk, 0, none⟩), .pointer (some ⟨bo, 0, none⟩)] w fun e w' => e = .returned (.tuple #[]) ∧ w' = w.setCell ⟨g, x.toNat, none⟩ (.int .i64 item) := by
  go_enter Tryz.func77, Tryz.ntmps77
  go_wp2
  go_end0
  exact ⟨rfl, rfl⟩

set_option maxRecDepth 100000 in
set_option maxHeartbeats 1000000 in
theorem slots1_ge (w : World) (bk : Nat) (v : Value) (k item x : Int) (hk : w.cell? ⟨bk, 0, none⟩ = some (.int .i64 k)) (h1 : ¬ x < k) :
    Calls Tryz.prog 77 #[.int .i64 item, .int .i64 x, .pointer (some ⟨bk, 0, none⟩), v] w fun e w' => e = .returned (.tuple #[]) ∧ w' = w := by
  go_enter Tryz.func77, Tryz.ntmps77
  go_wp2
  go_end0
  exact ⟨rfl, rfl⟩

set_option maxRecDepth 100000 in
set_option maxHeartbeats 2000000 in
theorem order1_any (w : World) (B bo n cap x : Nat) (sa : Option Addr) (out : List Int) (hbo : w.heap[bo]? = some (.cells #[.slice sa n cap] 36 (0, 0))) (hBb : B ≤ bo)
    (hown : w.ownsRow B 3 1 (.slice sa n cap) n (i64s out)) (hne : (Value.slice sa n cap).ownBlock ≠ some bo) (hx : x ≤ n) (hn : n ≤ 1000) :
    Calls Tryz.prog 124 #[.int .i64 (n : Int), .int .i64 (x : Int), .pointer (some ⟨bo, 0, none⟩)] w fun e w' => e = .returned (.tuple #[]) ∧ ∃ sa' cap', w'.heap[bo]? = some (.cells #[.slice sa' (n + 1) cap'] 36 (0, 0)) ∧
      w'.ownsRow B 3 1 (.slice sa' (n + 1) cap') (n + 1) (i64s (((out ++ [(n : Int)]).set x (n : Int)).set n ((out ++ [(n : Int)]).getD x 0))) ∧ (Value.slice sa' (n + 1) cap').ownBlock ≠ some bo ∧ Below B w w' := by
  have hol : out.length = n := by have := hown.1; rw [i64s_len] at this; omega
  have c0 : w.cell? ⟨bo, 0, none⟩ = some (.slice sa n cap) := cell_of hbo 0 rfl
  have f0 := frozen_of hbo 0
  have HBO := Lib.hid hbo; have HO := Lib.hid hown; have HNE := Lib.hid hne; have HOL := Lib.hid hol
  clear hbo hown hne hol
  go_enter Tryz.func124, Tryz.ntmps124
  go_wp2_with (at_builtin; refine app_i64 _ rfl _ _ rfl B _ _ _ rfl HO.out _ _ rfl ?qg ?qn ?qb ?_)
  case qg => rfl
  case qn => omega
  case qb => have := block_lt HBO.out; omega
  intro v' w1 hown1 hchg hfresh
  obtain ⟨sa', cap', rfl⟩ := (rd_of_row hown1).form
  have hb1 : w1.heap[bo]? = some (.cells #[.slice sa n cap] 36 (0, 0)) := (hchg.block bo (block_lt HBO.out) HNE.out).trans HBO.out
  have hne1 : (Value.slice sa' (n + 1) cap').ownBlock ≠ some bo := by
    intro h
    rcases hfresh bo h with h' | h'
    · exact HNE.out h'
    · have := block_lt HBO.out; omega
  have hbel : Below B w w1 := hchg.below (by have := block_lt HBO.out; omega) fun i hi => (HO.out.lt i hi).1
  have c1 : w1.cell? ⟨bo, 0, none⟩ = some (.slice sa n cap) := cell_of hb1 0 rfl
  have f1 := frozen_of hb1 0
  have HO1 := Lib.hid hown1; have HB1 := Lib.hid hb1; have HN1 := Lib.hid hne1; have HBE := Lib.hid hbel
  clear hown1 hchg hfresh hb1 hne1 hbel c0 f0
  go_wp2_with fail
  obtain ⟨w2, hw2⟩ : ∃ w2, w2 = w1.setCell ⟨bo, 0, none⟩ (.slice sa' (n + 1) cap') := ⟨_, rfl⟩
  have hb2 : w2.heap[bo]? = some (.cells #[.slice sa' (n + 1) cap'] 36 (0, 0)) := by rw [hw2]; exact set_of HB1.out 0 _
  have hown2 : w2.ownsRow B 3 1 (.slice sa' (n + 1) cap') (n + 1) (i64s (out ++ [(n : Int)])) := by
    rw [hw2, i64s_snoc]
    exact row_kept HO1.out fun g hg => Below.heap_setCell _ _ _ _ (by rintro rfl; exact HN1.out hg)
  have hbe2 : Below B w w2 := by rw [hw2]; exact HBE.out.setCell hBb _
  rw [← hw2]
  clear hw2 c1 f1
  obtain ⟨g, rfl, hg1, hg2, hg3, hcell, hfz⟩ := row_ptr hown2 (by omega)
  have cb : w2.cell? ⟨bo, 0, none⟩ = some (.slice (some ⟨g, 0, none⟩) (n + 1) cap') := cell_of hb2 0 rfl
  have cn : w2.cell? ⟨g, n, none⟩ = some (.int .i64 (n : Int)) := by
    have := hcell n _ (i64s_at (out ++ [(n : Int)]) n (by simp [HOL.out]))
    rw [this]
    simp [List.getD, ← HOL.out]
  have cx := hcell x _ (i64s_at (out ++ [(n : Int)]) x (by simp [HOL.out]; omega))
  have fn := hfz n
  have fx := hfz x
  have hxn : (x : Int) ≤ (n : Int) := by omega
  have hx0 : (0 : Int) ≤ (x : Int) := by omega
  have hn0 : (0 : Int) ≤ (n : Int) := by omega
  generalize hy : (out ++ [(n : Int)]).getD x 0 = y at *
  have HY := Lib.hid hy
  have HB2 := Lib.hid hb2; have HO2 := Lib.hid hown2; have HBE2 := Lib.hid hbe2
  clear hb2 hown2 hbe2 hcell hfz hy
  obtain ⟨v2, hv2⟩ := cell?_setCell_some (w := w2) (p := ⟨g, x, none⟩) (x := .int .i64 (n : Int)) (q := ⟨g, n, none⟩) (v := .int .i64 (n : Int)) cn
  have hnn : (n : Int) < (n : Int) + 1 := by omega
  have hxx : (x : Int) < (n : Int) + 1 := by omega
  have hgb : g ≠ bo := fun h => HN1.out (by rw [h]; rfl)
  have cb2 : (w2.setCell ⟨g, x, none⟩ (.int .i64 (n : Int))).cell? ⟨bo, 0, none⟩ = some (.slice (some ⟨g, 0, none⟩) (n + 1) cap') := by
    rw [World.cell?_of_block (w := w2) (Below.heap_setCell _ _ _ _ (fun h => hgb h.symm))]
    exact cb
  have HGB := Lib.hid hgb; clear hgb
  go_region
  go_end0
  have h1 := row_set HO2.out (i := x) (by omega) (.int .i64 (n : Int))
  have h2 := row_set h1 (i := n) (by omega) (.int .i64 y)
  rw [← i64s_set, ← i64s_set] at h2
  refine ⟨rfl, some ⟨g, 0, none⟩, cap', ?_, (by rw [HY.out]; exact h2), HN1.out, ?_⟩
  · show ((w2.setCell ⟨g, x, none⟩ (.int .i64 (n : Int))).setCell ⟨g, n, none⟩ (.int .i64 y)).heap[bo]? = _
    rw [Below.heap_setCell _ _ _ _ (fun h => HGB.out h.symm), Below.heap_setCell _ _ _ _ (fun h => HGB.out h.symm)]
    exact HB2.out
  · exact ((HBE2.out.setCell (p := ⟨g, x, none⟩) hg1 _).setCell (p := ⟨g, n, none⟩) hg1 _).drew

set_option maxRecDepth 100000 in
set_option maxHeartbeats 2000000 in
theorem order_ok (w : World) (n k : Nat) (vd : Value) (nd : Nat) (d : List Int) (hr : Rd w 1 vd nd (i64s d)) (hk : k ≤ n) (hn : n ≤ 256) (hd : resRightB n k d = true) :
    Calls Tryz.prog 85 #[.int .i64 (n : Int), .int .i64 (k : Int), vd] w fun e w' => ∃ sa cap, e = .returned (.tuple #[.slice sa n cap, .int .i64 0]) ∧ w'.ownsRow w.heap.size 3 1 (.slice sa n cap) n (i64s (orderL k d)) ∧ Below w.heap.size w w' := by
  obtain rfl := hr.len_i64
  obtain ⟨sd, cd, rfl⟩ := hr.form
  have hrd := resRightB_iff.1 hd
  have hlen : d.length = n - k := hrd.1
  have hz : rightE n k d = 0 := by unfold rightE; rw [hd]; rfl
  have HR := Lib.hid hr; have HZ := Lib.hid hz; have HRD := Lib.hid hrd; have HL := Lib.hid hlen
  clear hr hz hrd hlen hd
  go_enter Tryz.func85, Tryz.ntmps85
  go_wp2_with (first
    | (go_at_call 75; go_must (refine (right_any _ n k _ _ d HR.out hk hn).mono ?_); rintro e w' ⟨rfl, rfl⟩; rw [HZ.out])
    | (go_at_call 76; go_must (refine (resrow_any _ k (by omega)).mono ?_); rintro e w1 ⟨sa, ca, rfl, hown, hbel⟩; have HO := Lib.hid hown; have HB := Lib.hid hbel; clear hown hbel)
    | (go_at_call 38; fail))
  refine (each_any w _ k _ _ d _ _ (fun i wr => ∃ sa' cap', wr.heap[w1.heap.size]? = some (.cells #[.slice sa' (k + i) cap'] 36 (0, 0)) ∧ wr.ownsRow w.heap.size 3 1 (.slice sa' (k + i) cap') (k + i) (i64s (orderL k (d.take i))) ∧
    (Value.slice sa' (k + i) cap').ownBlock ≠ some w1.heap.size ∧ Below w.heap.size w wr) HR.out (by omega) (by have := HL.out; omega) ent_order1 (fun i wr h => by obtain ⟨_, _, _, _, _, h⟩ := h; exact h) ⟨sa, ca, ?_, ?_, ?_, ?_⟩ ?_).mono ?_
  · exact heap_alloc_new _ _
  · exact HO.out.alloc _
  · intro h; have := (HO.out.lt _ h).2; omega
  · exact HB.out.alloc HB.out.size _
  · rintro i wr hi ⟨sa', cap', h1, h2, h3, h4⟩
    have hx := HRD.out.2 i hi
    have hxx : d.getD i 0 = ((d.getD i 0).toNat : Int) := by omega
    have hki : ((k : Int) + (i : Int)) = ((k + i : Nat) : Int) := by omega
    have hstep : orderL k (d.take (i + 1)) = orderStep k (orderL k (d.take i)) i (d.getD i 0) := foldI_take _ _ _ _ hi
    rw [hxx, hki]
    have hol : (orderL k (d.take i)).length = k + i := by rw [orderL_len, List.length_take]; omega
    refine (order1_any wr w.heap.size w1.heap.size (k + i) cap' (d.getD i 0).toNat sa' _ h1 HB.out.size h2 h3 (by omega) (by have := HL.out; omega)).mono ?_
    rintro e w' ⟨rfl, sa2, cap2, g1, g2, g3, g4⟩
    refine ⟨rfl, sa2, cap2, g1, ?_, g3, h4.trans g4⟩
    rw [hstep]
    unfold orderStep
    have : ((k : Int) + (i : Int)) = ((k + i : Nat) : Int) := by omega
    rw [this]
    exact g2
  · rintro e w2 ⟨rfl, sa2, cap2, h1, h2, h3, h4⟩
    rw [List.take_length] at h2
    have hkd : k + d.length = n := by have := HL.out; omega
    rw [hkd] at h1 h2
    have c0 : w2.cell? ⟨w1.heap.size, 0, none⟩ = some (.slice sa2 n cap2) := cell_of h1 0 rfl
    have H2 := Lib.hid h2; have H4 := Lib.hid h4
    clear h1 h2 h3 h4 hkd
    go_wp2
    go_ret2
    exact ⟨sa2, cap2, rfl, H2.out, H4.out⟩

set_option maxRecDepth 100000 in
set_option maxHeartbeats 2000000 in
theorem slots_ok (w : World) (n k : Nat) (vd : Value) (nd : Nat) (d : List Int) (hr : Rd w 1 vd nd (i64s d)) (hk : k ≤ n) (hn : n ≤ 256) (hd : resRightB n k d = true) :
    Calls Tryz.prog 32 #[.int .i64 (n : Int), .int .i64 (k : Int), vd] w fun e w' => ∃ sa cap, e = .returned (.tuple #[.slice sa k cap, .int .i64 0]) ∧ w'.ownsRow w.heap.size 3 1 (.slice sa k cap) k (i64s (slotsL k d)) ∧ Below w.heap.size w w' := by
  obtain rfl := hr.len_i64
  obtain ⟨sd, cd, rfl⟩ := hr.form
  have hrd := resRightB_iff.1 hd
  have hlen : d.length = n - k := hrd.1
  have hz : rightE n k d = 0 := by unfold rightE; rw [hd]; rfl
  have HR := Lib.hid hr; have HZ := Lib.hid hz; have HRD := Lib.hid hrd; have HL := Lib.hid hlen
  clear hr hz hrd hlen hd
  go_enter Tryz.func32, Tryz.ntmps32
  go_wp2_with (first
    | (go_at_call 75; go_must (refine (right_any _ n k _ _ d (HR.out.below ((Below.refl _ _).alloc (Nat.le_refl _) _)) hk hn).mono ?_); rintro e w' ⟨rfl, rfl⟩; rw [HZ.out])
    | (go_at_call 76; go_must (refine (resrow_any _ k (by omega)).mono ?_); rintro e w1 ⟨sa, ca, rfl, hown, hbel⟩; have hk1 : w1.heap[w.heap.size]? = some (.cells #[.int .i64 (k : Int)] 3 (0, 0)) := (hbel.block _ (by simp)).trans (heap_alloc_new _ _); have ck1 : w1.cell? ⟨w.heap.size, 0, none⟩ = some (.int .i64 (k : Int)) := cell_of hk1 0 rfl; have ck2 : ∀ o, (w1.alloc o).cell? ⟨w.heap.size, 0, none⟩ = some (.int .i64 (k : Int)) := fun o => Lib.cell?_alloc_some _ ck1; have HO := Lib.hid hown; have HB := Lib.hid hbel; have HK := Lib.hid hk1; clear hown hbel hk1)
    | (go_at_call 38; fail))
  have hsz : w.heap.size + 1 ≤ w1.heap.size := by have := HB.out.size; simpa using this
  have hb1 : Below w.heap.size w w1 := ((Below.refl _ w).alloc (Nat.le_refl _) _).trans (HB.out.mono (by simp))
  refine (each_any w _ k _ _ d _ _ (fun i wr => wr.heap[w.heap.size]? = some (.cells #[.int .i64 (k : Int)] 3 (0, 0)) ∧ wr.heap[w1.heap.size]? = some (.cells #[.slice sa k ca] 36 (0, 0)) ∧ wr.ownsRow (w.heap.size + 1) 3 1 (.slice sa k ca) k (i64s (slotsL k (d.take i))) ∧
    Below w.heap.size w wr) HR.out (by omega) (by have := HL.out; omega) ent_slots1 (fun i wr h => h.2.2.2) ⟨?_, ?_, ?_, ?_⟩ ?_).mono ?_
  · exact (heap_alloc_old _ _ (by omega)).trans HK.out
  · exact heap_alloc_new _ _
  · exact (row_mono HO.out (by simp)).alloc _
  · exact hb1.alloc (by omega) _
  · rintro i wr hi ⟨h1, h2, h3, h4⟩
    have hx := HRD.out.2 i hi
    have hstep : slotsL k (d.take (i + 1)) = slotsStep k (slotsL k (d.take i)) i (d.getD i 0) := foldI_take _ _ _ _ hi
    have ck : wr.cell? ⟨w.heap.size, 0, none⟩ = some (.int .i64 (k : Int)) := cell_of h1 0 rfl
    have co : wr.cell? ⟨w1.heap.size, 0, none⟩ = some (.slice sa k ca) := cell_of h2 0 rfl
    have hsl : (slotsL k (d.take i)).length = k := slotsL_len _ _
    by_cases hxk : d.getD i 0 < (k : Int)
    · obtain ⟨g, rfl, hg1, hg2, hg3, hcell, hfz⟩ := row_ptr h3 (by omega)
      have cx := hcell (d.getD i 0).toNat _ (i64s_at _ _ (by rw [hsl]; omega))
      have hg0 : g ≠ w1.heap.size := fun h => by have := (HO.out.lt g rfl).2; omega
      refine (slots1_lt wr _ _ g ca k _ _ _ _ ck co hx.1 hxk hxk cx (hfz _)).mono ?_
      rintro e w' ⟨rfl, rfl⟩
      refine ⟨rfl, ?_, ?_, ?_, h4.setCell (p := ⟨g, _, none⟩) (by show w.heap.size ≤ g; omega) _⟩
      · rw [Below.heap_setCell _ _ _ _ (by show w.heap.size ≠ g; omega)]; exact h1
      · rw [Below.heap_setCell _ _ _ _ (fun h => hg0 h.symm)]; exact h2
      · rw [hstep]
        unfold slotsStep
        rw [if_pos hxk, i64s_set]
        exact row_set h3 (by omega) _
    · refine (slots1_ge wr _ _ _ _ _ ck hxk).mono ?_
      rintro e w' ⟨rfl, rfl⟩
      refine ⟨rfl, h1, h2, ?_, h4⟩
      rw [hstep]
      unfold slotsStep
      rw [if_neg hxk]
      exact h3
  · rintro e w2 ⟨rfl, h1, h2, h3, h4⟩
    rw [List.take_length] at h3
    have c0 : w2.cell? ⟨w1.heap.size, 0, none⟩ = some (.slice sa k ca) := cell_of h2 0 rfl
    have H3 := Lib.hid h3; have H4 := Lib.hid h4
    clear h1 h2 h3 h4
    go_wp2
    go_ret2
    exact ⟨sa, ca, rfl, row_mono H3.out (by omega), H4.out⟩

set_option maxRecDepth 100000 in
set_option maxHeartbeats 2000000 in
theorem order_bad (w : World) (n k E : Int) (sa : Option Addr) (nd ca : Nat) (hE : E ≠ 0) (hr : ∀ w1, Below w.heap.size w w1 → Calls Tryz.prog 75 #[.int .i64 n, .int .i64 k, .slice sa nd ca] w1 fun e w' => e = .returned (.int .i64 E) ∧ w1 = w') :
    Calls Tryz.prog 85 #[.int .i64 n, .int .i64 k, .slice sa nd ca] w fun e w' => e = .returned (.tuple #[.slice none 0 0, .int .i64 E]) ∧ w = w' := by
  have q : (E != 0) = true := by simp [hE]
  have HR := Lib.hid hr; clear hr hE
  go_enter Tryz.func85, Tryz.ntmps85
  go_wp2_with (go_at_call 75; go_must (refine (HR.out _ (Below.refl _ _)).mono ?_); rintro e w' ⟨rfl, rfl⟩)
  go_ret2
  exact ⟨rfl, rfl⟩

set_option maxRecDepth 100000 in
set_option maxHeartbeats 2000000 in
theorem slots_bad (w : World) (n k E : Int) (sa : Option Addr) (nd ca : Nat) (hE : E ≠ 0) (hr : ∀ w1, Below w.heap.size w w1 → Calls Tryz.prog 75 #[.int .i64 n, .int .i64 k, .slice sa nd ca] w1 fun e w' => e = .returned (.int .i64 E) ∧ w1 = w') :
    Calls Tryz.prog 32 #[.int .i64 n, .int .i64 k, .slice sa nd ca] w fun e w' => e = .returned (.tuple #[.slice none 0 0, .int .i64 E]) ∧ Below w.heap.size w w' := by
  have q : (E != 0) = true := by simp [hE]
  have HR := Lib.hid hr; clear hr hE
  go_enter Tryz.func32, Tryz.ntmps32
  go_wp2_with (go_at_call 75; go_must (refine (HR.out _ ((Below.refl _ _).alloc (Nat.le_refl _) _)).mono ?_); rintro e w' ⟨rfl, rfl⟩)
  go_ret2
  exact ⟨rfl, (Below.refl _ w).alloc (Nat.le_refl _) _⟩

end Go.Proofs.YtcoohepkmhpdkaaGreat
