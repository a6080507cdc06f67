/-
  The document's draws by a mask, and by a table: astragalref39.Take, astragalref43.Tell, Take; its numbers as words.
-/
import Derived.Test.YtcoohepkmhpdkaaGreatMaskRef
import Derived.Test.YtcoohepkmhpdkaaGreatATake
import Derived.Test.YtcoohepkmhpdkaaGreatDo
import Derived.Laws.EntriesVeiled
namespace Go.Proofs.YtcoohepkmhpdkaaGreat
open Go.RowKit
set_option linter.unusedVariables false
set_option linter.unusedSimpArgs false

set_option maxRecDepth 100000 in
set_option maxHeartbeats 4000000 in
theorem rtake39_any (w : World) (v : Value) (m : Nat) (l : List Nat) (n : Nat) (hr : Rd w 1 v m (u64s (zsN l))) (hm : m < 50000) (hw : W64 l) (h0 : 0 < n) (hn : n < 2 ^ 64) :
    Calls Tryz.prog 26 #[v, .int .u64 (n : Int)] w fun e w' => TkE (takeM n 0 l) (fun d => e = .returned (.tuple #[.agg #[.int .u64 (d.1 : Int), .int .u64 (d.2.1 : Int), .int .i64 (d.2.2 : Int)], .bool true]))
      (e = .returned (.tuple #[.agg #[.int .u64 0, .int .u64 0, .int .i64 0], .bool false])) ∧ Below w.heap.size w w' := by
  obtain rfl := hr.len_u64
  rw [zsN_len] at *
  obtain ⟨sa, cap, rfl⟩ := hr.form
  have HR := Lib.hid hr; have HW := Lib.hid hw; have HN := Lib.hid hn; have H0 := Lib.hid h0
  clear hr hw hn h0
  obtain ⟨R, hR⟩ : ∃ R, R = takeM n 0 l := ⟨_, rfl⟩
  rw [← hR]
  have HR0 := Lib.hid hR; clear hR
  go_enter Tryz.func26, Tryz.ntmps26
  go_wp2
  go_loopw [12] (fun i wr => ∃ k : Nat, k ≤ l.length ∧ i = .int .i64 k ∧ Hid (wr.heap[w.heap.size]? = some (.cells #[.int .u64 0, .int .u64 0, .int .i64 0] 65 (0, 0))) ∧ Hid (Below w.heap.size w wr) ∧ Hid (R = takeM n k (l.drop k))) (fun i _ => l.length - (intOf i).toNat)
  case atStart => exact ⟨0, Nat.zero_le _, rfl, heap_alloc_new _ _, (Below.refl _ w).alloc (Nat.le_refl _) _, HR0⟩
  case round =>
    obtain ⟨k, hk, rfl, HC, HB, HRk⟩ := hrel
    have hsz := block_lt HC.out
    by_cases hlt : k < l.length
    · have hw1 := HW.out.at (k := k) (by omega)
      obtain ⟨bb, off, rfl, hc⟩ := (HR.out.below HB.out).at (by omega)
      have cx := hc k _ (u64s_at (zsN l) k (by rw [zsN_len]; exact hlt))
      rw [zsN_get] at cx
      have hyes := takeM_yes (n := n) (u := k) (k := k) (l := l) hlt
      have hno := takeM_no (n := n) (u := k) (k := k) (l := l) hlt
      have T := fun w => rtakes39_any w (l.getD k 0) n H0.out hw1 HN.out
      have K := fun w => rtells39_any w (l.getD k 0) n hw1 HN.out
      generalize l.getD k 0 = a at *
      have HTT := Lib.hid T; have HKK := Lib.hid K; have HY := Lib.hid hyes; have HNO := Lib.hid hno
      clear T K hyes hno hw1 hc
      go_wp2_with fail
      refine (HTT.out _).mono ?_
      rintro e w3 ⟨rfl, hb3⟩
      have hC3 := (hb3.block _ hsz).trans HC.out
      have HC3 := Lib.hid hC3; have HB3 := Lib.hid (HB.out.trans (hb3.mono (Nat.le_of_lt hsz))); clear hC3 hb3 cx
      cases htk : tmB a n with
      | true =>
        have hK := HKK.out w3
        have hYY := HY.out htk
        have HK := Lib.hid hK; have HYY := Lib.hid hYY
        clear hK hYY
        generalize telM a n = v at *
        generalize rnkM a n = r at *
        clear htk
        go_wp2_with fail
        refine HK.out.mono ?_
        rintro e w4 ⟨rfl, hb4⟩
        have hC4 := (hb4.block _ (block_lt HC3.out)).trans HC3.out
        have d0 := cell_of hC4 0 rfl
        have d1 := cell_of hC4 1 rfl
        have d2 := cell_of hC4 2 rfl
        have g0 := frozen_of hC4 0
        have g1 := frozen_of hC4 1
        have g2 := frozen_of hC4 2
        have HB4 := Lib.hid (HB3.out.trans (hb4.mono HB3.out.size)); clear hb4 hC4
        go_wp2_with fail
        refine bodyPost_ret (v := .tuple #[.agg #[.int .u64 (v : Int), .int .u64 (r : Int), .int .i64 ((k : Int) + 1)], .bool true]) ?hres rfl ?_
        case hres => simp [results, Tryz.results26, go_sem, d0, d1, d2]
        rw [HRk.out, HYY.out]
        refine ⟨?_, ((HB4.out.setCell (by simp) _).setCell (by simp) _).setCell (by simp) _⟩
        exact (rfl : _ = _)
      | false =>
        have HNN := Lib.hid (HNO.out htk)
        clear htk
        go_wp2_with fail
        go_roundw
        case rel => exact ⟨k + 1, by omega, by go_num, HC3, HB3, Lib.hid (by rw [HRk.out, HNN.out])⟩
        case measure => simp [intOf]; omega
    · obtain rfl : k = l.length := by omega
      have hE : takeM n l.length (l.drop l.length) = none := takeM_end
      have hC4 := HC.out
      have d0 := cell_of hC4 0 rfl
      have d1 := cell_of hC4 1 rfl
      have d2 := cell_of hC4 2 rfl
      have g0 := frozen_of hC4 0
      have g1 := frozen_of hC4 1
      have g2 := frozen_of hC4 2
      have HE := Lib.hid hE
      clear hE hC4
      go_wp2_with fail
      refine bodyPost_ret (v := .tuple #[.agg #[.int .u64 0, .int .u64 0, .int .i64 0], .bool false]) ?hres2 rfl ?_
      case hres2 => simp [results, Tryz.results26, go_sem, d0, d1, d2]
      rw [HRk.out, HE.out]
      refine ⟨?_, ((HB.out.setCell (by simp) _).setCell (by simp) _).setCell (by simp) _⟩
      exact (rfl : _ = _)

set_option maxRecDepth 100000 in
set_option maxHeartbeats 2000000 in
theorem rtell43_any (w : World) (T n c u : Nat) (sb sl : Option Addr) (cb cl : Nat) (bl : List Nat) (al : List Int) (hb : Rd w 1 (.slice sb n cb) n (u64s (zsN bl))) (ha : Rd w 1 (.slice sl n cl) n (i64s al)) (g : TabG T n bl al) (hc : c < n) :
    Calls Tryz.prog 72 #[.agg #[.int .u64 (T : Int), .slice sb n cb, .slice sl n cl], .int .u64 (c : Int), .int .u64 (u : Int)] w fun e w' => e = .returned (.int .i64 (telA bl al c u)) ∧ Below w.heap.size w w' := by
  have n2 := g.n2
  obtain ⟨W, hW⟩ : ∃ W, W = w.alloc (.cells #[.int .u64 (T : Int), .slice sb n cb, .slice sl n cl] 73) := ⟨_, rfl⟩
  have hbl : Below w.heap.size w W := by rw [hW]; exact (Below.refl _ _).alloc (Nat.le_refl _) _
  have hblk : W.heap[w.heap.size]? = some (.cells #[.int .u64 (T : Int), .slice sb n cb, .slice sl n cl] 73 (0, 0)) := by rw [hW]; exact heap_at rfl
  obtain ⟨b0, o0, rfl, hc0⟩ := (hb.below hbl).at (by omega)
  obtain ⟨b1, o1, rfl, hc1⟩ := (ha.below hbl).at (by omega)
  have x0 := hc0 c _ (u64s_at (zsN bl) c (by rw [zsN_len, g.lb]; exact hc))
  rw [zsN_get] at x0
  have x1 := hc1 c _ (i64s_at al c (by rw [g.la]; exact hc))
  have u2 : IntKind.i64.wrap (c : Int) = (c : Int) := by rw [IntKind.wrap_i64]; omega
  have c1 : W.cell? ⟨w.heap.size, 1, none⟩ = some (.slice (some ⟨b0, o0, none⟩) n cb) := cell_of hblk 1 rfl
  have c2 : W.cell? ⟨w.heap.size, 2, none⟩ = some (.slice (some ⟨b1, o1, none⟩) n cl) := cell_of hblk 2 rfl
  have ht : telA bl al c u = if u < bl.getD c 0 then (c : Int) else al.getD c 0 := rfl
  generalize bl.getD c 0 = x at *
  generalize al.getD c 0 = y at *
  have HBL := Lib.hid hbl; have HW := Lib.hid hW
  have q3 : (0 : Int) ≤ (c : Int) := by omega
  have q4 : (c : Int) < (n : Int) := by omega
  by_cases hlt : u < x
  · rw [if_pos hlt] at ht
    have HT := Lib.hid ht
    have q5 : (u : Int) < (x : Int) := by omega
    clear hbl hblk hc0 hc1 ht hlt hc hb ha g hW
    go_enter Tryz.func72, Tryz.ntmps72
    go_upto_region 1 with fail
    rw [← HW.out]
    go_wp2_with fail
    go_ret
    refine ⟨?_, HBL.out⟩
    rw [HT.out]
    rfl
  · rw [if_neg hlt] at ht
    have HT := Lib.hid ht
    have q5 : ¬ (u : Int) < (x : Int) := by omega
    clear hbl hblk hc0 hc1 ht hlt hc hb ha g hW
    go_enter Tryz.func72, Tryz.ntmps72
    go_upto_region 1 with fail
    rw [← HW.out]
    go_wp2_with fail
    go_ret
    refine ⟨?_, HBL.out⟩
    rw [HT.out]
    rfl

set_option maxRecDepth 100000 in
set_option maxHeartbeats 2000000 in
theorem rnums46_any (w : World) (sa : Option Addr) (n cap : Nat) (xs : List Int) (h : Rd w 1 (.slice sa n cap) n (i64s xs)) (hn : n ≤ 100000) :
    Calls Tryz.prog 28 #[.slice sa n cap] w fun e w' => ∃ so co, e = .returned (.slice so n co) ∧ w'.ownsRow w.heap.size 48 1 (.slice so n co) n (u64s (xs.map wrapU)) ∧ Below w.heap.size w w' ∧ (n = 0 → e = .returned (.slice none 0 0)) := by
  obtain rfl := h.len_i64
  have HR := Lib.hid h
  clear h
  go_enter Tryz.func28, Tryz.ntmps28
  go_wp2
  go_loopw [3, 8] (fun s3 i wr => ∃ (k : Nat) (so : Option Addr) (co : Nat), k ≤ xs.length ∧ i = .int .i64 (k : Int) ∧ s3 = .slice so k co ∧ Hid (wr.ownsRow w.heap.size 48 1 (.slice so k co) k (u64s ((xs.take k).map wrapU))) ∧ Hid (Below w.heap.size w wr) ∧ Hid (k = 0 → so = none ∧ co = 0)) (fun _ i _ => xs.length - (intOf i).toNat)
  case atStart => exact ⟨0, none, 0, Nat.zero_le _, rfl, rfl, World.ownsRow_nil _ _ _ _, Below.refl _ _, Lib.hid fun _ => ⟨rfl, rfl⟩⟩
  case round =>
    obtain ⟨k, so, co, hk, rfl, rfl, HO, HB, HZ⟩ := hrel
    by_cases hlt : k < xs.length
    · obtain ⟨b0, o0, rfl, hc0⟩ := (HR.out.below HB.out).at (by omega)
      have x0 := hc0 k _ (i64s_at xs k hlt)
      have hs : (xs.take (k + 1)).map wrapU = (xs.take k).map wrapU ++ [wrapU (xs.getD k 0)] := by
        rw [List.take_succ_eq_append_getElem hlt, List.map_append]
        simp [List.getD, List.getElem?_eq_getElem hlt]
      have hy : wrapU (xs.getD k 0) = IntKind.u64.wrap (xs.getD k 0) := rfl
      generalize xs.getD k 0 = x at *
      obtain ⟨y, hyy⟩ : ∃ y, y = wrapU x := ⟨_, rfl⟩
      rw [← hyy] at hs hy
      have e1 : IntKind.u64.wrap x = y := hy.symm
      have HS := Lib.hid hs
      have h0 := HO.out
      generalize (xs.take k).map wrapU = acc at *
      have H0 := Lib.hid h0
      clear hs hy hyy hc0 h0
      go_wp2_with (at_builtin; refine app_u64 _ rfl _ _ rfl w.heap.size _ _ _ rfl H0.out _ _ rfl ?qg ?qn ?qb ?_)
      case qg => rfl
      case qn => omega
      case qb => exact HB.out.size
      intro v' w1 hown hchg hfresh
      obtain ⟨so', co', rfl⟩ := (rd_of_row hown).form
      rw [← u64s_snoc, ← HS.out] at hown
      have HO1 := Lib.hid hown; have HC1 := Lib.hid hchg
      clear hown hchg hfresh
      go_wp2_with fail
      go_roundw
      case rel => exact ⟨k + 1, so', co', by omega, by go_num, rfl, HO1, HB.out.trans (HC1.out.below HB.out.size fun i hi => (H0.out.lt i hi).1), Lib.hid fun h => by omega⟩
      case measure => simp [intOf]; omega
    · obtain rfl : k = xs.length := by omega
      have hO := HO.out
      rw [List.take_length] at hO
      have HO' := Lib.hid hO
      clear hO
      go_wp2_with fail
      go_ret
      refine ⟨so, co, rfl, HO'.out, HB.out, fun h => ?_⟩
      obtain ⟨rfl, rfl⟩ := HZ.out h
      rw [h]
      rfl

/-- what the document's Take by a table answers -/
def RTq43 (l : List Nat) (T n : Nat) (bl : List Nat) (al : List Int) (R : Option (List Drw × Nat)) (w : World) (e : Ending) (w' : World) : Prop :=
  TkE R (fun r => ∃ sd cd, e = .returned (.tuple #[.int .i64 (telA bl al (r.1.getD 0 dwZ).1 (r.1.getD 1 dwZ).1), .slice sd 2 cd, .int .i64 (r.2 : Int), .bool true]))
    (e = .returned (.tuple #[.int .i64 0, .slice none 0 0, .int .i64 (l.length : Int), .bool false])) ∧ Below w.heap.size w w'

set_option maxRecDepth 100000 in
set_option maxHeartbeats 4000000 in
theorem rtake43_any (w : World) (sv : Option Addr) (cv T n : Nat) (l : List Nat) (sb sl : Option Addr) (cb cl : Nat) (bl : List Nat) (al : List Int) (hr : Rd w 1 (.slice sv l.length cv) l.length (u64s (zsN l))) (hm : l.length < 50000) (hw : W64 l)
    (hb : Rd w 1 (.slice sb n cb) n (u64s (zsN bl))) (ha : Rd w 1 (.slice sl n cl) n (i64s al)) (g : TabG T n bl al) :
    Calls Tryz.prog 30 #[.slice sv l.length cv, .agg #[.int .u64 (T : Int), .slice sb n cb, .slice sl n cl]] w (RTq43 l T n bl al (rowN l [n, T]) w) := by
  have n2 := g.n2
  have hns : Lims [n, T] := by
    intro x hx
    have := g.n1; have := g.t1; have := g.t2
    rw [p64]
    rcases List.mem_cons.1 hx with rfl | hx
    · omega
    · have := List.mem_singleton.1 hx
      omega
  have u1 : IntKind.u64.wrap (n : Int) = (n : Int) := by rw [IntKind.wrap_u64]; omega
  have HRW := Lib.hid (fun w1 (h1 : Below w.heap.size w w1) vl (hl : Rd w1 1 vl 2 (u64s (zsN [n, T]))) => rrow_any w1 (.slice sv l.length cv) vl l.length 2 l [n, T] (hr.below h1) hl hm (by omega) hw hns)
  have HTL := Lib.hid (fun w1 (h1 : Below w.heap.size w w1) c u (hc : c < n) => rtell43_any w1 T n c u sb sl cb cl bl al (hb.below h1) (ha.below h1) g hc)
  have hlt : ∀ r, rowN l [n, T] = some r → r.1.length = 2 ∧ (r.1.getD 0 dwZ).1 < n := fun r h => by
    refine ⟨?_, ?_⟩
    · have := rowA_len h; simpa using this
    · have := rowA_lt hw hns h 0 (by simp); exact this
  have HLT := Lib.hid hlt
  clear hr hm hw hb ha g hns hlt
  go_enter Tryz.func30, Tryz.ntmps30
  go_wp2_with fail
  refine (HRW.out _ (((Below.refl _ _).alloc (Nat.le_refl _) _).alloc (by simp) _) _ (rd_new _ #[.int .u64 (n : Int), .int .u64 (T : Int)] _ 2 1 rfl (by decide) _ 2 (by simp) (Nat.le_refl _))).mono ?_
  rintro e w1 ⟨hq, hb1⟩
  have hbox : w1.heap[w.heap.size]? = some (.cells #[.int .u64 (T : Int), .slice sb n cb, .slice sl n cl] 73 (0, 0)) := (hb1.block _ (by simp; omega)).trans (heap_up (heap_at rfl))
  have hbl : Below w.heap.size w w1 := (((Below.refl w.heap.size w).alloc (Nat.le_refl _) (.cells #[.int .u64 (T : Int), .slice sb n cb, .slice sl n cl] 73)).alloc (by simp) (.cells #[.int .u64 (n : Int), .int .u64 (T : Int)] 48)).trans (hb1.mono (by simp; omega))
  have HBL := Lib.hid hbl; have HBX := Lib.hid hbox
  clear hb1 hbl hbox HRW
  cases hrow : rowN l [n, T] with
  | none =>
    rw [hrow] at hq
    obtain rfl : e = .returned (.tuple #[.slice none 0 0, .int .i64 (l.length : Int), .bool false]) := hq
    have HROW := Lib.hid hrow
    clear hrow
    go_wp2_with fail
    refine bodyPost_ret (v := .tuple #[.int .i64 0, .slice none 0 0, .int .i64 (l.length : Int), .bool false]) (by simp [results, Tryz.results30, go_sem]) rfl ⟨?_, HBL.out⟩
    rw [HROW.out]
    exact (rfl : _ = _)
  | some r =>
    rw [hrow] at hq
    obtain ⟨sd, cd, rfl, hd⟩ := hq
    obtain ⟨hl2, hl0⟩ := HLT.out r hrow
    rw [hl2] at hd ⊢
    obtain ⟨bd, off, rfl, hcd⟩ := (rd_of_row hd).at (by decide)
    obtain ⟨a0, -, -⟩ := dwC_at r.1 0 (by rw [hl2]; decide)
    obtain ⟨a1, -, -⟩ := dwC_at r.1 1 (by rw [hl2]; decide)
    have x0 : w1.cell? ⟨bd, off, none⟩ = some (.int .u64 ((r.1.getD 0 dwZ).1 : Int)) := hcd _ _ a0
    have x1 : w1.cell? ⟨bd, off + 3, none⟩ = some (.int .u64 ((r.1.getD 1 dwZ).1 : Int)) := hcd _ _ a1
    have c0 : w1.cell? ⟨w.heap.size, 0, none⟩ = some (.int .u64 (T : Int)) := cell_of HBX.out 0 rfl
    have c1 : w1.cell? ⟨w.heap.size, 1, none⟩ = some (.slice sb n cb) := cell_of HBX.out 1 rfl
    have c2 : w1.cell? ⟨w.heap.size, 2, none⟩ = some (.slice sl n cl) := cell_of HBX.out 2 rfl
    have TL := fun w2 (h2 : Below w1.heap.size w1 w2) => HTL.out w2 (HBL.out.trans (h2.mono HBL.out.size)) (r.1.getD 0 dwZ).1 (r.1.getD 1 dwZ).1 hl0
    obtain ⟨t, ht⟩ : ∃ t, t = telA bl al (r.1.getD 0 dwZ).1 (r.1.getD 1 dwZ).1 := ⟨_, rfl⟩
    rw [← ht] at TL
    have hfin : ∀ w', Below w.heap.size w w' → RTq43 l T n bl al (rowN l [n, T]) w (.returned (.tuple #[.int .i64 t, .slice (some ⟨bd, off, none⟩) 2 cd, .int .i64 (r.2 : Int), .bool true])) w' := fun w' h => by
      rw [hrow]
      exact ⟨⟨_, _, by rw [ht]⟩, h⟩
    have HTT := Lib.hid TL; have HFIN := Lib.hid hfin
    obtain ⟨r1, r2⟩ := r
    simp only at x0 x1 HFIN HTT
    generalize (r1.getD 0 dwZ).1 = v0 at *
    generalize (r1.getD 1 dwZ).1 = v1 at *
    clear hl2 hl0 hd hcd a0 a1 TL ht hfin hrow HLT HTL HBX
    go_upto_region 4 with fail
    go_region_held3 (fun w' => w'.cell? ⟨w.heap.size, 0, none⟩ = some (.int .u64 (T : Int)) ∧ w'.cell? ⟨w.heap.size, 1, none⟩ = some (.slice sb n cb) ∧ w'.cell? ⟨w.heap.size, 2, none⟩ = some (.slice sl n cl) ∧ w'.cell? ⟨bd, off, none⟩ = some (.int .u64 (v0 : Int)) ∧ w'.cell? ⟨bd, off + 3, none⟩ = some (.int .u64 (v1 : Int)))
      (first | exact ⟨(hb4.cell (p := ⟨w.heap.size, 0, none⟩) (World.block_lt_of_cell? w1 _ c0)).trans c0, (hb4.cell (p := ⟨w.heap.size, 1, none⟩) (World.block_lt_of_cell? w1 _ c1)).trans c1, (hb4.cell (p := ⟨w.heap.size, 2, none⟩) (World.block_lt_of_cell? w1 _ c2)).trans c2, (hb4.cell (p := ⟨bd, off, none⟩) (World.block_lt_of_cell? w1 _ x0)).trans x0, (hb4.cell (p := ⟨bd, off + 3, none⟩) (World.block_lt_of_cell? w1 _ x1)).trans x1⟩ | go_keep)
      (first | (go_at_call 72; refine (HTT.out _ (by first | exact Below.refl _ _ | exact (Below.refl _ _).drew)).mono ?_; rintro e w4 ⟨rfl, hb4⟩))
    all_goals
      have hb5 : Below w.heap.size w w4 := by first | exact HBL.out.trans (hb4.mono HBL.out.size) | exact HBL.out.drew.trans (hb4.mono HBL.out.size)
      have HB5 := Lib.hid hb5
      clear hb4 hb5 c0 c1 c2 x0 x1
      go_wp2_with fail
      refine bodyPost_ret (v := .tuple #[.int .i64 t, .slice (some ⟨bd, off, none⟩) 2 cd, .int .i64 (r2 : Int), .bool true]) (by simp [results, Tryz.results30, go_sem]) rfl (HFIN.out _ HB5.out)

end Go.Proofs.YtcoohepkmhpdkaaGreat
