/-
  One op, done to a table and to a list of places.
-/
import Derived.Test.YtamjhblhkabpaaaHl4
namespace Go.Proofs.Ytamjhblhkabpaaa
open Go.RowKit
set_option linter.unusedVariables false
set_option linter.unusedSimpArgs false

/-- a table and the list of places beside it -/
structure TwoAt (B : Nat) (w : World) (tb pb lb cap R : Nat) (T : Int) (ps ls : List Plc) : Prop where
  tab : TabAt B w tb pb ps
  ref : RefAt B w lb cap ls
  sim : Sim ps ls
  few : Few T ps
  ok : ∀ i, i < ps.length → (ps.getD i plZ).1 = true → 1 ≤ (ps.getD i plZ).2.1
  ne1 : lb ≠ tb
  ne2 : lb ≠ pb
  len : ls.length = R
variable {B : Nat} {w w' : World} {tb pb lb cap R : Nat} {T : Int} {ps ls : List Plc}
theorem Few.sim (h : Few T ps) (k : Sim ps ls) : Few T ls := fun i hi => by
  rw [k.len] at hi
  rw [k.times i hi]
  exact h i hi
theorem Few.mono {T' : Int} (h : Few T ps) (hT : T ≤ T') : Few T' ps := fun i hi => by have := h i hi; omega
theorem TwoAt.below (h : TwoAt B w tb pb lb cap R T ps ls) (hb : Below w.heap.size w w') : TwoAt B w' tb pb lb cap R T ps ls :=
  ⟨h.tab.below hb, h.ref.below hb, h.sim, h.few, h.ok, h.ne1, h.ne2, h.len⟩
theorem TwoAt.drewN (h : TwoAt B w tb pb lb cap R T ps ls) (q : Nat) : TwoAt B (w.drewN q) tb pb lb cap R T ps ls :=
  ⟨h.tab.kept (by rw [drewN_heap]) (by rw [drewN_heap]), h.ref.kept (by rw [drewN_heap]), h.sim, h.few, h.ok, h.ne1, h.ne2, h.len⟩
theorem below_drewN {a : World} (h : Below B a w) (n : Nat) : Below B a (w.drewN n) := by
  induction n with
  | zero => exact h
  | succ n ih => exact ih.drew
theorem heap_set3 {k lb : Nat} (w : World) (h : k ≠ lb) (a b c : Nat) (u v x : Value) : (((w.setCell ⟨lb, a, none⟩ u).setCell ⟨lb, b, none⟩ v).setCell ⟨lb, c, none⟩ x).drew.heap[k]? = w.heap[k]? :=
  (Below.heap_setCell _ _ _ _ (show k ≠ lb from h)).trans ((Below.heap_setCell _ _ _ _ (show k ≠ lb from h)).trans (Below.heap_setCell _ _ _ _ (show k ≠ lb from h)))
theorem TwoAt.more {T' : Int} (h : TwoAt B w tb pb lb cap R T ps ls) (hT : T ≤ T') : TwoAt B w tb pb lb cap R T' ps ls :=
  ⟨h.tab, h.ref, h.sim, h.few.mono hT, h.ok, h.ne1, h.ne2, h.len⟩
theorem ok_set (h : ∀ i, i < ps.length → (ps.getD i plZ).1 = true → 1 ≤ (ps.getD i plZ).2.1) {i : Nat} (hi : i < ps.length) (q : Plc) (hq : q.1 = true → 1 ≤ q.2.1) : ∀ j, j < (ps.set i q).length → ((ps.set i q).getD j plZ).1 = true → 1 ≤ ((ps.set i q).getD j plZ).2.1 := by
  intro j hj
  rw [List.length_set] at hj
  rw [set_getD _ _ _ _ hi]
  by_cases e : i = j
  · rw [if_pos e]; exact hq
  · rw [if_neg e]; exact h j hj
theorem plOf_sim (k : Sim ps ls) (h : Int) : plOf ls h = plOf ps h := by
  unfold plOf
  by_cases hm : (h % 16).toNat < ps.length
  · rw [k.len, k.isin _ hm, k.times _ hm]
  · rw [if_neg (fun c => hm (by have := c.1; rw [k.len] at this; exact this)), if_neg (fun c => hm c.1)]

set_option maxRecDepth 100000 in
set_option maxHeartbeats 4000000 in
theorem step_put (h nn : Int) (hA : TwoAt B w tb pb lb cap R T ps ls) (hT0 : 0 ≤ T) (hT1 : T ≤ 30000) :
    Calls Try.prog 7 #[.pointer (some ⟨tb, 0, none⟩), .slice (some ⟨lb, 0, none⟩) R cap, .agg #[.int .i64 0, .int .u64 h, .int .i64 nn]] w fun e w' => e = .returned (.tuple #[.slice (some ⟨lb, 0, none⟩) R cap, .bool true]) ∧ Below B w w' ∧ ∃ ps' ls', TwoAt B w' tb pb lb cap R (T + 1) ps' ls' := by
  obtain rfl := hA.len
  have hBw : B ≤ w.heap.size := by have := hA.tab.tB; have := block_lt hA.tab.tab; omega
  obtain ⟨wz, hwz⟩ : ∃ wz, wz = w.alloc (.cells #[.int .i64 0, .int .u64 h, .int .i64 nn] 30) := ⟨_, rfl⟩
  have hbz : Below w.heap.size w wz := by rw [hwz]; exact (Below.refl _ _).alloc (Nat.le_refl _) _
  have hcz : wz.heap[w.heap.size]? = some (.cells #[.int .i64 0, .int .u64 h, .int .i64 nn] 30 (0, 0)) := by rw [hwz]; exact heap_alloc_new _ _
  have hAz := hA.below hbz
  have HP := Lib.hid (put48_any wz B lb cap ls hAz.ref)
  have HW := Lib.hid hwz; have HBZ := Lib.hid hbz; have HAZ := Lib.hid hAz; have HCZ := Lib.hid hcz
  clear hwz hbz hAz hcz
  go_enter Try.func7, Try.ntmps7
  go_wp2_with fail
  rw [← HW.out]
  refine HP.out.mono ?_
  rintro e w1 ⟨hb1, hr⟩
  have hA1 := HAZ.out.below hb1
  have hc1 := (hb1.block w.heap.size (block_lt HCZ.out)).trans HCZ.out
  have hB1 : Below B w w1 := (below_two HBZ.out hb1).mono hBw
  have hw1 : w.heap.size < w1.heap.size := block_lt hc1
  have HPT := Lib.hid (put_any w1 B tb pb ps nn hA1.tab (hA1.few.mono (by omega)))
  have x2 := cell_of hc1 2 (u := .int .i64 nn) rfl
  have hpbw : pb < w.heap.size := block_lt hA.tab.row
  have HA1 := Lib.hid hA1; have HC1 := Lib.hid hc1; have HB1 := Lib.hid hB1
  clear HP HAZ HBZ HW HCZ hA1 hc1 hB1 hb1 hA
  rcases hr with ⟨rfl, hall⟩ | ⟨i, rfl, hi, hfree, hbef⟩
  · have HALL := Lib.hid hall
    clear hall
    go_wp2_with fail
    refine HPT.out.mono ?_
    rintro e w2 ⟨hb2, hch2, (⟨rfl, hT2, hall2⟩ | ⟨i, rfl, hi, hfree, -⟩)⟩
    · have hA2 : TwoAt B w2 tb pb lb cap ls.length T ps ls := ⟨hT2, HA1.out.ref.kept (hch2.block lb HA1.out.ref.block.2.1 HA1.out.ne2), HA1.out.sim, HA1.out.few, HA1.out.ok, HA1.out.ne1, HA1.out.ne2, rfl⟩
      have HA2 := Lib.hid hA2; have HB2 := Lib.hid (HB1.out.trans hb2)
      clear hA2 hb2 hch2 hT2 hall2 HPT x2
      go_wp2_with fail
      go_ret2
      exact ⟨rfl, HB2.out, ps, ls, HA2.out.more (by omega)⟩
    · have := HALL.out i (by rw [HA1.out.sim.len]; exact hi)
      rw [HA1.out.sim.isin i hi, hfree] at this
      cases this
  · have HFR := Lib.hid hfree; have HBF := Lib.hid hbef
    clear hfree hbef
    go_wp2_with fail
    refine HPT.out.mono ?_
    rintro e w2 ⟨hb2, hch2, (⟨rfl, hT2, hall2⟩ | ⟨i2, rfl, hi2, hfree2, hbef2, hT2⟩)⟩
    · have hip : i < ps.length := by rw [← HA1.out.sim.len]; exact hi
      have := hall2 i hip
      rw [← HA1.out.sim.isin i hip, HFR.out] at this
      cases this
    · have hip : i < ps.length := by rw [← HA1.out.sim.len]; exact hi
      have hii : i2 = i := by
        rcases Nat.lt_trichotomy i2 i with h1 | h1 | h1
        · have := HBF.out i2 h1
          rw [HA1.out.sim.isin i2 hi2, hfree2] at this
          cases this
        · exact h1
        · have := hbef2 i h1
          rw [← HA1.out.sim.isin i hip, HFR.out] at this
          cases this
      subst hii
      have hR2 : RefAt B w2 lb cap ls := HA1.out.ref.kept (hch2.block lb HA1.out.ref.block.2.1 HA1.out.ne2)
      obtain ⟨a0, a1, a2⟩ := hR2.at hi
      have f0 := hR2.block.2.2 (i2 * 3)
      have f1 := hR2.block.2.2 (i2 * 3 + 1)
      have f2 := hR2.block.2.2 (i2 * 3 + 2)
      have y2 : w2.cell? ⟨w.heap.size, 2, none⟩ = some (.int .i64 nn) := (World.cell?_of_block (hch2.block w.heap.size hw1 (by omega))).trans x2
      have hti := HA1.out.few i2 hi2
      have hle := HA1.out.ref.le
      have htm := HA1.out.sim.times i2 hi2
      have hsim := HA1.out.sim.set hi2 (true, (ps.getD i2 plZ).2.1 + 1, nn) (true, (ps.getD i2 plZ).2.1 + 1, nn) rfl rfl (fun _ => rfl)
      have hfew := few_set HA1.out.few hi2 (true, (ps.getD i2 plZ).2.1 + 1, nn) (by show 0 ≤ (ps.getD i2 plZ).2.1 + 1; omega) (by show (ps.getD i2 plZ).2.1 + 1 ≤ T + 1; omega)
      have hok := ok_set HA1.out.ok hi2 (true, (ps.getD i2 plZ).2.1 + 1, nn) (fun _ => by show 1 ≤ (ps.getD i2 plZ).2.1 + 1; omega)
      have hrs := hR2.set hi (true, (ps.getD i2 plZ).2.1 + 1, nn)
      rw [htm] at a1
      have HSIM := Lib.hid hsim; have HFEW := Lib.hid hfew; have HOK := Lib.hid hok; have HRS := Lib.hid hrs; have HT2 := Lib.hid hT2
      have HB2 := Lib.hid (HB1.out.trans hb2)
      generalize ht : (ps.getD i2 plZ).2.1 = t at *
      generalize hx : (ls.getD i2 plZ).1 = b9 at *
      generalize hy : (ls.getD i2 plZ).2.2 = n9 at *
      have ht0 : 0 ≤ t := hti.1
      have ht1 : t ≤ T := hti.2
      have zi : (i2 : Int) < (ls.length : Int) := by omega
      have i3 : 0 ≤ (i2 : Int) := by omega
      have HNB : Hid (B ≤ lb ∧ lb ≠ tb ∧ lb ≠ pb) := ⟨hR2.block.1, HA1.out.ne1, HA1.out.ne2⟩
      clear htm hsim hfew hok hrs hT2 hb2 hch2 hti hR2 hfree2 hbef2 HFR HBF HPT hx hy ht x2 HC1 HB1 HA1
      go_wp2_with fail
      go_region
      obtain ⟨W3, hW3⟩ : ∃ W3, W3 = (((w2.setCell ⟨lb, i2 * 3, none⟩ (.bool true)).setCell ⟨lb, i2 * 3 + 1, none⟩ (.int .u64 (t + 1))).setCell ⟨lb, i2 * 3 + 2, none⟩ (.int .i64 nn)).drew := ⟨_, rfl⟩
      rw [← hW3]
      have hR3 : RefAt B W3 lb cap (ls.set i2 (true, t + 1, nn)) := by rw [hW3]; exact HRS.out.kept rfl
      have hT3 : TabAt B W3 tb pb (ps.set i2 (true, t + 1, nn)) := by
        rw [hW3]
        exact HT2.out.kept (heap_set3 _ (Ne.symm HNB.out.2.1) _ _ _ _ _ _) (heap_set3 _ (Ne.symm HNB.out.2.2) _ _ _ _ _ _)
      have hB3 : Below B w W3 := by
        rw [hW3]
        exact (((HB2.out.setCell (p := ⟨lb, i2 * 3, none⟩) HNB.out.1 _).setCell (p := ⟨lb, i2 * 3 + 1, none⟩) HNB.out.1 _).setCell (p := ⟨lb, i2 * 3 + 2, none⟩) HNB.out.1 _).drew
      have hA3 : TwoAt B W3 tb pb lb cap ls.length (T + 1) (ps.set i2 (true, t + 1, nn)) (ls.set i2 (true, t + 1, nn)) := ⟨hT3, hR3, HSIM.out, HFEW.out, HOK.out, HNB.out.2.1, HNB.out.2.2, by rw [List.length_set]⟩
      have b1 := (hR3.at (i := i2) (by rw [List.length_set]; exact hi)).2.1
      rw [show (ls.set i2 (true, t + 1, nn)).getD i2 plZ = (true, t + 1, nn) by simp [List.getD, hi]] at b1
      have B1 : W3.cell? ⟨lb, i2 * 3 + 1, none⟩ = some (.int .u64 (t + 1)) := b1
      have HA3 := Lib.hid hA3; have HB3 := Lib.hid hB3
      clear hW3 hR3 hT3 hA3 hB3 b1 HSIM HFEW HOK HRS HT2 HB2 a0 a1 a2 f0 f1 f2 y2
      go_wp2_with fail
      go_quiet (fail)
      go_wp2_with fail
      go_ret2
      exact ⟨rfl, below_drewN HB3.out _, _, _, HA3.out.drewN _⟩


set_option maxRecDepth 100000 in
set_option maxHeartbeats 4000000 in
theorem step_else (k h nn : Int) (hk0 : (k == 0) = false) (hk1 : (k == 1) = false) (hk2 : (k == 2) = false) (hk3 : (k == 3) = false) (hko : k < 1 ∨ 3 < k) (hA : TwoAt B w tb pb lb cap R T ps ls) (hT0 : 0 ≤ T) (hT1 : T ≤ 30000) (h0 : 0 ≤ h) (h1 : h ≤ 18446744073709551615) :
    Calls Try.prog 7 #[.pointer (some ⟨tb, 0, none⟩), .slice (some ⟨lb, 0, none⟩) R cap, .agg #[.int .i64 k, .int .u64 h, .int .i64 nn]] w fun e w' => e = .returned (.tuple #[.slice (some ⟨lb, 0, none⟩) R cap, .bool true]) ∧ Below B w w' ∧ ∃ ps' ls', TwoAt B w' tb pb lb cap R (T + 1) ps' ls' := by
  obtain rfl := hA.len
  have hBw : B ≤ w.heap.size := by have := hA.tab.tB; have := block_lt hA.tab.tab; omega
  obtain ⟨wz, hwz⟩ : ∃ wz, wz = w.alloc (.cells #[.int .i64 k, .int .u64 h, .int .i64 nn] 30) := ⟨_, rfl⟩
  have hbz : Below w.heap.size w wz := by rw [hwz]; exact (Below.refl _ _).alloc (Nat.le_refl _) _
  have hcz : wz.heap[w.heap.size]? = some (.cells #[.int .i64 k, .int .u64 h, .int .i64 nn] 30 (0, 0)) := by rw [hwz]; exact heap_alloc_new _ _
  have hAz := hA.below hbz
  have hfd := find48_any wz B lb cap ls h hAz.ref ((hAz.few.sim hAz.sim).mono (by omega))
  rw [plOf_sim hAz.sim] at hfd
  have HP := Lib.hid hfd
  have HW := Lib.hid hwz; have HBZ := Lib.hid hbz; have HAZ := Lib.hid hAz; have HCZ := Lib.hid hcz
  clear hwz hbz hAz hcz hfd
  go_enter Try.func7, Try.ntmps7
  go_wp2_with fail
  rw [← HW.out]
  refine HP.out.mono ?_
  rintro e w1 ⟨hb1, hr⟩
  have hA1 := HAZ.out.below hb1
  have hc1 := (hb1.block w.heap.size (block_lt HCZ.out)).trans HCZ.out
  have hB1 : Below B w w1 := (below_two HBZ.out hb1).mono hBw
  have hw1 : w.heap.size < w1.heap.size := block_lt hc1
  have x0 := cell_of hc1 0 (u := .int .i64 k) rfl
  have x1 := cell_of hc1 1 (u := .int .u64 h) rfl
  have x2 := cell_of hc1 2 (u := .int .i64 nn) rfl
  have hpbw : pb < w.heap.size := block_lt hA.tab.row
  have HA1 := Lib.hid hA1; have HC1 := Lib.hid hc1; have HB1 := Lib.hid hB1
  clear HP HAZ HBZ HW HCZ hA1 hc1 hB1 hb1 hA
  rcases hko with hko | hko
  · rcases hr with ⟨-, rfl⟩ | ⟨i, -, rfl⟩
    · go_wp2_with fail
      go_ret2
      exact ⟨rfl, HB1.out, ps, ls, HA1.out.more (by omega)⟩
    · go_wp2_with fail
      go_ret2
      exact ⟨rfl, HB1.out, ps, ls, HA1.out.more (by omega)⟩
  · have hk9 : ¬ k < 1 := by omega
    rcases hr with ⟨-, rfl⟩ | ⟨i, -, rfl⟩
    · go_wp2_with fail
      go_ret2
      exact ⟨rfl, HB1.out, ps, ls, HA1.out.more (by omega)⟩
    · go_wp2_with fail
      go_ret2
      exact ⟨rfl, HB1.out, ps, ls, HA1.out.more (by omega)⟩


set_option maxRecDepth 100000 in
set_option maxHeartbeats 4000000 in
theorem step_get (h nn : Int) (hA : TwoAt B w tb pb lb cap R T ps ls) (hT0 : 0 ≤ T) (hT1 : T ≤ 30000) (h0 : 0 ≤ h) (h1 : h ≤ 18446744073709551615) :
    Calls Try.prog 7 #[.pointer (some ⟨tb, 0, none⟩), .slice (some ⟨lb, 0, none⟩) R cap, .agg #[.int .i64 1, .int .u64 h, .int .i64 nn]] w fun e w' => e = .returned (.tuple #[.slice (some ⟨lb, 0, none⟩) R cap, .bool true]) ∧ Below B w w' ∧ ∃ ps' ls', TwoAt B w' tb pb lb cap R (T + 1) ps' ls' := by
  obtain rfl := hA.len
  have hBw : B ≤ w.heap.size := by have := hA.tab.tB; have := block_lt hA.tab.tab; omega
  obtain ⟨wz, hwz⟩ : ∃ wz, wz = w.alloc (.cells #[.int .i64 1, .int .u64 h, .int .i64 nn] 30) := ⟨_, rfl⟩
  have hbz : Below w.heap.size w wz := by rw [hwz]; exact (Below.refl _ _).alloc (Nat.le_refl _) _
  have hcz : wz.heap[w.heap.size]? = some (.cells #[.int .i64 1, .int .u64 h, .int .i64 nn] 30 (0, 0)) := by rw [hwz]; exact heap_alloc_new _ _
  have hAz := hA.below hbz
  have hfd := find48_any wz B lb cap ls h hAz.ref ((hAz.few.sim hAz.sim).mono (by omega))
  rw [plOf_sim hAz.sim] at hfd
  have HP := Lib.hid hfd
  have HW := Lib.hid hwz; have HBZ := Lib.hid hbz; have HAZ := Lib.hid hAz; have HCZ := Lib.hid hcz
  clear hwz hbz hAz hcz hfd
  go_enter Try.func7, Try.ntmps7
  go_wp2_with fail
  rw [← HW.out]
  refine HP.out.mono ?_
  rintro e w1 ⟨hb1, hr⟩
  have hA1 := HAZ.out.below hb1
  have hc1 := (hb1.block w.heap.size (block_lt HCZ.out)).trans HCZ.out
  have hB1 : Below B w w1 := (below_two HBZ.out hb1).mono hBw
  have hw1 : w.heap.size < w1.heap.size := block_lt hc1
  have HG := Lib.hid (hget_any w1 B tb pb ps h hA1.tab (hA1.few.mono (by omega)) h0 h1)
  have x0 := cell_of hc1 0 (u := .int .i64 1) rfl
  have x1 := cell_of hc1 1 (u := .int .u64 h) rfl
  have x2 := cell_of hc1 2 (u := .int .i64 nn) rfl
  have hpbw : pb < w.heap.size := block_lt hA.tab.row
  have HA1 := Lib.hid hA1; have HC1 := Lib.hid hc1; have HB1 := Lib.hid hB1
  clear HP HAZ HBZ HW HCZ hA1 hc1 hB1 hb1 hA
  rcases hr with ⟨hn, rfl⟩ | ⟨i, hs, rfl⟩
  · have HN := Lib.hid hn
    clear hn
    go_wp2_with fail
    refine HG.out.mono ?_
    rintro e w2 ⟨rfl, (⟨-, rfl⟩ | ⟨i, hs, -⟩)⟩
    · go_wp2_with fail
      go_ret2
      exact ⟨rfl, HB1.out, ps, ls, HA1.out.more (by omega)⟩
    · rw [HN.out] at hs; cases hs
  · have HS := Lib.hid hs
    clear hs
    go_wp2_with fail
    refine HG.out.mono ?_
    rintro e w2 ⟨rfl, (⟨hn, -⟩ | ⟨i2, hs, rfl⟩)⟩
    · rw [HS.out] at hn; cases hn
    · have hii : i2 = i := by rw [HS.out] at hs; injection hs with hs; exact hs.symm
      subst hii
      obtain ⟨hi, hin, -⟩ := plOf_some hs
      have hil : i2 < ls.length := by rw [HA1.out.sim.len]; exact hi
      obtain ⟨a0, a1, a2⟩ := HA1.out.ref.at hil
      rw [HA1.out.sim.what i2 hi hin] at a2
      generalize (ps.getD i2 plZ).2.2 = n9 at *
      have zi : (i2 : Int) < (ls.length : Int) := by omega
      have i3 : 0 ≤ (i2 : Int) := by omega
      have i4 : ¬ (i2 : Int) < 0 := by omega
      have hle := HA1.out.ref.le
      clear hs HS HG a0 a1 HC1
      go_wp2_with fail
      go_quiet (fail)
      go_wp2_with fail
      go_ret2
      exact ⟨rfl, below_drewN HB1.out _, ps, ls, (HA1.out.more (by omega)).drewN _⟩


set_option maxRecDepth 100000 in
set_option maxHeartbeats 4000000 in
theorem step_set (h nn : Int) (hA : TwoAt B w tb pb lb cap R T ps ls) (hT0 : 0 ≤ T) (hT1 : T ≤ 30000) (h0 : 0 ≤ h) (h1 : h ≤ 18446744073709551615) :
    Calls Try.prog 7 #[.pointer (some ⟨tb, 0, none⟩), .slice (some ⟨lb, 0, none⟩) R cap, .agg #[.int .i64 2, .int .u64 h, .int .i64 nn]] w fun e w' => e = .returned (.tuple #[.slice (some ⟨lb, 0, none⟩) R cap, .bool true]) ∧ Below B w w' ∧ ∃ ps' ls', TwoAt B w' tb pb lb cap R (T + 1) ps' ls' := by
  obtain rfl := hA.len
  have hBw : B ≤ w.heap.size := by have := hA.tab.tB; have := block_lt hA.tab.tab; omega
  obtain ⟨wz, hwz⟩ : ∃ wz, wz = w.alloc (.cells #[.int .i64 2, .int .u64 h, .int .i64 nn] 30) := ⟨_, rfl⟩
  have hbz : Below w.heap.size w wz := by rw [hwz]; exact (Below.refl _ _).alloc (Nat.le_refl _) _
  have hcz : wz.heap[w.heap.size]? = some (.cells #[.int .i64 2, .int .u64 h, .int .i64 nn] 30 (0, 0)) := by rw [hwz]; exact heap_alloc_new _ _
  have hAz := hA.below hbz
  have hfd := find48_any wz B lb cap ls h hAz.ref ((hAz.few.sim hAz.sim).mono (by omega))
  rw [plOf_sim hAz.sim] at hfd
  have HP := Lib.hid hfd
  have HW := Lib.hid hwz; have HBZ := Lib.hid hbz; have HAZ := Lib.hid hAz; have HCZ := Lib.hid hcz
  clear hwz hbz hAz hcz hfd
  go_enter Try.func7, Try.ntmps7
  go_wp2_with fail
  rw [← HW.out]
  refine HP.out.mono ?_
  rintro e w1 ⟨hb1, hr⟩
  have hA1 := HAZ.out.below hb1
  have hc1 := (hb1.block w.heap.size (block_lt HCZ.out)).trans HCZ.out
  have hB1 : Below B w w1 := (below_two HBZ.out hb1).mono hBw
  have hw1 : w.heap.size < w1.heap.size := block_lt hc1
  have HG := Lib.hid (hset_any w1 B tb pb ps h nn hA1.tab (hA1.few.mono (by omega)) h0 h1)
  have x0 := cell_of hc1 0 (u := .int .i64 2) rfl
  have x1 := cell_of hc1 1 (u := .int .u64 h) rfl
  have x2 := cell_of hc1 2 (u := .int .i64 nn) rfl
  have hpbw : pb < w.heap.size := block_lt hA.tab.row
  have HA1 := Lib.hid hA1; have HC1 := Lib.hid hc1; have HB1 := Lib.hid hB1
  clear HP HAZ HBZ HW HCZ hA1 hc1 hB1 hb1 hA
  rcases hr with ⟨hn, rfl⟩ | ⟨i, hs, rfl⟩
  · have HN := Lib.hid hn
    clear hn
    go_wp2_with fail
    refine HG.out.mono ?_
    rintro e w2 ⟨hb2, hch2, (⟨-, rfl, hT2⟩ | ⟨i, hs, -⟩)⟩
    · have hA2 : TwoAt B w2 tb pb lb cap ls.length T ps ls := ⟨hT2, HA1.out.ref.kept (hch2.block lb HA1.out.ref.block.2.1 HA1.out.ne2), HA1.out.sim, HA1.out.few, HA1.out.ok, HA1.out.ne1, HA1.out.ne2, rfl⟩
      have y0 : w2.cell? ⟨w.heap.size, 0, none⟩ = some (.int .i64 2) := (World.cell?_of_block (hch2.block w.heap.size hw1 (by omega))).trans x0
      have y2 : w2.cell? ⟨w.heap.size, 2, none⟩ = some (.int .i64 nn) := (World.cell?_of_block (hch2.block w.heap.size hw1 (by omega))).trans x2
      have HA2 := Lib.hid hA2; have HB2 := Lib.hid (HB1.out.trans hb2)
      clear hA2 hb2 hch2 hT2 HG x0 x1 x2
      go_wp2_with fail
      go_ret2
      exact ⟨rfl, HB2.out, ps, ls, HA2.out.more (by omega)⟩
    · rw [HN.out] at hs; cases hs
  · have HS := Lib.hid hs
    clear hs
    go_wp2_with fail
    refine HG.out.mono ?_
    rintro e w2 ⟨hb2, hch2, (⟨hn, -⟩ | ⟨i2, hs, rfl, hi, hin, hT2⟩)⟩
    · rw [HS.out] at hn; cases hn
    · have hii : i2 = i := by rw [HS.out] at hs; injection hs with hs; exact hs.symm
      subst hii
      have hil : i2 < ls.length := by rw [HA1.out.sim.len]; exact hi
      have y0 : w2.cell? ⟨w.heap.size, 0, none⟩ = some (.int .i64 2) := (World.cell?_of_block (hch2.block w.heap.size hw1 (by omega))).trans x0
      have y2 : w2.cell? ⟨w.heap.size, 2, none⟩ = some (.int .i64 nn) := (World.cell?_of_block (hch2.block w.heap.size hw1 (by omega))).trans x2
      have hR2 : RefAt B w2 lb cap ls := HA1.out.ref.kept (hch2.block lb HA1.out.ref.block.2.1 HA1.out.ne2)
      obtain ⟨a0, a1, a2⟩ := hR2.at hil
      have f0 := hR2.block.2.2 (i2 * 3)
      have f2 := hR2.block.2.2 (i2 * 3 + 2)
      have hti := HA1.out.few i2 hi
      have hok1 := HA1.out.ok i2 hi hin
      have hsim := HA1.out.sim.set hi (true, (ps.getD i2 plZ).2.1, nn) ((ls.getD i2 plZ).1, (ls.getD i2 plZ).2.1, nn) ((HA1.out.sim.isin i2 hi).trans hin) (HA1.out.sim.times i2 hi) (fun _ => rfl)
      have hfew := few_set HA1.out.few hi (true, (ps.getD i2 plZ).2.1, nn) hti.1 (by show (ps.getD i2 plZ).2.1 ≤ T + 1; omega)
      have hok := ok_set HA1.out.ok hi (true, (ps.getD i2 plZ).2.1, nn) (fun _ => hok1)
      have hrs := hR2.set2 hil nn
      have hB2 := HB1.out.trans hb2
      have HNB : Hid (B ≤ lb ∧ lb ≠ tb ∧ lb ≠ pb) := ⟨hR2.block.1, HA1.out.ne1, HA1.out.ne2⟩
      have HSIM := Lib.hid hsim; have HFEW := Lib.hid hfew; have HOK := Lib.hid hok; have HRS := Lib.hid hrs; have HT2 := Lib.hid hT2; have HB2 := Lib.hid hB2
      generalize (ls.getD i2 plZ).1 = b9 at a0
      generalize (ls.getD i2 plZ).2.2 = n9 at a2
      have zi : (i2 : Int) < (ls.length : Int) := by omega
      have i3 : 0 ≤ (i2 : Int) := by omega
      have i4 : ¬ (i2 : Int) < 0 := by omega
      have hle := HA1.out.ref.le
      clear hs HS HG a1 HC1 hch2 hb2 hT2 hR2 hsim hfew hok hrs hB2 hok1 hti hin x0 x1 x2
      go_wp2_with fail
      go_ret2
      refine ⟨rfl, HB2.out.setCell (p := ⟨lb, i2 * 3 + 2, none⟩) HNB.out.1 _, _, _, ⟨HT2.out.kept (Below.heap_setCell _ _ _ _ (show tb ≠ lb from Ne.symm HNB.out.2.1)) (Below.heap_setCell _ _ _ _ (show pb ≠ lb from Ne.symm HNB.out.2.2)), HRS.out, HSIM.out, HFEW.out, HOK.out, HNB.out.2.1, HNB.out.2.2, by rw [List.length_set]⟩⟩


set_option maxRecDepth 100000 in
set_option maxHeartbeats 4000000 in
theorem step_drop (h nn : Int) (hA : TwoAt B w tb pb lb cap R T ps ls) (hT0 : 0 ≤ T) (hT1 : T ≤ 30000) (h0 : 0 ≤ h) (h1 : h ≤ 18446744073709551615) :
    Calls Try.prog 7 #[.pointer (some ⟨tb, 0, none⟩), .slice (some ⟨lb, 0, none⟩) R cap, .agg #[.int .i64 3, .int .u64 h, .int .i64 nn]] w fun e w' => e = .returned (.tuple #[.slice (some ⟨lb, 0, none⟩) R cap, .bool true]) ∧ Below B w w' ∧ ∃ ps' ls', TwoAt B w' tb pb lb cap R (T + 1) ps' ls' := by
  obtain rfl := hA.len
  have hBw : B ≤ w.heap.size := by have := hA.tab.tB; have := block_lt hA.tab.tab; omega
  obtain ⟨wz, hwz⟩ : ∃ wz, wz = w.alloc (.cells #[.int .i64 3, .int .u64 h, .int .i64 nn] 30) := ⟨_, rfl⟩
  have hbz : Below w.heap.size w wz := by rw [hwz]; exact (Below.refl _ _).alloc (Nat.le_refl _) _
  have hcz : wz.heap[w.heap.size]? = some (.cells #[.int .i64 3, .int .u64 h, .int .i64 nn] 30 (0, 0)) := by rw [hwz]; exact heap_alloc_new _ _
  have hAz := hA.below hbz
  have hfd := find48_any wz B lb cap ls h hAz.ref ((hAz.few.sim hAz.sim).mono (by omega))
  rw [plOf_sim hAz.sim] at hfd
  have HP := Lib.hid hfd
  have HW := Lib.hid hwz; have HBZ := Lib.hid hbz; have HAZ := Lib.hid hAz; have HCZ := Lib.hid hcz
  clear hwz hbz hAz hcz hfd
  go_enter Try.func7, Try.ntmps7
  go_wp2_with fail
  rw [← HW.out]
  refine HP.out.mono ?_
  rintro e w1 ⟨hb1, hr⟩
  have hA1 := HAZ.out.below hb1
  have hc1 := (hb1.block w.heap.size (block_lt HCZ.out)).trans HCZ.out
  have hB1 : Below B w w1 := (below_two HBZ.out hb1).mono hBw
  have hw1 : w.heap.size < w1.heap.size := block_lt hc1
  have HG := Lib.hid (drop_any w1 B tb pb ps h hA1.tab (hA1.few.mono (by omega)) h0 h1)
  have x0 := cell_of hc1 0 (u := .int .i64 3) rfl
  have x1 := cell_of hc1 1 (u := .int .u64 h) rfl
  have x2 := cell_of hc1 2 (u := .int .i64 nn) rfl
  have hpbw : pb < w.heap.size := block_lt hA.tab.row
  have HA1 := Lib.hid hA1; have HC1 := Lib.hid hc1; have HB1 := Lib.hid hB1
  clear HP HAZ HBZ HW HCZ hA1 hc1 hB1 hb1 hA
  rcases hr with ⟨hn, rfl⟩ | ⟨i, hs, rfl⟩
  · have HN := Lib.hid hn
    clear hn
    go_wp2_with fail
    refine HG.out.mono ?_
    rintro e w2 ⟨hb2, hch2, (⟨-, rfl, hT2⟩ | ⟨i, hs, -⟩)⟩
    · have hA2 : TwoAt B w2 tb pb lb cap ls.length T ps ls := ⟨hT2, HA1.out.ref.kept (hch2.block lb HA1.out.ref.block.2.1 HA1.out.ne2), HA1.out.sim, HA1.out.few, HA1.out.ok, HA1.out.ne1, HA1.out.ne2, rfl⟩
      have y0 : w2.cell? ⟨w.heap.size, 0, none⟩ = some (.int .i64 3) := (World.cell?_of_block (hch2.block w.heap.size hw1 (by omega))).trans x0
      have y2 : w2.cell? ⟨w.heap.size, 2, none⟩ = some (.int .i64 nn) := (World.cell?_of_block (hch2.block w.heap.size hw1 (by omega))).trans x2
      have HA2 := Lib.hid hA2; have HB2 := Lib.hid (HB1.out.trans hb2)
      clear hA2 hb2 hch2 hT2 HG x0 x1 x2
      go_wp2_with fail
      go_ret2
      exact ⟨rfl, HB2.out, ps, ls, HA2.out.more (by omega)⟩
    · rw [HN.out] at hs; cases hs
  · have HS := Lib.hid hs
    clear hs
    go_wp2_with fail
    refine HG.out.mono ?_
    rintro e w2 ⟨hb2, hch2, (⟨hn, -⟩ | ⟨i2, hs, rfl, hi, hin, hT2⟩)⟩
    · rw [HS.out] at hn; cases hn
    · have hii : i2 = i := by rw [HS.out] at hs; injection hs with hs; exact hs.symm
      subst hii
      have hil : i2 < ls.length := by rw [HA1.out.sim.len]; exact hi
      have y0 : w2.cell? ⟨w.heap.size, 0, none⟩ = some (.int .i64 3) := (World.cell?_of_block (hch2.block w.heap.size hw1 (by omega))).trans x0
      have y2 : w2.cell? ⟨w.heap.size, 2, none⟩ = some (.int .i64 nn) := (World.cell?_of_block (hch2.block w.heap.size hw1 (by omega))).trans x2
      have hR2 : RefAt B w2 lb cap ls := HA1.out.ref.kept (hch2.block lb HA1.out.ref.block.2.1 HA1.out.ne2)
      obtain ⟨a0, a1, a2⟩ := hR2.at hil
      have f0 := hR2.block.2.2 (i2 * 3)
      have f2 := hR2.block.2.2 (i2 * 3 + 2)
      have hti := HA1.out.few i2 hi
      have hok1 := HA1.out.ok i2 hi hin
      have hsim := HA1.out.sim.set hi (false, (ps.getD i2 plZ).2.1, 0) (false, (ls.getD i2 plZ).2) rfl (HA1.out.sim.times i2 hi) (fun h => by cases h)
      have hfew := few_set HA1.out.few hi (false, (ps.getD i2 plZ).2.1, 0) hti.1 (by show (ps.getD i2 plZ).2.1 ≤ T + 1; omega)
      have hok := ok_set HA1.out.ok hi (false, (ps.getD i2 plZ).2.1, 0) (fun _ => hok1)
      have hrs := hR2.set0 hil false
      have hB2 := HB1.out.trans hb2
      have HNB : Hid (B ≤ lb ∧ lb ≠ tb ∧ lb ≠ pb) := ⟨hR2.block.1, HA1.out.ne1, HA1.out.ne2⟩
      have HSIM := Lib.hid hsim; have HFEW := Lib.hid hfew; have HOK := Lib.hid hok; have HRS := Lib.hid hrs; have HT2 := Lib.hid hT2; have HB2 := Lib.hid hB2
      generalize (ls.getD i2 plZ).1 = b9 at a0
      generalize (ls.getD i2 plZ).2.2 = n9 at a2
      have zi : (i2 : Int) < (ls.length : Int) := by omega
      have i3 : 0 ≤ (i2 : Int) := by omega
      have i4 : ¬ (i2 : Int) < 0 := by omega
      have hle := HA1.out.ref.le
      clear hs HS HG a1 HC1 hch2 hb2 hT2 hR2 hsim hfew hok hrs hB2 hok1 hti hin x0 x1 x2
      go_wp2_with fail
      go_ret2
      refine ⟨rfl, HB2.out.setCell (p := ⟨lb, i2 * 3, none⟩) HNB.out.1 _, _, _, ⟨HT2.out.kept (Below.heap_setCell _ _ _ _ (show tb ≠ lb from Ne.symm HNB.out.2.1)) (Below.heap_setCell _ _ _ _ (show pb ≠ lb from Ne.symm HNB.out.2.2)), HRS.out, HSIM.out, HFEW.out, HOK.out, HNB.out.2.1, HNB.out.2.2, by rw [List.length_set]⟩⟩

end Go.Proofs.Ytamjhblhkabpaaa
