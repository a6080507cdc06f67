/-
  The document's answer to an ask: astragalref46.Do.
-/
import Derived.Test.YtcoohepkmhpdkaaGreatRDo
import Derived.Test.YtcoohepkmhpdkaaGreatDo
import Derived.Test.YtcoohepkmhpdkaaGreatRShuf
import Derived.Test.YtcoohepkmhpdkaaGreatRSub
import Derived.Test.YtcoohepkmhpdkaaGreatRvTake
import Derived.Test.YtcoohepkmhpdkaaGreatR43
import Derived.Deep.RegionHeld3
import Derived.Laws.EntriesVeiled
namespace Go.Proofs.YtcoohepkmhpdkaaGreat
open Go.RowKit
set_option linter.unusedVariables false
set_option linter.unusedSimpArgs false

/-- what the document's Do answers -/
def RDoQ (R : Option (List Int × Nat)) (w : World) (l : List Nat) (e : Ending) (w' : World) : Prop :=
  TkE R (fun r => ∃ sp m cp, e = .returned (.tuple #[.slice sp m cp, .int .i64 (r.2 : Int), .bool true]) ∧ Rd w' 1 (.slice sp m cp) m (u64s r.1))
    (e = .returned (.tuple #[.slice none 0 0, .int .i64 (l.length : Int), .bool false])) ∧ Below w.heap.size w w'

set_option maxRecDepth 100000 in
set_option maxHeartbeats 4000000 in
theorem rdo46_1 (w : World) (sv : Option Addr) (cv : Nat) (l : List Nat) (hr : Rd w 1 (.slice sv l.length cv) l.length (u64s (zsN l))) (hm : l.length < 50000) (hw : W64 l) (N k : Int) (sa : Option Addr) (cap x : Nat) (h : Rd w 1 (.slice sa 1 cap) 1 (u64s (zsN [x]))) (hx : 0 < x) (hx2 : x < 2 ^ 64) :
    Calls Tryz.prog 9 #[.slice sv l.length cv, .int .i64 1, .int .i64 N, .int .i64 k, .slice sa 1 cap] w (RDoQ ((takeN x 0 l).map fun d => ([(d.1 : Int)], d.2.2)) w l) := by
  obtain ⟨b, off, rfl, hc⟩ := h.at (by omega)
  have x0 : w.cell? ⟨b, off, none⟩ = some (.int .u64 (x : Int)) := hc 0 _ rfl
  have C := Lib.hid (rtake_any w _ _ l x hr hm hw hx hx2)
  clear hc h hr hw hx hx2
  generalize takeN x 0 l = R at *
  have hml : l.length ≤ 50000 := by omega
  go_enter Tryz.func9, Tryz.ntmps9
  go_wp2_with fail
  refine C.out.mono ?_
  rintro e w1 ⟨he, hb⟩
  have HB := Lib.hid hb
  clear hb x0
  cases R with
  | none =>
    obtain rfl : e = .returned (.tuple #[.agg #[.int .u64 0, .int .u64 0, .int .i64 0], .bool false]) := he
    go_wp2_with fail
    go_ret3
    exact ⟨(rfl : _ = _), HB.out.alloc HB.out.size _⟩
  | some d =>
    obtain rfl : e = .returned (.tuple #[.agg #[.int .u64 (d.1 : Int), .int .u64 (d.2.1 : Int), .int .i64 (d.2.2 : Int)], .bool true]) := he
    obtain ⟨d1, d2, d3⟩ := d
    simp only
    obtain ⟨W, hW⟩ : ∃ W, W = w1.alloc (.cells #[.int .u64 (d1 : Int), .int .u64 (d2 : Int), .int .i64 (d3 : Int)] 65) := ⟨_, rfl⟩
    have hbl : Below w.heap.size w W := by rw [hW]; exact HB.out.alloc HB.out.size _
    have hblk : W.heap[w1.heap.size]? = some (.cells #[.int .u64 (d1 : Int), .int .u64 (d2 : Int), .int .i64 (d3 : Int)] 65 (0, 0)) := by rw [hW]; exact heap_at rfl
    have c0 : W.cell? ⟨w1.heap.size, 0, none⟩ = some (.int .u64 (d1 : Int)) := cell_of hblk 0 rfl
    have c2 : W.cell? ⟨w1.heap.size, 2, none⟩ = some (.int .i64 (d3 : Int)) := cell_of hblk 2 rfl
    have HBL := Lib.hid hbl; have HW := Lib.hid hW
    have n0 := World.new_ne W _ c0
    have n2 := World.new_ne W _ c2
    clear hW hbl hblk
    go_upto_region 5 with fail
    rw [← HW.out]
    go_region_held3 (fun w' => w'.cell? ⟨w1.heap.size, 0, none⟩ = some (.int .u64 (d1 : Int)) ∧ w'.cell? ⟨w1.heap.size, 2, none⟩ = some (.int .i64 (d3 : Int)))
      (first | go_keep)
      (fail)
    all_goals
      clear c0 c2 n0 n2
      go_wp2_with fail
      go_ret3
      refine ⟨⟨_, 1, 1, rfl, ?_⟩, by first | exact (HBL.out.drew.alloc HBL.out.size _) | exact (HBL.out.alloc HBL.out.size _).drew | exact (HBL.out.alloc HBL.out.size _)⟩
      exact rd_new _ #[.int .u64 (d1 : Int)] _ 1 1 rfl (by decide) _ 1 (by first | rfl | simp) (Nat.le_refl _)

set_option maxRecDepth 100000 in
set_option maxHeartbeats 4000000 in
theorem rdo46_2 (w : World) (sv : Option Addr) (cv : Nat) (l : List Nat) (hr : Rd w 1 (.slice sv l.length cv) l.length (u64s (zsN l))) (hm : l.length < 50000) (hw : W64 l) (N k : Int) (sa : Option Addr) (cap x : Nat) (h : Rd w 1 (.slice sa 1 cap) 1 (u64s (zsN [x]))) (hx : 0 < x) (hx2 : x < 2 ^ 64) :
    Calls Tryz.prog 9 #[.slice sv l.length cv, .int .i64 2, .int .i64 N, .int .i64 k, .slice sa 1 cap] w (RDoQ ((takeM x 0 l).map fun d => ([(d.1 : Int)], d.2.2)) w l) := by
  obtain ⟨b, off, rfl, hc⟩ := h.at (by omega)
  have x0 : w.cell? ⟨b, off, none⟩ = some (.int .u64 (x : Int)) := hc 0 _ rfl
  have C := Lib.hid (rtake39_any w _ _ l x hr hm hw hx hx2)
  clear hc h hr hw hx hx2
  generalize takeM x 0 l = R at *
  have hml : l.length ≤ 50000 := by omega
  go_enter Tryz.func9, Tryz.ntmps9
  go_wp2_with fail
  refine C.out.mono ?_
  rintro e w1 ⟨he, hb⟩
  have HB := Lib.hid hb
  clear hb x0
  cases R with
  | none =>
    obtain rfl : e = .returned (.tuple #[.agg #[.int .u64 0, .int .u64 0, .int .i64 0], .bool false]) := he
    go_wp2_with fail
    go_ret3
    exact ⟨(rfl : _ = _), HB.out.alloc HB.out.size _⟩
  | some d =>
    obtain rfl : e = .returned (.tuple #[.agg #[.int .u64 (d.1 : Int), .int .u64 (d.2.1 : Int), .int .i64 (d.2.2 : Int)], .bool true]) := he
    obtain ⟨d1, d2, d3⟩ := d
    simp only
    obtain ⟨W, hW⟩ : ∃ W, W = w1.alloc (.cells #[.int .u64 (d1 : Int), .int .u64 (d2 : Int), .int .i64 (d3 : Int)] 65) := ⟨_, rfl⟩
    have hbl : Below w.heap.size w W := by rw [hW]; exact HB.out.alloc HB.out.size _
    have hblk : W.heap[w1.heap.size]? = some (.cells #[.int .u64 (d1 : Int), .int .u64 (d2 : Int), .int .i64 (d3 : Int)] 65 (0, 0)) := by rw [hW]; exact heap_at rfl
    have c0 : W.cell? ⟨w1.heap.size, 0, none⟩ = some (.int .u64 (d1 : Int)) := cell_of hblk 0 rfl
    have c2 : W.cell? ⟨w1.heap.size, 2, none⟩ = some (.int .i64 (d3 : Int)) := cell_of hblk 2 rfl
    have HBL := Lib.hid hbl; have HW := Lib.hid hW
    have n0 := World.new_ne W _ c0
    have n2 := World.new_ne W _ c2
    clear hW hbl hblk
    go_upto_region 10 with fail
    rw [← HW.out]
    go_region_held3 (fun w' => w'.cell? ⟨w1.heap.size, 0, none⟩ = some (.int .u64 (d1 : Int)) ∧ w'.cell? ⟨w1.heap.size, 2, none⟩ = some (.int .i64 (d3 : Int)))
      (first | go_keep)
      (fail)
    all_goals
      clear c0 c2 n0 n2
      go_wp2_with fail
      go_ret3
      refine ⟨⟨_, 1, 1, rfl, ?_⟩, by first | exact (HBL.out.drew.alloc HBL.out.size _) | exact (HBL.out.alloc HBL.out.size _).drew | exact (HBL.out.alloc HBL.out.size _)⟩
      exact rd_new _ #[.int .u64 (d1 : Int)] _ 1 1 rfl (by decide) _ 1 (by first | rfl | simp) (Nat.le_refl _)

set_option maxRecDepth 100000 in
set_option maxHeartbeats 4000000 in
theorem rdo46_3 (w : World) (sv : Option Addr) (cv : Nat) (l : List Nat) (hr : Rd w 1 (.slice sv l.length cv) l.length (u64s (zsN l))) (hm : l.length < 50000) (hw : W64 l) (M m : Nat) (k : Int) (v : Value) (hM : M ≤ 256) :
    Calls Tryz.prog 9 #[.slice sv l.length cv, .int .i64 3, .int .i64 (M : Int), .int .i64 k, v] w (RDoQ ((rowN l (limH M)).map fun r => ((permL (choD M r.1)).map wrapU, r.2)) w l) := by
  have C := Lib.hid (rtake40_any w _ _ l M hr hm hw hM)
  have hlen : ∀ r, rowN l (limH M) = some r → (permL (choD M r.1)).length ≤ 100000 := fun r hh => by rw [permL_len]; unfold choD; rw [choH_len]; omega
  have HLEN := Lib.hid hlen
  clear hr hw hlen
  generalize rowN l (limH M) = R at *
  have hml : l.length ≤ 50000 := by omega
  go_enter Tryz.func9, Tryz.ntmps9
  go_wp2_with fail
  refine C.out.mono ?_
  rintro e w1 ⟨he, hb⟩
  have HB := Lib.hid hb
  clear hb
  cases R with
  | none =>
    obtain rfl : e = .returned (.tuple #[.slice none 0 0, .slice none 0 0, .int .i64 (l.length : Int), .bool false]) := he
    have C2 := Lib.hid (rnums46_any w1 none 0 0 [] (Rd.nil _ _) (by omega))
    go_wp2_with fail
    refine C2.out.mono ?_
    rintro e w2 ⟨so, co, -, -, hb2, hz⟩
    obtain rfl := hz trivial
    have HB2 := Lib.hid hb2
    clear hb2 hz
    go_wp2_with fail
    go_ret3
    exact ⟨(rfl : _ = _), HB.out.trans (HB2.out.mono HB.out.size)⟩
  | some r =>
    obtain ⟨sp, cp, sd, cd, rfl, hrd, -⟩ := he
    have hl1 := HLEN.out r rfl
    have hl2 := rd_of_row hrd
    have hl3 := hl2.len_i64
    have C2 := Lib.hid (rnums46_any w1 sp _ cp _ hl2 (by rw [hl3]; exact hl1))
    obtain ⟨r1, r2⟩ := r
    have hfin : ∀ so co w2, Rd w2 1 (.slice so M co) M (u64s ((permL (choD M r1)).map wrapU)) → Below w.heap.size w w2 → RDoQ (some (r1, r2) |>.map fun r => ((permL (choD M r.1)).map wrapU, r.2)) w l (.returned (.tuple #[.slice so M co, .int .i64 (r2 : Int), .bool true])) w2 := fun so co w2 h1 h2 => ⟨⟨so, _, co, rfl, h1⟩, h2⟩
    have HFIN := Lib.hid hfin
    clear hrd hl1 hl2 hl3 hfin
    go_wp2_with fail
    refine C2.out.mono ?_
    rintro e w2 ⟨so, co, rfl, ho, hb2, -⟩
    have HO := Lib.hid (rd_of_row ho); have HB2 := Lib.hid hb2
    clear ho hb2
    go_wp2_with fail
    go_ret3
    exact HFIN.out _ _ _ HO.out (HB.out.trans (HB2.out.mono HB.out.size))

set_option maxRecDepth 100000 in
set_option maxHeartbeats 4000000 in
theorem rdo46_4 (w : World) (sv : Option Addr) (cv : Nat) (l : List Nat) (hr : Rd w 1 (.slice sv l.length cv) l.length (u64s (zsN l))) (hm : l.length < 50000) (hw : W64 l) (M m : Nat) (k : Int) (v : Value) (hM : M ≤ 256) (hk : m ≤ M) :
    Calls Tryz.prog 9 #[.slice sv l.length cv, .int .i64 4, .int .i64 (M : Int), .int .i64 (m : Int), v] w (RDoQ ((rowN l (limS M m)).map fun r => ((pickL M (numsI r.1)).map wrapU, r.2)) w l) := by
  have C := Lib.hid (rtake41_any w _ _ l M m hr hm hw hk hM)
  have hlen : ∀ r, rowN l (limS M m) = some r → (pickL M (numsI r.1)).length ≤ 100000 := fun r hh => by have hq := rowN_len hh; rw [limS_len] at hq; unfold pickL; rw [pickR_len, numsI_len]; omega
  have HLEN := Lib.hid hlen
  clear hr hw hlen
  generalize rowN l (limS M m) = R at *
  have hml : l.length ≤ 50000 := by omega
  go_enter Tryz.func9, Tryz.ntmps9
  go_wp2_with fail
  refine C.out.mono ?_
  rintro e w1 ⟨he, hb⟩
  have HB := Lib.hid hb
  clear hb
  cases R with
  | none =>
    obtain rfl : e = .returned (.tuple #[.slice none 0 0, .slice none 0 0, .int .i64 (l.length : Int), .bool false]) := he
    have C2 := Lib.hid (rnums46_any w1 none 0 0 [] (Rd.nil _ _) (by omega))
    go_wp2_with fail
    refine C2.out.mono ?_
    rintro e w2 ⟨so, co, -, -, hb2, hz⟩
    obtain rfl := hz trivial
    have HB2 := Lib.hid hb2
    clear hb2 hz
    go_wp2_with fail
    go_ret3
    exact ⟨(rfl : _ = _), HB.out.trans (HB2.out.mono HB.out.size)⟩
  | some r =>
    obtain ⟨sp, cp, sd, cd, rfl, hrd, -⟩ := he
    have hl1 := HLEN.out r rfl
    have hl2 := hrd
    have hl3 := hl2.len_i64
    have C2 := Lib.hid (rnums46_any w1 sp _ cp _ hl2 (by rw [hl3]; exact hl1))
    obtain ⟨r1, r2⟩ := r
    have hfin : ∀ so co w2, Rd w2 1 (.slice so m co) m (u64s ((pickL M (numsI r1)).map wrapU)) → Below w.heap.size w w2 → RDoQ (some (r1, r2) |>.map fun r => ((pickL M (numsI r.1)).map wrapU, r.2)) w l (.returned (.tuple #[.slice so m co, .int .i64 (r2 : Int), .bool true])) w2 := fun so co w2 h1 h2 => ⟨⟨so, _, co, rfl, h1⟩, h2⟩
    have HFIN := Lib.hid hfin
    clear hrd hl1 hl2 hl3 hfin
    go_wp2_with fail
    refine C2.out.mono ?_
    rintro e w2 ⟨so, co, rfl, ho, hb2, -⟩
    have HO := Lib.hid (rd_of_row ho); have HB2 := Lib.hid hb2
    clear ho hb2
    go_wp2_with fail
    go_ret3
    exact HFIN.out _ _ _ HO.out (HB.out.trans (HB2.out.mono HB.out.size))

set_option maxRecDepth 100000 in
set_option maxHeartbeats 4000000 in
theorem rdo46_5 (w : World) (sv : Option Addr) (cv : Nat) (l : List Nat) (hr : Rd w 1 (.slice sv l.length cv) l.length (u64s (zsN l))) (hm : l.length < 50000) (hw : W64 l) (M m : Nat) (k : Int) (v : Value) (hM : M ≤ 256) (hk : m ≤ M) :
    Calls Tryz.prog 9 #[.slice sv l.length cv, .int .i64 5, .int .i64 (M : Int), .int .i64 (m : Int), v] w (RDoQ ((rowN l (limR M m)).map fun r => ((slotsR m (numsI r.1)).map wrapU, r.2)) w l) := by
  have C := Lib.hid (rtake42_any w _ _ l M m hr hm hw hk hM)
  have hlen : ∀ r, rowN l (limR M m) = some r → (slotsR m (numsI r.1)).length ≤ 100000 := fun r hh => by simp [slotsR]; omega
  have HLEN := Lib.hid hlen
  clear hr hw hlen
  generalize rowN l (limR M m) = R at *
  have hml : l.length ≤ 50000 := by omega
  go_enter Tryz.func9, Tryz.ntmps9
  go_wp2_with fail
  refine C.out.mono ?_
  rintro e w1 ⟨he, hb⟩
  have HB := Lib.hid hb
  clear hb
  cases R with
  | none =>
    obtain rfl : e = .returned (.tuple #[.slice none 0 0, .slice none 0 0, .int .i64 (l.length : Int), .bool false]) := he
    have C2 := Lib.hid (rnums46_any w1 none 0 0 [] (Rd.nil _ _) (by omega))
    go_wp2_with fail
    refine C2.out.mono ?_
    rintro e w2 ⟨so, co, -, -, hb2, hz⟩
    obtain rfl := hz trivial
    have HB2 := Lib.hid hb2
    clear hb2 hz
    go_wp2_with fail
    go_ret3
    exact ⟨(rfl : _ = _), HB.out.trans (HB2.out.mono HB.out.size)⟩
  | some r =>
    obtain ⟨sp, cp, sd, cd, rfl, hrd, -⟩ := he
    have hl1 := HLEN.out r rfl
    have hl2 := hrd
    have hl3 := hl2.len_i64
    have C2 := Lib.hid (rnums46_any w1 sp _ cp _ hl2 (by rw [hl3]; exact hl1))
    obtain ⟨r1, r2⟩ := r
    have hfin : ∀ so co w2, Rd w2 1 (.slice so m co) m (u64s ((slotsR m (numsI r1)).map wrapU)) → Below w.heap.size w w2 → RDoQ (some (r1, r2) |>.map fun r => ((slotsR m (numsI r.1)).map wrapU, r.2)) w l (.returned (.tuple #[.slice so m co, .int .i64 (r2 : Int), .bool true])) w2 := fun so co w2 h1 h2 => ⟨⟨so, _, co, rfl, h1⟩, h2⟩
    have HFIN := Lib.hid hfin
    clear hrd hl1 hl2 hl3 hfin
    go_wp2_with fail
    refine C2.out.mono ?_
    rintro e w2 ⟨so, co, rfl, ho, hb2, -⟩
    have HO := Lib.hid (rd_of_row ho); have HB2 := Lib.hid hb2
    clear ho hb2
    go_wp2_with fail
    go_ret3
    exact HFIN.out _ _ _ HO.out (HB.out.trans (HB2.out.mono HB.out.size))

set_option maxRecDepth 100000 in
set_option maxHeartbeats 4000000 in
theorem rdo46_6 (w : World) (sv : Option Addr) (cv : Nat) (l : List Nat) (hr : Rd w 1 (.slice sv l.length cv) l.length (u64s (zsN l))) (hm : l.length < 50000) (hw : W64 l) (N k : Int) (sa : Option Addr) (n cap : Nat) (ws : List Nat) (h : Rd w 1 (.slice sa n cap) n (u64s (zsN ws))) (h0 : aliE ws = 0) :
    Calls Tryz.prog 9 #[.slice sv l.length cv, .int .i64 6, .int .i64 N, .int .i64 k, .slice sa n cap] w (RDoQ ((rowN l [n, ws.sum]).map fun r => ([telA (aliF ws).bl (aliF ws).al (r.1.getD 0 dwZ).1 (r.1.getD 1 dwZ).1].map wrapU, r.2)) w l) := by
  have hln : ws.length = n := by have := h.len_u64; rw [zsN_len] at this; exact this.symm
  have hg := aliF_right h0
  rw [hln] at hg
  have C := Lib.hid (build43_any w sa n cap ws h h0)
  have HR := Lib.hid hr; have HW := Lib.hid hw; have HG := Lib.hid hg; have HLN := Lib.hid hln
  obtain ⟨S, hS⟩ : ∃ S, S = ws.sum := ⟨_, rfl⟩
  rw [← hS] at HG ⊢
  obtain ⟨R, hR⟩ : ∃ R, R = rowN l [n, S] := ⟨_, rfl⟩
  rw [← hR]
  have HS := Lib.hid hS; have HRR := Lib.hid hR
  have hml : l.length ≤ 50000 := by omega
  clear h h0 hr hw hg hln hS hR
  go_enter Tryz.func9, Tryz.ntmps9
  go_wp2_with fail
  refine C.out.mono ?_
  rintro e w1 ⟨bv, av, rfl, hb, ha, hbl⟩
  rw [HLN.out] at hb ha
  obtain ⟨sb, cb, rfl⟩ := (rd_of_row hb).form
  obtain ⟨sl, cl, rfl⟩ := (rd_of_row ha).form
  have D := rtake43_any w1 sv cv S n l sb sl cb cl _ _ (HR.out.below hbl) hm HW.out (rd_of_row hb) (rd_of_row ha) HG.out
  rw [← HS.out]
  rw [← HRR.out] at D
  have HBL := Lib.hid hbl; have HD := Lib.hid D
  clear hb ha hbl D C HRR
  go_wp2_with fail
  refine HD.out.mono ?_
  rintro e w2 ⟨he, hb2⟩
  have HB2 := Lib.hid (HBL.out.trans (hb2.mono HBL.out.size))
  clear hb2
  cases R with
  | none =>
    obtain rfl : e = .returned (.tuple #[.int .i64 0, .slice none 0 0, .int .i64 (l.length : Int), .bool false]) := he
    go_wp2_with fail
    go_ret3
    exact ⟨(rfl : _ = _), HB2.out⟩
  | some r =>
    obtain ⟨sd, cd, rfl⟩ := he
    obtain ⟨t, ht⟩ : ∃ t, t = telA (aliF ws).bl (aliF ws).al (r.1.getD 0 dwZ).1 (r.1.getD 1 dwZ).1 := ⟨_, rfl⟩
    rw [← ht]
    obtain ⟨y, hy⟩ : ∃ y, y = wrapU t := ⟨_, rfl⟩
    have e1 : IntKind.u64.wrap t = y := hy.symm
    have hfin : ∀ sp w2, Rd w2 1 (.slice sp 1 1) 1 (u64s [y]) → Below w.heap.size w w2 → RDoQ ((some r).map fun r => ([telA (aliF ws).bl (aliF ws).al (r.1.getD 0 dwZ).1 (r.1.getD 1 dwZ).1].map wrapU, r.2)) w l (.returned (.tuple #[.slice sp 1 1, .int .i64 (r.2 : Int), .bool true])) w2 := fun sp w2 h1 h2 => by
      refine ⟨⟨sp, 1, 1, rfl, ?_⟩, h2⟩
      show Rd w2 1 _ 1 (u64s [wrapU (telA (aliF ws).bl (aliF ws).al (r.1.getD 0 dwZ).1 (r.1.getD 1 dwZ).1)])
      rw [← ht, ← hy]; exact h1
    have HFIN := Lib.hid hfin
    clear ht hy hfin
    go_wp2_with fail
    go_ret3
    exact HFIN.out _ _ (rd_new _ #[.int .u64 y] _ 1 1 rfl (by decide) _ 1 (by first | rfl | simp) (Nat.le_refl _)) (HB2.out.alloc HB2.out.size _)

theorem numsI_pos (ds : List Drw) : ∀ i, i < (numsI ds).length → 0 ≤ (numsI ds).getD i 0 := fun i hi => by
  rw [numsI_len] at hi
  simp only [numsI, List.getD_eq_getElem?_getD, List.getElem?_map, List.getElem?_eq_getElem hi, Option.map_some, Option.getD_some]
  omega

theorem rdo46_any (w : World) (sv : Option Addr) (cv : Nat) (l : List Nat) (hr : Rd w 1 (.slice sv l.length cv) l.length (u64s (zsN l))) (hm : l.length < 50000) (hwl : W64 l) (K N k : Int) (sa : Option Addr) (n cap : Nat) (ws : List Nat) (h : Rd w 1 (.slice sa n cap) n (u64s (zsN ws))) (hw : W64 ws) (h0 : askE K N k ws = 0) :
    Calls Tryz.prog 9 #[.slice sv l.length cv, .int .i64 K, .int .i64 N, .int .i64 k, .slice sa n cap] w (RDoQ (askD l K N k ws) w l) := by
  have hln : ws.length = n := by have := h.len_u64; rw [zsN_len] at this; exact this.symm
  by_cases h12 : K = 1 ∨ K = 2
  · have h1 : ws.length = 1 := by
      by_cases hh : ws.length = 1
      · exact hh
      · simp [askE, h12, hh] at h0
    obtain rfl : n = 1 := by omega
    obtain ⟨x, rfl⟩ := List.length_eq_one_iff.1 h1
    have hx : 0 < x := by
      rcases Nat.eq_zero_or_pos x with hh | hh
      · subst hh; simp [askE, h12] at h0
      · exact hh
    have hx2 : x < 2 ^ 64 := hw x (List.mem_singleton.2 rfl)
    rcases h12 with rfl | rfl
    · have e : askD l 1 N k [x] = (takeN x 0 l).map fun d => ([(d.1 : Int)], d.2.2) := by simp [askD]
      rw [e]; exact rdo46_1 w sv cv l hr hm hwl N k sa cap x h hx hx2
    · have e : askD l 2 N k [x] = (takeM x 0 l).map fun d => ([(d.1 : Int)], d.2.2) := by simp [askD]
      rw [e]; exact rdo46_2 w sv cv l hr hm hwl N k sa cap x h hx hx2
  by_cases h3 : K = 3
  · subst h3
    have hE : askE 3 N k ws = resChk N 0 := by simp [askE]
    rw [hE] at h0
    obtain ⟨a, b, c, d⟩ := resChk_zero.1 h0
    obtain ⟨M, rfl⟩ : ∃ M : Nat, N = (M : Int) := ⟨N.toNat, by omega⟩
    have hD : askD l 3 M k ws = (rowN l (limH M)).map fun r => ((permL (choD M r.1)).map wrapU, r.2) := by simp [askD]
    rw [hD]; exact rdo46_3 w sv cv l hr hm hwl M 0 k _ (by omega)
  by_cases h4 : K = 4
  · subst h4
    have hE : askE 4 N k ws = resChk N k := by simp [askE]
    rw [hE] at h0
    obtain ⟨a, b, c, d⟩ := resChk_zero.1 h0
    obtain ⟨M, rfl⟩ : ∃ M : Nat, N = (M : Int) := ⟨N.toNat, by omega⟩
    obtain ⟨m, rfl⟩ : ∃ m : Nat, k = (m : Int) := ⟨k.toNat, by omega⟩
    have hD : askD l 4 M m ws = (rowN l (limS M m)).map fun r => ((pickL M (numsI r.1)).map wrapU, r.2) := by simp [askD]
    rw [hD]; exact rdo46_4 w sv cv l hr hm hwl M m 0 _ (by omega) (by omega)
  by_cases h5 : K = 5
  · subst h5
    have hE : askE 5 N k ws = resChk N k := by simp [askE]
    rw [hE] at h0
    obtain ⟨a, b, c, d⟩ := resChk_zero.1 h0
    obtain ⟨M, rfl⟩ : ∃ M : Nat, N = (M : Int) := ⟨N.toNat, by omega⟩
    obtain ⟨m, rfl⟩ : ∃ m : Nat, k = (m : Int) := ⟨k.toNat, by omega⟩
    have hD : askD l 5 M m ws = (rowN l (limR M m)).map fun r => ((slotsR m (numsI r.1)).map wrapU, r.2) := by
      have e : ∀ r : List Drw × Nat, slotsR m (numsI r.1) = slotsL m (numsI r.1) := fun r => (slotsL_eq m _ (numsI_pos r.1)).symm
      simp [askD, e]
    rw [hD]; exact rdo46_5 w sv cv l hr hm hwl M m 0 _ (by omega) (by omega)
  by_cases h6 : K = 6
  · subst h6
    have hE : askE 6 N k ws = aliE ws := by simp [askE]
    rw [hE] at h0
    have hD : askD l 6 N k ws = (rowN l [n, ws.sum]).map fun r => ([telA (aliF ws).bl (aliF ws).al (r.1.getD 0 dwZ).1 (r.1.getD 1 dwZ).1].map wrapU, r.2) := by simp [askD, hln]
    rw [hD]; exact rdo46_6 w sv cv l hr hm hwl N k sa n cap ws h h0
  · exfalso
    simp [askE, h12, h3, h4, h5, h6] at h0

end Go.Proofs.YtcoohepkmhpdkaaGreat
