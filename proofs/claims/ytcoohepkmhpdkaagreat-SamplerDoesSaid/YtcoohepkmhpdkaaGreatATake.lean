/-
  The alias table that Build makes: it is right; alias.Check, Tell.
  alias.Take: two draws from a tape, and the item that they tell.
-/
import Derived.Test.YtcoohepkmhpdkaaGreatAli4
import Derived.Test.YtcoohepkmhpdkaaGreatRt
import Derived.Test.YtcoohepkmhpdkaaGreatTake
import Derived.Deep.RegionHeld3
import Derived.Test.YtcoohepkmhpdkaaGreatSTake
import Derived.Laws.EntriesVeiled
namespace Go.Proofs.YtcoohepkmhpdkaaGreat
open Go.RowKit
set_option linter.unusedVariables false
set_option linter.unusedSimpArgs false

theorem run_inv {T n B : Nat} : ∀ (k : Nat) {s : StA}, InvA T n B s → InvA T n B (runA T k s)
  | 0, s, h => h
  | k + 1, s, h => by
    unfold runA
    cases hl : lessA T s with
    | none => exact h
    | some j =>
      cases hm : moreA T s with
      | none => exact h
      | some g => exact run_inv k (h.next hl hm).1
theorem run_le {T : Nat} : ∀ (k : Nat) {s : StA}, (∀ x ∈ s.bl, x ≤ T) → ∀ x ∈ (runA T k s).bl, x ≤ T
  | 0, s, h => h
  | k + 1, s, h => by
    unfold runA
    cases hl : lessA T s with
    | none => exact h
    | some j =>
      cases hm : moreA T s with
      | none => exact h
      | some g =>
        refine run_le k (fun x hx => ?_)
        obtain ⟨-, b, -⟩ := (fst_spec (hitA (fun x => decide (x < T)) s) s.dn.length).1 j hl
        have h3 : s.has.getD j 0 < T := by simpa using (hit_iff.1 b).2
        rcases List.mem_or_eq_of_mem_set (show x ∈ s.bl.set j (s.has.getD j 0) from hx) with h1 | h1
        · exact h x h1
        · omega

/-- a table that may be -/
structure TabG (T n : Nat) (bl : List Nat) (al : List Int) : Prop where
  n1 : 1 ≤ n
  n2 : n ≤ 256
  t1 : 0 < T
  t2 : T ≤ 1099511627776
  lb : bl.length = n
  la : al.length = n
  bb : ∀ i, i < n → bl.getD i 0 ≤ T
  ba : ∀ i, i < n → 0 ≤ al.getD i 0 ∧ al.getD i 0 < (n : Int)

theorem aliF_right {ws : List Nat} (hE : aliE ws = 0) : TabG ws.sum ws.length (aliF ws).bl (aliF ws).al := by
  obtain ⟨o1, o2, o3, o4⟩ := aliE_ok hE
  have bS : ws.sum ≤ 1099511627776 := by
    have := sum_bound o2 o3 ws.length
    rwa [List.take_length] at this
  obtain ⟨hi0, hc0⟩ := start_inv ws 1099511627776 (fun i hi => by
    have h5 := o3 _ (List.getElem_mem hi)
    rw [List.getD_eq_getElem?_getD, List.getElem?_eq_getElem hi]
    exact Nat.le_trans (Nat.mul_le_mul o2 h5) (by decide)) bS
  have hi := run_inv (T := ws.sum) ws.length hi0
  have hl := run_le (T := ws.sum) ws.length (s := startA ws) (fun x hx => by
    have := List.eq_of_mem_replicate (show x ∈ List.replicate ws.length ws.sum from hx)
    omega)
  refine ⟨o1, o2, o4, bS, hi.lb, hi.la, fun i hin => ?_, hi.ba⟩
  have hin' : i < (aliF ws).bl.length := by
    have h1 : (aliF ws).bl.length = ws.length := hi.lb
    omega
  rw [List.getD_eq_getElem?_getD, List.getElem?_eq_getElem hin']
  exact hl _ (List.getElem_mem hin')

/-- what a column and a number tell -/
def telA (bl : List Nat) (al : List Int) (c u : Nat) : Int := if u < bl.getD c 0 then (c : Int) else al.getD c 0

set_option maxRecDepth 100000 in
set_option maxHeartbeats 4000000 in
theorem acheck_ok (w : World) (T n : Nat) (sb sl : Option Addr) (cb cl : Nat) (bl : List Nat) (al : List Int) (hb : Rd w 1 (.slice sb n cb) n (u64s (zsN bl))) (ha : Rd w 1 (.slice sl n cl) n (i64s al)) (g : TabG T n bl al) :
    Calls Tryz.prog 135 #[.agg #[.int .u64 (T : Int), .slice sb n cb, .slice sl n cl]] w fun e w' => e = .returned (.int .i64 0) ∧ Below w.heap.size w w' := by
  have n1 := g.n1
  have n2 := g.n2
  have t1 := g.t1
  have t2 := g.t2
  have HG := Lib.hid g
  have HB := Lib.hid (hb.below ((Below.refl w.heap.size w).alloc (Nat.le_refl _) (.cells #[.int .u64 (T : Int), .slice sb n cb, .slice sl n cl] 73)))
  have HA := Lib.hid (ha.below ((Below.refl w.heap.size w).alloc (Nat.le_refl _) (.cells #[.int .u64 (T : Int), .slice sb n cb, .slice sl n cl] 73)))
  have q1 : ((n : Int) != (n : Int)) = false := by simp
  have q2 : ((T : Int) == 0) = false := by simp; omega
  have q3 : ¬ (1099511627776 : Int) < (T : Int) := by omega
  clear g hb ha
  obtain ⟨W, hW⟩ : ∃ W, W = w.alloc (.cells #[.int .u64 (T : Int), .slice sb n cb, .slice sl n cl] 73) := ⟨_, rfl⟩
  have HBL := Lib.hid (show Below w.heap.size w W by rw [hW]; exact (Below.refl _ _).alloc (Nat.le_refl _) _)
  have hblk : W.heap[w.heap.size]? = some (.cells #[.int .u64 (T : Int), .slice sb n cb, .slice sl n cl] 73 (0, 0)) := by rw [hW]; exact heap_at rfl
  go_enter Tryz.func135, Tryz.ntmps135
  rw [← hW] at HB HA
  go_upto_region 2 with fail
  rw [← hW]
  have c0 : W.cell? ⟨w.heap.size, 0, none⟩ = some (.int .u64 (T : Int)) := cell_of hblk 0 rfl
  have c1 : W.cell? ⟨w.heap.size, 1, none⟩ = some (.slice sb n cb) := cell_of hblk 1 rfl
  have c2 : W.cell? ⟨w.heap.size, 2, none⟩ = some (.slice sl n cl) := cell_of hblk 2 rfl
  clear hW hblk
  go_wp2
  go_loop [36] (fun i => ∃ k : Nat, k ≤ n ∧ i = .int .i64 (k : Int)) (fun i => n - (intOf i).toNat)
  case atStart => exact ⟨0, Nat.zero_le _, rfl⟩
  case round =>
    obtain ⟨k, hk, rfl⟩ := hrel
    by_cases hlt : k < n
    · obtain ⟨b0, o0, rfl, hc0⟩ := HB.out.at (by omega)
      have x0 := hc0 k _ (u64s_at (zsN bl) k (by rw [zsN_len, HG.out.lb]; exact hlt))
      rw [zsN_get] at x0
      have hx := HG.out.bb k hlt
      generalize bl.getD k 0 = x at *
      have hx' : ¬ (T : Int) < (x : Int) := by omega
      clear hc0
      go_wp2
      go_round
      case rel => exact ⟨k + 1, by omega, by go_num⟩
      case measure => simp [intOf]; omega
    · obtain rfl : k = n := by omega
      go_wp2
      go_loop [48] (fun i => ∃ j : Nat, j ≤ k ∧ i = .int .i64 (j : Int)) (fun i => k - (intOf i).toNat)
      case atStart => exact ⟨0, Nat.zero_le _, rfl⟩
      case round =>
        obtain ⟨j, hj, rfl⟩ := hrel
        by_cases hlt2 : j < k
        · obtain ⟨b0, o0, rfl, hc0⟩ := HA.out.at (by omega)
          have x0 := hc0 j _ (i64s_at al j (by rw [HG.out.la]; exact hlt2))
          obtain ⟨h1, h2⟩ := HG.out.ba j hlt2
          generalize al.getD j 0 = x at *
          have h1' : ¬ x < 0 := by omega
          have h2' : ¬ (k : Int) ≤ x := by omega
          clear hc0
          go_wp2
          go_round
          case rel => exact ⟨j + 1, by omega, by go_num⟩
          case measure => simp [intOf]; omega
        · obtain rfl : j = k := by omega
          go_wp2
          go_ret
          exact ⟨rfl, HBL.out⟩

set_option maxRecDepth 100000 in
set_option maxHeartbeats 4000000 in
theorem atell_ok (w : World) (T n c u : Nat) (sb sl : Option Addr) (cb cl : Nat) (bl : List Nat) (al : List Int) (hb : Rd w 1 (.slice sb n cb) n (u64s (zsN bl))) (ha : Rd w 1 (.slice sl n cl) n (i64s al)) (g : TabG T n bl al) (hc : c < n) (hu : u < T) :
    Calls Tryz.prog 136 #[.agg #[.int .u64 (T : Int), .slice sb n cb, .slice sl n cl], .int .u64 (c : Int), .int .u64 (u : Int)] w fun e w' => e = .returned (.tuple #[.int .i64 (telA bl al c u), .int .i64 0]) ∧ Below w.heap.size w w' := by
  have n2 := g.n2
  have t2 := g.t2
  have C := Lib.hid (fun w1 (h1 : Below w.heap.size w w1) => acheck_ok w1 T n sb sl cb cl bl al (hb.below h1) (ha.below h1) g)
  have HB := Lib.hid hb; have HA := Lib.hid ha; have HG := Lib.hid g
  have u1 : IntKind.u64.wrap (n : Int) = (n : Int) := by rw [IntKind.wrap_u64]; omega
  have u2 : IntKind.i64.wrap (c : Int) = (c : Int) := by rw [IntKind.wrap_i64]; omega
  have q1 : ¬ (n : Int) ≤ (c : Int) := by omega
  have q2 : ¬ (T : Int) ≤ (u : Int) := by omega
  clear hb ha g
  go_enter Tryz.func136, Tryz.ntmps136
  go_wp2_with fail
  refine (C.out _ ((Below.refl _ _).alloc (Nat.le_refl _) _)).mono ?_
  rintro e W ⟨rfl, hb1⟩
  have hblk : W.heap[w.heap.size]? = some (.cells #[.int .u64 (T : Int), .slice sb n cb, .slice sl n cl] 73 (0, 0)) := (hb1.block _ (by simp)).trans (heap_at rfl)
  have hbl : Below w.heap.size w W := ((Below.refl w.heap.size w).alloc (Nat.le_refl _) (.cells #[.int .u64 (T : Int), .slice sb n cb, .slice sl n cl] 73)).trans (hb1.mono (by simp))
  have c0 : W.cell? ⟨w.heap.size, 0, none⟩ = some (.int .u64 (T : Int)) := cell_of hblk 0 rfl
  have c1 : W.cell? ⟨w.heap.size, 1, none⟩ = some (.slice sb n cb) := cell_of hblk 1 rfl
  have c2 : W.cell? ⟨w.heap.size, 2, none⟩ = some (.slice sl n cl) := cell_of hblk 2 rfl
  obtain ⟨b0, o0, rfl, hc0⟩ := (HB.out.below hbl).at (by omega)
  obtain ⟨b1, o1, rfl, hc1⟩ := (HA.out.below hbl).at (by omega)
  have x0 := hc0 c _ (u64s_at (zsN bl) c (by rw [zsN_len, HG.out.lb]; exact hc))
  rw [zsN_get] at x0
  have x1 := hc1 c _ (i64s_at al c (by rw [HG.out.la]; exact hc))
  have ht : telA bl al c u = if u < bl.getD c 0 then (c : Int) else al.getD c 0 := rfl
  generalize bl.getD c 0 = x at *
  generalize al.getD c 0 = y at *
  have HBL := Lib.hid hbl
  have q3 : (0 : Int) ≤ (c : Int) := by omega
  have q4 : (c : Int) < (n : Int) := by omega
  by_cases hlt : u < x
  · rw [if_pos hlt] at ht
    have HT := Lib.hid ht
    have q5 : (u : Int) < (x : Int) := by omega
    clear hb1 hblk hbl hc0 hc1 ht hlt hc hu
    go_wp2_with fail
    go_ret2
    refine ⟨?_, HBL.out⟩
    rw [HT.out]
    rfl
  · rw [if_neg hlt] at ht
    have HT := Lib.hid ht
    have q5 : ¬ (u : Int) < (x : Int) := by omega
    clear hb1 hblk hbl hc0 hc1 ht hlt hc hu
    go_wp2_with fail
    go_ret2
    refine ⟨?_, HBL.out⟩
    rw [HT.out]
    rfl

theorem own_blkA {w : World} {B : Nat} {e : TypeId} {sz n : Nat} {v : Value} {xs : List Value} (h : w.ownsRow B e sz v n xs) {g : Nat} (hg : v.ownBlock = some g) : ∃ cs, w.heap[g]? = some (.cells cs e (0, 0)) := by
  rcases h.2 with ⟨rfl, -⟩ | ⟨g', cap, cur, rfl, -, hh, -⟩
  · cases hg
  · cases hg; exact ⟨cur, hh⟩
/-- what lies between two draws for a table: the tape, the draws, the table's box, the limits -/
structure MidA (W wr : World) (B b : Nat) (wv tv0 tv : Value) (l : List Int) (used : Nat) (vd : Value) (acc : List Drw) (T n gl : Nat) (bv av : Value) : Prop where
  tape : TapeAt wr B b wv tv l used
  fresh : ∀ g, tv.ownBlock = some g → tv0.ownBlock = some g ∨ W.heap.size ≤ g
  chg : Chg (tapeBlocks b tv0) W wr
  ds : wr.ownsRow W.heap.size 65 3 vd acc.length (dwC acc)
  box : wr.heap[W.heap.size]? = some (.cells #[.int .u64 (T : Int), bv, av] 73 (0, 0))
  lim : wr.heap[gl]? = some (.cells #[.int .u64 (n : Int), .int .u64 (T : Int)] 48 (0, 0))
  ln : tv.ownBlock ≠ some gl
  lb : W.heap.size ≤ gl
  bl : b < W.heap.size
  tl : ∀ g, tv0.ownBlock = some g → g < W.heap.size

section
variable {W wr w' : World} {B b : Nat} {wv tv0 tv vd vd' : Value} {l : List Int} {used k T n gl : Nat} {acc : List Drw} {bv av : Value}
theorem MidA.start (h : TapeAt W B b wv tv l k) (hb : Below W.heap.size W wr) (box : wr.heap[W.heap.size]? = some (.cells #[.int .u64 (T : Int), bv, av] 73 (0, 0))) (lim : wr.heap[gl]? = some (.cells #[.int .u64 (n : Int), .int .u64 (T : Int)] 48 (0, 0))) (lb : W.heap.size ≤ gl) :
    MidA W wr B b wv tv tv l k (.slice none 0 0) [] T n gl bv av :=
  ⟨h.below hb, fun g hg => .inl hg, Chg.of_below hb, World.ownsRow_nil _ _ _ _, box, lim, fun hx => by have := (h.2.2.2.2.1.lt _ hx).2; omega, lb, block_lt h.2.2.1, fun g hg => (h.2.2.2.2.1.lt g hg).2⟩
theorem MidA.drawn (h : MidA W wr B b wv tv0 tv l used vd acc T n gl bv av) (ht : TapeTo wr w' B b wv tv l k wr.heap.size) : ∃ tv2, MidA W w' B b wv tv0 tv2 l k vd acc T n gl bv av := by
  obtain ⟨⟨tv2, h1, h2⟩, hc⟩ := ht
  have hb := h.bl
  have hn : ∀ g, W.heap.size ≤ g → (∀ h : tv.ownBlock = some g, False) → ¬ tapeBlocks b tv g := fun g h1 h2 hx => by
    rcases hx with rfl | hx
    · omega
    · exact h2 hx
  have htr := h.tape.2.2.2.2.1
  refine ⟨tv2, h1, fun g hg => ?_, h.chg.trans' hc fun i hi hlt => ?_, row_chg h.ds hc fun g hg => hn g (h.ds.lt g hg).1 fun hx => row_ne_row h.ds htr (by decide) hg hx, (hc.block _ (block_lt h.box) (hn _ (Nat.le_refl _) fun hx => ?_)).trans h.box, (hc.block _ (block_lt h.lim) (hn _ h.lb h.ln)).trans h.lim, fun hx => ?_, h.lb, hb, h.tl⟩
  · rcases h2 g hg with h3 | h3
    · exact h.fresh g h3
    · exact .inr (Nat.le_trans h.chg.size h3)
  · rcases hi with rfl | hi
    · exact .inl rfl
    · rcases h.fresh i hi with h3 | h3
      · exact .inr h3
      · omega
  · obtain ⟨cs, h1⟩ := own_blkA htr hx
    exact blk_neA h.box h1 (by decide) rfl
  · rcases h2 _ hx with h3 | h3
    · exact h.ln h3
    · have := block_lt h.lim; omega
theorem MidA.more (h : MidA W wr B b wv tv0 tv l used vd acc T n gl bv av) {d : Drw} {j : Nat} (hj : acc.length = j) (ho : w'.ownsRow W.heap.size 65 3 vd' (j + 1) (dwC acc ++ [.int .u64 (d.1 : Int), .int .u64 (d.2.1 : Int), .int .i64 (d.2.2 : Int)])) (hc : Chg (fun k => vd.ownBlock = some k) wr w') :
    MidA W w' B b wv tv0 tv l used vd' (acc ++ [d]) T n gl bv av := by
  subst hj
  have hb := h.bl
  rw [← dwC_snoc] at ho
  rw [show acc.length + 1 = (acc ++ [d]).length by simp] at ho
  refine ⟨h.tape.chg hc (fun hx => ?_) (fun g hg hx => row_ne_row h.tape.2.2.2.1 h.ds (by decide) hg hx) (fun g hg hx => row_ne_row h.tape.2.2.2.2.1 h.ds (by decide) hg hx), h.fresh, h.chg.trans' hc fun i hi hlt => ?_, ho, (hc.block _ (block_lt h.box) fun hx => ?_).trans h.box, (hc.block _ (block_lt h.lim) fun hx => ?_).trans h.lim, h.ln, h.lb, hb, h.tl⟩
  · have := (h.ds.lt _ hx).1; omega
  · have := (h.ds.lt _ hi).1; omega
  · obtain ⟨cs, h1⟩ := own_blkA h.ds hx
    exact blk_neA h.box h1 (by decide) rfl
  · obtain ⟨cs, h1⟩ := own_blkA h.ds hx
    exact blk_neA h.lim h1 (by decide) rfl
theorem MidA.alloc (h : MidA W wr B b wv tv0 tv l used vd acc T n gl bv av) (o : Obj) : MidA W (wr.alloc o) B b wv tv0 tv l used vd acc T n gl bv av :=
  ⟨h.tape.below ((Below.refl _ _).alloc (Nat.le_refl _) _), h.fresh, h.chg.alloc _, h.ds.alloc _, heap_up h.box, heap_up h.lim, h.ln, h.lb, h.bl, h.tl⟩
theorem MidA.to (h : MidA W wr B b wv tv0 tv l used vd acc T n gl bv av) : TapeTo W wr B b wv tv0 l used W.heap.size := ⟨⟨tv, h.tape, h.fresh⟩, h.chg⟩
end

end Go.Proofs.YtcoohepkmhpdkaaGreat

namespace Go.Proofs.YtcoohepkmhpdkaaGreat
open Go.RowKit
set_option linter.unusedVariables false
set_option linter.unusedSimpArgs false

/-- what alias.Take answers -/
def ATkQ (W : World) (B b : Nat) (wv tv : Value) (l : List Nat) (T n : Nat) (bl : List Nat) (al : List Int) (R : Option (List Drw × Nat)) (e : Ending) (w' : World) : Prop :=
  TkE R (fun r => (∃ sd cd, e = .returned (.tuple #[.int .i64 (telA bl al (r.1.getD 0 dwZ).1 (r.1.getD 1 dwZ).1), .slice sd 2 cd, .int .i64 0])) ∧ TapeTo W w' B b wv tv (zsN l) r.2 W.heap.size)
    (e = .returned (.tuple #[.int .i64 0, .slice none 0 0, .int .i64 7]) ∧ TapeTo W w' B b wv tv (zsN l) l.length W.heap.size)

set_option maxRecDepth 100000 in
set_option maxHeartbeats 8000000 in
theorem atake_any (W : World) (B b B1 : Nat) (wv tv : Value) (l : List Nat) (k0 T n : Nat) (sb sl : Option Addr) (cb cl : Nat) (bl : List Nat) (al : List Int) (ht : TapeAt W B b wv tv (zsN l) k0) (hl : l.length < 50000) (hw : W64 l) (g : TabG T n bl al)
    (hrb : W.ownsRow B1 48 1 (.slice sb n cb) n (u64s (zsN bl))) (hra : W.ownsRow B1 3 1 (.slice sl n cl) n (i64s al)) (nb : ∀ g, (Value.slice sb n cb).ownBlock = some g → ¬ tapeBlocks b tv g) (na : ∀ g, (Value.slice sl n cl).ownBlock = some g → ¬ tapeBlocks b tv g) :
    Calls Tryz.prog 101 #[.pointer (some ⟨b, 0, none⟩), .agg #[.int .u64 (T : Int), .slice sb n cb, .slice sl n cl]] W (ATkQ W B b wv tv l T n bl al (rowA l [n, T] [] k0)) := by
  have C := Lib.hid (fun w1 (h1 : Below W.heap.size W w1) => acheck_ok w1 T n sb sl cb cl bl al ((rd_of_row hrb).below h1) ((rd_of_row hra).below h1) g)
  have hns : Lims [n, T] := by
    intro x hx
    have := g.n1; have := g.n2; have := g.t1; have := g.t2
    rw [p64]
    rcases List.mem_cons.1 hx with rfl | hx
    · omega
    · have := List.mem_singleton.1 hx
      omega
  obtain ⟨R, hR⟩ : ∃ R, R = rowA l [n, T] [] k0 := ⟨_, rfl⟩
  rw [← hR]
  have n2 := g.n2
  have u1 : IntKind.u64.wrap (n : Int) = (n : Int) := by rw [IntKind.wrap_u64]; omega
  have HT := Lib.hid ht; have HW := Lib.hid hw; have HG := Lib.hid g; have HRB := Lib.hid hrb; have HRA := Lib.hid hra; have HNB := Lib.hid nb; have HNA := Lib.hid na; have HR0 := Lib.hid hR; have HNS := Lib.hid hns
  clear ht hw g hrb hra nb na hR hns
  go_enter Tryz.func101, Tryz.ntmps101
  go_wp2_with fail
  refine (C.out _ ((Below.refl _ _).alloc (Nat.le_refl _) _)).mono ?_
  rintro e w1 ⟨rfl, hb1⟩
  have hbox : w1.heap[W.heap.size]? = some (.cells #[.int .u64 (T : Int), .slice sb n cb, .slice sl n cl] 73 (0, 0)) := (hb1.block _ (by simp)).trans (heap_at rfl)
  have hbl : Below W.heap.size W w1 := ((Below.refl W.heap.size W).alloc (Nat.le_refl _) (.cells #[.int .u64 (T : Int), .slice sb n cb, .slice sl n cl] 73)).trans (hb1.mono (by simp))
  have c0 : w1.cell? ⟨W.heap.size, 0, none⟩ = some (.int .u64 (T : Int)) := cell_of hbox 0 rfl
  have c1 : w1.cell? ⟨W.heap.size, 1, none⟩ = some (.slice sb n cb) := cell_of hbox 1 rfl
  have hm0 : MidA W (w1.alloc (.cells #[.int .u64 (n : Int), .int .u64 (T : Int)] 48)) B b wv tv tv (zsN l) k0 (.slice none 0 0) [] T n w1.heap.size (.slice sb n cb) (.slice sl n cl) :=
    MidA.start HT.out (hbl.alloc hbl.size _) (heap_up hbox) (heap_at rfl) hbl.size
  obtain ⟨gl, hgl⟩ : ∃ gl, gl = w1.heap.size := ⟨_, rfl⟩
  have HM0 := Lib.hid hm0
  rw [← hgl] at HM0
  clear hb1 hbox hbl hm0 C
  go_wp2_with fail
  rw [← hgl]
  clear hgl c0 c1
  go_loopw [8, 28] (fun s8 i wr => ∃ (j used : Nat) (acc : List Drw) (tv2 : Value) (sd : Option Addr) (cd : Nat), j ≤ 2 ∧ i = .int .i64 (j : Int) ∧ s8 = .slice sd j cd ∧ Hid (acc.length = j) ∧ Hid (MidA W wr B b wv tv tv2 (zsN l) used (.slice sd j cd) acc T n gl (.slice sb n cb) (.slice sl n cl)) ∧ Hid (R = rowA l ([n, T].drop j) acc used)) (fun _ i _ => 2 - (intOf i).toNat)
  case atStart => exact ⟨0, k0, [], tv, none, 0, by omega, rfl, rfl, Lib.hid rfl, HM0, HR0⟩
  case round =>
    obtain ⟨j, used, acc, tv2, sd, cd, hj, rfl, rfl, HA, HM, HRj⟩ := hrel
    clear HM0
    by_cases hlt : j < 2
    · have hst := rowA_step (l := l) (ns := [n, T]) (i := j) hlt acc used
      obtain ⟨hp, hp2⟩ := HNS.out.at (i := j) hlt
      have x0 : wr.cell? ⟨gl, j, none⟩ = some (.int .u64 (([n, T].getD j 0 : Nat) : Int)) := by
        rcases (show j = 0 ∨ j = 1 by omega) with rfl | rfl
        · exact cell_of HM.out.lim 0 rfl
        · exact cell_of HM.out.lim 1 rfl
      generalize [n, T].getD j 0 = m at *
      have hT := ltake_any wr B b wv tv2 l used m HM.out.tape hl HW.out hp hp2
      have HST := Lib.hid hst; have HTK := Lib.hid hT
      clear hst hT hp hp2
      go_wp2_with fail
      cases htk : takeN m 0 (l.drop used) with
      | none =>
        have hT := HTK.out
        rw [htk] at hT
        refine hT.mono ?_
        rintro e w2 ⟨rfl, ht1⟩
        have hE : R = none := by rw [HRj.out, HST.out, htk]
        obtain ⟨tv3, hm3⟩ := HM.out.drawn ht1
        have HM3 := Lib.hid hm3; have HE := Lib.hid hE
        clear hm3 hE ht1 hT htk
        go_wp2_with fail
        go_ret3
        unfold ATkQ
        rw [HE.out]
        exact ⟨rfl, (HM3.out.alloc _).to⟩
      | some d =>
        have hT := HTK.out
        rw [htk] at hT
        refine hT.mono ?_
        rintro e w2 ⟨rfl, ht1⟩
        have hE : R = rowA l ([n, T].drop (j + 1)) (acc ++ [d]) (used + d.2.2) := by rw [HRj.out, HST.out, htk]
        obtain ⟨tv3, hm3⟩ := HM.out.drawn ht1
        obtain ⟨d1, d2, d3⟩ := d
        have hm4 := hm3.alloc (.cells #[.int .u64 (d1 : Int), .int .u64 (d2 : Int), .int .i64 (d3 : Int)] 65)
        have h0 := hm4.ds
        rw [HA.out] at h0
        have HM4 := Lib.hid hm4; have HE := Lib.hid hE; have H0 := Lib.hid h0
        clear hm3 hm4 h0 hE ht1 hT htk x0
        go_wp2_with (at_builtin; go_must (refine app_dw _ rfl _ _ rfl W.heap.size _ _ _ rfl H0.out _ _ _ _ rfl ?qg ?qn ?qb ?_))
        case qg => simp
        case qn => omega
        case qb => exact HM4.out.chg.size
        intro v' w3 hown hchg hfresh
        obtain ⟨sd1, cd1, rfl⟩ := (rd_of_row hown).form
        have hm5 := HM4.out.more (d := (d1, d2, d3)) HA.out hown hchg
        have HM5 := Lib.hid hm5
        clear hm5 hown hchg hfresh H0 HM4
        go_wp2_with fail
        go_roundw
        case rel => exact ⟨j + 1, used + d3, acc ++ [(d1, d2, d3)], tv3, sd1, cd1, by omega, by go_num, rfl, Lib.hid (by rw [List.length_append, HA.out]; rfl), HM5, HE⟩
        case measure => simp [intOf]; omega
    · obtain rfl : j = 2 := by omega
      have hE : R = some (acc, used) := by rw [HRj.out]; rfl
      have hR0 := HR0.out
      rw [hE] at hR0
      have l0 := rowA_lt HW.out HNS.out hR0.symm 0 (by simp)
      have l1 := rowA_lt HW.out HNS.out hR0.symm 1 (by simp)
      have l0' : (acc.getD 0 dwZ).1 < n := l0
      have l1' : (acc.getD 1 dwZ).1 < T := l1
      have hds := HM.out.ds
      rw [HA.out] at hds
      obtain ⟨bd, off, rfl, hcd⟩ := (rd_of_row hds).at (by decide)
      obtain ⟨a0, -, -⟩ := dwC_at acc 0 (by rw [HA.out]; decide)
      obtain ⟨a1, -, -⟩ := dwC_at acc 1 (by rw [HA.out]; decide)
      have x0 : wr.cell? ⟨bd, off, none⟩ = some (.int .u64 ((acc.getD 0 dwZ).1 : Int)) := hcd _ _ a0
      have x1 : wr.cell? ⟨bd, off + 3, none⟩ = some (.int .u64 ((acc.getD 1 dwZ).1 : Int)) := hcd _ _ a1
      have c0 : wr.cell? ⟨W.heap.size, 0, none⟩ = some (.int .u64 (T : Int)) := cell_of HM.out.box 0 rfl
      have c1 : wr.cell? ⟨W.heap.size, 1, none⟩ = some (.slice sb n cb) := cell_of HM.out.box 1 rfl
      have c2 : wr.cell? ⟨W.heap.size, 2, none⟩ = some (.slice sl n cl) := cell_of HM.out.box 2 rfl
      have hrb := rd_of_row (row_chg HRB.out HM.out.chg HNB.out)
      have hra := rd_of_row (row_chg HRA.out HM.out.chg HNA.out)
      have HTL := Lib.hid (fun w1 (h1 : Below wr.heap.size wr w1) => atell_ok w1 T n _ _ sb sl cb cl bl al (hrb.below h1) (hra.below h1) HG.out l0' l1')
      have HE := Lib.hid hE
      obtain ⟨t, ht⟩ : ∃ t, t = telA bl al (acc.getD 0 dwZ).1 (acc.getD 1 dwZ).1 := ⟨_, rfl⟩
      rw [← ht] at HTL
      have HFIN := Lib.hid (show ∀ w', TapeTo W w' B b wv tv (zsN l) used W.heap.size → ATkQ W B b wv tv l T n bl al R (.returned (.tuple #[.int .i64 t, .slice (some ⟨bd, off, none⟩) 2 cd, .int .i64 0])) w' from fun w' h => by rw [hE]; exact ⟨⟨_, _, by rw [ht]⟩, h⟩)
      generalize (acc.getD 0 dwZ).1 = v0 at *
      generalize (acc.getD 1 dwZ).1 = v1 at *
      clear hE hR0 l0 l1 l0' l1' hds hcd a0 a1 hrb hra ht HR0 HRj
      go_upto_region 13 with fail
      go_region_held3 (fun w' => w'.cell? ⟨W.heap.size, 0, none⟩ = some (.int .u64 (T : Int)) ∧ w'.cell? ⟨W.heap.size, 1, none⟩ = some (.slice sb n cb) ∧ w'.cell? ⟨W.heap.size, 2, none⟩ = some (.slice sl n cl) ∧ w'.cell? ⟨bd, off, none⟩ = some (.int .u64 (v0 : Int)) ∧ w'.cell? ⟨bd, off + 3, none⟩ = some (.int .u64 (v1 : Int)))
        (first | exact ⟨(hb4.cell (p := ⟨W.heap.size, 0, none⟩) (World.block_lt_of_cell? wr _ c0)).trans c0, (hb4.cell (p := ⟨W.heap.size, 1, none⟩) (World.block_lt_of_cell? wr _ c1)).trans c1, (hb4.cell (p := ⟨W.heap.size, 2, none⟩) (World.block_lt_of_cell? wr _ c2)).trans c2, (hb4.cell (p := ⟨bd, off, none⟩) (World.block_lt_of_cell? wr _ x0)).trans x0, (hb4.cell (p := ⟨bd, off + 3, none⟩) (World.block_lt_of_cell? wr _ x1)).trans x1⟩ | go_keep)
        (first | (go_at_call 136; refine (HTL.out _ (by first | exact Below.refl _ _ | exact (Below.refl _ _).drew)).mono ?_; rintro e w4 ⟨rfl, hb4⟩))
      all_goals
        have hto : TapeTo W w4 B b wv tv (zsN l) used W.heap.size := by
          have hb5 : Below wr.heap.size wr w4 := by first | exact hb4 | exact (Below.refl wr.heap.size wr).drew.trans hb4
          obtain ⟨⟨tv4, h6, h7⟩, h8⟩ := HM.out.to
          exact ⟨⟨tv4, h6.below hb5, h7⟩, h8.trans (Chg.of_below hb5)⟩
        have HTO := Lib.hid hto
        clear hto hb4
        go_wp2_with fail
        go_ret3
        exact HFIN.out _ HTO.out

end Go.Proofs.YtcoohepkmhpdkaaGreat
