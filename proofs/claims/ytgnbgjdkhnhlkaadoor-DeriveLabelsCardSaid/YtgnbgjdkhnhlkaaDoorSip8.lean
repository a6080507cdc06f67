/-
  SipHash with 128 bits: sip.end, sip.stepper, sip.One.
-/
import Derived.Test.YtgnbgjdkhnhlkaaDoorSip7
namespace Go.Proofs.YtgnbgjdkhnhlkaaDoor
open Go.RowKit
set_option linter.unusedVariables false
set_option linter.unusedSimpArgs false

/-- the call's own boxes: the lanes, and a result of two words -/
structure Lat (w0 wx : World) (g r : Nat) (a b c d : Nat) : Prop where
  box : wx.heap[g]? = some (.cells #[.int .u64 (a : Int), .int .u64 (b : Int), .int .u64 (c : Int), .int .u64 (d : Int)] 56 (0, 0))
  res : wx.heap[r]? = some (.cells #[.int .u64 0, .int .u64 0] 24 (0, 0))
  ne : g ≠ r
  lg : w0.heap.size ≤ g
  lr : w0.heap.size ≤ r
  bel : Below w0.heap.size w0 wx

theorem Lat.drew {w0 wx : World} {g r a b c d : Nat} (h : Lat w0 wx g r a b c d) : Lat w0 wx.drew g r a b c d := ⟨h.box, h.res, h.ne, h.lg, h.lr, h.bel.drew⟩
theorem Lat.below {w0 wx wy : World} {g r a b c d : Nat} (h : Lat w0 wx g r a b c d) (hb : Below wx.heap.size wx wy) : Lat w0 wy g r a b c d :=
  ⟨(hb.block _ (block_lt h.box)).trans h.box, (hb.block _ (block_lt h.res)).trans h.res, h.ne, h.lg, h.lr, h.bel.trans (hb.mono h.bel.size)⟩
theorem Lat.set {w0 wx : World} {g r a b c d : Nat} (h : Lat w0 wx g r a b c d) (o : Nat) (x : Nat) :
    (wx.setCell ⟨g, o, none⟩ (.int .u64 (x : Int))).heap[g]? = some (.cells (#[.int .u64 (a : Int), .int .u64 (b : Int), .int .u64 (c : Int), .int .u64 (d : Int)].setIfInBounds o (.int .u64 (x : Int))) 56 (0, 0)) ∧
    (wx.setCell ⟨g, o, none⟩ (.int .u64 (x : Int))).heap[r]? = some (.cells #[.int .u64 0, .int .u64 0] 24 (0, 0)) ∧ Below w0.heap.size w0 (wx.setCell ⟨g, o, none⟩ (.int .u64 (x : Int))) :=
  ⟨set_of h.box o _, by rw [Below.heap_setCell _ _ _ _ (Ne.symm h.ne)]; exact h.res, h.bel.setCell h.lg _⟩
theorem Lat.set0 {w0 wx : World} {g r a b c d : Nat} (h : Lat w0 wx g r a b c d) (x : Nat) : Lat w0 (wx.setCell ⟨g, 0, none⟩ (.int .u64 (x : Int))) g r x b c d := by
  obtain ⟨h1, h2, h3⟩ := h.set 0 x; exact ⟨h1, h2, h.ne, h.lg, h.lr, h3⟩
theorem Lat.set1 {w0 wx : World} {g r a b c d : Nat} (h : Lat w0 wx g r a b c d) (x : Nat) : Lat w0 (wx.setCell ⟨g, 1, none⟩ (.int .u64 (x : Int))) g r a x c d := by
  obtain ⟨h1, h2, h3⟩ := h.set 1 x; exact ⟨h1, h2, h.ne, h.lg, h.lr, h3⟩
theorem Lat.set2 {w0 wx : World} {g r a b c d : Nat} (h : Lat w0 wx g r a b c d) (x : Nat) : Lat w0 (wx.setCell ⟨g, 2, none⟩ (.int .u64 (x : Int))) g r a b x d := by
  obtain ⟨h1, h2, h3⟩ := h.set 2 x; exact ⟨h1, h2, h.ne, h.lg, h.lr, h3⟩
theorem Lat.set3 {w0 wx : World} {g r a b c d : Nat} (h : Lat w0 wx g r a b c d) (x : Nat) : Lat w0 (wx.setCell ⟨g, 3, none⟩ (.int .u64 (x : Int))) g r a b c x := by
  obtain ⟨h1, h2, h3⟩ := h.set 3 x; exact ⟨h1, h2, h.ne, h.lg, h.lr, h3⟩
theorem Lat.set4 {w0 wx : World} {g r a b c d : Nat} (h : Lat w0 wx g r a b c d) (x y z u : Nat) :
    Lat w0 ((((wx.setCell ⟨g, 0, none⟩ (.int .u64 (x : Int))).setCell ⟨g, 1, none⟩ (.int .u64 (y : Int))).setCell ⟨g, 2, none⟩ (.int .u64 (z : Int))).setCell ⟨g, 3, none⟩ (.int .u64 (u : Int))) g r x y z u :=
  (((h.set0 x).set1 y).set2 z).set3 u
theorem Lat.cells {w0 wx : World} {g r a b c d : Nat} (h : Lat w0 wx g r a b c d) :
    wx.cell? ⟨g, 0, none⟩ = some (.int .u64 (a : Int)) ∧ wx.cell? ⟨g, 1, none⟩ = some (.int .u64 (b : Int)) ∧ wx.cell? ⟨g, 2, none⟩ = some (.int .u64 (c : Int)) ∧ wx.cell? ⟨g, 3, none⟩ = some (.int .u64 (d : Int)) :=
  ⟨cell_of h.box 0 rfl, cell_of h.box 1 rfl, cell_of h.box 2 rfl, cell_of h.box 3 rfl⟩
theorem Lat.frees {w0 wx : World} {g r a b c d : Nat} (h : Lat w0 wx g r a b c d) :
    wx.frozen? ⟨g, 0, none⟩ = false ∧ wx.frozen? ⟨g, 1, none⟩ = false ∧ wx.frozen? ⟨g, 2, none⟩ = false ∧ wx.frozen? ⟨g, 3, none⟩ = false :=
  ⟨frozen_of h.box 0, frozen_of h.box 1, frozen_of h.box 2, frozen_of h.box 3⟩
theorem Lat.rcells {w0 wx : World} {g r a b c d : Nat} (h : Lat w0 wx g r a b c d) :
    wx.cell? ⟨r, 0, none⟩ = some (.int .u64 0) ∧ wx.cell? ⟨r, 1, none⟩ = some (.int .u64 0) ∧ wx.frozen? ⟨r, 0, none⟩ = false ∧ wx.frozen? ⟨r, 1, none⟩ = false :=
  ⟨cell_of h.res 0 rfl, cell_of h.res 1 rfl, frozen_of h.res 0, frozen_of h.res 1⟩
theorem Lat.ends {w0 wx : World} {g r a b c d : Nat} (h : Lat w0 wx g r a b c d) (v0 v1 : Value) :
    Below w0.heap.size w0 ((wx.setCell ⟨r, 0, none⟩ v0).setCell ⟨r, 1, none⟩ v1) := (h.bel.setCell h.lr _).setCell h.lr _

theorem or_tail (T long : Nat) (hT : T < 72057594037927936) (hl : long < 18446744073709551616) :
    bits .or .u64 (T : Int) (IntKind.u64.wrap ((long : Int) * 72057594037927936)) = ((T + long % 256 * 72057594037927936 : Nat) : Int) := by
  have e : IntKind.u64.wrap ((long : Int) * 72057594037927936) = ((long % 256 * 72057594037927936 : Nat) : Int) := by
    rw [show (long : Int) * 72057594037927936 = ((long * 72057594037927936 : Nat) : Int) by omega, swrapM]
    have : long * 72057594037927936 % 18446744073709551616 = long % 256 * 72057594037927936 := by omega
    rw [this]
  rw [e, bits_or_u64_nat _ _ (by omega) (by omega), Nat.or_comm]
  have h := Nat.two_pow_add_eq_or_of_lt (i := 56) (b := T) (by simpa using hT) (long % 256)
  rw [Nat.mul_comm (long % 256), ← show (2 : Nat) ^ 56 = 72057594037927936 from rfl, ← h, Nat.add_comm]

set_option maxRecDepth 100000 in
set_option maxHeartbeats 4000000 in
theorem end_any (v : V4) (hv : v.ok) (l : List Nat) (hl : Byt l) (h7 : l.length ≤ 7) (s : Value) (n : Nat) (long : Nat) (hlong : long < 18446744073709551616) (w : World) (hr : Rd w 1 s n (u8s l)) :
    Calls Tryd.prog 30 #[.int .i64 8, aggV v, s, .int .u64 (long : Int)] w fun e w' => e = .returned (u128 (xall (sipE2 (sipLast v l long)), xall (sipLast v l long))) ∧ Below w.heap.size w w' := by
  have htl : leN l < 72057594037927936 := le7_lt l hl h7
  have T := fun W (hW : Below w.heap.size w W) => tail_any l hl s n W (hr.below hW)
  rw [List.take_of_length_le (by omega)] at T
  have eor := or_tail (leN l) long htl hlong
  have hM : leN l + long % 256 * 72057594037927936 < 18446744073709551616 := by omega
  have hlast : sipLast v l long = sipE1 (sipW (leN l + long % 256 * 72057594037927936) v) := rfl
  rw [hlast]
  generalize leN l + long % 256 * 72057594037927936 = M at *
  generalize leN l = t at *
  have C1 := fun W => word_any v hv M hM W
  have ok1 := sipW_ok hM hv
  clear hlast hM htl hlong
  generalize sipW M v = u1 at *
  have e2 := sxorN u1.c 238 ok1.2.2.1 (by decide)
  have ok2 := xorC_ok (m := 238) (by decide) ok1
  have C2 := fun W => turned_any (xorC 238 u1) ok2 4 (by decide) W
  have ok3 := sipRs_ok ok2 4
  rw [show sipE1 u1 = sipRs 4 (xorC 238 u1) from rfl]
  generalize sipRs 4 (xorC 238 u1) = u3 at *
  have C3 := fun W => all_any u3 ok3 W
  generalize xall u3 = lo at *
  have e4 := sxorN u3.b 221 ok3.2.1 (by decide)
  have ok4 := xorB_ok (m := 221) (by decide) ok3
  have C4 := fun W => turned_any (xorB 221 u3) ok4 4 (by decide) W
  have ok5 := sipRs_ok ok4 4
  rw [show sipE2 u3 = sipRs 4 (xorB 221 u3) from rfl]
  generalize sipRs 4 (xorB 221 u3) = u5 at *
  have C5 := fun W => all_any u5 ok5 W
  generalize xall u5 = hi at *
  obtain ⟨a0, b0, c0, d0⟩ := v
  obtain ⟨a1, b1, c1, d1⟩ := u1
  obtain ⟨a3, b3, c3, d3⟩ := u3
  obtain ⟨a5, b5, c5, d5⟩ := u5
  simp only [aggV, xorC, xorB, u128] at *
  generalize c1 ^^^ 238 = c2 at *
  generalize b3 ^^^ 221 = b4 at *
  simp only [Int.cast_ofNat_Int] at e2 e4
  have hst : Lat w ((w.alloc (.cells #[.int .u64 (a0 : Int), .int .u64 (b0 : Int), .int .u64 (c0 : Int), .int .u64 (d0 : Int)] 56)).alloc (.cells #[.int .u64 0, .int .u64 0] 24)) w.heap.size (w.heap.size + 1) a0 b0 c0 d0 := by
    refine ⟨?_, ?_, by omega, Nat.le_refl _, by omega, ((Below.refl _ _).alloc (Nat.le_refl _) _).alloc (by simp) _⟩
    · rw [Below.heap_alloc _ _ _ (by simp)]; exact heap_alloc_new _ _
    · have := heap_alloc_new (w.alloc (.cells #[.int .u64 (a0 : Int), .int .u64 (b0 : Int), .int .u64 (c0 : Int), .int .u64 (d0 : Int)] 56)) (.cells #[.int .u64 0, .int .u64 0] 24)
      simpa using this
  have HST := Lib.hid hst; have HT := Lib.hid T; have H1 := Lib.hid C1; have H2 := Lib.hid C2; have H3 := Lib.hid C3; have H4 := Lib.hid C4; have H5 := Lib.hid C5
  clear hst T C1 C2 C3 C4 C5 ok1 ok2 ok3 ok4 ok5 hv hl hr h7
  have CR := rounds_8
  go_enter Tryd.func30, Tryd.ntmps30
  go_upto_region 1 with fail
  generalize ((w.alloc _).alloc _) = w1 at *
  have HL := HST; clear HST
  go_wp2_with fail
  refine (CR _).mono ?_
  rintro e w' ⟨rfl, rfl⟩
  clear CR
  go_upto_region 2 with fail
  obtain ⟨p0, p1, p2, p3⟩ := HL.out.cells
  go_cut [] (fun wx => Hid (Lat w wx w.heap.size (w.heap.size + 1) a1 b1 c1 d1))
  case first =>
    go_region_with (first
      | (go_at_call 43; refine (HT.out _ (by first | exact HL.out.bel | exact HL.out.bel.drew | exact HL.out.bel.drew.drew)).mono ?_; rintro e w' ⟨rfl, rfl⟩)
      | (go_at_call 42; refine (H1.out _).mono ?_; rintro e w3 ⟨rfl, hb3⟩; have HL3 := Lib.hid (show Lat w w3 w.heap.size (w.heap.size + 1) a0 b0 c0 d0 by first | exact HL.out.below hb3 | exact HL.out.drew.below hb3 | exact HL.out.drew.drew.below hb3); obtain ⟨r0, r1, r2, r3⟩ := HL3.out.cells; obtain ⟨q0, q1, q2, q3⟩ := HL3.out.frees))
    all_goals
      go_wp2_with fail
      go_meet
      exact HL3.out.set4 a1 b1 c1 d1
  case rest =>
    clear HL p0 p1 p2 p3 HT H1 eor
    have HL := hcut; clear hcut
    obtain ⟨p0, p1, p2, p3⟩ := HL.out.cells
    obtain ⟨q0, q1, q2, q3⟩ := HL.out.frees
    go_upto_region 6 with fail
    go_cut [] (fun wx => Hid (Lat w wx w.heap.size (w.heap.size + 1) a1 b1 c2 d1))
    case first =>
      go_wp2_with fail
      go_meet
      exact HL.out.set2 c2
    case rest =>
      clear HL p0 p1 p2 p3 q0 q1 q2 q3 e2
      have HL := hcut; clear hcut
      obtain ⟨p0, p1, p2, p3⟩ := HL.out.cells
      go_upto_region 7 with fail
      go_cut [] (fun wx => Hid (Lat w wx w.heap.size (w.heap.size + 1) a3 b3 c3 d3))
      case first =>
        go_wp2_with fail
        refine (H2.out _).mono ?_
        rintro e w3 ⟨rfl, hb⟩
        have HL3 := Lib.hid (HL.out.below hb)
        clear hb HL p0 p1 p2 p3
        obtain ⟨p0, p1, p2, p3⟩ := HL3.out.cells
        obtain ⟨q0, q1, q2, q3⟩ := HL3.out.frees
        go_wp2_with fail
        go_meet
        exact HL3.out.set4 a3 b3 c3 d3
      case rest =>
        clear HL p0 p1 p2 p3 H2
        have HL := hcut; clear hcut
        obtain ⟨p0, p1, p2, p3⟩ := HL.out.cells
        go_upto_region 8 with fail
        go_wp2_with fail
        refine (H3.out _).mono ?_
        rintro e w3 ⟨rfl, hb⟩
        have HL3 := Lib.hid (HL.out.below hb)
        clear hb HL p0 p1 p2 p3 H3
        have HL := HL3; clear HL3
        obtain ⟨p0, p1, p2, p3⟩ := HL.out.cells
        obtain ⟨q0, q1, q2, q3⟩ := HL.out.frees
        go_upto_region 9 with fail
        go_cut [] (fun wx => Hid (Lat w wx w.heap.size (w.heap.size + 1) a3 b4 c3 d3))
        case first =>
          go_wp2_with fail
          go_meet
          exact HL.out.set1 b4
        case rest =>
          clear HL p0 p1 p2 p3 q0 q1 q2 q3 e4
          have HL := hcut; clear hcut
          obtain ⟨p0, p1, p2, p3⟩ := HL.out.cells
          go_wp2_with fail
          refine (H4.out _).mono ?_
          rintro e w3 ⟨rfl, hb⟩
          have HL3 := Lib.hid (HL.out.below hb)
          clear hb HL p0 p1 p2 p3 H4
          go_wp2_with fail
          refine (H5.out _).mono ?_
          rintro e w4 ⟨rfl, hb⟩
          have HL4 := Lib.hid (HL3.out.below hb)
          clear hb HL3 H5
          obtain ⟨r0, r1, q0, q1⟩ := HL4.out.rcells
          go_wp2_with fail
          refine bodyPost_ret (v := u128 (hi, lo)) (by simp [u128, results, Tryd.results30, go_sem, r0, r1]) rfl ⟨?_, HL4.out.ends _ _⟩
          exact (rfl : _ = _)

set_option maxRecDepth 100000 in
set_option maxHeartbeats 2000000 in
theorem stepper_any (w : World) :
    Calls Tryd.prog 29 #[.int .i64 8] w fun e w' => ∃ bn, e = .returned (.func (.func 41) #[] #[.pointer (some ⟨bn, 0, none⟩)]) ∧ w'.cell? ⟨bn, 0, none⟩ = some (.int .i64 2) ∧ Below w.heap.size w w' := by
  have CR := rounds_8
  go_enter Tryd.func29, Tryd.ntmps29
  go_wp2_with fail
  refine (CR _).mono ?_
  rintro e w' ⟨rfl, rfl⟩
  go_wp2_with fail
  go_ret
  refine ⟨w'.heap.size, rfl, by simp, ?_⟩
  repeat (first | exact Below.refl _ _ | refine Below.setCell ?_ (by simp) _ | refine Below.alloc ?_ (by simp) _)

end Go.Proofs.YtgnbgjdkhnhlkaaDoor
