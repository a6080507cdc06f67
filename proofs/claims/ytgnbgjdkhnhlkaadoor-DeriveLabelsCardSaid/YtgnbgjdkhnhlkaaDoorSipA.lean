/-
  SipHash with 128 bits in the document's words: Blocks, End, One.
-/
import Derived.Test.YtgnbgjdkhnhlkaaDoorSip9
namespace Go.Proofs.YtgnbgjdkhnhlkaaDoor
open Go.RowKit
set_option linter.unusedVariables false
set_option linter.unusedSimpArgs false

/-- Blocks' boxes: the key, the result, the lanes -/
structure Lak (w0 wx : World) (hi lo a b c d : Nat) : Prop where
  key : wx.heap[w0.heap.size]? = some (.cells #[.int .u64 (hi : Int), .int .u64 (lo : Int)] 24 (0, 0))
  res : wx.heap[w0.heap.size + 1]? = some (.cells #[.int .u64 0, .int .u64 0, .int .u64 0, .int .u64 0] 56 (0, 0))
  box : wx.heap[w0.heap.size + 1 + 1]? = some (.cells #[.int .u64 (a : Int), .int .u64 (b : Int), .int .u64 (c : Int), .int .u64 (d : Int)] 56 (0, 0))
  bel : Below w0.heap.size w0 wx
theorem Lak.drew {w0 wx : World} {hi lo a b c d : Nat} (h : Lak w0 wx hi lo a b c d) : Lak w0 wx.drew hi lo a b c d := ⟨h.key, h.res, h.box, h.bel.drew⟩
theorem Lak.set {w0 wx : World} {hi lo a b c d : Nat} (h : Lak w0 wx hi lo a b c d) (o : Nat) (x : Nat) :
    (wx.setCell ⟨w0.heap.size + 1 + 1, o, none⟩ (.int .u64 (x : Int))).heap[w0.heap.size]? = some (.cells #[.int .u64 (hi : Int), .int .u64 (lo : Int)] 24 (0, 0)) ∧
    (wx.setCell ⟨w0.heap.size + 1 + 1, o, none⟩ (.int .u64 (x : Int))).heap[w0.heap.size + 1]? = some (.cells #[.int .u64 0, .int .u64 0, .int .u64 0, .int .u64 0] 56 (0, 0)) ∧
    (wx.setCell ⟨w0.heap.size + 1 + 1, o, none⟩ (.int .u64 (x : Int))).heap[w0.heap.size + 1 + 1]? = some (.cells (#[.int .u64 (a : Int), .int .u64 (b : Int), .int .u64 (c : Int), .int .u64 (d : Int)].setIfInBounds o (.int .u64 (x : Int))) 56 (0, 0)) ∧ Below w0.heap.size w0 (wx.setCell ⟨w0.heap.size + 1 + 1, o, none⟩ (.int .u64 (x : Int))) :=
  ⟨by rw [Below.heap_setCell _ _ _ _ (by simp; omega)]; exact h.key, by rw [Below.heap_setCell _ _ _ _ (by simp)]; exact h.res, set_of h.box o _, h.bel.setCell (by simp; omega) _⟩
theorem Lak.set0 {w0 wx : World} {hi lo a b c d : Nat} (h : Lak w0 wx hi lo a b c d) (x : Nat) : Lak w0 (wx.setCell ⟨w0.heap.size + 1 + 1, 0, none⟩ (.int .u64 (x : Int))) hi lo x b c d := by
  obtain ⟨h1, h2, h3, h4⟩ := h.set 0 x; exact ⟨h1, h2, h3, h4⟩
theorem Lak.set1 {w0 wx : World} {hi lo a b c d : Nat} (h : Lak w0 wx hi lo a b c d) (x : Nat) : Lak w0 (wx.setCell ⟨w0.heap.size + 1 + 1, 1, none⟩ (.int .u64 (x : Int))) hi lo a x c d := by
  obtain ⟨h1, h2, h3, h4⟩ := h.set 1 x; exact ⟨h1, h2, h3, h4⟩
theorem Lak.set2 {w0 wx : World} {hi lo a b c d : Nat} (h : Lak w0 wx hi lo a b c d) (x : Nat) : Lak w0 (wx.setCell ⟨w0.heap.size + 1 + 1, 2, none⟩ (.int .u64 (x : Int))) hi lo a b x d := by
  obtain ⟨h1, h2, h3, h4⟩ := h.set 2 x; exact ⟨h1, h2, h3, h4⟩
theorem Lak.set3 {w0 wx : World} {hi lo a b c d : Nat} (h : Lak w0 wx hi lo a b c d) (x : Nat) : Lak w0 (wx.setCell ⟨w0.heap.size + 1 + 1, 3, none⟩ (.int .u64 (x : Int))) hi lo a b c x := by
  obtain ⟨h1, h2, h3, h4⟩ := h.set 3 x; exact ⟨h1, h2, h3, h4⟩
theorem Lak.cells {w0 wx : World} {hi lo a b c d : Nat} (h : Lak w0 wx hi lo a b c d) :
    wx.cell? ⟨w0.heap.size + 1 + 1, 0, none⟩ = some (.int .u64 (a : Int)) ∧ wx.cell? ⟨w0.heap.size + 1 + 1, 1, none⟩ = some (.int .u64 (b : Int)) ∧ wx.cell? ⟨w0.heap.size + 1 + 1, 2, none⟩ = some (.int .u64 (c : Int)) ∧ wx.cell? ⟨w0.heap.size + 1 + 1, 3, none⟩ = some (.int .u64 (d : Int)) ∧ wx.cell? ⟨w0.heap.size, 0, none⟩ = some (.int .u64 (hi : Int)) ∧ wx.cell? ⟨w0.heap.size, 1, none⟩ = some (.int .u64 (lo : Int)) :=
  ⟨cell_of h.box 0 rfl, cell_of h.box 1 rfl, cell_of h.box 2 rfl, cell_of h.box 3 rfl, cell_of h.key 0 rfl, cell_of h.key 1 rfl⟩
theorem Lak.frees {w0 wx : World} {hi lo a b c d : Nat} (h : Lak w0 wx hi lo a b c d) :
    wx.frozen? ⟨w0.heap.size + 1 + 1, 0, none⟩ = false ∧ wx.frozen? ⟨w0.heap.size + 1 + 1, 1, none⟩ = false ∧ wx.frozen? ⟨w0.heap.size + 1 + 1, 2, none⟩ = false ∧ wx.frozen? ⟨w0.heap.size + 1 + 1, 3, none⟩ = false :=
  ⟨frozen_of h.box 0, frozen_of h.box 1, frozen_of h.box 2, frozen_of h.box 3⟩

set_option maxRecDepth 100000 in
set_option maxHeartbeats 4000000 in
theorem blocks_any (hi lo : Nat) (h1 : hi < 18446744073709551616) (h2 : lo < 18446744073709551616) (l : List Nat) (hl : Byt l) (s : Value) (n : Nat) (w : World) (hr : Rd w 1 s n (u8s l)) (hn : n ≤ 100000) :
    Calls Tryd.prog 33 #[.int .i64 8, u128 (hi, lo), s] w fun e w' =>
      ∃ (sa : Option Addr) (k cap : Nat), e = .returned (.tuple #[aggV (sipBl (l.length / 8) (sipF hi lo) l), .slice sa k cap]) ∧ Rd w' 1 (.slice sa k cap) k (u8s (l.drop (l.length / 8 * 8))) ∧ Below w.heap.size w w' := by
  have c1 : (8317987319222330741 : Nat) < 18446744073709551616 := by decide
  have c2 : (7237128888997146477 : Nat) < 18446744073709551616 := by decide
  have c3 : (7816392313619706465 : Nat) < 18446744073709551616 := by decide
  have c4 : (8387220255154660723 : Nat) < 18446744073709551616 := by decide
  have e1 := sxorN _ lo c1 h2
  have e2 := sxorN _ hi c2 h1
  have e3 := sxorN _ lo c3 h2
  have e4 := sxorN _ hi c4 h1
  have e5 := sxorN (7237128888997146477 ^^^ hi) 238 (xor_lt c2 h1) (by decide)
  have ok0 := sipF_ok h1 h2
  have CF := fun W (hW : Below w.heap.size w W) => from_any (sipF hi lo) ok0 l hl s n w W hW hr hn
  have hR : sipF hi lo = ⟨8317987319222330741 ^^^ lo, (7237128888997146477 ^^^ hi) ^^^ 238, 7816392313619706465 ^^^ lo, 8387220255154660723 ^^^ hi⟩ := rfl
  rw [hR] at CF ⊢
  generalize (7237128888997146477 ^^^ hi) ^^^ 238 = x5 at *
  generalize 8317987319222330741 ^^^ lo = x1 at *
  generalize 7237128888997146477 ^^^ hi = x2 at *
  generalize 7816392313619706465 ^^^ lo = x3 at *
  generalize 8387220255154660723 ^^^ hi = x4 at *
  simp only [Int.cast_ofNat_Int] at e1 e2 e3 e4 e5
  generalize sipBl (l.length / 8) ⟨x1, x5, x3, x4⟩ l = v1 at *
  generalize l.drop (l.length / 8 * 8) = tl at *
  obtain ⟨ra, rb, rc, rd⟩ := v1
  have hst : Lak w (((w.alloc (.cells #[.int .u64 (hi : Int), .int .u64 (lo : Int)] 24)).alloc (.cells #[.int .u64 0, .int .u64 0, .int .u64 0, .int .u64 0] 56)).alloc (.cells #[.int .u64 8317987319222330741, .int .u64 7237128888997146477, .int .u64 7816392313619706465, .int .u64 8387220255154660723] 56)) hi lo 8317987319222330741 7237128888997146477 7816392313619706465 8387220255154660723 := by
    have q0 := heap_alloc_new w (.cells #[.int .u64 (hi : Int), .int .u64 (lo : Int)] 24)
    have q1 := heap_alloc_new (w.alloc (.cells #[.int .u64 (hi : Int), .int .u64 (lo : Int)] 24)) (.cells #[.int .u64 0, .int .u64 0, .int .u64 0, .int .u64 0] 56)
    have q2 := heap_alloc_new ((w.alloc (.cells #[.int .u64 (hi : Int), .int .u64 (lo : Int)] 24)).alloc (.cells #[.int .u64 0, .int .u64 0, .int .u64 0, .int .u64 0] 56)) (.cells #[.int .u64 8317987319222330741, .int .u64 7237128888997146477, .int .u64 7816392313619706465, .int .u64 8387220255154660723] 56)
    refine ⟨?_, ?_, ?_, (((Below.refl _ _).alloc (Nat.le_refl _) _).alloc (by simp) _).alloc (by simp; omega) _⟩
    · rw [Below.heap_alloc _ _ _ (by simp; omega), Below.heap_alloc _ _ _ (by simp)]; exact q0
    · rw [Below.heap_alloc _ _ _ (by simp)]; simpa using q1
    · simpa using q2
  have HST := Lib.hid hst; have HCF := Lib.hid CF
  simp only [aggV, u128] at *
  clear hst CF hR ok0 c1 c2 c3 c4 h1 h2 hl hr hn
  go_enter Tryd.func33, Tryd.ntmps33
  go_upto_region 2 with fail
  generalize (((w.alloc _).alloc _).alloc _) = w1 at *
  go_wp2_with fail
  go_loopw [9] (fun i wr => ∃ k a b c d : Nat, i = .int .i64 (k : Int) ∧ k ≤ 4 ∧ Hid (Lak w wr hi lo a b c d) ∧ Hid ((k = 0 ∧ a = 8317987319222330741 ∧ b = 7237128888997146477 ∧ c = 7816392313619706465 ∧ d = 8387220255154660723) ∨ (k = 2 ∧ a = x1 ∧ b = x2 ∧ c = 7816392313619706465 ∧ d = 8387220255154660723) ∨ (k = 4 ∧ a = x1 ∧ b = x2 ∧ c = x3 ∧ d = x4))) (fun i _ => 4 - (intOf i).toNat)
  case atStart => exact ⟨0, _, _, _, _, rfl, by omega, HST, .inl ⟨rfl, rfl, rfl, rfl, rfl⟩⟩
  case round =>
    obtain ⟨k, a, b, c, d, rfl, hk4, HL, HC⟩ := hrel
    obtain ⟨p0, p1, p2, p3, p4, p5⟩ := HL.out.cells
    obtain ⟨q0, q1, q2, q3⟩ := HL.out.frees
    rcases HC.out with ⟨rfl, rfl, rfl, rfl, rfl⟩ | ⟨rfl, rfl, rfl, rfl, rfl⟩ | ⟨rfl, rfl, rfl, rfl, rfl⟩
    · clear HC
      go_upto_region 5 with fail
      go_cut [] (fun wx => Hid (Lak w wx hi lo x1 7237128888997146477 7816392313619706465 8387220255154660723))
      case first =>
        go_region_with (fail)
        all_goals
          go_wp2_with fail
          go_meet
          first | exact HL.out.set0 x1 | exact (HL.out.set0 x1).drew | exact HL.out.drew.set0 x1
      case rest =>
        clear HL p0 p1 p2 p3 p4 p5 q0 q1 q2 q3
        have HL := hcut; clear hcut
        obtain ⟨p0, p1, p2, p3, p4, p5⟩ := HL.out.cells
        obtain ⟨q0, q1, q2, q3⟩ := HL.out.frees
        go_upto_region 6 with fail
        go_region_with (fail)
        all_goals
          go_wp2_with fail
          go_roundw
          case rel => exact ⟨2, x1, x2, _, _, by go_num, by omega, by first | exact HL.out.set1 x2 | exact (HL.out.set1 x2).drew | exact HL.out.drew.set1 x2, .inr (.inl ⟨rfl, rfl, rfl, rfl, rfl⟩)⟩
          case measure => simp [intOf]
    · clear HC
      go_upto_region 5 with fail
      go_cut [] (fun wx => Hid (Lak w wx hi lo a b x3 8387220255154660723))
      case first =>
        go_region_with (fail)
        all_goals
          go_wp2_with fail
          go_meet
          first | exact HL.out.set2 x3 | exact (HL.out.set2 x3).drew | exact HL.out.drew.set2 x3
      case rest =>
        clear HL p0 p1 p2 p3 p4 p5 q0 q1 q2 q3
        have HL := hcut; clear hcut
        obtain ⟨p0, p1, p2, p3, p4, p5⟩ := HL.out.cells
        obtain ⟨q0, q1, q2, q3⟩ := HL.out.frees
        go_upto_region 6 with fail
        go_region_with (fail)
        all_goals
          go_wp2_with fail
          go_roundw
          case rel => exact ⟨4, a, b, _, _, by go_num, by omega, by first | exact HL.out.set3 x4 | exact (HL.out.set3 x4).drew | exact HL.out.drew.set3 x4, .inr (.inr ⟨rfl, rfl, rfl, rfl, rfl⟩)⟩
          case measure => simp [intOf]
    · clear HC
      go_upto_region 9 with fail
      have HL5 := Lib.hid (HL.out.set1 x5)
      generalize (wr.setCell _ _) = w5 at *
      clear HL p0 p1 p2 p3 p4 p5 q0 q1 q2 q3
      obtain ⟨p0, p1, p2, p3, p4, p5⟩ := HL5.out.cells
      have HC5 := Lib.hid (HCF.out w5 HL5.out.bel)
      clear HCF
      go_wp2_with fail
      refine HC5.out.mono ?_
      rintro e w6 ⟨sa, kk, cap, rfl, hx, hb⟩
      have hz : w6.heap[w.heap.size + 1]? = some (.cells #[.int .u64 0, .int .u64 0, .int .u64 0, .int .u64 0] 56 (0, 0)) := (hb.block _ (block_lt HL5.out.res)).trans HL5.out.res
      have HB6 := Lib.hid (HL5.out.bel.trans (hb.mono HL5.out.bel.size))
      have d0 := cell_of hz 0 rfl
      have d1 := cell_of hz 1 rfl
      have d2 := cell_of hz 2 rfl
      have d3 := cell_of hz 3 rfl
      have g0 := frozen_of hz 0
      have g1 := frozen_of hz 1
      have g2 := frozen_of hz 2
      have g3 := frozen_of hz 3
      have HX := Lib.hid hx
      clear hb hz hx HC5
      go_wp2_with fail
      refine bodyPost_ret (v := .tuple #[aggV ⟨ra, rb, rc, rd⟩, .slice sa kk cap]) (by simp [aggV, results, Tryd.results33, go_sem, d0, d1, d2, d3]) rfl ⟨sa, kk, cap, ?_, ?_, ?_⟩
      · exact (rfl : _ = _)
      · exact HX.out.below ((((HB6.out.setCell (by simp) _).setCell (by simp) _).setCell (by simp) _).setCell (by simp) _)
      · exact (((HB6.out.setCell (by simp) _).setCell (by simp) _).setCell (by simp) _).setCell (by simp) _

set_option maxRecDepth 100000 in
set_option maxHeartbeats 2000000 in
theorem is_8 (w : World) :
    Calls Tryd.prog 32 #[.int .i64 8] w fun e w' => e = .returned (.bool true) ∧ w' = w := by
  go_enter Tryd.func32, Tryd.ntmps32
  go_wp2
  go_ret
  exact ⟨rfl, rfl⟩

/-- the lanes' box is laid behind the word's call -/
theorem latA {w W w3 : World} {r a b c d : Nat} (hb1 : Below w.heap.size w W) (hr : W.heap[r]? = some (.cells #[.int .u64 0, .int .u64 0] 24 (0, 0))) (hwr : w.heap.size ≤ r) (hb : Below W.heap.size W w3) :
    Lat w (w3.alloc (.cells #[.int .u64 (a : Int), .int .u64 (b : Int), .int .u64 (c : Int), .int .u64 (d : Int)] 56)) w3.heap.size r a b c d := by
  have hrl := block_lt hr
  have hs := hb.size
  have h1 := hb1.size
  have hb3 : Below w.heap.size w w3 := hb1.trans (hb.mono h1)
  refine ⟨heap_alloc_new _ _, ?_, by omega, by omega, hwr, hb3.alloc (by omega) _⟩
  rw [Below.heap_alloc _ _ _ (by omega)]
  exact (hb.block _ hrl).trans hr
/-- the lanes' box is laid ahead of it -/
theorem latB {w W WZ w3 : World} {r : Nat} (hb1 : Below w.heap.size w W) (hr : W.heap[r]? = some (.cells #[.int .u64 0, .int .u64 0] 24 (0, 0))) (hwr : w.heap.size ≤ r)
    (hz : Below (W.heap.size + 1) (W.alloc (.cells #[.int .u64 0, .int .u64 0, .int .u64 0, .int .u64 0] 56)) WZ) (hb : Below WZ.heap.size WZ w3) :
    Lat w w3 W.heap.size r 0 0 0 0 := by
  have hrl := block_lt hr
  have h1 := hb1.size
  have hs0 : (W.alloc (.cells #[.int .u64 0, .int .u64 0, .int .u64 0, .int .u64 0] 56)).heap.size = W.heap.size + 1 := by simp
  have hz' := hz.size
  rw [hs0] at hz'
  have hk := hz.trans (hb.mono hz')
  refine ⟨(hk.block _ (by omega)).trans (heap_alloc_new _ _), ?_, by omega, h1, hwr, (hb1.alloc h1 _).trans (hk.mono (by omega))⟩
  rw [hk.block _ (by omega), Below.heap_alloc _ _ _ hrl]
  exact hr

theorem latBb {W WZ w3 : World} (hz : Below (W.heap.size + 1) (W.alloc (.cells #[.int .u64 0, .int .u64 0, .int .u64 0, .int .u64 0] 56)) WZ) (hb : Below WZ.heap.size WZ w3) : Below W.heap.size W w3 := by
  have hs0 : (W.alloc (.cells #[.int .u64 0, .int .u64 0, .int .u64 0, .int .u64 0] 56)).heap.size = W.heap.size + 1 := by simp
  have hz' := hz.size
  rw [hs0] at hz'
  exact ((Below.refl _ W).alloc (Nat.le_refl _) _).trans ((hz.trans (hb.mono hz')).mono (by omega))

set_option maxRecDepth 100000 in
set_option maxHeartbeats 4000000 in
theorem refend_any (key : Nat × Nat) (v : V4) (hv : v.ok) (l : List Nat) (hl : Byt l) (h7 : l.length ≤ 7) (s : Value) (n : Nat) (long : Nat) (hlong : long < 18446744073709551616) (w : World) (hr : Rd w 1 s n (u8s l)) :
    Calls Tryd.prog 34 #[.int .i64 8, u128 key, aggV v, s, .int .u64 (long : Int)] w fun e w' => e = .returned (u128 (xall (sipE2 (sipLast v l long)), xall (sipLast v l long))) ∧ Below w.heap.size w w' := by
  have htl : leN l < 72057594037927936 := le7_lt l hl h7
  have T := fun W (hW : Below w.heap.size w W) => num_any l hl s n W (hr.below hW)
  rw [List.take_of_length_le (by omega)] at T
  have em : IntKind.u64.wrap ((long : Int) % 256 * 72057594037927936) = ((long % 256 * 72057594037927936 : Nat) : Int) := by
    rw [show (long : Int) % 256 * 72057594037927936 = ((long % 256 * 72057594037927936 : Nat) : Int) by omega, swrapM, Nat.mod_eq_of_lt (by omega)]
  have em' : IntKind.u64.wrap (Int.tmod (long : Int) 256 * 72057594037927936) = ((long % 256 * 72057594037927936 : Nat) : Int) := by
    rw [Int.tmod_eq_emod_of_nonneg (by omega)]; exact em
  have ea : IntKind.u64.wrap (((leN l : Nat) : Int) + ((long % 256 * 72057594037927936 : Nat) : Int)) = ((leN l + long % 256 * 72057594037927936 : Nat) : Int) := by
    rw [← Int.natCast_add, swrapM, Nat.mod_eq_of_lt (by omega)]
  have hM : leN l + long % 256 * 72057594037927936 < 18446744073709551616 := by omega
  have hlast : sipLast v l long = sipE1 (sipW (leN l + long % 256 * 72057594037927936) v) := rfl
  rw [hlast]
  have el : ((long : Int) % 256) = ((long % 256 : Nat) : Int) := by omega
  generalize leN l + long % 256 * 72057594037927936 = M at *
  generalize long % 256 * 72057594037927936 = LL at *
  generalize leN l = t at *
  have C1 := fun W => refword_any v hv M hM W
  have ok1 := sipW_ok hM hv
  clear hlast hM htl hlong
  generalize sipW M v = u1 at *
  have e2 := sxorN u1.c 238 ok1.2.2.1 (by decide)
  have ok2 := xorC_ok (m := 238) (by decide) ok1
  have C2 := fun W => refrounds_any (xorC 238 u1) ok2 4 (by decide) W
  have ok3 := sipRs_ok ok2 4
  rw [show sipE1 u1 = sipRs 4 (xorC 238 u1) from rfl]
  generalize sipRs 4 (xorC 238 u1) = u3 at *
  obtain ⟨a3, b3, c3, d3⟩ := u3
  have f1 : bits .xor .u64 (a3 : Int) (b3 : Int) = ((a3 ^^^ b3 : Nat) : Int) := sxorN a3 b3 ok3.1 ok3.2.1
  have f2 : bits .xor .u64 ((a3 ^^^ b3 : Nat) : Int) (c3 : Int) = (((a3 ^^^ b3) ^^^ c3 : Nat) : Int) := sxorN _ c3 (xor_lt ok3.1 ok3.2.1) ok3.2.2.1
  have f3 : bits .xor .u64 (((a3 ^^^ b3) ^^^ c3 : Nat) : Int) (d3 : Int) = ((((a3 ^^^ b3) ^^^ c3) ^^^ d3 : Nat) : Int) := sxorN _ d3 (xor_lt (xor_lt ok3.1 ok3.2.1) ok3.2.2.1) ok3.2.2.2
  have g3 : xall ⟨a3, b3, c3, d3⟩ = ((a3 ^^^ b3) ^^^ c3) ^^^ d3 := rfl
  rw [g3]
  have e4 : bits .xor .u64 (b3 : Int) 221 = ((b3 ^^^ 221 : Nat) : Int) := sxorN b3 221 ok3.2.1 (by decide)
  have ok4 : (⟨a3, b3 ^^^ 221, c3, d3⟩ : V4).ok := xorB_ok (m := 221) (by decide) ok3
  have g4 : sipE2 ⟨a3, b3, c3, d3⟩ = sipRs 4 ⟨a3, b3 ^^^ 221, c3, d3⟩ := rfl
  rw [g4]
  generalize ((a3 ^^^ b3) ^^^ c3) ^^^ d3 = lo at f3 ⊢
  generalize (a3 ^^^ b3) ^^^ c3 = lo2 at f2 f3
  generalize a3 ^^^ b3 = lo1 at f1 f2
  generalize b3 ^^^ 221 = b4 at *
  have C4 := fun W => refrounds_any ⟨a3, b4, c3, d3⟩ ok4 4 (by decide) W
  have ok5 := sipRs_ok ok4 4
  generalize sipRs 4 ⟨a3, b4, c3, d3⟩ = u5 at *
  obtain ⟨a5, b5, c5, d5⟩ := u5
  have f4 : bits .xor .u64 (a5 : Int) (b5 : Int) = ((a5 ^^^ b5 : Nat) : Int) := sxorN a5 b5 ok5.1 ok5.2.1
  have f5 : bits .xor .u64 ((a5 ^^^ b5 : Nat) : Int) (c5 : Int) = (((a5 ^^^ b5) ^^^ c5 : Nat) : Int) := sxorN _ c5 (xor_lt ok5.1 ok5.2.1) ok5.2.2.1
  have f6 : bits .xor .u64 (((a5 ^^^ b5) ^^^ c5 : Nat) : Int) (d5 : Int) = ((((a5 ^^^ b5) ^^^ c5) ^^^ d5 : Nat) : Int) := sxorN _ d5 (xor_lt (xor_lt ok5.1 ok5.2.1) ok5.2.2.1) ok5.2.2.2
  have g5 : xall ⟨a5, b5, c5, d5⟩ = ((a5 ^^^ b5) ^^^ c5) ^^^ d5 := rfl
  rw [g5]
  generalize ((a5 ^^^ b5) ^^^ c5) ^^^ d5 = hi at f6 ⊢
  generalize (a5 ^^^ b5) ^^^ c5 = hi2 at f5 f6
  generalize a5 ^^^ b5 = hi1 at f4 f5
  obtain ⟨a0, b0, c0, d0⟩ := v
  obtain ⟨a1, b1, c1, d1⟩ := u1
  simp only [aggV, xorC, u128] at *
  generalize c1 ^^^ 238 = c2 at *
  simp only [Int.cast_ofNat_Int] at e2
  clear g3 g4 g5
  have q1 := heap_alloc_new (w.alloc (.cells #[.int .u64 (key.1 : Int), .int .u64 (key.2 : Int)] 24)) (.cells #[.int .u64 (a0 : Int), .int .u64 (b0 : Int), .int .u64 (c0 : Int), .int .u64 (d0 : Int)] 56)
  have q2 := heap_alloc_new ((w.alloc (.cells #[.int .u64 (key.1 : Int), .int .u64 (key.2 : Int)] 24)).alloc (.cells #[.int .u64 (a0 : Int), .int .u64 (b0 : Int), .int .u64 (c0 : Int), .int .u64 (d0 : Int)] 56)) (.cells #[.int .u64 0, .int .u64 0] 24)
  have q3 : Below w.heap.size w (((w.alloc (.cells #[.int .u64 (key.1 : Int), .int .u64 (key.2 : Int)] 24)).alloc (.cells #[.int .u64 (a0 : Int), .int .u64 (b0 : Int), .int .u64 (c0 : Int), .int .u64 (d0 : Int)] 56)).alloc (.cells #[.int .u64 0, .int .u64 0] 24)) := (((Below.refl _ _).alloc (Nat.le_refl _) _).alloc (by simp) _).alloc (by simp; omega) _
  have q1' : (((w.alloc (.cells #[.int .u64 (key.1 : Int), .int .u64 (key.2 : Int)] 24)).alloc (.cells #[.int .u64 (a0 : Int), .int .u64 (b0 : Int), .int .u64 (c0 : Int), .int .u64 (d0 : Int)] 56)).alloc (.cells #[.int .u64 0, .int .u64 0] 24)).heap[w.heap.size + 1]? = some (.cells #[.int .u64 (a0 : Int), .int .u64 (b0 : Int), .int .u64 (c0 : Int), .int .u64 (d0 : Int)] 56 (0, 0)) := by
    rw [Below.heap_alloc _ _ _ (by simp)]; simpa using q1
  have q2' : (((w.alloc (.cells #[.int .u64 (key.1 : Int), .int .u64 (key.2 : Int)] 24)).alloc (.cells #[.int .u64 (a0 : Int), .int .u64 (b0 : Int), .int .u64 (c0 : Int), .int .u64 (d0 : Int)] 56)).alloc (.cells #[.int .u64 0, .int .u64 0] 24)).heap[w.heap.size + 1 + 1]? = some (.cells #[.int .u64 0, .int .u64 0] 24 (0, 0)) := by simpa using q2
  have HB1 := Lib.hid q3; have HQ1 := Lib.hid q1'; have HQ2 := Lib.hid q2'
  have HT := Lib.hid T; have H1 := Lib.hid C1; have H2 := Lib.hid C2; have H4 := Lib.hid C4
  clear q1 q2 q3 q1' q2' T C1 C2 C4 ok1 ok2 ok3 ok4 ok5 hv hl hr h7
  obtain ⟨rr, hrr⟩ : ∃ rr, rr = w.heap.size + 1 + 1 := ⟨_, rfl⟩
  have hrw : w.heap.size ≤ rr := by omega
  go_enter Tryd.func34, Tryd.ntmps34
  go_upto_region 1 with fail
  generalize (((w.alloc _).alloc _).alloc _) = w1 at *
  rw [← hrr] at HQ2 ⊢
  have HRR := Lib.hid hrr
  clear hrr
  have p0 := cell_of HQ1.out 0 rfl
  have p1 := cell_of HQ1.out 1 rfl
  have p2 := cell_of HQ1.out 2 rfl
  have p3 := cell_of HQ1.out 3 rfl
  have hbd : Below w.heap.size w w1.drew := HB1.out.drew
  have hba : Below w.heap.size w (w1.alloc (.cells #[.int .u64 0, .int .u64 0, .int .u64 0, .int .u64 0] 56)).drew := (HB1.out.alloc HB1.out.size _).drew
  have k4 : ∀ w3, Below w1.heap.size w1 w3 → w3.cell? ⟨w.heap.size + 1, 0, none⟩ = some (.int .u64 (a0 : Int)) ∧ w3.cell? ⟨w.heap.size + 1, 1, none⟩ = some (.int .u64 (b0 : Int)) ∧ w3.cell? ⟨w.heap.size + 1, 2, none⟩ = some (.int .u64 (c0 : Int)) ∧ w3.cell? ⟨w.heap.size + 1, 3, none⟩ = some (.int .u64 (d0 : Int)) := fun w3 hw3 => by
    have hk3 := (hw3.block _ (block_lt HQ1.out)).trans HQ1.out
    exact ⟨cell_of hk3 0 rfl, cell_of hk3 1 rfl, cell_of hk3 2 rfl, cell_of hk3 3 rfl⟩
  have fa : ∀ w3, Below w1.drew.heap.size w1.drew w3 → Lat w (w3.alloc (.cells #[.int .u64 (a1 : Int), .int .u64 (b1 : Int), .int .u64 (c1 : Int), .int .u64 (d1 : Int)] 56)) w3.heap.size rr a1 b1 c1 d1 ∧ w3.cell? ⟨w.heap.size + 1, 0, none⟩ = some (.int .u64 (a0 : Int)) ∧ w3.cell? ⟨w.heap.size + 1, 1, none⟩ = some (.int .u64 (b0 : Int)) ∧ w3.cell? ⟨w.heap.size + 1, 2, none⟩ = some (.int .u64 (c0 : Int)) ∧ w3.cell? ⟨w.heap.size + 1, 3, none⟩ = some (.int .u64 (d0 : Int)) := fun w3 h => ⟨latA HB1.out.drew HQ2.out hrw h, k4 w3 ((Below.refl _ w1).drew.trans h)⟩
  have fb : ∀ w3, Below (w1.alloc (.cells #[.int .u64 0, .int .u64 0, .int .u64 0, .int .u64 0] 56)).drew.heap.size (w1.alloc (.cells #[.int .u64 0, .int .u64 0, .int .u64 0, .int .u64 0] 56)).drew w3 → Lat w w3 w1.heap.size rr 0 0 0 0 ∧ w3.cell? ⟨w.heap.size + 1, 0, none⟩ = some (.int .u64 (a0 : Int)) ∧ w3.cell? ⟨w.heap.size + 1, 1, none⟩ = some (.int .u64 (b0 : Int)) ∧ w3.cell? ⟨w.heap.size + 1, 2, none⟩ = some (.int .u64 (c0 : Int)) ∧ w3.cell? ⟨w.heap.size + 1, 3, none⟩ = some (.int .u64 (d0 : Int)) := fun w3 h => ⟨latB HB1.out HQ2.out hrw (Below.refl _ _).drew h, k4 w3 (latBb (Below.refl _ _).drew h)⟩
  have hne : w.heap.size + 1 < w1.heap.size := block_lt HQ1.out
  have fk : ∀ w3 : World, w3.cell? ⟨w.heap.size + 1, 0, none⟩ = some (.int .u64 (a0 : Int)) ∧ w3.cell? ⟨w.heap.size + 1, 1, none⟩ = some (.int .u64 (b0 : Int)) ∧ w3.cell? ⟨w.heap.size + 1, 2, none⟩ = some (.int .u64 (c0 : Int)) ∧ w3.cell? ⟨w.heap.size + 1, 3, none⟩ = some (.int .u64 (d0 : Int)) → ((((w3.setCell ⟨w1.heap.size, 0, none⟩ (.int .u64 (a1 : Int))).setCell ⟨w1.heap.size, 1, none⟩ (.int .u64 (b1 : Int))).setCell ⟨w1.heap.size, 2, none⟩ (.int .u64 (c1 : Int))).setCell ⟨w1.heap.size, 3, none⟩ (.int .u64 (d1 : Int))).cell? ⟨w.heap.size + 1, 0, none⟩ = some (.int .u64 (a0 : Int)) ∧ ((((w3.setCell ⟨w1.heap.size, 0, none⟩ (.int .u64 (a1 : Int))).setCell ⟨w1.heap.size, 1, none⟩ (.int .u64 (b1 : Int))).setCell ⟨w1.heap.size, 2, none⟩ (.int .u64 (c1 : Int))).setCell ⟨w1.heap.size, 3, none⟩ (.int .u64 (d1 : Int))).cell? ⟨w.heap.size + 1, 1, none⟩ = some (.int .u64 (b0 : Int)) ∧ ((((w3.setCell ⟨w1.heap.size, 0, none⟩ (.int .u64 (a1 : Int))).setCell ⟨w1.heap.size, 1, none⟩ (.int .u64 (b1 : Int))).setCell ⟨w1.heap.size, 2, none⟩ (.int .u64 (c1 : Int))).setCell ⟨w1.heap.size, 3, none⟩ (.int .u64 (d1 : Int))).cell? ⟨w.heap.size + 1, 2, none⟩ = some (.int .u64 (c0 : Int)) ∧ ((((w3.setCell ⟨w1.heap.size, 0, none⟩ (.int .u64 (a1 : Int))).setCell ⟨w1.heap.size, 1, none⟩ (.int .u64 (b1 : Int))).setCell ⟨w1.heap.size, 2, none⟩ (.int .u64 (c1 : Int))).setCell ⟨w1.heap.size, 3, none⟩ (.int .u64 (d1 : Int))).cell? ⟨w.heap.size + 1, 3, none⟩ = some (.int .u64 (d0 : Int)) := fun w3 ⟨k0, k1, k2, k3⟩ => by
    refine ⟨?_, ?_, ?_, ?_⟩ <;> rw [World.cell?_setCell_other _ _ _ _ (by intro h; have := congrArg Addr.block h; simp at this; omega), World.cell?_setCell_other _ _ _ _ (by intro h; have := congrArg Addr.block h; simp at this; omega), World.cell?_setCell_other _ _ _ _ (by intro h; have := congrArg Addr.block h; simp at this; omega), World.cell?_setCell_other _ _ _ _ (by intro h; have := congrArg Addr.block h; simp at this; omega)] <;> assumption
  have FK := Lib.hid fk
  have HBD := Lib.hid hbd; have HBA := Lib.hid hba; have FA := Lib.hid fa; have FB := Lib.hid fb
  clear hbd hba k4 fa fb fk hne
  go_cut [11] (fun s11 wx => ∃ g, s11 = .pointer (some ⟨g, 0, none⟩) ∧ Hid (Lat w wx g rr a1 b1 c1 d1))
  case first =>
    go_region_held3 (fun w' => w'.cell? ⟨w.heap.size + 1, 0, none⟩ = some (.int .u64 (a0 : Int)) ∧ w'.cell? ⟨w.heap.size + 1, 1, none⟩ = some (.int .u64 (b0 : Int)) ∧ w'.cell? ⟨w.heap.size + 1, 2, none⟩ = some (.int .u64 (c0 : Int)) ∧ w'.cell? ⟨w.heap.size + 1, 3, none⟩ = some (.int .u64 (d0 : Int)))
      (first | (with_reducible exact ⟨s0, s1, s2, s3⟩) | (with_reducible exact FK.out _ ⟨s0, s1, s2, s3⟩) | go_keep)
      (first
      | (go_at_call 48; refine (HT.out _ (by first | (with_reducible exact HBD.out) | (with_reducible exact HBA.out))).mono ?_; rintro e w' ⟨rfl, rfl⟩)
      | (go_at_call 47; refine (H1.out _).mono ?_; rintro e w3 ⟨rfl, hb3⟩; (first
          | (with_reducible have hf := FA.out _ hb3; obtain ⟨hf1, s0, s1, s2, s3⟩ := hf; have HL3 := Lib.hid hf1; clear hf1 hb3)
          | (with_reducible have hf := FB.out _ hb3; obtain ⟨hf1, s0, s1, s2, s3⟩ := hf; have HL3 := Lib.hid hf1; clear hf1 hb3; obtain ⟨r0, r1, r2, r3⟩ := HL3.out.cells; obtain ⟨g0, g1, g2, g3⟩ := HL3.out.frees))))
    all_goals
      go_wp2_with fail
      go_meet
      first | exact ⟨_, rfl, HL3⟩ | exact ⟨_, rfl, Lib.hid (HL3.out.set4 a1 b1 c1 d1)⟩
  case rest =>
    obtain ⟨g, rfl, HL⟩ := hcut
    clear p0 p1 p2 p3 HT H1 HBD HBA FA FB FK HQ1 HQ2 HB1 em em' ea el
    obtain ⟨p0, p1, p2, p3⟩ := HL.out.cells
    obtain ⟨q0, q1, q2, q3⟩ := HL.out.frees
    go_upto_region 8 with fail
    go_cut [] (fun wx => Hid (Lat w wx g rr a1 b1 c2 d1))
    case first =>
      go_wp2_with fail
      go_meet
      exact HL.out.set2 c2
    case rest =>
      clear HL p0 p1 p2 p3 q0 q1 q2 q3 e2
      have HL := hcut; clear hcut
      obtain ⟨p0, p1, p2, p3⟩ := HL.out.cells
      go_upto_region 9 with fail
      go_cut [] (fun wx => Hid (Lat w wx g rr a3 b3 c3 d3))
      case first =>
        go_wp2_with fail
        refine (H2.out _).mono ?_
        rintro e w3 ⟨rfl, hb⟩
        have HL3 := Lib.hid (HL.out.below hb)
        clear hb HL p0 p1 p2 p3
        obtain ⟨p0, p1, p2, p3⟩ := HL3.out.cells
        obtain ⟨q0, q1, q2, q3⟩ := HL3.out.frees
        go_wp2_with fail
        go_meet
        exact HL3.out.set4 a3 b3 c3 d3
      case rest =>
        clear HL p0 p1 p2 p3 H2
        have HL := hcut; clear hcut
        obtain ⟨p0, p1, p2, p3⟩ := HL.out.cells
        obtain ⟨q0, q1, q2, q3⟩ := HL.out.frees
        go_upto_region 11 with fail
        go_cut [] (fun wx => Hid (Lat w wx g rr a3 b4 c3 d3))
        case first =>
          go_wp2_with fail
          go_meet
          exact HL.out.set1 b4
        case rest =>
          clear HL p0 p1 p2 p3 q0 q1 q2 q3 e4 f1 f2 f3
          have HL := hcut; clear hcut
          obtain ⟨p0, p1, p2, p3⟩ := HL.out.cells
          go_upto_region 12 with fail
          go_cut [] (fun wx => Hid (Lat w wx g rr a5 b5 c5 d5))
          case first =>
            go_wp2_with fail
            refine (H4.out _).mono ?_
            rintro e w3 ⟨rfl, hb⟩
            have HL3 := Lib.hid (HL.out.below hb)
            clear hb HL p0 p1 p2 p3
            obtain ⟨p0, p1, p2, p3⟩ := HL3.out.cells
            obtain ⟨q0, q1, q2, q3⟩ := HL3.out.frees
            go_wp2_with fail
            go_meet
            exact HL3.out.set4 a5 b5 c5 d5
          case rest =>
            clear HL p0 p1 p2 p3 H4
            have HL := hcut; clear hcut
            obtain ⟨p0, p1, p2, p3⟩ := HL.out.cells
            obtain ⟨r0, r1, q0, q1⟩ := HL.out.rcells
            obtain rfl := HRR.out
            go_wp2_with fail
            refine bodyPost_ret (v := u128 (hi, lo)) (by simp [u128, results, Tryd.results34, go_sem, r0, r1]) rfl ⟨?_, HL.out.ends _ _⟩
            exact (rfl : _ = _)

set_option maxRecDepth 100000 in
set_option maxHeartbeats 4000000 in
theorem refone_any (hi lo : Nat) (h1 : hi < 18446744073709551616) (h2 : lo < 18446744073709551616) (l : List Nat) (hl : Byt l) (s : Value) (n : Nat) (w : World) (hr : Rd w 1 s n (u8s l)) (hn : n ≤ 100000) :
    Calls Tryd.prog 23 #[.int .i64 8, u128 (hi, lo), s] w fun e w' => e = .returned (u128 (sipH hi lo l)) ∧ Below w.heap.size w w' := by
  obtain rfl := hr.len_u8
  obtain ⟨sa, cap, rfl⟩ := hr.form
  have hres : sipH hi lo l = (xall (sipE2 (sipLast (sipBl (l.length / 8) (sipF hi lo) l) (l.drop (l.length / 8 * 8)) l.length)), xall (sipLast (sipBl (l.length / 8) (sipF hi lo) l) (l.drop (l.length / 8 * 8)) l.length)) := rfl
  rw [hres]
  have ok0 := sipF_ok h1 h2
  have C3 := fun W (hW : Below w.heap.size w W) => blocks_any hi lo h1 h2 l hl _ _ W (hr.below hW) hn
  have okF := sipBl_ok (l.length / 8) _ l ok0 hl
  have hb8 := hl.drop (l.length / 8 * 8)
  have hl8 := tail_len l
  generalize sipF hi lo = v0 at *
  generalize sipBl (l.length / 8) v0 l = v1 at *
  generalize l.drop (l.length / 8 * 8) = tl at *
  have C4 := fun W sx k cx (hx : Rd W 1 (.slice sx k cx) k (u8s tl)) => refend_any (hi, lo) v1 okF tl hb8 hl8 (.slice sx k cx) k l.length (by omega) W hx
  generalize xall (sipE2 (sipLast v1 tl l.length)) = rh at *
  generalize xall (sipLast v1 tl l.length) = rl at *
  have hlw : IntKind.u64.wrap (l.length : Int) = (l.length : Int) := swrapN _ (by omega)
  obtain ⟨a1, b1, c1, d1⟩ := v1
  simp only [aggV, u128] at *
  have hst : Below w.heap.size w ((w.alloc (.cells #[.int .u64 (hi : Int), .int .u64 (lo : Int)] 24)).alloc (.cells #[.int .u64 0, .int .u64 0] 24)) := ((Below.refl _ _).alloc (Nat.le_refl _) _).alloc (by simp) _
  have hk : ((w.alloc (.cells #[.int .u64 (hi : Int), .int .u64 (lo : Int)] 24)).alloc (.cells #[.int .u64 0, .int .u64 0] 24)).heap[w.heap.size]? = some (.cells #[.int .u64 (hi : Int), .int .u64 (lo : Int)] 24 (0, 0)) := by
    rw [Below.heap_alloc _ _ _ (by simp)]; exact heap_alloc_new _ _
  have hz : ((w.alloc (.cells #[.int .u64 (hi : Int), .int .u64 (lo : Int)] 24)).alloc (.cells #[.int .u64 0, .int .u64 0] 24)).heap[w.heap.size + 1]? = some (.cells #[.int .u64 0, .int .u64 0] 24 (0, 0)) := by
    have := heap_alloc_new (w.alloc (.cells #[.int .u64 (hi : Int), .int .u64 (lo : Int)] 24)) (.cells #[.int .u64 0, .int .u64 0] 24)
    simpa using this
  have HST := Lib.hid hst; have HZ := Lib.hid hz; have HK := Lib.hid hk; have H3 := Lib.hid C3; have H4 := Lib.hid C4
  have CR := is_8
  clear hst hz hk C3 C4 hres ok0 okF hb8 hl8 hl hr h1 h2
  go_enter Tryd.func23, Tryd.ntmps23
  go_upto_region 1 with fail
  generalize ((w.alloc _).alloc _) = w1 at *
  have k0 := cell_of HK.out 0 rfl
  have k1 := cell_of HK.out 1 rfl
  go_wp2_with fail
  refine (CR _).mono ?_
  rintro e w' ⟨rfl, rfl⟩
  clear CR
  have H3' := Lib.hid (H3.out _ HST.out)
  go_wp2_with fail
  refine H3'.out.mono ?_
  rintro e w4 ⟨sx, k, cx, rfl, hx, hb4⟩
  have HB4 := Lib.hid (HST.out.trans (hb4.mono HST.out.size))
  have HZ4 := Lib.hid ((hb4.block _ (block_lt HZ.out)).trans HZ.out)
  have HK4 := Lib.hid ((hb4.block _ (block_lt HK.out)).trans HK.out)
  have HX := Lib.hid hx
  have hsz4 := HB4.out.size
  have hzl := block_lt HZ4.out
  clear hb4 hx H3' H3 HST HZ HK k0 k1
  have hbx : (w4.alloc (.cells #[.int .u64 (a1 : Int), .int .u64 (b1 : Int), .int .u64 (c1 : Int), .int .u64 (d1 : Int)] 56)).heap[w4.heap.size]? = some (.cells #[.int .u64 (a1 : Int), .int .u64 (b1 : Int), .int .u64 (c1 : Int), .int .u64 (d1 : Int)] 56 (0, 0)) := heap_alloc_new _ _
  have hb5 : Below w4.heap.size w4 (w4.alloc (.cells #[.int .u64 (a1 : Int), .int .u64 (b1 : Int), .int .u64 (c1 : Int), .int .u64 (d1 : Int)] 56)) := (Below.refl _ _).alloc (Nat.le_refl _) _
  have HBX := Lib.hid hbx; have HB5 := Lib.hid hb5
  clear hbx hb5
  go_upto_region 4 with fail
  generalize (w4.alloc _) = w5 at *
  have g0 := cell_of HBX.out 0 rfl
  have g1 := cell_of HBX.out 1 rfl
  have g2 := cell_of HBX.out 2 rfl
  have g3 := cell_of HBX.out 3 rfl
  have HK5 := Lib.hid ((HB5.out.block _ (by omega)).trans HK4.out)
  have k0 := cell_of HK5.out 0 rfl
  have k1 := cell_of HK5.out 1 rfl
  have H4' := Lib.hid (H4.out w5 sx k cx (HX.out.below HB5.out))
  clear H4
  go_wp2_with fail
  refine H4'.out.mono ?_
  rintro e w6 ⟨rfl, hb6⟩
  have hb56 := HB5.out.trans (hb6.mono HB5.out.size)
  have HZ6 := Lib.hid ((hb56.block _ hzl).trans HZ4.out)
  have HB6 := Lib.hid (HB4.out.trans (hb56.mono HB4.out.size))
  have r0 := cell_of HZ6.out 0 rfl
  have r1 := cell_of HZ6.out 1 rfl
  have q0 := frozen_of HZ6.out 0
  have q1 := frozen_of HZ6.out 1
  clear hb6 hb56 g0 g1 g2 g3 H4' HBX HB5 HX k0 k1 HK4 HK5
  go_wp2_with fail
  refine bodyPost_ret (v := u128 (rh, rl)) (by simp [u128, results, Tryd.results23, go_sem, r0, r1]) rfl ⟨?_, (HB6.out.setCell (by simp) _).setCell (by simp) _⟩
  exact (rfl : _ = _)

end Go.Proofs.YtgnbgjdkhnhlkaaDoor
