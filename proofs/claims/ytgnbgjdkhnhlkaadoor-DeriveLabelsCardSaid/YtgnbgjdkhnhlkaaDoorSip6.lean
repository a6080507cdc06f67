/-
  SipHash: the document's word, the first lanes, slices.Clone at bytes, whole blocks.
-/
import Derived.Test.YtgnbgjdkhnhlkaaDoorSip5
namespace Go.Proofs.YtgnbgjdkhnhlkaaDoor
open Go.RowKit
set_option linter.unusedVariables false
set_option linter.unusedSimpArgs false

set_option maxRecDepth 100000 in
set_option maxHeartbeats 4000000 in
theorem refword_any (v : V4) (hv : v.ok) (m : Nat) (hm : m < 18446744073709551616) (w : World) :
    Calls Tryd.prog 47 #[.int .i64 8, aggV v, .int .u64 (m : Int)] w fun e w' => e = .returned (aggV (sipW m v)) ∧ Below w.heap.size w w' := by
  have C := fun W => refrounds_any (xorD m v) (xorD_ok hm hv) 2 (by decide) W
  have hok := sipRs_ok (xorD_ok hm hv) 2
  have hst := Lan.start w v.a v.b v.c v.d
  have e1 := sxorN v.d m hv.2.2.2 hm
  have e2 := sxorN (sipRs 2 (xorD m v)).a m hok.1 hm
  have hR : sipW m v = xorA m (sipRs 2 (xorD m v)) := rfl
  rw [hR]
  generalize sipRs 2 (xorD m v) = u at *
  obtain ⟨ua, ub, uc, ud⟩ := u
  obtain ⟨va, vb, vc, vd⟩ := v
  simp only [aggV, xorD, xorA] at *
  generalize vd ^^^ m = d1 at *
  generalize ua ^^^ m = a1 at *
  have HST := Lib.hid hst; have HC := Lib.hid C
  clear hst C hok hR hv
  go_enter Tryd.func47, Tryd.ntmps47
  go_upto_region 1 with fail
  generalize ((w.alloc _).alloc _) = w1 at *
  have HL := HST; clear HST
  obtain ⟨p0, p1, p2, p3⟩ := HL.out.cells
  obtain ⟨q0, q1, q2, q3⟩ := HL.out.frees
  go_cut [] (fun wx => Hid (Lan w wx va vb vc d1))
  case first =>
    go_wp2_with fail
    go_meet
    exact HL.out.set3 d1
  case rest =>
    clear HL p0 p1 p2 p3 q0 q1 q2 q3
    have HL := hcut; clear hcut
    obtain ⟨p0, p1, p2, p3⟩ := HL.out.cells
    go_upto_if 13 with fail
    go_cut [] (fun wx => Hid (Lan w wx ua ub uc ud))
    case first =>
      go_wp2_with fail
      refine (HC.out _).mono ?_
      rintro e w3 ⟨rfl, hb⟩
      have HL3 := Lib.hid (HL.out.below hb)
      clear hb HL p0 p1 p2 p3
      obtain ⟨p0, p1, p2, p3⟩ := HL3.out.cells
      obtain ⟨q0, q1, q2, q3⟩ := HL3.out.frees
      go_wp2_with fail
      go_meet
      exact HL3.out.set4 ua ub uc ud
    case rest =>
      clear HL p0 p1 p2 p3
      have HL := hcut; clear hcut
      obtain ⟨p0, p1, p2, p3⟩ := HL.out.cells
      obtain ⟨q0, q1, q2, q3⟩ := HL.out.frees
      go_upto_region 5 with fail
      go_cut [] (fun wx => Hid (Lan w wx a1 ub uc ud))
      case first =>
        go_wp2_with fail
        go_meet
        exact HL.out.set0 a1
      case rest =>
        clear HL p0 p1 p2 p3 q0 q1 q2 q3
        have HL := hcut; clear hcut
        obtain ⟨p0, p1, p2, p3⟩ := HL.out.cells
        obtain ⟨d0, d1, d2, d3⟩ := HL.out.rcells
        obtain ⟨q0, q1, q2, q3⟩ := HL.out.rfrees
        go_wp2_with fail
        refine bodyPost_ret (v := aggV ⟨a1, ub, uc, ud⟩) (by simp [aggV, results, Tryd.results47, go_sem, d0, d1, d2, d3]) rfl ⟨?_, HL.out.ends _ _ _ _⟩
        exact (rfl : _ = _)


/-- two words as a struct -/
def u128 (k : Nat × Nat) : Value := .agg #[.int .u64 (k.1 : Int), .int .u64 (k.2 : Int)]

theorem sipF_ok {hi lo : Nat} (h1 : hi < 18446744073709551616) (h2 : lo < 18446744073709551616) : (sipF hi lo).ok :=
  ⟨xor_lt (by decide) h2, xor_lt (xor_lt (by decide) h1) (by decide), xor_lt (by decide) h2, xor_lt (by decide) h1⟩

set_option maxRecDepth 100000 in
set_option maxHeartbeats 4000000 in
theorem first_any (hi lo : Nat) (h1 : hi < 18446744073709551616) (h2 : lo < 18446744073709551616) (w : World) :
    Calls Tryd.prog 28 #[.int .i64 8, u128 (hi, lo)] w fun e w' => e = .returned (aggV (sipF hi lo)) ∧ Below w.heap.size w w' := by
  have c1 : (8317987319222330741 : Nat) < 18446744073709551616 := by decide
  have c2 : (7237128888997146477 : Nat) < 18446744073709551616 := by decide
  have c3 : (7816392313619706465 : Nat) < 18446744073709551616 := by decide
  have c4 : (8387220255154660723 : Nat) < 18446744073709551616 := by decide
  have sw : ∀ a b : Nat, a < 18446744073709551616 → b < 18446744073709551616 → bits .xor .u64 (a : Int) (b : Int) = ((b ^^^ a : Nat) : Int) := fun a b ha hb => by rw [sxorN a b ha hb, Nat.xor_comm]
  have e1 := sw lo _ h2 c1
  have e2 := sw hi _ h1 c2
  have e3 := sw lo _ h2 c3
  have e4 := sw hi _ h1 c4
  have e5 := sxorN (7237128888997146477 ^^^ hi) 238 (xor_lt c2 h1) (by decide)
  have hR : sipF hi lo = ⟨8317987319222330741 ^^^ lo, (7237128888997146477 ^^^ hi) ^^^ 238, 7816392313619706465 ^^^ lo, 8387220255154660723 ^^^ hi⟩ := rfl
  rw [hR]
  clear hR sw c1 c2 c3 c4
  unfold aggV u128
  simp only
  generalize (7237128888997146477 ^^^ hi) ^^^ 238 = x5 at *
  generalize 8317987319222330741 ^^^ lo = x1 at *
  generalize 7237128888997146477 ^^^ hi = x2 at *
  generalize 7816392313619706465 ^^^ lo = x3 at *
  generalize 8387220255154660723 ^^^ hi = x4 at *
  simp only [Int.cast_ofNat_Int] at e1 e2 e3 e4 e5
  go_enter Tryd.func28, Tryd.ntmps28
  go_wp2
  refine bodyPost_ret (v := aggV ⟨x1, x5, x3, x4⟩) (by simp [aggV, results, Tryd.results28, go_sem]) rfl ⟨?_, ?_⟩
  · exact (rfl : _ = _)
  · repeat (first | exact Below.refl _ _ | refine Below.setCell ?_ (by simp) _ | refine Below.alloc ?_ (by first | (simp; done) | (simp; omega)) _)

set_option maxRecDepth 100000 in
set_option maxHeartbeats 4000000 in
theorem stepc_any (v : V4) (hv : v.ok) (l : List Nat) (hl : Byt l) (s : Value) (n : Nat) (w : World) (hr : Rd w 1 s n (u8s l)) (bn : Nat) (hb : w.cell? ⟨bn, 0, none⟩ = some (.int .i64 2)) :
    Calls Tryd.prog 41 #[aggV v, s, .pointer (some ⟨bn, 0, none⟩)] w fun e w' => e = .returned (aggV (sipW (leN (l.take 8)) v)) ∧ Below w.heap.size w w' := by
  have hst := Lan.start w v.a v.b v.c v.d
  have hm : leN (l.take 8) < 18446744073709551616 := by
    have h := leN_lt (l.take 8) fun b hb => hl b (List.mem_of_mem_take hb)
    refine Nat.lt_of_lt_of_le h (Nat.le_trans (Nat.pow_le_pow_right (by decide) (show _ ≤ 8 from ?_)) (by decide))
    rw [List.length_take]; omega
  have C := fun W => word_any v hv (leN (l.take 8)) hm W
  have T := fun W (hW : Below w.heap.size w W) => tail_any l hl s n W (hr.below hW)
  generalize leN (l.take 8) = m at *
  have hR : sipW m v = sipW m v := rfl
  generalize sipW m v = u at *
  obtain ⟨ua, ub, uc, ud⟩ := u
  obtain ⟨va, vb, vc, vd⟩ := v
  simp only [aggV] at *
  have hbl := World.block_lt_of_cell? _ _ hb
  have HST := Lib.hid hst; have HC := Lib.hid C; have HT := Lib.hid T; have HBN := Lib.hid hb
  clear hst C T hR hv hm hr hl hb
  go_enter Tryd.func41, Tryd.ntmps41
  go_upto_region 1 with fail
  generalize ((w.alloc _).alloc _) = w1 at *
  have HL := HST; clear HST
  obtain ⟨p0, p1, p2, p3⟩ := HL.out.cells
  have pn := (HL.out.bel.cell (p := ⟨bn, 0, none⟩) hbl).trans HBN.out
  go_cut [] (fun wx => Hid (∃ wy, Lan w wy va vb vc vd ∧ wx = (((wy.setCell ⟨w.heap.size + 1, 0, none⟩ (.int .u64 (ua : Int))).setCell ⟨w.heap.size + 1, 1, none⟩ (.int .u64 (ub : Int))).setCell ⟨w.heap.size + 1, 2, none⟩ (.int .u64 (uc : Int))).setCell ⟨w.heap.size + 1, 3, none⟩ (.int .u64 (ud : Int))))
  case first =>
    go_region_with (first
      | (go_at_call 43; refine (HT.out _ (by first | exact HL.out.bel | exact HL.out.bel.drew | exact HL.out.bel.drew.drew)).mono ?_; rintro e w' ⟨rfl, rfl⟩)
      | (go_at_call 42; refine (HC.out _).mono ?_; rintro e w3 ⟨rfl, hb3⟩; have HL3 := Lib.hid (show Lan w w3 va vb vc vd by first | exact HL.out.below hb3 | exact HL.out.drew.below hb3 | exact HL.out.drew.drew.below hb3); obtain ⟨d0, d1, d2, d3⟩ := HL3.out.rcells; obtain ⟨q0, q1, q2, q3⟩ := HL3.out.rfrees))
    all_goals
      go_wp2_with fail
      go_meet
      exact ⟨w3, HL3.out, rfl⟩
  case rest =>
    obtain ⟨wy, hy, rfl⟩ := hcut.out
    obtain ⟨d0, d1, d2, d3⟩ := hy.rcells
    have HLY := Lib.hid hy
    clear hcut hy HL p0 p1 p2 p3 pn
    go_wp2_with fail
    refine bodyPost_ret (v := aggV ⟨ua, ub, uc, ud⟩) (by simp [aggV, results, Tryd.results41, go_sem, d0, d1, d2, d3]) rfl ⟨?_, HLY.out.ends _ _ _ _⟩
    exact (rfl : _ = _)

theorem info_u8 : (Tryd.prog.info? 5).map (fun i => (i.zero, i.size, i.bytes)) = some (some (.int .u8 0), 1, 1) := by kernel_rfl

set_option maxHeartbeats 1000000 in
theorem clone_u8 (v : Value) (n : Nat) (l : List Nat) (w : World) (hr : Rd w 1 v n (u8s l)) (hbig : n ≤ 140737488355328) :
    Calls Tryd.prog 40 #[v] w fun e w' => ∃ sa cap, e = .returned (.slice sa n cap) ∧ w'.ownsRow w.heap.size 5 1 (.slice sa n cap) n (u8s l) ∧ Below w.heap.size w w' := by
  obtain ⟨i0, hi, hz0, hz1, hz2⟩ := info_parts info_u8
  have q22 : ∀ (w : World) (a : Option Addr) (n c n' c' : Nat), (binOp .eql 49 (.slice a n c) (.slice none n' c')).run Tryd.prog w = .ok (.bool a.isNone) w := fun w a n c n' c' => Lib.run_eql_slice_nil w _ _ a n c n' c' Tryd.underlying49
  obtain ⟨h1, h2, sa, cap, rfl, hcap, h3⟩ := hr
  have H1 := Lib.hid h1; have H3 := Lib.hid h3; clear h1 h3
  cases sa with
  | none =>
    go_enter Tryd.func40, Tryd.ntmps40
    go_wp2
    go_ret
    have hn : n = 0 := by
      rcases H3.out with h | ⟨b, off, h, _⟩
      · exact h
      · cases h
    have hl : u8s l = [] := List.eq_nil_of_length_eq_zero (by rw [H1.out, hn])
    rw [hn, hl]
    exact ⟨none, 0, rfl, World.ownsRow_nil _ _ _ _, Below.refl _ _⟩
  | some ad =>
    go_enter Tryd.func40, Tryd.ntmps40
    go_wp2_with (at_builtin; refine wpList_append_own _ rfl _ _ 49 rfl w.heap.size 5 i0 (.int .u8 0) 1 1 Tryd.underlying49 hi hz0 hz1 hz2 rfl (by decide) _ _ _ rfl (World.ownsRow_made w #[] 0 (Nat.le_refl _) (Nat.zero_le _) rfl) ad n cap (u8s l) rfl ?qc1 ?qc2 ?qc3 ?qc4 ?qc5 ?qc6 ?_)
    case qc1 => exact H1.out
    case qc2 =>
      intro j u hj
      rcases H3.out with h | ⟨b, off, h, hc⟩
      · have hl : u8s l = [] := List.eq_nil_of_length_eq_zero (by rw [H1.out, h])
        rw [hl] at hj; cases hj
      · cases h
        rw [Addr.add_lit]
        exact Lib.cell?_alloc_some _ (hc j u hj)
    case qc3 => exact u8s_one
    case qc4 => unfold maxLen; omega
    case qc5 => omega
    case qc6 => simp
    intro v' w1 hown hgrow hnil
    obtain ⟨sa, ca, rfl⟩ := (rd_of_row hown).form
    go_wp2
    go_ret
    refine ⟨sa, ca, by simp, by simpa using hown, ?_⟩
    exact ((Below.refl _ w).alloc (Nat.le_refl _) _).grown hgrow (by simp) (by intro k hk; simp [Value.ownBlock] at hk; omega)

end Go.Proofs.YtgnbgjdkhnhlkaaDoor
