/-
  SipHash with 128 bits: sip.One; the document's From, Blocks, End, One.
-/
import Derived.Test.YtgnbgjdkhnhlkaaDoorSip8
namespace Go.Proofs.YtgnbgjdkhnhlkaaDoor
open Go.RowKit
set_option linter.unusedVariables false
set_option linter.unusedSimpArgs false

theorem tail_len (l : List Nat) : (l.drop (l.length / 8 * 8)).length ≤ 7 := by rw [List.length_drop]; omega
theorem sipBl_ok : ∀ (n : Nat) (v : V4) (l : List Nat), v.ok → Byt l → (sipBl n v l).ok
  | 0, _, _, h, _ => h
  | n + 1, v, l, h, hl => sipBl_ok n _ _ (sipW_ok (le8_lt l hl) h) (hl.drop 8)

set_option maxRecDepth 100000 in
set_option maxHeartbeats 4000000 in
theorem one_any (hi lo : Nat) (h1 : hi < 18446744073709551616) (h2 : lo < 18446744073709551616) (l : List Nat) (hl : Byt l) (s : Value) (n : Nat) (w : World) (hr : Rd w 1 s n (u8s l)) (hn : n ≤ 100000) :
    Calls Tryd.prog 20 #[.int .i64 8, u128 (hi, lo), s] w fun e w' => e = .returned (u128 (sipH hi lo l)) ∧ Below w.heap.size w w' := by
  obtain rfl := hr.len_u8
  obtain ⟨sa, cap, rfl⟩ := hr.form
  have hres : sipH hi lo l = (xall (sipE2 (sipLast (sipBl (l.length / 8) (sipF hi lo) l) (l.drop (l.length / 8 * 8)) l.length)), xall (sipLast (sipBl (l.length / 8) (sipF hi lo) l) (l.drop (l.length / 8 * 8)) l.length)) := rfl
  rw [hres]
  have C1 := fun W => first_any hi lo h1 h2 W
  have ok0 := sipF_ok h1 h2
  have C3 := fun W bn (hW : Below w.heap.size w W) (hb : W.cell? ⟨bn, 0, none⟩ = some (.int .i64 2)) => fold_any (sipF hi lo) ok0 l hl _ _ W (hr.below hW) hn bn hb
  have okF := sipBl_ok (l.length / 8) _ l ok0 hl
  have hb8 := hl.drop (l.length / 8 * 8)
  have hl8 := tail_len l
  generalize sipF hi lo = v0 at *
  generalize sipBl (l.length / 8) v0 l = v1 at *
  generalize l.drop (l.length / 8 * 8) = tl at *
  have C4 := fun W sx k cx (hx : Rd W 1 (.slice sx k cx) k (u8s tl)) => end_any v1 okF tl hb8 hl8 (.slice sx k cx) k l.length (by omega) W hx
  generalize xall (sipE2 (sipLast v1 tl l.length)) = rh at *
  generalize xall (sipLast v1 tl l.length) = rl at *
  have hlw : IntKind.u64.wrap (l.length : Int) = (l.length : Int) := swrapN _ (by omega)
  obtain ⟨a0, b0, c0, d0⟩ := v0
  obtain ⟨a1, b1, c1, d1⟩ := v1
  simp only [aggV, u128] at *
  have hst : Below w.heap.size w ((w.alloc (.cells #[.int .u64 (hi : Int), .int .u64 (lo : Int)] 24)).alloc (.cells #[.int .u64 0, .int .u64 0] 24)) := ((Below.refl _ _).alloc (Nat.le_refl _) _).alloc (by simp) _
  have hk : ((w.alloc (.cells #[.int .u64 (hi : Int), .int .u64 (lo : Int)] 24)).alloc (.cells #[.int .u64 0, .int .u64 0] 24)).heap[w.heap.size]? = some (.cells #[.int .u64 (hi : Int), .int .u64 (lo : Int)] 24 (0, 0)) := by
    rw [Below.heap_alloc _ _ _ (by simp)]; exact heap_alloc_new _ _
  have hz : ((w.alloc (.cells #[.int .u64 (hi : Int), .int .u64 (lo : Int)] 24)).alloc (.cells #[.int .u64 0, .int .u64 0] 24)).heap[w.heap.size + 1]? = some (.cells #[.int .u64 0, .int .u64 0] 24 (0, 0)) := by
    have := heap_alloc_new (w.alloc (.cells #[.int .u64 (hi : Int), .int .u64 (lo : Int)] 24)) (.cells #[.int .u64 0, .int .u64 0] 24)
    simpa using this
  have HST := Lib.hid hst; have HZ := Lib.hid hz; have HK := Lib.hid hk; have H1 := Lib.hid C1; have H3 := Lib.hid C3; have H4 := Lib.hid C4
  have CS := Lib.hid (fun W => stepper_any W)
  have CR := rounds_8
  clear hst hz hk C1 C3 C4 hres ok0 okF hb8 hl8 hl hr h1 h2
  go_enter Tryd.func20, Tryd.ntmps20
  go_upto_region 1 with fail
  generalize ((w.alloc _).alloc _) = w1 at *
  have k0 := cell_of HK.out 0 rfl
  have k1 := cell_of HK.out 1 rfl
  go_wp2_with fail
  refine (CR _).mono ?_
  rintro e w' ⟨rfl, rfl⟩
  clear CR
  go_wp2_with fail
  refine (H1.out _).mono ?_
  rintro e w2 ⟨rfl, hb2⟩
  have HB2 := Lib.hid (HST.out.trans (hb2.mono HST.out.size))
  have HZ2 := Lib.hid ((hb2.block _ (block_lt HZ.out)).trans HZ.out)
  clear hb2 k0 k1 HK H1 HST HZ
  go_wp2_with fail
  refine (CS.out _).mono ?_
  rintro e w3 ⟨bn, rfl, hbn, hb3⟩
  have HB3 := Lib.hid (HB2.out.trans (hb3.mono HB2.out.size))
  have HZ3 := Lib.hid ((hb3.block _ (block_lt HZ2.out)).trans HZ2.out)
  have H3' := Lib.hid (H3.out _ bn HB3.out hbn)
  clear hb3 hbn CS HB2 HZ2 H3
  go_wp2_with fail
  refine H3'.out.mono ?_
  rintro e w4 ⟨sx, k, cx, rfl, hx, hb4⟩
  have HB4 := Lib.hid (HB3.out.trans (hb4.mono HB3.out.size))
  have HZ4 := Lib.hid ((hb4.block _ (block_lt HZ3.out)).trans HZ3.out)
  have HX := Lib.hid hx
  have hsz4 := HB4.out.size
  have hzl := block_lt HZ4.out
  clear hb4 hx HB3 HZ3 H3'
  have hbx : (w4.alloc (.cells #[.int .u64 (a1 : Int), .int .u64 (b1 : Int), .int .u64 (c1 : Int), .int .u64 (d1 : Int)] 56)).heap[w4.heap.size]? = some (.cells #[.int .u64 (a1 : Int), .int .u64 (b1 : Int), .int .u64 (c1 : Int), .int .u64 (d1 : Int)] 56 (0, 0)) := heap_alloc_new _ _
  have hb5 : Below w4.heap.size w4 (w4.alloc (.cells #[.int .u64 (a1 : Int), .int .u64 (b1 : Int), .int .u64 (c1 : Int), .int .u64 (d1 : Int)] 56)) := (Below.refl _ _).alloc (Nat.le_refl _) _
  have HBX := Lib.hid hbx; have HB5 := Lib.hid hb5
  clear hbx hb5
  go_upto_region 5 with fail
  generalize (w4.alloc _) = w5 at *
  have g0 := cell_of HBX.out 0 rfl
  have g1 := cell_of HBX.out 1 rfl
  have g2 := cell_of HBX.out 2 rfl
  have g3 := cell_of HBX.out 3 rfl
  have H4' := Lib.hid (H4.out w5 sx k cx (HX.out.below HB5.out))
  clear H4
  go_wp2_with fail
  refine H4'.out.mono ?_
  rintro e w6 ⟨rfl, hb6⟩
  have hb56 := HB5.out.trans (hb6.mono HB5.out.size)
  have HZ6 := Lib.hid ((hb56.block _ hzl).trans HZ4.out)
  have HB6 := Lib.hid (HB4.out.trans (hb56.mono HB4.out.size))
  have r0 := cell_of HZ6.out 0 rfl
  have r1 := cell_of HZ6.out 1 rfl
  have q0 := frozen_of HZ6.out 0
  have q1 := frozen_of HZ6.out 1
  clear hb6 hb56 g0 g1 g2 g3 H4' HBX HB5 HX
  go_wp2_with fail
  refine bodyPost_ret (v := u128 (rh, rl)) (by simp [u128, results, Tryd.results20, go_sem, r0, r1]) rfl ⟨?_, (HB6.out.setCell (by simp) _).setCell (by simp) _⟩
  exact (rfl : _ = _)

set_option maxRecDepth 100000 in
set_option maxHeartbeats 4000000 in
theorem from_any (v0 : V4) (hv : v0.ok) (l : List Nat) (hl : Byt l) (s : Value) (n : Nat) (w0 w : World) (h0w : Below w0.heap.size w0 w) (hr : Rd w0 1 s n (u8s l)) (hn : n ≤ 100000) :
    Calls Tryd.prog 46 #[.int .i64 8, aggV v0, s] w fun e w' =>
      ∃ (sa : Option Addr) (k cap : Nat), e = .returned (.tuple #[aggV (sipBl (l.length / 8) v0 l), .slice sa k cap]) ∧ Rd w0 1 (.slice sa k cap) k (u8s (l.drop (l.length / 8 * 8))) ∧ Below w.heap.size w w' := by
  obtain rfl := hr.len_u8
  obtain ⟨sa, cap, rfl⟩ := hr.form
  have hst := Lan.start w v0.a v0.b v0.c v0.d
  obtain ⟨F, hF⟩ : ∃ F, F = sipBl (l.length / 8) v0 l := ⟨_, rfl⟩
  obtain ⟨T, hT⟩ : ∃ T, T = l.drop (l.length / 8 * 8) := ⟨_, rfl⟩
  rw [← hF, ← hT]
  have HST := Lib.hid hst; have HR := Lib.hid hr; have HBY := Lib.hid hl; have HV := Lib.hid hv
  have hstart : sipBl (l.length / 8) v0 l = F ∧ l.drop (l.length / 8 * 8) = T := ⟨hF.symm, hT.symm⟩
  have HSTART := Lib.hid hstart
  have H0W := Lib.hid h0w
  clear hst hr hl hv hF hT hstart h0w
  obtain ⟨va, vb, vc, vd⟩ := v0
  simp only [aggV] at *
  go_enter Tryd.func46, Tryd.ntmps46
  go_wp2_with fail
  go_loopw [2] (fun s3 wr => ∃ (sr : Option Addr) (cr m : Nat) (r : List Nat) (a b c d : Nat), m ≤ 100000 ∧ m ≤ cr ∧ s3 = .slice sr m cr ∧ Hid (r.length = m) ∧ Hid (Byt r) ∧ Hid (Rd w0 1 (.slice sr m cr) m (u8s r)) ∧ Hid (Lan w wr a b c d) ∧ Hid (V4.ok ⟨a, b, c, d⟩) ∧ Hid (sipBl (m / 8) ⟨a, b, c, d⟩ r = F ∧ r.drop (m / 8 * 8) = T)) (fun s3 _ => match s3 with | .slice _ m _ => m | _ => 0)
  case atStart => exact ⟨sa, cap, l.length, l, va, vb, vc, vd, hn, HR.out.cap_le.1, rfl, rfl, HBY, HR, HST, HV, HSTART⟩
  case round =>
    obtain ⟨sr, cr, m, r, a, b, c, d, hm, hmc, rfl, HLEN, HY, HRR, HL, HOK, HFIN⟩ := hrel
    obtain ⟨p0, p1, p2, p3⟩ := HL.out.cells
    by_cases h8 : 8 ≤ m
    · have h8c : 8 ≤ cr := by omega
      have hnm := fun W (hW : Below w.heap.size w W) => num_any r HY.out _ _ W (HRR.out.below (H0W.out.trans (hW.mono H0W.out.size)))
      have hwd := fun W => refword_any ⟨a, b, c, d⟩ HOK.out _ (le8_lt r HY.out) W
      obtain ⟨hs1, hs2⟩ := sipBl_step r ⟨a, b, c, d⟩ (by rw [HLEN.out]; exact h8)
      have hlen' : (r.drop 8).length = m - 8 := by rw [List.length_drop, HLEN.out]
      rw [HLEN.out, hlen', HFIN.out.1] at hs1
      rw [HLEN.out, hlen', HFIN.out.2] at hs2
      have hok' := sipW_ok (le8_lt r HY.out) HOK.out
      generalize sipW (leN (r.take 8)) ⟨a, b, c, d⟩ = u at *
      generalize leN (r.take 8) = M at *
      obtain ⟨ua, ub, uc, ud⟩ := u
      simp only [aggV] at hwd
      have HNM := Lib.hid hnm; have HWD := Lib.hid hwd; have HS := Lib.hid (And.intro hs1.symm hs2.symm); have HO2 := Lib.hid hok'
      have hrest := HRR.out.rest (k := 8) h8
      rw [← u8s_drop] at hrest
      obtain ⟨sx, hx⟩ : ∃ sx, (if cr = 8 then sr else sr.map (·.add 8)) = sx := ⟨_, rfl⟩
      rw [hx] at hrest
      have HRE := Lib.hid hrest; have HL2 := Lib.hid hlen'; have HY2 := Lib.hid (HY.out.drop 8)
      clear hnm hwd hs1 hs2 hok' hrest hlen' HLEN HY HFIN HOK HST HR HBY HV HSTART
      have hd8 : decide ((m : Int) ≥ 8) = true := decide_eq_true (by omega)
      go_upto_region 2 with fail
      go_cut [] (fun wx => Hid (Lan w wx ua ub uc ud))
      case first =>
        go_region_with (first
          | (go_at_call 48; refine (HNM.out _ (by first | exact HL.out.bel | exact HL.out.bel.drew | exact HL.out.bel.drew.drew)).mono ?_; rintro e w' ⟨rfl, rfl⟩)
          | (go_at_call 47; refine (HWD.out _).mono ?_; rintro e w3 ⟨rfl, hb3⟩; have HL3 := Lib.hid (show Lan w w3 a b c d by first | exact HL.out.below hb3 | exact HL.out.drew.below hb3 | exact HL.out.drew.drew.below hb3); obtain ⟨d0, d1, d2, d3⟩ := HL3.out.cells; obtain ⟨q0, q1, q2, q3⟩ := HL3.out.frees))
        all_goals
          go_wp2_with fail
          go_meet
          exact HL3.out.set4 ua ub uc ud
      case rest =>
        clear p0 p1 p2 p3 HL HNM HWD HRR
        have HL := hcut; clear hcut
        have e8 : ((8 : Int) ≤ (m : Int)) := by omega
        go_wp2_with fail
        go_roundw
        case rel => exact ⟨sx, cr - 8, m - 8, r.drop 8, ua, ub, uc, ud, by omega, by omega, by subst hx; rfl, HL2, HY2, HRE, HL, HO2, HS⟩
        case measure => simp; omega
    · have hd8 : decide ((m : Int) ≥ 8) = false := decide_eq_false (by omega)
      have h0 : m / 8 = 0 := by omega
      have hF2 : (⟨a, b, c, d⟩ : V4) = F ∧ r = T := by
        have := HFIN.out
        rw [h0] at this
        exact this
      obtain ⟨hF2, rfl⟩ := hF2
      have HF2 := Lib.hid hF2
      clear hF2 HFIN HSTART HST HR
      obtain ⟨d0, d1, d2, d3⟩ := HL.out.rcells
      obtain ⟨q0, q1, q2, q3⟩ := HL.out.rfrees
      go_wp2_with fail
      refine bodyPost_ret (v := .tuple #[aggV ⟨a, b, c, d⟩, .slice sr m cr]) (by simp [aggV, results, Tryd.results46, go_sem, d0, d1, d2, d3]) rfl ⟨sr, m, cr, ?_, HRR.out, HL.out.ends _ _ _ _⟩
      rw [← HF2.out]
      exact (rfl : _ = _)

end Go.Proofs.YtgnbgjdkhnhlkaaDoor
