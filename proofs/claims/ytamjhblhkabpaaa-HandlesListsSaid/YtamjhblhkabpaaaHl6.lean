/-
  The law HandlesLists.
-/
import Derived.Test.YtamjhblhkabpaaaHl5
namespace Go.Proofs.Ytamjhblhkabpaaa
open Go.RowKit
set_option linter.unusedVariables false
set_option linter.unusedSimpArgs false

theorem step_any {B : Nat} {w : World} {tb pb lb cap R : Nat} {T : Int} {ps ls : List Plc} (k h nn : Int) (hA : TwoAt B w tb pb lb cap R T ps ls) (hT0 : 0 ≤ T) (hT1 : T ≤ 30000) (h0 : 0 ≤ h) (h1 : h ≤ 18446744073709551615) :
    Calls Try.prog 7 #[.pointer (some ⟨tb, 0, none⟩), .slice (some ⟨lb, 0, none⟩) R cap, .agg #[.int .i64 k, .int .u64 h, .int .i64 nn]] w fun e w' => e = .returned (.tuple #[.slice (some ⟨lb, 0, none⟩) R cap, .bool true]) ∧ Below B w w' ∧ ∃ ps' ls', TwoAt B w' tb pb lb cap R (T + 1) ps' ls' := by
  by_cases k0 : k = 0
  · subst k0; exact step_put h nn hA hT0 hT1
  · by_cases k1 : k = 1
    · subst k1; exact step_get h nn hA hT0 hT1 h0 h1
    · by_cases k2 : k = 2
      · subst k2; exact step_set h nn hA hT0 hT1 h0 h1
      · by_cases k3 : k = 3
        · subst k3; exact step_drop h nn hA hT0 hT1 h0 h1
        · exact step_else k h nn (by simp [k0]) (by simp [k1]) (by simp [k2]) (by simp [k3]) (by omega) hA hT0 hT1 h0 h1
theorem TwoAt.okl {B : Nat} {w : World} {tb pb lb cap R : Nat} {T : Int} {ps ls : List Plc} (h : TwoAt B w tb pb lb cap R T ps ls) : ∀ i, i < ls.length → (ls.getD i plZ).1 = true → 1 ≤ (ls.getD i plZ).2.1 := by
  intro i hi hin
  rw [h.sim.len] at hi
  rw [h.sim.times i hi]
  exact h.ok i hi (by rw [← h.sim.isin i hi]; exact hin)

set_option maxRecDepth 100000 in
set_option maxHeartbeats 4000000 in
theorem law_HandlesLists (w : World) (room : Int) (v : Value) (n : Nat) (ops : List Opp) (hr : Rd w 3 v n (opC ops)) (hok : OpsOk ops) :
    Calls Try.prog 3 #[.int .i64 room, v] w fun e w' => e = .returned (.bool true) ∧ Below w.heap.size w w' := by
  have hln : n = ops.length := by have := hr.1; rw [opC_len] at this; omega
  subst hln
  obtain ⟨sa, cap0, rfl⟩ := hr.form
  have HR := Lib.hid hr; have HOK := Lib.hid hok; clear hr hok
  by_cases h120 : 120 < ops.length
  · have h120' : (120 : Int) < (ops.length : Int) := by omega
    go_enter Try.func3, Try.ntmps3
    go_wp2_with fail
    refine (awake48 _).mono ?_
    rintro e w1 ⟨rfl, hb1⟩
    have HB1 := Lib.hid hb1; clear hb1
    go_wp2_with fail
    go_ret
    exact ⟨rfl, HB1.out⟩
  · have h120' : ¬ (120 : Int) < (ops.length : Int) := by omega
    obtain ⟨R, hR⟩ : ∃ R, R = roomN room := ⟨_, rfl⟩
    have hR2 := roomN_pos room
    rw [← hR] at hR2
    go_enter Try.func3, Try.ntmps3
    go_wp2_with fail
    refine (awake48 _).mono ?_
    rintro e w1 ⟨rfl, hb1⟩
    have HB1 := Lib.hid hb1; clear hb1
    go_wp2_with fail
    refine (hnew_any _ room).mono ?_
    rintro e w2 ⟨tb, pb, rfl, hT2, hb2⟩
    have HT2 := Lib.hid hT2; have HB2 := Lib.hid (below_two HB1.out hb2); have HS2 := Lib.hid hb2.size; clear hT2 hb2
    go_wp2_with fail
    refine (places_any _ room).mono ?_
    rintro e w3 ⟨lb, cap, rfl, hL3, hb3⟩
    rw [← hR] at hL3
    rw [← hR]
    have hA3 : TwoAt w1.heap.size w3 tb pb lb cap R 0 (List.replicate R plZ) (List.replicate R plZ) := by
      have ht := HT2.out
      rw [← hR] at ht
      have h1 := block_lt ht.tab
      have h2 := block_lt ht.row
      have h3 := hL3.block.1
      have h4 := HS2.out
      refine ⟨ht.below hb3, ⟨row_mono hL3.row h4, hL3.pos, hL3.le⟩, Sim.refl _, few_zero _ (Int.le_refl _) _, fun i hi hin => ?_, by omega, by omega, by rw [List.length_replicate]⟩
      rw [List.length_replicate] at hi
      simp [List.getD, hi] at hin
    have HA3 := Lib.hid hA3; have HB3 := Lib.hid (below_two HB2.out hb3)
    have HRR := Lib.hid hR
    clear hA3 hL3 hb3 hR HT2 HB2 HS2
    go_wp2_with fail
    go_loopw [6, 21] (fun s6 i wr => ∃ (j : Nat) (ps ls : List Plc), s6 = .slice (some ⟨lb, 0, none⟩) R cap ∧ i = .int .i64 (j : Int) ∧ j ≤ ops.length ∧ Hid (TwoAt w1.heap.size wr tb pb lb cap R (j : Int) ps ls) ∧ Hid (Below w.heap.size w wr)) (fun _ i _ => ops.length - (intOf i).toNat)
    case atStart => exact ⟨0, _, _, rfl, rfl, Nat.zero_le _, HA3, HB3⟩
    case round =>
      clear HA3 HB3
      obtain ⟨j, ps, ls, rfl, rfl, hj, HA, HB⟩ := hrel
      by_cases hlt : j < ops.length
      · obtain ⟨b, off, hsa, hcc⟩ := (HR.out.below HB.out).at (by omega)
        subst hsa
        obtain ⟨o0, o1, o2⟩ := opC_at ops j hlt
        have x0 := hcc _ _ o0
        have x1 := hcc _ _ o1
        have x2 := hcc _ _ o2
        have hh := HOK.out j hlt
        obtain ⟨⟨k, h, nn⟩, hp⟩ : ∃ p : Opp, ops.getD j (0, 0, 0) = p := ⟨_, rfl⟩
        rw [hp] at x0 x1 x2 hh
        have hh0 : 0 ≤ h := hh.1
        have hh1 : h ≤ 18446744073709551615 := hh.2
        have y0 : wr.cell? ⟨b, off + j * 3, none⟩ = some (.int .i64 k) := x0
        have y1 : wr.cell? ⟨b, off + j * 3 + 1, none⟩ = some (.int .u64 h) := x1
        have y2 : wr.cell? ⟨b, off + j * 3 + 2, none⟩ = some (.int .i64 nn) := x2
        obtain ⟨wz, hwz⟩ : ∃ wz, wz = wr.alloc (.cells #[.int .i64 k, .int .u64 h, .int .i64 nn] 30) := ⟨_, rfl⟩
        have hbz : Below wr.heap.size wr wz := by rw [hwz]; exact (Below.refl _ _).alloc (Nat.le_refl _) _
        have HST := Lib.hid (step_any k h nn (HA.out.below hbz) (by omega) (by omega) hh0 hh1)
        have HBZ := Lib.hid (below_two HB.out hbz)
        have HW := Lib.hid hwz
        clear x0 x1 x2 hp hh o0 o1 o2 hcc hwz hbz HA HB
        go_wp2_with fail
        rw [← HW.out]
        refine HST.out.mono ?_
        rintro e w4 ⟨rfl, hb4, ps2, ls2, hA4⟩
        have HB4 := Lib.hid (HBZ.out.trans (hb4.mono HB1.out.size))
        have HA4 := Lib.hid hA4
        clear hb4 hA4 HST HBZ HW y0 y1 y2
        have HLN := Lib.hid (hlen_any w4 w1.heap.size tb pb ps2 HA4.out.tab (HA4.out.few.mono (by omega)))
        go_wp2_with fail
        refine HLN.out.mono ?_
        rintro e w5 ⟨L1, rfl, hs1, hb5⟩
        have HB5 := Lib.hid (below_two HB4.out hb5)
        have HA5 := Lib.hid (HA4.out.below hb5)
        have HS1 := Lib.hid hs1
        clear hb5 hs1 HLN HB4 HA4
        have hal := all48_any w5 w1.heap.size lb cap ls2 HA5.out.ref ((HA5.out.few.sim HA5.out.sim).mono (by omega)) HA5.out.okl
        rw [HA5.out.len] at hal
        have HAL := Lib.hid hal
        clear hal
        go_wp2_with fail
        refine HAL.out.mono ?_
        rintro e w6 ⟨so2, co2, L2, rfl, hs2, -, hb6⟩
        have he2 : L2 = L1 := Hs.uniq HA5.out.sim HS1.out hs2
        subst he2
        have HB6 := Lib.hid (below_two HB5.out hb6)
        have HA6 := Lib.hid (HA5.out.below hb6)
        clear hb6 hs2 HAL HB5 HA5
        have HAL := Lib.hid (hall_any w6 w1.heap.size tb pb ps2 HA6.out.tab (HA6.out.few.mono (by omega)))
        go_wp2_with fail
        refine HAL.out.mono ?_
        rintro e w7 ⟨so3, co3, L3, rfl, hs3, hr3, hb7⟩
        have he3 : L3 = L2 := Hs.uniq (Sim.refl _) HS1.out hs3
        subst he3
        have HB7 := Lib.hid (below_two HB6.out hb7)
        have HA7 := Lib.hid (HA6.out.below hb7)
        have HR3 := Lib.hid hr3
        clear hb7 hs3 hr3 HAL HB6 HA6
        have hal := all48_any w7 w1.heap.size lb cap ls2 HA7.out.ref ((HA7.out.few.sim HA7.out.sim).mono (by omega)) HA7.out.okl
        rw [HA7.out.len] at hal
        have HAL := Lib.hid hal
        clear hal
        go_wp2_with fail
        refine HAL.out.mono ?_
        rintro e w8 ⟨so4, co4, L4, rfl, hs4, hr4, hb8⟩
        have he4 : L4 = L3 := Hs.uniq HA7.out.sim HS1.out hs4
        subst he4
        have HB8 := Lib.hid (below_two HB7.out hb8)
        have HA8 := Lib.hid (HA7.out.below hb8)
        have HSM := Lib.hid (same48_any w8 so3 so4 co3 co4 L4 (HR3.out.below hb8) hr4)
        clear hb8 hs4 hr4 HAL HB7 HA7 HR3
        go_wp2_with fail
        refine HSM.out.mono ?_
        rintro e w9 ⟨rfl, q9, rfl⟩
        go_wp2_with fail
        go_roundw
        case rel => exact ⟨j + 1, ps2, ls2, rfl, by go_num, by omega, by have := HA8.out.drewN q9; rwa [show (j : Int) + 1 = ((j + 1 : Nat) : Int) by omega] at this, below_drewN HB8.out _⟩
        case measure => simp [intOf]; omega
      · obtain rfl : j = ops.length := by omega
        have hrm := hroom_any wr w1.heap.size tb pb ps HA.out.tab
        rw [show ps.length = R by have := HA.out.len; have := HA.out.sim.len; omega] at hrm
        have HRM := Lib.hid hrm
        clear hrm
        go_wp2_with fail
        refine HRM.out.mono ?_
        rintro e w4 ⟨rfl, rfl⟩
        go_wp2_with fail
        go_ret
        exact ⟨by simp, HB.out⟩

end Go.Proofs.Ytamjhblhkabpaaa
