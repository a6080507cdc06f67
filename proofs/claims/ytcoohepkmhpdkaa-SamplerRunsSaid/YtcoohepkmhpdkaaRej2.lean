/-
  The document's Rejected; the program's, of an ask that may not be.
-/
import Derived.Test.YtcoohepkmhpdkaaRej
import Derived.Test.YtcoohepkmhpdkaaMaskRef
import Derived.Laws.EntriesVeiled
namespace Go.Proofs.Ytcoohepkmhpdkaa
open Go.RowKit
set_option linter.unusedVariables false
set_option linter.unusedSimpArgs false

set_option maxRecDepth 100000 in
set_option maxHeartbeats 4000000 in
theorem srej_bad (W : World) (v : Value) (K N k : Int) (sa : Option Addr) (n cap : Nat) (ws : List Nat) (h : Rd W 1 (.slice sa n cap) n (u64s (zsN ws))) (hw : W64 ws) (hn : n ≤ 17592186043904) (h0 : askE K N k ws ≠ 0) :
    Calls Try.prog 12 #[v, .agg #[.int .i64 K, .int .i64 N, .int .i64 k, .slice sa n cap]] W fun e w' => e = .returned (.int .i64 0) ∧ Below W.heap.size W w' := by
  have C := Lib.hid (fun w1 (hb : Below W.heap.size W w1) => sof_any w1 K N k sa n cap ws (h.below hb) hw hn)
  obtain ⟨E, hE⟩ : ∃ E, E = askE K N k ws := ⟨_, rfl⟩
  rw [← hE] at h0
  have q : (E != 0) = true := by simpa using h0
  have HE := Lib.hid hE
  clear h hw hn hE h0
  go_enter Try.func12, Try.ntmps12
  go_wp2_with fail
  refine (C.out _ ((Below.refl _ _).alloc (Nat.le_refl _) _)).mono ?_
  rintro e w1 ⟨sl, f, g, rfl, sh, -, hb⟩
  rw [← HE.out]
  have HB := Lib.hid (((Below.refl W.heap.size W).alloc (Nat.le_refl _) (.cells #[.int .i64 K, .int .i64 N, .int .i64 k, .slice sa n cap] 24)).trans (hb.mono (by simp)))
  clear hb
  rcases sh with ⟨rfl, rfl, rfl⟩ | ⟨a1, a2, a3, a4, a5, a6, rfl, rfl, rfl⟩
  all_goals
    go_wp2_with fail
    go_ret
    exact ⟨rfl, HB.out.alloc HB.out.size _⟩

set_option maxRecDepth 100000 in
set_option maxHeartbeats 2000000 in
theorem rtakes46_any (w : World) (K : Int) (a n : Nat) (h0 : 0 < n) (ha : a < 2 ^ 64) (hn : n < 2 ^ 64) :
    Calls Try.prog 22 #[.int .i64 K, .int .u64 (a : Int), .int .u64 (n : Int)] w fun e w' => e = .returned (.bool (tkK K a n)) ∧ Below w.heap.size w w' := by
  by_cases h : K = 2
  · have e : tkK K a n = tmB a n := by simp [tkK, h]
    rw [e]
    have C := Lib.hid (rtakes39_any w a n h0 ha hn)
    have q : (K == 2) = true := by simpa using h
    obtain ⟨b, hb⟩ : ∃ b, b = tmB a n := ⟨_, rfl⟩
    rw [← hb] at C ⊢
    clear h e h0 ha hn hb
    go_enter Try.func22, Try.ntmps22
    go_wp2_with fail
    refine C.out.mono ?_
    rintro e w' ⟨rfl, hb⟩
    have HBL := Lib.hid hb
    clear hb
    go_wp2_with fail
    go_ret
    exact ⟨rfl, HBL.out⟩
  · have e : tkK K a n = tknB a n := by simp [tkK, h]
    rw [e]
    have C := Lib.hid (rtakes_any w a n h0 ha hn)
    have q : (K == 2) = false := by simpa using h
    obtain ⟨b, hb⟩ : ∃ b, b = tknB a n := ⟨_, rfl⟩
    rw [← hb] at C ⊢
    clear h e h0 ha hn hb
    go_enter Try.func22, Try.ntmps22
    go_wp2_with fail
    refine C.out.mono ?_
    rintro e w' ⟨rfl, hb⟩
    have HBL := Lib.hid hb
    clear hb
    go_wp2_with fail
    go_ret
    exact ⟨rfl, HBL.out⟩

set_option maxRecDepth 100000 in
set_option maxHeartbeats 8000000 in
theorem rrej46_any (W : World) (K : Int) (sl ta : Option Addr) (cl tn tc : Nat) (l L : List Nat) (hr : Rd W 1 (.slice sl l.length cl) l.length (u64s (zsN l))) (hl : l.length < 50000) (hwl : W64 l)
    (ho : Rd W 1 (.slice ta L.length tc) L.length (u64s (zsN L))) (hlen : L.length ≤ 256) (hlim : Lims L) :
    Calls Try.prog 13 #[.slice sl l.length cl, .int .i64 K, .slice ta L.length tc] W fun e w' => e = .returned (.int .i64 (rejF (tkK K) L l : Int)) ∧ Below W.heap.size W w' := by
  have HCAL := Lib.hid (fun w a n h0 ha hn => rtakes46_any w K a n h0 ha hn)
  have HLIM := Lib.hid hlim; have HR := Lib.hid hr; have HWL := Lib.hid hwl; have HO := Lib.hid ho
  obtain ⟨R, hR⟩ : ∃ R, R = rejF (tkK K) L l := ⟨_, rfl⟩
  rw [← hR]
  have HRR := Lib.hid hR
  clear hlim hr hwl hR ho
  go_enter Try.func13, Try.ntmps13
  go_wp2_with fail
  go_loopw [7, 8, 14] (fun s7 s8 i wr => ∃ (j most at_ : Nat), j ≤ L.length ∧ most ≤ 50000 ∧ at_ ≤ 50000 + j ∧ i = .int .i64 (j : Int) ∧ s7 = .int .i64 (most : Int) ∧ s8 = .int .i64 (at_ : Int) ∧ Hid (Below W.heap.size W wr) ∧ Hid (R = max most (rejF (tkK K) (L.drop j) (l.drop at_)))) (fun _ _ i _ => L.length - (intOf i).toNat)
  case atStart => exact ⟨0, 0, 0, Nat.zero_le _, by omega, by omega, rfl, rfl, rfl, Lib.hid (Below.refl _ _), Lib.hid (by rw [HRR.out]; simp)⟩
  case round =>
    obtain ⟨j, most, at_, hj, hmo, hat, rfl, rfl, rfl, HB, HE⟩ := hrel
    by_cases hlt : j < L.length
    · obtain ⟨b0, o0, rfl, hc0⟩ := (HO.out.below HB.out).at (by omega)
      have x0 := hc0 j _ (u64s_at (zsN L) j (by rw [zsN_len]; exact hlt))
      rw [zsN_get] at x0
      obtain ⟨hp, hp2⟩ := HLIM.out.at hlt
      have hdr : L.drop j = L.getD j 0 :: L.drop (j + 1) := drop_cons hlt
      generalize L.getD j 0 = m at *
      have hE := HE.out
      rw [hdr] at hE
      obtain ⟨lo, hlo⟩ : ∃ lo, lo = lossF (fun a => tkK K a m) (l.drop at_) := ⟨_, rfl⟩
      have hlo2 : lo ≤ 50000 := by
        have := lossF_le (fun a => tkK K a m) (l.drop at_)
        rw [List.length_drop] at this
        omega
      have hE2 : R = max most (max lo (rejF (tkK K) (L.drop (j + 1)) (l.drop (at_ + lo + 1)))) := by
        rw [hE, hlo]
        show max most (max _ (rejF (tkK K) _ ((l.drop at_).drop _))) = _
        rw [List.drop_drop, Nat.add_assoc]
      have hal : at_ + lo ≤ 50000 + j := by
        have := lossF_le (fun a => tkK K a m) (l.drop at_)
        rw [List.length_drop] at this
        omega
      have HE2 := Lib.hid hE2; have HLO := Lib.hid hlo; have HP := Lib.hid hp; have HP2 := Lib.hid hp2
      clear hc0 hdr hE hE2 hlo hp hp2 HE
      go_upto_block 2 with fail
      go_cut [8, 11] (fun s8 s11 wx => s8 = .int .i64 ((at_ + lo : Nat) : Int) ∧ s11 = .int .i64 (lo : Int) ∧ Hid (Below W.heap.size W wx))
      case first =>
        clear x0
        go_wp2_with fail
        go_loopw [8, 11] (fun s8 s11 wx => ∃ u : Nat, u ≤ lo ∧ s8 = .int .i64 ((at_ + u : Nat) : Int) ∧ s11 = .int .i64 (u : Int) ∧ Hid (Below W.heap.size W wx) ∧ Hid (lo = u + lossF (fun a => tkK K a m) (l.drop (at_ + u)))) (fun _ s11 _ => lo - (intOf s11).toNat)
        case atStart => exact ⟨0, Nat.zero_le _, rfl, rfl, HB, Lib.hid (by rw [HLO.out]; simp)⟩
        case round =>
          obtain ⟨u, hu, rfl, rfl, HB2, HU⟩ := hrel
          by_cases hin : at_ + u < l.length
          · obtain ⟨b1, o1, rfl, hc1⟩ := (HR.out.below HB2.out).at (by omega)
            have x1 := hc1 (at_ + u) _ (u64s_at (zsN l) (at_ + u) (by rw [zsN_len]; exact hin))
            rw [zsN_get] at x1
            have hw1 := HWL.out.at (k := at_ + u) hin
            have hyes := lossF_yes (t := fun a => tkK K a m) hin
            have hno := lossF_no (t := fun a => tkK K a m) hin
            have CC := HCAL.out wr (l.getD (at_ + u) 0) m HP.out hw1 HP2.out
            generalize l.getD (at_ + u) 0 = a at *
            have hin3 : ((at_ + u : Nat) : Int) < (l.length : Int) := by omega
            have hc00 : (0 : Int) ≤ ((at_ + u : Nat) : Int) := by omega
            obtain ⟨bb, hbb⟩ : ∃ bb, bb = tkK K a m := ⟨_, rfl⟩
            rw [← hbb] at CC
            have HCC := Lib.hid CC; have HY := Lib.hid hyes; have HN := Lib.hid hno; have HBB := Lib.hid hbb
            clear hc1 hw1 hyes hno CC hbb
            generalize hpos : at_ + u = pos at *
            have HPOS := Lib.hid hpos
            have bpos : pos ≤ 60000 := by omega
            clear hpos
            go_wp2_with fail
            refine HCC.out.mono ?_
            rintro e w3 ⟨rfl, hb3⟩
            have HB3 := Lib.hid (HB2.out.trans (hb3.mono HB2.out.size))
            clear hb3 x1
            cases bb with
            | true =>
              have hu2 : u = lo := by have := HU.out; rw [HY.out HBB.out.symm] at this; omega
              have HU2 := Lib.hid hu2
              clear hu2
              go_wp2_with fail
              go_meet
              exact ⟨by rw [HU2.out] at HPOS; rw [HPOS.out], by rw [HU2.out], HB3⟩
            | false =>
              have hu2 : lo = u + 1 + lossF (fun a => tkK K a m) (l.drop (pos + 1)) := by have := HU.out; rw [HN.out HBB.out.symm] at this; omega
              have HU2 := Lib.hid hu2
              have hul : u + 1 ≤ lo := by omega
              clear hu2
              go_wp2_with fail
              go_roundw
              case rel => exact ⟨u + 1, hul, by rw [← Nat.add_assoc, HPOS.out]; go_num, by go_num, HB3, Lib.hid (by rw [← Nat.add_assoc, HPOS.out]; exact HU2.out)⟩
              case measure => simp [intOf]; omega
          · have hu2 : u = lo := by have := HU.out; rw [lossF_end (by omega)] at this; omega
            have HU2 := Lib.hid hu2
            generalize hpos : at_ + u = pos at *
            have HPOS := Lib.hid hpos
            have bpos : pos ≤ 120000 := by omega
            clear hpos hu2
            go_wp2_with fail
            go_meet
            exact ⟨by rw [HU2.out] at HPOS; rw [HPOS.out], by rw [HU2.out], HB2⟩
      case rest =>
        obtain ⟨rfl, rfl, HB3⟩ := hcut
        clear x0 HB
        generalize hpos : at_ + lo = pos at *
        have HPOS := Lib.hid hpos
        clear hpos
        by_cases hml : most ≤ lo
        · have hE3 : R = max lo (rejF (tkK K) (L.drop (j + 1)) (l.drop (pos + 1))) := by rw [HE2.out, ← Nat.max_assoc, Nat.max_eq_right hml]
          have HE3 := Lib.hid hE3
          clear hE3
          go_wp2_with fail
          go_roundw
          case rel => exact ⟨j + 1, lo, pos + 1, by omega, hlo2, by omega, by go_num, by first | rfl | go_num | (congr 1; omega), by go_num, HB3, HE3⟩
          case measure => simp [intOf]; omega
        · have hE3 : R = max most (rejF (tkK K) (L.drop (j + 1)) (l.drop (pos + 1))) := by rw [HE2.out, ← Nat.max_assoc, Nat.max_eq_left (show lo ≤ most by omega)]
          have HE3 := Lib.hid hE3
          clear hE3
          go_wp2_with fail
          go_roundw
          case rel => exact ⟨j + 1, most, pos + 1, by omega, hmo, by omega, by go_num, by first | rfl | go_num | (congr 1; omega), by go_num, HB3, HE3⟩
          case measure => simp [intOf]; omega
    · obtain rfl : j = L.length := by omega
      have hE := HE.out
      rw [List.drop_length] at hE
      have hE2 : R = most := by rw [hE]; simp [rejF]
      have HE2 := Lib.hid hE2
      clear hE hE2
      go_wp2_with fail
      go_ret
      exact ⟨ret_int (by rw [HE2.out]), HB.out⟩

end Go.Proofs.Ytcoohepkmhpdkaa
