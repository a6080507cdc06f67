/-
  sampler.Rejected, and the document's: how many words one draw did not take, at most.
-/
import Derived.Test.YtcoohepkmhpdkaaLawSC
import Derived.Test.YtcoohepkmhpdkaaRunPlain
import Derived.Laws.EntriesVeiled
namespace Go.Proofs.Ytcoohepkmhpdkaa
open Go.RowKit
set_option linter.unusedVariables false
set_option linter.unusedSimpArgs false

/-- whether an ask's draw takes a word -/
def tkK (K : Int) (a n : Nat) : Bool := if K = 2 then tmB a n else tknB a n

theorem ent_ltakes (args : Array Value) (w : World) : (callFunc 29 args).run Try.prog w = .ok (.enter 29 args) w :=
  enters Try.func29 (by kernel_rfl) (by kernel_rfl) args w
theorem ent_mtakes (args : Array Value) (w : World) : (callFunc 31 args).run Try.prog w = .ok (.enter 31 args) w :=
  enters Try.func31 (by kernel_rfl) (by kernel_rfl) args w

/-- the function that an ask takes words by -/
theorem tk_fun (K : Int) : ∃ F : Nat, (if K = 2 then tkMsk else tkLem) = .func (.func F) #[] #[] ∧ (∀ args w, (callFunc F args).run Try.prog w = .ok (.enter F args) w) ∧
    ∀ (w : World) (a n : Nat), 0 < n → a < 2 ^ 64 → n < 2 ^ 64 → Calls Try.prog F #[.int .u64 (a : Int), .int .u64 (n : Int)] w fun e w' => e = .returned (.bool (tkK K a n)) ∧ w = w' := by
  by_cases h : K = 2
  · refine ⟨_, by rw [if_pos h]; rfl, ent_mtakes, fun w a n h0 ha hn => ?_⟩
    have e : tkK K a n = tmB a n := by simp [tkK, h]
    rw [e]; exact mtakes_any w a n h0 ha hn
  · refine ⟨_, by rw [if_neg h]; rfl, ent_ltakes, fun w a n h0 ha hn => ?_⟩
    have e : tkK K a n = tknB a n := by simp [tkK, h]
    rw [e]; exact ltakes_any w a n h0 ha hn

/-- the limits of an ask that may be are numbers of words -/
theorem askL_lims {K N k : Int} {ws : List Nat} (hw : W64 ws) (h : askE K N k ws = 0) : Lims (askL K N k ws) := by
  by_cases h12 : K = 1 ∨ K = 2
  · have hL : askL K N k ws = ws := by simp [askL, h, h12]
    rw [hL]
    intro x hx
    refine ⟨?_, hw x hx⟩
    rcases Nat.eq_zero_or_pos x with h0 | h0
    · exfalso
      subst h0
      have h1 : ws.length = 1 := by
        by_cases hh : ws.length = 1
        · exact hh
        · simp [askE, h12, hh] at h
      obtain ⟨y, rfl⟩ := List.length_eq_one_iff.1 h1
      have := List.mem_singleton.1 hx
      subst this
      simp [askE, h12] at h
    · exact h0
  by_cases h3 : K = 3
  · subst h3
    have hE : askE 3 N k ws = resChk N 0 := by simp [askE]
    have h' := h
    rw [hE] at h'
    obtain ⟨a, b, c, d⟩ := resChk_zero.1 h'
    have hL : askL 3 N k ws = dnL N.toNat (N.toNat - 1) := by simp [askL, h]
    rw [hL]
    intro x hx
    simp only [dnL, List.mem_map, List.mem_range] at hx
    obtain ⟨i, hi, rfl⟩ := hx
    rw [p64]
    omega
  by_cases h4 : K = 4
  · subst h4
    have hE : askE 4 N k ws = resChk N k := by simp [askE]
    have h' := h
    rw [hE] at h'
    obtain ⟨a, b, c, d⟩ := resChk_zero.1 h'
    have hL : askL 4 N k ws = dnL N.toNat k.toNat := by simp [askL, h]
    rw [hL]
    intro x hx
    simp only [dnL, List.mem_map, List.mem_range] at hx
    obtain ⟨i, hi, rfl⟩ := hx
    rw [p64]
    omega
  by_cases h5 : K = 5
  · subst h5
    have hE : askE 5 N k ws = resChk N k := by simp [askE]
    have h' := h
    rw [hE] at h'
    obtain ⟨a, b, c, d⟩ := resChk_zero.1 h'
    have hL : askL 5 N k ws = upL (k.toNat + 1) (N.toNat - k.toNat) := by simp [askL, h]
    rw [hL]
    intro x hx
    simp only [upL, List.mem_map, List.mem_range] at hx
    obtain ⟨i, hi, rfl⟩ := hx
    rw [p64]
    omega
  by_cases h6 : K = 6
  · subst h6
    have hE : askE 6 N k ws = aliE ws := by simp [askE]
    have h' := h
    rw [hE] at h'
    have g := aliF_right h'
    have hL : askL 6 N k ws = [ws.length, ws.sum] := by simp [askL, h]
    rw [hL]
    have := g.n1; have := g.n2; have := g.t1; have := g.t2
    intro x hx
    rw [p64]
    rcases List.mem_cons.1 hx with rfl | hx
    · omega
    · have := List.mem_singleton.1 hx; omega
  · exfalso
    simp only [askE, h12, h3, h4, h5, h6] at h
    simp at h

set_option maxRecDepth 100000 in
set_option maxHeartbeats 8000000 in
theorem srej_ok (W : World) (sl : Option Addr) (m cl : Nat) (l : List Nat) (hr : Rd W 1 (.slice sl m cl) m (u64s (zsN l))) (hl : l.length < 50000) (hwl : W64 l)
    (K N k : Int) (sa : Option Addr) (n cap : Nat) (ws : List Nat) (h : Rd W 1 (.slice sa n cap) n (u64s (zsN ws))) (hw : W64 ws) (h0 : askE K N k ws = 0) :
    Calls Try.prog 12 #[.slice sl m cl, .agg #[.int .i64 K, .int .i64 N, .int .i64 k, .slice sa n cap]] W fun e w' => e = .returned (.int .i64 (rejF (tkK K) (askL K N k ws) l : Int)) ∧ Below W.heap.size W w' := by
  have hml : m = l.length := by have := hr.len_u64; rw [zsN_len] at this; exact this
  subst hml
  have C := Lib.hid (fun w1 (hb : Below W.heap.size W w1) => sof_do w1 K N k sa n cap ws (h.below hb) hw h0)
  have hlen := askL_len h0
  have hlim := askL_lims hw h0
  obtain ⟨F, hF, hent, hcal⟩ := tk_fun K
  obtain ⟨L, hL⟩ : ∃ L, L = askL K N k ws := ⟨_, rfl⟩
  rw [← hL] at hlen hlim ⊢
  have HL := Lib.hid hL; have HLIM := Lib.hid hlim; have HF := Lib.hid hF; have HCAL := Lib.hid hcal; have HR := Lib.hid hr; have HWL := Lib.hid hwl
  obtain ⟨R, hR⟩ : ∃ R, R = rejF (tkK K) L l := ⟨_, rfl⟩
  rw [← hR]
  have HRR := Lib.hid hR
  clear h hw h0 hL hlim hF hcal hr hwl hR
  go_enter Try.func12, Try.ntmps12
  go_wp2_with fail
  refine (C.out _ ((Below.refl _ _).alloc (Nat.le_refl _) _)).mono ?_
  rintro e w1 ⟨ta, tn, tc, f, g, rfl, hf, ho, hn, ⟨F2, caps, rfl, hent2, -⟩, hb⟩
  rw [HF.out] at hf
  subst hf
  rw [← HL.out] at hn ho
  subst hn
  have hb1 : Below W.heap.size W w1 := ((Below.refl W.heap.size W).alloc (Nat.le_refl _) (.cells #[.int .i64 K, .int .i64 N, .int .i64 k, .slice sa n cap] 24)).trans (hb.mono (by simp))
  obtain ⟨w2, hw2⟩ : ∃ w2, w2 = w1.alloc (.cells #[.slice ta L.length tc, .func (.func F) #[] #[], .func (.func F2) #[] caps] 45) := ⟨_, rfl⟩
  have hbl : Below W.heap.size W w2 := by rw [hw2]; exact hb1.alloc hb1.size _
  have hbk : w2.heap[w1.heap.size]? = some (.cells #[.slice ta L.length tc, .func (.func F) #[] #[], .func (.func F2) #[] caps] 45 (0, 0)) := by rw [hw2]; exact heap_at rfl
  have c0 : w2.cell? ⟨w1.heap.size, 0, none⟩ = some (.slice ta L.length tc) := cell_of hbk 0 rfl
  have c1 : w2.cell? ⟨w1.heap.size, 1, none⟩ = some (.func (.func F) #[] #[]) := cell_of hbk 1 rfl
  have HO := Lib.hid (rd_of_row (show w2.ownsRow _ _ _ _ _ _ from by rw [hw2]; exact ho.alloc _))
  have HBL := Lib.hid hbl; have HW2 := Lib.hid hw2
  have HRD := Lib.hid (HR.out.below hbl)
  have HBK := Lib.hid hbk
  clear hb hb1 ho hw2 hbl hbk C
  go_upto_region 4 with fail
  rw [← HW2.out]
  go_wp2_with fail
  clear c0 c1
  go_loopw [7, 8, 22] (fun s7 s8 i wr => ∃ (j most at_ : Nat), j ≤ L.length ∧ most ≤ 50000 ∧ at_ ≤ 50000 + j ∧ i = .int .i64 (j : Int) ∧ s7 = .int .i64 (most : Int) ∧ s8 = .int .i64 (at_ : Int) ∧ Hid (Below w2.heap.size w2 wr) ∧ Hid (R = max most (rejF (tkK K) (L.drop j) (l.drop at_)))) (fun _ _ i _ => L.length - (intOf i).toNat)
  case atStart => exact ⟨0, 0, 0, Nat.zero_le _, by omega, by omega, rfl, rfl, rfl, Lib.hid (Below.refl _ _), Lib.hid (by rw [HRR.out]; simp)⟩
  case round =>
    obtain ⟨j, most, at_, hj, hmo, hat, rfl, rfl, rfl, HB, HE⟩ := hrel
    by_cases hlt : j < L.length
    · obtain ⟨b0, o0, rfl, hc0⟩ := (HO.out.below HB.out).at (by omega)
      have x0 := hc0 j _ (u64s_at (zsN L) j (by rw [zsN_len]; exact hlt))
      rw [zsN_get] at x0
      obtain ⟨hp, hp2⟩ := HLIM.out.at hlt
      have hdr : L.drop j = L.getD j 0 :: L.drop (j + 1) := drop_cons hlt
      generalize L.getD j 0 = m at *
      have hE := HE.out
      rw [hdr] at hE
      obtain ⟨lo, hlo⟩ : ∃ lo, lo = lossF (fun a => tkK K a m) (l.drop at_) := ⟨_, rfl⟩
      have hlo2 : lo ≤ 50000 := by
        have := lossF_le (fun a => tkK K a m) (l.drop at_)
        rw [List.length_drop] at this
        omega
      have hE2 : R = max most (max lo (rejF (tkK K) (L.drop (j + 1)) (l.drop (at_ + lo + 1)))) := by
        rw [hE, hlo]
        show max most (max _ (rejF (tkK K) _ ((l.drop at_).drop _))) = _
        rw [List.drop_drop, Nat.add_assoc]
      have hal : at_ + lo ≤ 50000 + j := by
        have := lossF_le (fun a => tkK K a m) (l.drop at_)
        rw [List.length_drop] at this
        omega
      have HE2 := Lib.hid hE2; have HLO := Lib.hid hlo; have HP := Lib.hid hp; have HP2 := Lib.hid hp2
      clear hc0 hdr hE hE2 hlo hp hp2 HE
      go_upto_block 2 with fail
      go_cut [8, 11] (fun s8 s11 wx => s8 = .int .i64 ((at_ + lo : Nat) : Int) ∧ s11 = .int .i64 (lo : Int) ∧ Hid (Below w2.heap.size w2 wx))
      case first =>
        clear x0
        go_wp2_with fail
        go_loopw [8, 11] (fun s8 s11 wx => ∃ u : Nat, u ≤ lo ∧ s8 = .int .i64 ((at_ + u : Nat) : Int) ∧ s11 = .int .i64 (u : Int) ∧ Hid (Below w2.heap.size w2 wx) ∧ Hid (lo = u + lossF (fun a => tkK K a m) (l.drop (at_ + u)))) (fun _ s11 _ => lo - (intOf s11).toNat)
        case atStart => exact ⟨0, Nat.zero_le _, rfl, rfl, HB, Lib.hid (by rw [HLO.out]; simp)⟩
        case round =>
          obtain ⟨u, hu, rfl, rfl, HB2, HU⟩ := hrel
          by_cases hin : at_ + u < l.length
          · obtain ⟨b1, o1, rfl, hc1⟩ := (HRD.out.below HB2.out).at (by omega)
            have x1 := hc1 (at_ + u) _ (u64s_at (zsN l) (at_ + u) (by rw [zsN_len]; exact hin))
            rw [zsN_get] at x1
            have hw1 := HWL.out.at (k := at_ + u) hin
            have hyes := lossF_yes (t := fun a => tkK K a m) hin
            have hno := lossF_no (t := fun a => tkK K a m) hin
            have CC := fun w => (HCAL.out w (l.getD (at_ + u) 0) m HP.out hw1 HP2.out).mono fun e w' (h : _ ∧ w = w') => (⟨h.1, h.2.symm⟩ : _ ∧ w' = w)
            generalize l.getD (at_ + u) 0 = a at *
            have c1 : wr.cell? ⟨w1.heap.size, 1, none⟩ = some (.func (.func F) #[] #[]) := cell_of (keptB HBK.out HB2.out) 1 rfl
            have hin2 : (at_ : Int) + (u : Int) < (l.length : Int) := by omega
            have hin3 : ((at_ + u : Nat) : Int) < (l.length : Int) := by omega
            have hc00 : (0 : Int) ≤ ((at_ + u : Nat) : Int) := by omega
            obtain ⟨bb, hbb⟩ : ∃ bb, bb = tkK K a m := ⟨_, rfl⟩
            rw [← hbb] at CC
            have HCC := Lib.hid CC; have HY := Lib.hid hyes; have HN := Lib.hid hno; have HBB := Lib.hid hbb
            clear hc1 hw1 hyes hno CC hbb
            generalize hpos : at_ + u = pos at *
            have HPOS := Lib.hid hpos
            have bpos : pos ≤ 60000 := by omega
            clear hpos hin2
            go_wp2_with fail
            go_quiet (exact Calls.quiet_of_same (HCC.out _))
            cases bb with
            | true =>
              have hu2 : u = lo := by have := HU.out; rw [HY.out HBB.out.symm] at this; omega
              have HU2 := Lib.hid hu2
              clear hu2
              go_wp2_with fail
              go_meet
              exact ⟨by rw [HU2.out] at HPOS; rw [HPOS.out], by rw [HU2.out], Lib.hid (below_drewN' HB2.out nq)⟩
            | false =>
              have hu2 : lo = u + 1 + lossF (fun a => tkK K a m) (l.drop (pos + 1)) := by have := HU.out; rw [HN.out HBB.out.symm] at this; omega
              have HU2 := Lib.hid hu2
              have hul : u + 1 ≤ lo := by omega
              clear hu2
              go_wp2_with fail
              go_roundw
              case rel => exact ⟨u + 1, hul, by rw [← Nat.add_assoc, HPOS.out]; go_num, by go_num, Lib.hid (below_drewN' HB2.out nq), Lib.hid (by rw [← Nat.add_assoc, HPOS.out]; exact HU2.out)⟩
              case measure => simp [intOf]; omega
          · have hu2 : u = lo := by have := HU.out; rw [lossF_end (by omega)] at this; omega
            have HU2 := Lib.hid hu2
            generalize hpos : at_ + u = pos at *
            have HPOS := Lib.hid hpos
            have bpos : pos ≤ 120000 := by omega
            clear hpos hu2
            go_wp2_with fail
            go_quiet (fail)
            go_wp2_with fail
            go_meet
            exact ⟨by rw [HU2.out] at HPOS; rw [HPOS.out], by rw [HU2.out], Lib.hid (below_drewN' HB2.out nq)⟩
      case rest =>
        obtain ⟨rfl, rfl, HB3⟩ := hcut
        clear x0 HB
        generalize hpos : at_ + lo = pos at *
        have HPOS := Lib.hid hpos
        clear hpos
        by_cases hml : most ≤ lo
        · have hE3 : R = max lo (rejF (tkK K) (L.drop (j + 1)) (l.drop (pos + 1))) := by rw [HE2.out, ← Nat.max_assoc, Nat.max_eq_right hml]
          have HE3 := Lib.hid hE3
          clear hE3
          go_wp2_with fail
          go_roundw
          case rel => exact ⟨j + 1, lo, pos + 1, by omega, hlo2, by omega, by go_num, by first | rfl | go_num | (congr 1; omega), by go_num, HB3, HE3⟩
          case measure => simp [intOf]; omega
        · have hE3 : R = max most (rejF (tkK K) (L.drop (j + 1)) (l.drop (pos + 1))) := by rw [HE2.out, ← Nat.max_assoc, Nat.max_eq_left (show lo ≤ most by omega)]
          have HE3 := Lib.hid hE3
          clear hE3
          go_wp2_with fail
          go_roundw
          case rel => exact ⟨j + 1, most, pos + 1, by omega, hmo, by omega, by go_num, by first | rfl | go_num | (congr 1; omega), by go_num, HB3, HE3⟩
          case measure => simp [intOf]; omega
    · obtain rfl : j = L.length := by omega
      have hE := HE.out
      rw [List.drop_length] at hE
      have hE2 : R = most := by rw [hE]; simp [rejF]
      have HE2 := Lib.hid hE2
      clear hE hE2
      go_wp2_with fail
      go_ret
      exact ⟨ret_int (by rw [HE2.out]), HBL.out.trans (HB.out.mono HBL.out.size)⟩

end Go.Proofs.Ytcoohepkmhpdkaa
