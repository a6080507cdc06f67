/-
  The table's handles, rising; how many; what has a handle.
-/
import Derived.Test.YtamjhblhkabpaaaHl3
import Derived.Test.YtamjhblhkabpaaaSo7
namespace Go.Proofs.Ytamjhblhkabpaaa
open Go.RowKit
set_option linter.unusedVariables false
set_option linter.unusedSimpArgs false

set_option maxRecDepth 100000 in
set_option maxHeartbeats 4000000 in
theorem same48_any (w : World) (so so2 : Option Addr) (co co2 : Nat) (L : List Int) (h1 : Rd w 1 (.slice so L.length co) L.length (u64s L)) (h2 : Rd w 1 (.slice so2 L.length co2) L.length (u64s L)) :
    Calls Try.prog 10 #[.slice so L.length co, .slice so2 L.length co2] w fun e w' => e = .returned (.bool true) ∧ ∃ k, w' = w.drewN k := by
  have H1 := Lib.hid h1; have H2 := Lib.hid h2
  have hmax : L.length ≤ maxLen := h1.2.1
  have hbig : (L.length : Int) ≤ 9223372036854775807 := by unfold maxLen at hmax; omega
  clear h1 h2
  go_enter Try.func10, Try.ntmps10
  go_wp2_with fail
  go_loopw [13] (fun i wr => ∃ s k : Nat, i = .int .i64 s ∧ s ≤ L.length ∧ Hid (wr = w.drewN k)) (fun i _ => L.length - (intOf i).toNat)
  case atStart => exact ⟨0, 0, rfl, Nat.zero_le _, rfl⟩
  case round =>
    obtain ⟨s, k, rfl, hs, hw⟩ := hrel
    obtain rfl := hw.out
    clear hw
    by_cases hlt : s < L.length
    · obtain ⟨b, off, hsa, hcc⟩ := H1.out.at (by omega)
      obtain ⟨b2, off2, hsa2, hcc2⟩ := H2.out.at (by omega)
      subst hsa; subst hsa2
      have c1 := hcc s _ (u64s_at L s hlt)
      have c2 := hcc2 s _ (u64s_at L s hlt)
      have zs : (s : Int) < (L.length : Int) := by omega
      generalize L.getD s 0 = x at *
      clear hcc hcc2
      go_wp2_with fail
      go_quiet (fail)
      go_wp2_with fail
      go_roundw
      case rel => exact ⟨s + 1, k + nq, by go_num, by omega, by show _ = _; simp⟩
      case measure => simp [intOf]; omega
    · obtain rfl : s = L.length := by omega
      go_wp2_with fail
      go_ret
      exact ⟨rfl, k, rfl⟩

/-- the handles of the first s places -/
def InU (ps : List Plc) (s : Nat) (h : Int) : Prop := ∃ j : Nat, j < s ∧ (ps.getD j plZ).1 = true ∧ h = 16 * (ps.getD j plZ).2.1 + (j : Int)

set_option maxRecDepth 100000 in
set_option maxHeartbeats 4000000 in
theorem hall_any (w : World) (B tb pb : Nat) (ps : List Plc) (hT : TabAt B w tb pb ps) (hF : Few 40000 ps) :
    Calls Try.prog 11 #[.pointer (some ⟨tb, 0, none⟩)] w fun e w' => ∃ (so : Option Addr) (co : Nat) (L : List Int), e = .returned (.slice so L.length co) ∧ Hs ps L ∧ Rd w' 1 (.slice so L.length co) L.length (u64s L) ∧ Below w.heap.size w w' := by
  have c0 := hT.c0
  have hle := hT.le
  have HT := Lib.hid hT; have HF := Lib.hid hF
  clear hT hF
  go_enter Try.func11, Try.ntmps11
  go_wp2_with fail
  refine (made_any _ tb pb _ c0).mono ?_
  rintro e w1 ⟨rfl, rfl⟩
  go_wp2_with fail
  go_loopw [3, 14] (fun u iv wr => ∃ (s co : Nat) (so : Option Addr) (L : List Int), u = .slice so L.length co ∧ iv = .int .i64 s ∧ s ≤ ps.length ∧ L.length ≤ s ∧ (L.length = 0 → so = none ∧ co = 0) ∧ Hid (L.Nodup) ∧ Hid (∀ h, h ∈ L ↔ InU ps s h) ∧ Hid (wr.ownsRow w.heap.size 28 1 (.slice so L.length co) L.length (u64s L)) ∧ Hid (Below w.heap.size w wr)) (fun _ iv _ => ps.length - (intOf iv).toNat)
  case atStart => exact ⟨0, 0, none, [], rfl, rfl, Nat.zero_le _, Nat.le_refl _, (fun _ => ⟨rfl, rfl⟩), List.nodup_nil, (fun h => ⟨fun hh => (by cases hh), fun ⟨j, hj, _⟩ => by omega⟩), World.ownsRow_nil _ _ _ _, Below.refl _ _⟩
  case round =>
    obtain ⟨s, co, so, L, rfl, rfl, hs, hLs, hnone, HN, HM, HO, HB⟩ := hrel
    by_cases hlt : s < ps.length
    · obtain ⟨a0, a1, a2⟩ := (HT.out.below HB.out).at hlt
      have hf := HF.out s hlt
      have hskip : (ps.getD s plZ).1 = false → ∀ h, h ∈ L ↔ InU ps (s + 1) h := by
        intro hq h
        rw [HM.out h]
        constructor
        · rintro ⟨j, hj, r⟩; exact ⟨j, by omega, r⟩
        · rintro ⟨j, hj, r1, r2⟩
          by_cases e : j = s
          · rw [e, hq] at r1; cases r1
          · exact ⟨j, by omega, r1, r2⟩
      have htake : (ps.getD s plZ).1 = true → (L ++ [16 * (ps.getD s plZ).2.1 + (s : Int)]).Nodup ∧ ∀ h, h ∈ L ++ [16 * (ps.getD s plZ).2.1 + (s : Int)] ↔ InU ps (s + 1) h := by
        intro hq
        refine ⟨?_, fun h => ?_⟩
        · rw [List.nodup_append]
          refine ⟨HN.out, by simp, fun x hx y hy => ?_⟩
          rw [List.mem_singleton] at hy
          obtain ⟨j, hj, r1, r2⟩ := (HM.out x).1 hx
          omega
        · rw [List.mem_append, List.mem_singleton, HM.out h]
          constructor
          · rintro (⟨j, hj, r⟩ | r)
            · exact ⟨j, by omega, r⟩
            · exact ⟨s, by omega, hq, r⟩
          · rintro ⟨j, hj, r1, r2⟩
            by_cases e : j = s
            · subst e; exact .inr r2
            · exact .inl ⟨j, by omega, r1, r2⟩
      obtain ⟨⟨b, t, x⟩, hp⟩ : ∃ p : Plc, ps.getD s plZ = p := ⟨_, rfl⟩
      rw [hp] at a0 a1 a2 hf hskip htake
      have f0 : 0 ≤ t := hf.1
      have f1 : t ≤ 40000 := hf.2
      have d0 : wr.cell? ⟨pb, s * 3, none⟩ = some (.bool b) := a0
      have d1 : wr.cell? ⟨pb, s * 3 + 1, none⟩ = some (.int .u64 t) := a1
      have d2 : wr.cell? ⟨pb, s * 3 + 2, none⟩ = some (.int .i64 x) := a2
      have HSK := Lib.hid hskip; have HTK := Lib.hid htake
      clear hp a0 a1 a2 hf hskip htake
      cases b with
      | false =>
        have HN2 := Lib.hid (HSK.out rfl)
        have hB2 : Hid (Below w.heap.size w (wr.alloc (.cells #[.bool false, .int .u64 t, .int .i64 x] 54))) := HB.out.alloc HB.out.size _
        clear HSK HTK c0
        go_wp2_with fail
        go_roundw
        case rel => exact ⟨s + 1, co, so, L, rfl, by go_num, by omega, by omega, hnone, HN, HN2, HO.out.alloc _, hB2⟩
        case measure => simp [intOf]; omega
      | true =>
        obtain ⟨hn2, hm2⟩ := HTK.out rfl
        have HN2 := Lib.hid hn2; have HM2 := Lib.hid hm2
        obtain ⟨wz, hwz⟩ : ∃ wz, wz = wr.alloc (.cells #[.bool true, .int .u64 t, .int .i64 x] 54) := ⟨_, rfl⟩
        have hbz : Below wr.heap.size wr wz := by rw [hwz]; exact (Below.refl _ _).alloc (Nat.le_refl _) _
        have hTz := (HT.out.below HB.out).below hbz
        have hOz : Hid (wz.ownsRow w.heap.size 28 1 (.slice so L.length co) L.length (u64s L)) := by rw [hwz]; exact HO.out.alloc _
        have hBz : Hid (Below w.heap.size w wz) := below_two HB.out hbz
        have e1 : wz.cell? ⟨tb, 0, none⟩ = some (.slice (some ⟨pb, 0, none⟩) ps.length ps.length) := hTz.c0
        have e2 : wz.cell? ⟨pb, s * 3 + 1, none⟩ = some (.int .u64 t) := by rw [World.cell?_of_block (hbz.block pb (block_lt (HT.out.below HB.out).row))]; exact d1
        have HHA := Lib.hid (handle_any wz tb pb ps.length s t hle hlt e1 e2 f0 (by omega))
        have HW := Lib.hid hwz
        clear hn2 hm2 HSK HTK c0 hbz hTz e1 e2 hwz HN HM HO HB hnone
        go_wp2_with fail
        rw [← HW.out]
        refine HHA.out.mono ?_
        rintro e w3 ⟨rfl, rfl⟩
        go_wp2_with (at_builtin; refine app_u64 _ rfl _ _ rfl w.heap.size _ _ _ rfl hOz.out _ _ rfl ?qg ?qn ?qb ?_)
        case qg => rfl
        case qn => omega
        case qb => exact hBz.out.size
        intro v' w4 hown hchg hfresh
        obtain ⟨so', co', rfl⟩ := (rd_of_row hown).form
        rw [← u64s_snoc] at hown
        have hB4 : Below w.heap.size w w4 := hBz.out.trans (hchg.below hBz.out.size fun i hi => (hOz.out.lt i hi).1)
        have HO4 := Lib.hid hown; have HB4 := Lib.hid hB4
        clear hown hchg hfresh hB4 HW HHA hOz hBz d0 d1 d2
        go_wp2_with fail
        go_roundw
        case rel =>
          have hl : (L ++ [16 * t + (s : Int)]).length = L.length + 1 := by simp
          refine ⟨s + 1, co', so', L ++ [16 * t + (s : Int)], by rw [hl], by go_num, by omega, by rw [hl]; omega, fun h0 => ?_, HN2, HM2, ?_, HB4⟩
          · rw [hl] at h0; omega
          · rw [hl]; exact HO4
        case measure => simp [intOf]; omega
    · obtain rfl : s = ps.length := by omega
      clear c0
      by_cases h0 : L.length = 0
      · obtain ⟨rfl, rfl⟩ := hnone h0
        have hL0 : L = [] := List.length_eq_zero_iff.1 h0
        subst hL0
        clear hnone h0 hLs HN
        have HM2 := Lib.hid HM.out
        clear HM
        go_wp2_with fail
        refine (sort0_any _).mono ?_
        rintro e w3 ⟨rfl, rfl⟩
        go_wp2_with fail
        go_ret
        exact ⟨none, 0, [], rfl, ⟨List.Pairwise.nil, HM2.out⟩, Rd.nil _ _, HB.out⟩
      · obtain ⟨g, hso, hBg, hg, hcap, -, -⟩ := row_ptr HO.out (by omega)
        subst hso
        have HS := Lib.hid (sortU_any wr g L.length co L (row_mono HO.out (Nat.zero_le _)) HN.out (by omega) (by omega))
        clear hnone HN HO
        go_wp2_with fail
        refine HS.out.mono ?_
        rintro e w3 ⟨rfl, L', hp, hasc, hrow, hch⟩
        have hlen : L'.length = L.length := hp.length_eq
        have hrd : Rd w3 1 (.slice (some ⟨g, 0, none⟩) L.length co) L.length (u64s L') := rd_of_row hrow
        have HRD := Lib.hid hrd
        have HB3 := Lib.hid (HB.out.trans (hch.below HB.out.size (fun k hk => by omega)))
        have HH : Hid (Hs ps L') := ⟨hasc, fun h => (hp.mem_iff).trans (HM.out h)⟩
        have HLEN := Lib.hid hlen
        clear hp hasc hrow hch hrd hlen HS HB HM
        go_wp2_with fail
        go_ret
        refine ⟨some ⟨g, 0, none⟩, co, L', ?_, HH.out, ?_, HB3.out⟩
        · rw [HLEN.out]; rfl
        · rw [HLEN.out]; exact HRD.out

set_option maxRecDepth 100000 in
set_option maxHeartbeats 4000000 in
theorem hlen_any (w : World) (B tb pb : Nat) (ps : List Plc) (hT : TabAt B w tb pb ps) (hF : Few 40000 ps) :
    Calls Try.prog 8 #[.pointer (some ⟨tb, 0, none⟩)] w fun e w' => ∃ L : List Int, e = .returned (.int .i64 (L.length : Int)) ∧ Hs ps L ∧ Below w.heap.size w w' := by
  have HA := Lib.hid (hall_any w B tb pb ps hT hF)
  clear hT hF
  go_enter Try.func8, Try.ntmps8
  go_wp2_with fail
  refine HA.out.mono ?_
  rintro e w1 ⟨so, co, L, rfl, h1, h2, h3⟩
  have H1 := Lib.hid h1; have H3 := Lib.hid h3
  clear h1 h2 h3
  go_wp2_with fail
  go_ret
  exact ⟨L, rfl, H1.out, H3.out⟩

set_option maxRecDepth 100000 in
set_option maxHeartbeats 4000000 in
theorem hroom_any (w : World) (B tb pb : Nat) (ps : List Plc) (hT : TabAt B w tb pb ps) :
    Calls Try.prog 12 #[.pointer (some ⟨tb, 0, none⟩)] w fun e w' => e = .returned (.int .i64 (ps.length : Int)) ∧ w = w' := by
  have c0 := hT.c0
  have hle := hT.le
  clear hT
  go_enter Try.func12, Try.ntmps12
  go_wp2_with fail
  refine (made_any _ tb pb _ c0).mono ?_
  rintro e w1 ⟨rfl, rfl⟩
  go_wp2_with fail
  go_ret
  exact ⟨rfl, rfl⟩

set_option maxRecDepth 100000 in
set_option maxHeartbeats 4000000 in
theorem hget_any (w : World) (B tb pb : Nat) (ps : List Plc) (h : Int) (hT : TabAt B w tb pb ps) (hF : Few 50000 ps) (h0 : 0 ≤ h) (h1 : h ≤ 18446744073709551615) :
    Calls Try.prog 17 #[.pointer (some ⟨tb, 0, none⟩), .int .u64 h] w fun e w' => w = w' ∧
      ((plOf ps h = none ∧ e = .returned (.tuple #[.int .i64 0, .int .i64 11])) ∨ ∃ i : Nat, plOf ps h = some i ∧ e = .returned (.tuple #[.int .i64 (ps.getD i plZ).2.2, .int .i64 0])) := by
  have c0 := hT.c0
  have hle := hT.le
  have HT := Lib.hid hT; have HF := Lib.hid hF
  clear hT hF
  go_enter Try.func17, Try.ntmps17
  go_wp2_with fail
  refine (find_any _ B tb pb ps h HT.out HF.out h0 h1).mono ?_
  rintro e w1 ⟨rfl, (⟨hn, rfl⟩ | ⟨i, hs, hi, hin, rfl⟩)⟩
  · have HN := Lib.hid hn; clear hn c0
    go_wp2_with fail
    go_ret2
    exact ⟨rfl, .inl ⟨HN.out, rfl⟩⟩
  · obtain ⟨a0, a1, a2⟩ := HT.out.at hi
    have HS := Lib.hid hs
    generalize hx : (ps.getD i plZ).2.2 = x0 at *
    have HX := Lib.hid hx
    clear hs hin hx a0 a1
    go_wp2_with fail
    go_ret2
    exact ⟨rfl, .inr ⟨i, HS.out, by rw [HX.out]; rfl⟩⟩

end Go.Proofs.Ytamjhblhkabpaaa
