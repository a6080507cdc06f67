/-
  alias.Build: the walk.
-/
import Derived.Test.YtcoohepkmhpdkaaGreatAli2
namespace Go.Proofs.YtcoohepkmhpdkaaGreat
open Go.RowKit
set_option linter.unusedVariables false
set_option linter.unusedSimpArgs false

/-- what alias.Build answers -/
def AliQ (B : Nat) (ws : List Nat) (e : Ending) (w' : World) : Prop :=
  (aliE ws ≠ 0 ∧ e = .returned (.tuple #[.agg #[.int .u64 0, .slice none 0 0, .slice none 0 0], .int .i64 (aliE ws)])) ∨
  (aliE ws = 0 ∧ ∃ bb ba : Nat, e = .returned (.tuple #[.agg #[.int .u64 (ws.sum : Int), .slice (some ⟨bb, 0, none⟩) ws.length ws.length, .slice (some ⟨ba, 0, none⟩) ws.length ws.length], .int .i64 0]) ∧
    w'.ownsRow B 48 1 (.slice (some ⟨bb, 0, none⟩) ws.length ws.length) ws.length (u64s (zsN (aliF ws).bl)) ∧ w'.ownsRow B 3 1 (.slice (some ⟨ba, 0, none⟩) ws.length ws.length) ws.length (i64s (aliF ws).al))

set_option maxRecDepth 100000 in
set_option maxHeartbeats 16000000 in
theorem alibuild_main (w : World) (sa : Option Addr) (n cap : Nat) (ws : List Nat) (h : Rd w 1 (.slice sa n cap) n (u64s (zsN ws))) (hw : W64 ws) (h1 : 1 ≤ n) (h2 : n ≤ 256) :
    Calls Tryz.prog 99 #[.slice sa n cap] w fun e w' => AliQ w.heap.size ws e w' ∧ Below w.heap.size w w' := by
  have hln : ws.length = n := by have := h.len_u64; rw [zsN_len] at this; exact this.symm
  have HW := Lib.hid hw; have HLN := Lib.hid hln
  clear hw hln
  have HR := Lib.hid h; clear h
  have u1 : IntKind.u64.wrap (n : Int) = (n : Int) := by rw [IntKind.wrap_u64]; omega
  obtain ⟨ZU, hZU, mkU⟩ := run_mk (t := 22) Tryz.underlying22 info_u64 rfl (by omega) .u64 n (by omega)
  obtain ⟨ZI, hZI, mkI⟩ := run_mk (t := 36) Tryz.underlying36 info_i64 rfl (by omega) .u64 n (by omega)
  have HZU := Lib.hid hZU; have HZI := Lib.hid hZI
  clear hZU hZI
  go_enter Tryz.func99, Tryz.ntmps99
  go_wp2
  go_step3
  go_upto_region 4 with fail
  have hr0 : (w.alloc (Obj.cells #[Value.int IntKind.u64 0, Value.slice none 0 0, Value.slice none 0 0] 73)).heap[w.heap.size]? = some (Obj.cells #[Value.int IntKind.u64 0, Value.slice none 0 0, Value.slice none 0 0] 73 (0, 0)) := heap_alloc_new _ _
  obtain ⟨W0, hW0⟩ : ∃ W0, W0 = w.alloc (Obj.cells #[Value.int IntKind.u64 0, Value.slice none 0 0, Value.slice none 0 0] 73) := ⟨_, rfl⟩
  have hs0 : W0.heap.size = w.heap.size + 1 := by rw [hW0]; simp
  have hbw : Below w.heap.size w W0 := by rw [hW0]; exact (Below.refl _ _).alloc (Nat.le_refl _) _
  rw [← hW0] at hr0 ⊢
  have HBW := Lib.hid hbw; have HR0 := Lib.hid hr0
  clear hW0 hbw hr0
  have c0 : W0.cell? ⟨w.heap.size, 0, none⟩ = some (.int .u64 0) := cell_of HR0.out 0 rfl
  have en := World.new_ne W0 ⟨w.heap.size, 0, none⟩ c0
  go_cut [5] (fun s5 wx => ∃ bt bb ba : Nat, s5 = .pointer (some ⟨bt, 0, none⟩) ∧ Hid (TabP n W0 wx bt bb ba))
  case first =>
    go_region_with (fail)
    all_goals
      go_wp2_with fail
      go_meet
      (repeat apply Exists.intro)
      refine ⟨rfl, ?_⟩
      show TabP _ _ _ _ _ _
      first
        | exact ⟨heap_at (by simp [hs0]), row_full (cs := ZU) (by first | exact heap_up (heap_at (by simp [hs0])) | exact heap_up (heap_up (heap_at (by simp [hs0])))) (by simp [hs0]) HZU.out (by simp) (by omega), row_full (cs := ZI) (by first | exact heap_up (heap_at (by simp [hs0])) | exact heap_up (heap_up (heap_at (by simp [hs0])))) (by simp [hs0]) HZI.out (by simp) (by omega), ((((Below.refl _ _).alloc (Nat.le_refl _) _).alloc (by simp) _).alloc (by simp; omega) _).drew, by simp [hs0]⟩
        | exact ⟨heap_up (heap_at (by simp [hs0])), row_full (cs := ZU) (by first | exact heap_at (by simp [hs0]) | exact heap_up (heap_up (heap_at (by simp [hs0])))) (by simp [hs0]) HZU.out (by simp) (by omega), row_full (cs := ZI) (by first | exact heap_at (by simp [hs0]) | exact heap_up (heap_up (heap_at (by simp [hs0])))) (by simp [hs0]) HZI.out (by simp) (by omega), ((((Below.refl _ _).alloc (Nat.le_refl _) _).alloc (by simp) _).alloc (by simp; omega) _).drew, by simp [hs0]⟩
        | exact ⟨heap_up (heap_up (heap_at (by simp [hs0]))), row_full (cs := ZU) (by first | exact heap_at (by simp [hs0]) | exact heap_up (heap_at (by simp [hs0]))) (by simp [hs0]) HZU.out (by simp) (by omega), row_full (cs := ZI) (by first | exact heap_at (by simp [hs0]) | exact heap_up (heap_at (by simp [hs0]))) (by simp [hs0]) HZI.out (by simp) (by omega), ((((Below.refl _ _).alloc (Nat.le_refl _) _).alloc (by simp) _).alloc (by simp; omega) _).drew, by simp [hs0]⟩
  case rest =>
    obtain ⟨bt, bb, ba, rfl, HT⟩ := hcut
    clear mkI HZI c0
    go_wp2_with fail
    obtain ⟨W1, hW1⟩ : ∃ W1, W1 = ((wc.alloc (.cells ZU 48)).alloc (.cells #[.slice (some ⟨wc.heap.size, 0, none⟩) n n] 22)) := ⟨_, rfl⟩
    have hinv : AliB n W0 W1 bt bb ba (wc.heap.size + 1) wc.heap.size 0 (hasK ws 0) (List.replicate n 0) (alK n 0) := by
      have hr := mk_row wc W0.heap.size 48 HZU.out HT.out.bel.size (by omega)
      refine ⟨?_, ?_, ?_, ?_, ?_, ?_, HT.out.lt, by have := HT.out.bel.size; omega, ?_⟩
      · rw [hW1]; exact heap_up (heap_up HT.out.tb)
      · rw [hW1]; exact heap_at (by simp)
      · rw [hW1]
        have := (HT.out.rb.alloc (.cells ZU 48)).alloc (.cells #[.slice (some ⟨wc.heap.size, 0, none⟩) n n] 22)
        simpa [u64s, zsN] using this
      · rw [hW1, alK_zero]
        have := (HT.out.ra.alloc (.cells ZU 48)).alloc (.cells #[.slice (some ⟨wc.heap.size, 0, none⟩) n n] 22)
        simpa [i64s] using this
      · rw [hW1, hasK_zero, HLN.out]
        have := hr.alloc (.cells #[.slice (some ⟨wc.heap.size, 0, none⟩) n n] 22)
        simpa [u64s, zsN] using this
      · rw [hW1]; exact (HT.out.bel.alloc HT.out.bel.size _).alloc (by have := HT.out.bel.size; simp; omega) _
      · have h9 : bb < wc.heap.size := (HT.out.rb.lt _ rfl).2; omega
    rw [← hW1]
    have HINV := Lib.hid hinv
    obtain ⟨hb, hhb⟩ : ∃ hb, hb = wc.heap.size := ⟨_, rfl⟩
    obtain ⟨bh, hbh⟩ : ∃ bh, bh = wc.heap.size + 1 := ⟨_, rfl⟩
    rw [← hbh, ← hhb] at HINV
    rw [← hbh, ← hhb]
    clear hW1 hinv hhb hbh mkU
    go_loopw [33] (fun i wr => ∃ k : Nat, k ≤ n ∧ i = .int .i64 (k : Int) ∧ Hid (AliB n W0 wr bt bb ba bh hb (ws.take k).sum (hasK ws k) (List.replicate n 0) (alK n k)) ∧ Hid (∀ t, t < k → ws.getD t 0 ≤ 4294967296)) (fun i _ => n - (intOf i).toNat)
    case atStart => exact ⟨0, Nat.zero_le _, rfl, HINV, Lib.hid fun t ht => by omega⟩
    case round =>
      obtain ⟨k, hk, rfl, HA, HX⟩ := hrel
      have HRB := Lib.hid ((HA.out.bel.block _ (block_lt HR0.out)).trans HR0.out)
      by_cases hlt : k < n
      · have hrd := (HR.out.below HBW.out).below HA.out.bel
        obtain ⟨b0, o0, rfl, hc0⟩ := hrd.at (by omega)
        have hkl : k < ws.length := by rw [HLN.out]; exact hlt
        have x0 := hc0 k _ (u64s_at (zsN ws) k (by rw [zsN_len]; exact hkl))
        rw [zsN_get] at x0
        have hts := sum_take_succ ws k hkl
        have hhs := hasK_succ ws k hkl
        have has' := alK_succ n k hlt
        have hxk : ws.getD k 0 = ws.getD k 0 := rfl
        have hbad := fun h => aliBad_at (ws := ws) hkl h
        have hx2 : ws.getD k 0 < 2 ^ 64 := HW.out.at hkl
        have hS : (ws.take k).sum ≤ k * 4294967296 := by
          have h9 : ∀ t, t < (ws.take k).length → (ws.take k).getD t 0 ≤ 4294967296 := fun t ht => by
            rw [List.length_take] at ht
            have := HX.out t (by omega)
            rwa [List.getD_eq_getElem?_getD, List.getElem?_take, if_pos (by omega), ← List.getD_eq_getElem?_getD]
          have h8 := sum_take_le (ws.take k) 4294967296 (fun x hx => by
            obtain ⟨t, ht, rfl⟩ := List.getElem_of_mem hx
            have := h9 t ht
            rwa [List.getD_eq_getElem?_getD, List.getElem?_eq_getElem ht] at this) k
          rwa [List.take_take, Nat.min_self] at h8
        have hnext : ∀ t, t < k + 1 → ws.getD k 0 ≤ 4294967296 → ws.getD t 0 ≤ 4294967296 := fun t ht hx => by
          by_cases h : t = k
          · rw [h]; exact hx
          · exact HX.out t (by omega)
        generalize ws.getD k 0 = x at *
        generalize (ws.take k).sum = S at *
        rw [p64] at hx2
        by_cases hgt : 4294967296 < x
        · have hE : aliE ws = 9 := by unfold aliE; rw [if_neg (by rw [HLN.out]; omega), hbad hgt]; rfl
          have HE := Lib.hid hE
          have y0 := cell_of HRB.out 0 rfl
          have y1 := cell_of HRB.out 1 rfl
          have y2 := cell_of HRB.out 2 rfl
          have yf := frozen_of HRB.out
          have hgt' : (4294967296 : Int) < (x : Int) := by omega
          clear hbad hE hnext hts hhs has' hc0 hrd hxk
          go_wp2_with fail
          try rw [Exit.noGoto_ret]
          refine bodyPost_ret (v := .tuple #[.agg #[.int .u64 0, .slice none 0 0, .slice none 0 0], .int .i64 9]) (by simp [results, Tryz.results99, go_sem, *]) rfl ⟨.inl ⟨by rw [HE.out]; decide, by rw [HE.out]⟩, ?_⟩
          exact ((((HBW.out.trans (HA.out.bel.mono HBW.out.size)).setCell (p := ⟨w.heap.size, 0, none⟩) (Nat.le_refl _) _).setCell (p := ⟨w.heap.size, 1, none⟩) (Nat.le_refl _) _).setCell (p := ⟨w.heap.size, 2, none⟩) (Nat.le_refl _) _)
        · have hle : x ≤ 4294967296 := by omega
          have HN := Lib.hid (fun t ht => hnext t ht hle)
          have e1 : ((S : Int) + (x : Int)) = ((S + x : Nat) : Int) := by omega
          have bS : S + x ≤ 2199023255552 := by omega
          obtain ⟨m, hm⟩ : ∃ m, m = n * x := ⟨_, rfl⟩
          have bm : m ≤ 2199023255552 := by rw [hm]; exact Nat.le_trans (Nat.mul_le_mul h2 hle) (by decide)
          have e2 : ((n : Int) * (x : Int)) = (m : Int) := by rw [mulN, ← hm]
          have u2 : IntKind.u64.wrap (m : Int) = (m : Int) := by rw [IntKind.wrap_u64]; omega
          have hgt' : ¬ (4294967296 : Int) < (x : Int) := by omega
          have hts' : (ws.take (k + 1)).sum = S + x := hts
          rw [HLN.out, ← hm] at hhs
          obtain ⟨S', hS'⟩ : ∃ S', S' = S + x := ⟨_, rfl⟩
          rw [← hS'] at e1 hts' bS
          have u3 : IntKind.u64.wrap (S' : Int) = (S' : Int) := by rw [IntKind.wrap_u64]; omega
          have HTS := Lib.hid hts'; have HHS := Lib.hid hhs; have HAS := Lib.hid has'; have HM := Lib.hid hm; have HS' := Lib.hid hS'
          have t0 := cell_of HA.out.tb 0 rfl
          have tf := frozen_of HA.out.tb 0
          clear hbad hnext hts hts' hhs has' hm hS' hc0 hrd hxk hgt hS
          go_upto_region 12 with fail
          obtain ⟨W2, hW2⟩ : ∃ W2, W2 = wr.setCell ⟨bt, 0, none⟩ (.int .u64 (S' : Int)) := ⟨_, rfl⟩
          have hA2 := HA.out.setT S'
          rw [← hW2] at hA2 ⊢
          have HA2 := Lib.hid hA2
          have q0 := cell_of hA2.hx 0 rfl
          obtain ⟨g', hg', -, -, -, qc, qf⟩ := row_ptr hA2.rh (by omega)
          cases hg'
          have q1 := qc k _ (u64s_at (zsN (hasK ws k)) k (by rw [zsN_len]; simp [hasK]; exact hkl))
          have q2 := qf k
          generalize (zsN (hasK ws k)).getD k 0 = old at q1
          clear hW2 t0 tf hA2 qc qf
          go_upto_region 13 with fail
          obtain ⟨W3, hW3⟩ : ∃ W3, W3 = W2.setCell ⟨hb, k, none⟩ (.int .u64 (m : Int)) := ⟨_, rfl⟩
          have hA3 := HA2.out.setH hlt m
          rw [← hW3] at hA3 ⊢
          have HA3 := Lib.hid hA3
          have r0 := cell_of hA3.tb 2 rfl
          obtain ⟨g', hg', -, -, -, qc, qf⟩ := row_ptr hA3.ra (by omega)
          cases hg'
          have r1 := qc k _ (i64s_at (alK n k) k (by simp [alK]; exact hlt))
          have r2 := qf k
          generalize (alK n k).getD k 0 = old2 at r1
          clear hW3 q0 q1 q2 hA3 qc qf
          go_wp2_with fail
          go_roundw
          case rel => exact ⟨k + 1, by omega, by go_num, Lib.hid (by rw [HTS.out, HHS.out, HAS.out]; exact HA3.out.setA hlt (k : Int)), HN⟩
          case measure => simp [intOf]; omega
      · obtain rfl : k = n := by omega
        have hA := HA.out
        have hln := HLN.out
        have hbd : ∀ x ∈ ws, x ≤ 4294967296 := fun x hx => by
          obtain ⟨t, ht, rfl⟩ := List.getElem_of_mem hx
          have := HX.out t (by omega)
          rwa [List.getD_eq_getElem?_getD, List.getElem?_eq_getElem ht] at this
        rw [List.take_of_length_le (by omega)] at hA
        have hS : ws.sum ≤ ws.length * 4294967296 := by
          have h8 := sum_take_le ws 4294967296 hbd ws.length
          rwa [List.take_length] at h8
        have hnb := aliBad_iff.2 hbd
        have bS : ws.sum ≤ 1099511627776 := by rw [hln] at hS; exact Nat.le_trans hS (Nat.le_trans (Nat.mul_le_mul_right _ h2) (by decide))
        have HA' := Lib.hid hA; have HNB := Lib.hid hnb; have HBD := Lib.hid hbd
        have t0 := cell_of hA.tb 0 rfl
        clear hA hln hbd hnb HA HX
        by_cases hz : ws.sum = 0
        · have hE : aliE ws = 8 := by unfold aliE; rw [if_neg (by rw [HLN.out]; omega), HNB.out, if_pos hz]; rfl
          have HE := Lib.hid hE
          have y0 := cell_of HRB.out 0 rfl
          have y1 := cell_of HRB.out 1 rfl
          have y2 := cell_of HRB.out 2 rfl
          have yf := frozen_of HRB.out
          have hz' : ((ws.sum : Int) == 0) = true := by simp [hz]
          clear hE hz
          go_wp2_with fail
          try rw [Exit.noGoto_ret]
          refine bodyPost_ret (v := .tuple #[.agg #[.int .u64 0, .slice none 0 0, .slice none 0 0], .int .i64 8]) (by simp [results, Tryz.results99, go_sem, *]) rfl ⟨.inl ⟨by rw [HE.out]; decide, by rw [HE.out]⟩, ?_⟩
          exact ((((HBW.out.trans (HA'.out.bel.mono HBW.out.size)).setCell (p := ⟨w.heap.size, 0, none⟩) (Nat.le_refl _) _).setCell (p := ⟨w.heap.size, 1, none⟩) (Nat.le_refl _) _).setCell (p := ⟨w.heap.size, 2, none⟩) (Nat.le_refl _) _)
        · have hz' : ((ws.sum : Int) == 0) = false := by simp; omega
          have hE : aliE ws = 0 := by unfold aliE; rw [if_neg (by rw [HLN.out]; omega), HNB.out, if_neg hz]; rfl
          have HE := Lib.hid hE; clear hE hz
          obtain ⟨ZB, hZB, mkB⟩ := run_mk (t := 104) Tryz.underlying104 info_bool rfl (by omega) .u64 k (by omega)
          have HZB := Lib.hid hZB; clear hZB
          obtain ⟨hi0, hc0⟩ := start_inv ws 1099511627776 (fun i hi => by
            have h5 := HBD.out _ (List.getElem_mem hi)
            rw [List.getD_eq_getElem?_getD, List.getElem?_eq_getElem hi]
            exact Nat.le_trans (Nat.mul_le_mul (by rw [HLN.out]; exact h2) h5) (by decide)) bS
          rw [HLN.out] at hi0 hc0
          have HI0 := Lib.hid hi0; have HC0 := Lib.hid hc0; clear hi0 hc0
          go_upto_region 18 with fail
          obtain ⟨W4, hW4⟩ : ∃ W4, W4 = ((wr.alloc (.cells ZB 4)).alloc (.cells #[.slice (some ⟨wr.heap.size, 0, none⟩) k k] 104)) := ⟨_, rfl⟩
          have hC4 : AliC k W0 W4 bt bb ba bh hb (wr.heap.size + 1) wr.heap.size ws.sum (startA ws) := by
            have hr := mk_row wr W0.heap.size 4 HZB.out HA'.out.bel.size (by omega)
            have ha := HA'.out
            have hbs := ha.bel.size
            refine ⟨⟨?_, ?_, ?_, ?_, ?_, ?_, ha.lt, ha.lh, ha.ne⟩, ?_, ?_, ?_⟩
            · rw [hW4]; exact heap_up (heap_up ha.tb)
            · rw [hW4]; exact heap_up (heap_up ha.hx)
            · rw [hW4, belP_start, HLN.out]; exact (ha.rb.alloc _).alloc _
            · rw [hW4]
              have h7 := (ha.ra.alloc (.cells ZB 4)).alloc (.cells #[.slice (some ⟨wr.heap.size, 0, none⟩) k k] 104)
              rw [alK_end] at h7
              show World.ownsRow _ _ _ _ _ _ (i64s ((List.range ws.length).map Int.ofNat))
              rw [HLN.out]; exact h7
            · rw [hW4]
              have h7 := (ha.rh.alloc (.cells ZB 4)).alloc (.cells #[.slice (some ⟨wr.heap.size, 0, none⟩) k k] 104)
              have h6 := hasK_end ws
              rw [HLN.out] at h6
              rw [h6] at h7
              show World.ownsRow _ _ _ _ _ _ (u64s (zsN (ws.map (ws.length * ·))))
              rw [HLN.out]; exact h7
            · rw [hW4]; exact (ha.bel.alloc hbs _).alloc (by simp; omega) _
            · rw [hW4]; exact heap_at (by simp)
            · rw [hW4]
              have h7 := hr.alloc (.cells #[.slice (some ⟨wr.heap.size, 0, none⟩) k k] 104)
              show World.ownsRow _ _ _ _ _ _ (bools (List.replicate ws.length false))
              rw [HLN.out]
              simpa [bools] using h7
            · omega
          rw [← hW4]
          have HC4 := Lib.hid hC4
          obtain ⟨db, hdb⟩ : ∃ db, db = wr.heap.size := ⟨_, rfl⟩
          obtain ⟨bd, hbd⟩ : ∃ bd, bd = wr.heap.size + 1 := ⟨_, rfl⟩
          rw [← hbd, ← hdb] at HC4
          rw [← hbd]
          have HDB := Lib.hid hdb
          clear hW4 hC4 hdb hbd mkB t0 hz'
          obtain ⟨T, hT⟩ : ∃ T, T = ws.sum := ⟨_, rfl⟩
          rw [← hT] at HC4 HI0
          have hfin : runA T (cntA (startA ws).dn) (startA ws) = aliF ws := by rw [HC0.out, hT]; unfold aliF; rw [HLN.out]
          have HFIN := Lib.hid hfin; have HTT := Lib.hid hT; clear hfin hT
          have bT : T ≤ 1099511627776 := by rw [HTT.out]; exact bS
          clear bS
          go_wp2_with fail
          go_step3
          go_wp2
          go_loopg [11] k (fun g s11 wx => ∃ s : StA, cntA s.dn = g ∧ Hid (InvA T k 1099511627776 s) ∧ Hid (AliC k W0 wx bt bb ba bh hb bd db T s) ∧ Hid (runA T (cntA s.dn) s = aliF ws))
          case atStart => exact ⟨startA ws, HC0.out, HI0, HC4, HFIN⟩
          case round =>
            obtain ⟨s, hcnt, HI, HC, HF⟩ := hrel
            have cT : wr.cell? ⟨bt, 0, none⟩ = some (.int .u64 (T : Int)) := cell_of HC.out.a.tb 0 rfl
            have cH : wr.cell? ⟨bh, 0, none⟩ = some (.slice (some ⟨hb, 0, none⟩) k k) := cell_of HC.out.a.hx 0 rfl
            have cD : wr.cell? ⟨bd, 0, none⟩ = some (.slice (some ⟨db, 0, none⟩) k k) := cell_of HC.out.dx 0 rfl
            obtain ⟨g1, hg1, -, -, -, rh, fh⟩ := row_ptr HC.out.a.rh (by omega)
            cases hg1
            obtain ⟨g1, hg1, -, -, -, rd, fd⟩ := row_ptr HC.out.rd (by omega)
            cases hg1
            have hlh := HI.out.lh
            have hld := HI.out.ld
            have C1 := ali1_any wr 133 bt bh bd hb db k k k (fun x => decide (x < T)) s ent_ali2 (fun x => ali2_any wr x T bt cT) cH cD hlh hld h2 (fun i u hu => rh i u hu) (fun i u hu => rd i u hu)
            have C2 := ali1_any wr 134 bt bh bd hb db k k k (fun x => decide (T < x)) s ent_ali3 (fun x => ali3_any wr x T bt cT) cH cD hlh hld h2 (fun i u hu => rh i u hu) (fun i u hu => rd i u hu)
            change Calls _ _ _ _ fun e w' => e = .returned (.int .i64 (ixA (lessA T s))) ∧ _ at C1
            change Calls _ _ _ _ fun e w' => e = .returned (.int .i64 (ixA (moreA T s))) ∧ _ at C2
            cases hl : lessA T s with
            | none =>
              rw [hl, ixA_none] at C1
              have hend := HF.out
              rw [run_end hl] at hend
              have HC1 := Lib.hid C1; have HEND := Lib.hid hend; have HCN := Lib.hid hcnt
              clear C1 C2 hl hend rh fh rd fd hlh hld hcnt
              have cB := cell_of HC.out.a.tb 1 rfl
              go_wp2_with fail
              refine HC1.out.mono ?_
              rintro e w' ⟨rfl, rfl⟩
              have HST := Lib.hid (show AliB k W0 wr bt bb ba bh hb T s.has (finK s T 0) s.al from by rw [finK_zero]; exact HC.out.a)
              have HDX := Lib.hid HC.out.dx; have HRD := Lib.hid HC.out.rd
              go_wp2_with fail
              clear cB cT cH cD HC1
              go_loopw [105] (fun q wx => ∃ i : Nat, i ≤ k ∧ q = .int .i64 (i : Int) ∧ Hid (AliB k W0 wx bt bb ba bh hb T s.has (finK s T i) s.al) ∧ Hid (wx.heap[bd]? = some (.cells #[.slice (some ⟨db, 0, none⟩) k k] 104 (0, 0))) ∧ Hid (wx.ownsRow W0.heap.size 4 1 (.slice (some ⟨db, 0, none⟩) k k) k (bools s.dn))) (fun q _ => k - (intOf q).toNat)
              case atStart => exact ⟨0, Nat.zero_le _, rfl, HST, HDX, HRD⟩
              case round =>
                obtain ⟨i, hi, rfl, HA2, HX2, HD2⟩ := hrel
                by_cases hik : i < k
                · have c1 := cell_of HX2.out 0 rfl
                  obtain ⟨g1, hg1, -, -, -, rd, -⟩ := row_ptr HD2.out (by omega)
                  cases hg1
                  have xd := rd i _ (bools_at s.dn i (by rw [HI.out.ld]; exact hik))
                  cases hd : s.dn.getD i true with
                  | true =>
                    rw [hd] at xd
                    have HN := Lib.hid (finK_done (T := T) hd)
                    clear rd hd
                    go_wp2
                    go_roundw
                    case rel => exact ⟨i + 1, by omega, by go_num, Lib.hid (by rw [HN.out]; exact HA2.out), HX2, HD2⟩
                    case measure => simp [intOf]; omega
                  | false =>
                    rw [hd] at xd
                    have HN := Lib.hid (finK_set (T := T) (by rw [HI.out.ld]; exact hik) hd)
                    have t0 := cell_of HA2.out.tb 0 rfl
                    have t1 := cell_of HA2.out.tb 1 rfl
                    obtain ⟨g1, hg1, -, -, -, rb, fb⟩ := row_ptr HA2.out.rb (by omega)
                    cases hg1
                    have xb := rb i _ (u64s_at (zsN (finK s T i)) i (by rw [zsN_len, finK_len, HI.out.ld]; exact hik))
                    have xf := fb i
                    generalize (zsN (finK s T i)).getD i 0 = old at xb
                    clear rd hd rb fb
                    go_wp2
                    go_roundw
                    case rel =>
                      obtain ⟨cb, eb⟩ := row_blk HA2.out.rb
                      obtain ⟨cd, ed⟩ := row_blk HD2.out
                      exact ⟨i + 1, by omega, by go_num, Lib.hid (by rw [HN.out]; exact HA2.out.setB hik T), Lib.hid (by rw [Below.heap_setCell _ _ _ _ (blk_neA HX2.out eb (by decide))]; exact HX2.out), Lib.hid (row_otherA HD2.out (blk_neA ed eb (by decide)))⟩
                    case measure => simp [intOf]; omega
                · obtain rfl : i = k := by omega
                  have hA3 := HA2.out
                  rw [finK_end HI.out] at hA3
                  have t0 := cell_of hA3.tb 0 rfl
                  have t1 := cell_of hA3.tb 1 rfl
                  have t2 := cell_of hA3.tb 2 rfl
                  have hrb := (hA3.bel.block _ (block_lt HR0.out)).trans HR0.out
                  have y0 := cell_of hrb 0 rfl
                  have y1 := cell_of hrb 1 rfl
                  have y2 := cell_of hrb 2 rfl
                  have yf := frozen_of hrb
                  have HA3 := Lib.hid hA3; have HRB3 := Lib.hid hrb
                  clear hA3 hrb
                  go_wp2_with fail
                  try rw [Exit.noGoto_ret]
                  refine bodyPost_ret (v := .tuple #[.agg #[.int .u64 (T : Int), .slice (some ⟨bb, 0, none⟩) i i, .slice (some ⟨ba, 0, none⟩) i i], .int .i64 0]) (by simp [results, Tryz.results99, go_sem, *]) rfl ⟨.inr ⟨HE.out, ?_⟩, ?_⟩
                  · have l1 : W0.heap.size ≤ bb := (HA3.out.rb.lt _ rfl).1
                    have l2 : W0.heap.size ≤ ba := (HA3.out.ra.lt _ rfl).1
                    have m1 : bb ≠ w.heap.size := by omega
                    have m2 : ba ≠ w.heap.size := by omega
                    rw [HLN.out, ← HTT.out, ← HEND.out]
                    exact ⟨bb, ba, rfl, row_mono (row_otherA (row_otherA (row_otherA HA3.out.rb (p := ⟨w.heap.size, 0, none⟩) m1) (p := ⟨w.heap.size, 1, none⟩) m1) (p := ⟨w.heap.size, 2, none⟩) m1) (by omega), row_mono (row_otherA (row_otherA (row_otherA HA3.out.ra (p := ⟨w.heap.size, 0, none⟩) m2) (p := ⟨w.heap.size, 1, none⟩) m2) (p := ⟨w.heap.size, 2, none⟩) m2) (by omega)⟩
                  · exact ((((HBW.out.trans (HA3.out.bel.mono HBW.out.size)).setCell (p := ⟨w.heap.size, 0, none⟩) (Nat.le_refl _) _).setCell (p := ⟨w.heap.size, 1, none⟩) (Nat.le_refl _) _).setCell (p := ⟨w.heap.size, 2, none⟩) (Nat.le_refl _) _)
            | some j =>
              obtain ⟨g, hg⟩ := HI.out.more hl
              rw [hl, ixA_some] at C1
              rw [hg, ixA_some] at C2
              obtain ⟨j1, j2, j3⟩ := less_facts HI.out hl
              obtain ⟨g1, g2, g3⟩ := more_facts HI.out hg
              have hnx := HI.out.next hl hg
              have hrun := run_next HI.out hl hg
              rw [HF.out] at hrun
              have xh := rh j _ (u64s_at (zsN s.has) j (by rw [zsN_len, hlh]; exact j1))
              have xg := rh g _ (u64s_at (zsN s.has) g (by rw [zsN_len, hlh]; exact g1))
              rw [zsN_get] at xh xg
              have xd := rd j _ (bools_at s.dn j (by rw [hld]; exact j1))
              rw [j2] at xd
              have cB : wr.cell? ⟨bt, 1, none⟩ = some (.slice (some ⟨bb, 0, none⟩) k k) := cell_of HC.out.a.tb 1 rfl
              have cA : wr.cell? ⟨bt, 2, none⟩ = some (.slice (some ⟨ba, 0, none⟩) k k) := cell_of HC.out.a.tb 2 rfl
              have hbd := HI.out.bd g g1
              have hne : j ≠ g := fun e => by subst e; omega
              obtain ⟨x, hx⟩ : ∃ x, s.has.getD j 0 = x := ⟨_, rfl⟩
              obtain ⟨y, hy⟩ : ∃ y, s.has.getD g 0 = y := ⟨_, rfl⟩
              obtain ⟨d, hd⟩ : ∃ d, d = T - x := ⟨_, rfl⟩
              obtain ⟨v, hv⟩ : ∃ v, v = y - d := ⟨_, rfl⟩
              have hnext := HC.out.next (x := x) (v := v) HI.out j1 g1 hx (by rw [hy, ← hd, hv])
              rw [hx] at xh j3
              rw [hy] at xg g3 hbd
              have NE := Lib.hid HC.out.nes
              obtain ⟨g9, hg9, -, -, -, rb, fb⟩ := row_ptr HC.out.a.rb (by omega)
              cases hg9
              obtain ⟨g9, hg9, -, -, -, ra, fa⟩ := row_ptr HC.out.a.ra (by omega)
              cases hg9
              have xb := rb j _ (u64s_at (zsN (belP s)) j (by rw [zsN_len, belP_len, hld]; exact j1))
              have xa := ra j _ (i64s_at s.al j (by rw [HI.out.la]; exact j1))
              have yb := fb j
              have ya := fa j
              have yd := fd j
              have yh := fh g
              generalize (zsN (belP s)).getD j 0 = ob at xb
              generalize s.al.getD j 0 = oa at xa
              have v1 : ((T : Int) - (x : Int)) = (d : Int) := by omega
              have v2 : ((y : Int) - (d : Int)) = (v : Int) := by omega
              have w1 : IntKind.u64.wrap (d : Int) = (d : Int) := by rw [IntKind.wrap_u64]; omega
              have w2 : IntKind.u64.wrap (v : Int) = (v : Int) := by rw [IntKind.wrap_u64]; omega
              have z1 : (0 : Int) ≤ (j : Int) := by omega
              have z2 : (j : Int) < (k : Int) := by omega
              have z3 : (0 : Int) ≤ (g : Int) := by omega
              have z4 : (g : Int) < (k : Int) := by omega
              have HC1 := Lib.hid C1; have HC2 := Lib.hid C2; have HNX := Lib.hid hnx; have HRUN := Lib.hid hrun; have HCN := Lib.hid hcnt; have HNEXT := Lib.hid hnext
              clear C1 C2 hl hg j2 g2 hnx hrun rh rd fh fd rb fb ra fa hlh hld hcnt hnext hx hy hd hv
              go_wp2_with fail
              refine HC1.out.mono ?_
              rintro e w' ⟨rfl, rfl⟩
              go_wp2_with fail
              refine HC2.out.mono ?_
              rintro e w' ⟨rfl, rfl⟩
              go_upto_region 22 with fail
              have n1 := NE.out.c1
              have n2 := NE.out.c2
              have n3 := NE.out.c3
              go_cut [] (fun wx => wx = (((wr.setCell ⟨bb, j, none⟩ (.int .u64 (x : Int))).setCell ⟨ba, j, none⟩ (.int .i64 (g : Int))).setCell ⟨db, j, none⟩ (.bool true)).drew)
              case first =>
                go_region_held3 (fun w' => w'.cell? ⟨bt, 1, none⟩ = some (.slice (some ⟨bb, 0, none⟩) k k) ∧ w'.cell? ⟨bt, 2, none⟩ = some (.slice (some ⟨ba, 0, none⟩) k k) ∧ w'.cell? ⟨bd, 0, none⟩ = some (.slice (some ⟨db, 0, none⟩) k k) ∧ w'.cell? ⟨bh, 0, none⟩ = some (.slice (some ⟨hb, 0, none⟩) k k) ∧ w'.cell? ⟨hb, j, none⟩ = some (.int .u64 (x : Int)))
                  (first
                    | (refine ⟨?_, ?_, ?_, ?_, ?_⟩ <;> (show World.cell? (World.setCell _ _ _) _ = _; rw [World.cell?_setCell_other _ _ _ _ (by intro he; have hq := congrArg Addr.block he; revert hq; first | exact Ne.symm NE.out.b1 | exact Ne.symm NE.out.b2 | exact Ne.symm NE.out.b3 | exact Ne.symm NE.out.b4 | exact Ne.symm NE.out.a1 | exact Ne.symm NE.out.a2 | exact Ne.symm NE.out.a3 | exact Ne.symm NE.out.a4 | exact Ne.symm NE.out.d1 | exact Ne.symm NE.out.d2 | exact Ne.symm NE.out.d3 | exact Ne.symm NE.out.d4)]; first | exact cB | exact cA | exact cD | exact cH | exact xh))
                    | (refine ⟨?_, ?_, ?_, ?_, ?_⟩ <;> (show World.cell? (World.setCell (World.setCell _ _ _) _ _) _ = _; rw [World.cell?_setCell_other _ _ _ _ (by intro he; have hq := congrArg Addr.block he; revert hq; first | exact Ne.symm NE.out.b1 | exact Ne.symm NE.out.b2 | exact Ne.symm NE.out.b3 | exact Ne.symm NE.out.b4 | exact Ne.symm NE.out.a1 | exact Ne.symm NE.out.a2 | exact Ne.symm NE.out.a3 | exact Ne.symm NE.out.a4 | exact Ne.symm NE.out.d1 | exact Ne.symm NE.out.d2 | exact Ne.symm NE.out.d3 | exact Ne.symm NE.out.d4)]; rw [World.cell?_setCell_other _ _ _ _ (by intro he; have hq := congrArg Addr.block he; revert hq; first | exact Ne.symm NE.out.b1 | exact Ne.symm NE.out.b2 | exact Ne.symm NE.out.b3 | exact Ne.symm NE.out.b4 | exact Ne.symm NE.out.a1 | exact Ne.symm NE.out.a2 | exact Ne.symm NE.out.a3 | exact Ne.symm NE.out.a4 | exact Ne.symm NE.out.d1 | exact Ne.symm NE.out.d2 | exact Ne.symm NE.out.d3 | exact Ne.symm NE.out.d4)]; first | exact cB | exact cA | exact cD | exact cH | exact xh))
                    | (refine ⟨?_, ?_, ?_, ?_, ?_⟩ <;> (show World.cell? (World.setCell (World.setCell (World.setCell _ _ _) _ _) _ _) _ = _; rw [World.cell?_setCell_other _ _ _ _ (by intro he; have hq := congrArg Addr.block he; revert hq; first | exact Ne.symm NE.out.b1 | exact Ne.symm NE.out.b2 | exact Ne.symm NE.out.b3 | exact Ne.symm NE.out.b4 | exact Ne.symm NE.out.a1 | exact Ne.symm NE.out.a2 | exact Ne.symm NE.out.a3 | exact Ne.symm NE.out.a4 | exact Ne.symm NE.out.d1 | exact Ne.symm NE.out.d2 | exact Ne.symm NE.out.d3 | exact Ne.symm NE.out.d4)]; rw [World.cell?_setCell_other _ _ _ _ (by intro he; have hq := congrArg Addr.block he; revert hq; first | exact Ne.symm NE.out.b1 | exact Ne.symm NE.out.b2 | exact Ne.symm NE.out.b3 | exact Ne.symm NE.out.b4 | exact Ne.symm NE.out.a1 | exact Ne.symm NE.out.a2 | exact Ne.symm NE.out.a3 | exact Ne.symm NE.out.a4 | exact Ne.symm NE.out.d1 | exact Ne.symm NE.out.d2 | exact Ne.symm NE.out.d3 | exact Ne.symm NE.out.d4)]; rw [World.cell?_setCell_other _ _ _ _ (by intro he; have hq := congrArg Addr.block he; revert hq; first | exact Ne.symm NE.out.b1 | exact Ne.symm NE.out.b2 | exact Ne.symm NE.out.b3 | exact Ne.symm NE.out.b4 | exact Ne.symm NE.out.a1 | exact Ne.symm NE.out.a2 | exact Ne.symm NE.out.a3 | exact Ne.symm NE.out.a4 | exact Ne.symm NE.out.d1 | exact Ne.symm NE.out.d2 | exact Ne.symm NE.out.d3 | exact Ne.symm NE.out.d4)]; first | exact cB | exact cA | exact cD | exact cH | exact xh))
                    | go_keep)
                  (fail)
                all_goals
                  go_wp2_with fail
                  go_meet
                  exact rfl
              case rest =>
                have hkeep : ∀ b o, b ≠ bb → b ≠ ba → b ≠ db → wc.cell? ⟨b, o, none⟩ = wr.cell? ⟨b, o, none⟩ := fun b o k1 k2 k3 => by
                  rw [hcut, World.cell?_drew, World.cell?_setCell_other _ _ _ _ (fun he => k3 (congrArg Addr.block he).symm), World.cell?_setCell_other _ _ _ _ (fun he => k2 (congrArg Addr.block he).symm), World.cell?_setCell_other _ _ _ _ (fun he => k1 (congrArg Addr.block he).symm)]
                have r1 : wc.cell? ⟨bh, 0, none⟩ = some (.slice (some ⟨hb, 0, none⟩) k k) := (hkeep _ _ NE.out.b3 NE.out.a3 NE.out.d3).trans cH
                have r2 : wc.cell? ⟨bt, 0, none⟩ = some (.int .u64 (T : Int)) := (hkeep _ _ NE.out.b1 NE.out.a1 NE.out.d1).trans cT
                have r3 : wc.cell? ⟨hb, g, none⟩ = some (.int .u64 (y : Int)) := (hkeep _ _ NE.out.b4 NE.out.a4 NE.out.d4).trans xg
                have r4 : wc.cell? ⟨hb, j, none⟩ = some (.int .u64 (x : Int)) := (hkeep _ _ NE.out.b4 NE.out.a4 NE.out.d4).trans xh
                have r5 : wc.frozen? ⟨hb, g, none⟩ = false := by
                  rw [hcut]
                  show World.frozen? (World.setCell (World.setCell (World.setCell _ _ _) _ _) _ _) _ = _
                  rw [World.frozen?_setCell, World.frozen?_setCell, World.frozen?_setCell]
                  exact yh
                have hfin : AliC k W0 (wc.setCell ⟨hb, g, none⟩ (.int .u64 (v : Int))) bt bb ba bh hb bd db T (nextA T s j g) := by
                  rw [hcut]; exact HNEXT.out.drew
                have HFN := Lib.hid hfin
                clear hkeep hfin hcut cB cA cH cT cD xh xg xb xa xd ya yb yd yh n1 n2 n3 HC1 HC2 HNEXT hne j3 g3 hbd
                go_upto_region 23 with fail
                go_region
                go_wp2_with fail
                go_roundg (cntA (nextA T s j g).dn)
                case measure => have h5 := HCN.out; have h6 := HNX.out.2; omega
                case rel => exact ⟨nextA T s j g, rfl, Lib.hid HNX.out.1, Lib.hid (by first | exact HFN.out.drew | exact HFN.out), Lib.hid HRUN.out.symm⟩

end Go.Proofs.YtcoohepkmhpdkaaGreat
