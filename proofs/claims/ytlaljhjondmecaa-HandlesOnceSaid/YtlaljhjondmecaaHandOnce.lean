/-
  The law HandlesOnce.
-/
import Derived.Test.YtlaljhjondmecaaHand2
import Derived.Test.YtlaljhjondmecaaClone
namespace Go.Proofs.Ytlaljhjondmecaa
open Go.RowKit
set_option linter.unusedVariables false

/-- what is done with a table -/
abbrev Opp := Int × Int × Int
def op3 (p : Opp) : List Value := [.int .i64 p.1, .int .u64 p.2.1, .int .i64 p.2.2]
def opC : List Opp → List Value
  | [] => []
  | p :: ps => op3 p ++ opC ps
theorem opC_len : ∀ (ps : List Opp), (opC ps).length = ps.length * 3
  | [] => rfl
  | p :: ps => by simp only [opC, op3, List.length_append, opC_len ps, List.length_cons, List.length_nil]; omega
theorem opC_at : ∀ (ps : List Opp) (i : Nat), i < ps.length → (opC ps)[i * 3]? = some (.int .i64 (ps.getD i (0, 0, 0)).1) ∧ (opC ps)[i * 3 + 1]? = some (.int .u64 (ps.getD i (0, 0, 0)).2.1) ∧ (opC ps)[i * 3 + 2]? = some (.int .i64 (ps.getD i (0, 0, 0)).2.2)
  | [], i, h => by simp at h
  | p :: ps, 0, _ => ⟨rfl, rfl, rfl⟩
  | p :: ps, i + 1, h => by
    have e : ∀ j, (opC (p :: ps))[(i + 1) * 3 + j]? = (opC ps)[i * 3 + j]? := fun j => by
      have : (i + 1) * 3 + j = 3 + (i * 3 + j) := by omega
      rw [this]
      simp only [opC, op3]
      rw [List.getElem?_append_right (by simp)]
      simp
    have g := opC_at ps i (by simpa using h)
    have e0 := e 0
    rw [Nat.add_zero, Nat.add_zero] at e0
    rw [e0, e 1, e 2]
    simpa using g
/-- handles fit their kind -/
def OpsOk (ps : List Opp) : Prop := ∀ i, i < ps.length → 0 ≤ (ps.getD i (0, 0, 0)).2.1 ∧ (ps.getD i (0, 0, 0)).2.1 ≤ 18446744073709551615

/-- what was told is of what was put -/
def Told (L : List Int) (ps : List Plc) : Prop := ∀ h ∈ L, ∃ i : Nat, ∃ t : Int, i < ps.length ∧ t ≤ (ps.getD i plZ).2.1 ∧ h = 16 * t + (i : Int)
theorem told_new {L : List Int} {ps : List Plc} (h : Told L ps) (hR : ps.length ≤ 16) {i : Nat} (hi : i < ps.length) : ∀ x ∈ L, x ≠ 16 * ((ps.getD i plZ).2.1 + 1) + (i : Int) := by
  intro x hx e
  obtain ⟨j, t, hj, ht, rfl⟩ := h x hx
  have : i = j := by omega
  subst this
  omega
theorem told_mono {L : List Int} {ps qs : List Plc} (h : Told L ps) (hl : qs.length = ps.length) (ht : ∀ i, i < ps.length → (ps.getD i plZ).2.1 ≤ (qs.getD i plZ).2.1) : Told L qs := by
  intro x hx
  obtain ⟨j, t, hj, h1, h2⟩ := h x hx
  exact ⟨j, t, by omega, by have := ht j hj; omega, h2⟩
theorem set_getD (ps : List Plc) (i j : Nat) (q : Plc) (hi : i < ps.length) : (ps.set i q).getD j plZ = if i = j then q else ps.getD j plZ := by
  simp only [List.getD, List.getElem?_set]
  split
  · rfl
  · rfl
theorem few_set {T : Int} {ps : List Plc} (h : Few T ps) {i : Nat} (hi : i < ps.length) (q : Plc) (h0 : 0 ≤ q.2.1) (h1 : q.2.1 ≤ T + 1) : Few (T + 1) (ps.set i q) := by
  intro j hj
  rw [List.length_set] at hj
  rw [set_getD _ _ _ _ hi]
  by_cases hij : i = j
  · rw [if_pos hij]; exact ⟨h0, h1⟩
  · rw [if_neg hij]; have := h j hj; omega

theorem getD_mem' (l : List Int) (i : Nat) (h : i < l.length) : l.getD i 0 ∈ l := by
  simp [List.getD, List.getElem?_eq_getElem h]
theorem exists_not (L : List Int) : ∀ q, ∃ H : Int, ∀ s, s < q → L.getD s 0 ≠ H := by
  have key : ∀ q, ∃ H : Int, ∀ s, s < q → L.getD s 0 < H := by
    intro q
    induction q with
    | zero => exact ⟨0, fun s hs => by omega⟩
    | succ q ih =>
      obtain ⟨H, hH⟩ := ih
      refine ⟨max H (L.getD q 0 + 1), fun s hs => ?_⟩
      by_cases h : s = q
      · subst h; omega
      · have := hH s (by omega); omega
  intro q
  obtain ⟨H, hH⟩ := key q
  exact ⟨H, fun s hs => by have := hH s hs; omega⟩

set_option maxRecDepth 100000 in
set_option maxHeartbeats 4000000 in
theorem law_HandlesOnce (w : World) (room : Int) (v : Value) (n : Nat) (ops : List Opp) (hr : Rd w 3 v n (opC ops)) (hok : OpsOk ops) :
    Calls Try.prog 4 #[.int .i64 room, v] w fun e w' => e = .returned (.bool true) ∧ Below w.heap.size w w' := by
  have hln : n = ops.length := by have := hr.1; rw [opC_len] at this; omega
  subst hln
  obtain ⟨sa, cap, rfl⟩ := hr.form
  have HR := Lib.hid hr; have HOK := Lib.hid hok; clear hr hok
  by_cases h120 : 120 < ops.length
  · have h120' : (120 : Int) < (ops.length : Int) := by omega
    go_enter Try.func4, Try.ntmps4
    go_wp2_with fail
    refine (awake48 _).mono ?_
    rintro e w1 ⟨rfl, hb1⟩
    have HB1 := Lib.hid hb1; clear hb1
    go_wp2
    go_ret
    exact ⟨rfl, HB1.out⟩
  · have h120' : ¬ (120 : Int) < (ops.length : Int) := by omega
    go_enter Try.func4, Try.ntmps4
    go_wp2_with fail
    refine (awake48 _).mono ?_
    rintro e w1 ⟨rfl, hb1⟩
    have HB1 := Lib.hid hb1; clear hb1
    go_wp2_with fail
    refine (hnew_any _ room).mono ?_
    rintro e w2 ⟨tb, pb, rfl, hT2, hb2⟩
    have htb := block_lt hT2.tab
    have hpb := block_lt hT2.row
    have HT2 := Lib.hid hT2; have HB2 := Lib.hid (below_two HB1.out hb2); clear hT2 hb2
    go_wp2
    go_loopw [6, 22] (fun u i wr => ∃ (j q : Nat) (so : Option Addr) (co : Nat) (L : List Int) (ps : List Plc), j ≤ ops.length ∧ q ≤ j ∧ i = .int .i64 (j : Int) ∧ u = .slice so q co ∧ L.length = q ∧ Hid (wr.ownsRow w2.heap.size 31 1 (.slice so q co) q (u64s L)) ∧ Hid (TabAt w1.heap.size wr tb pb ps) ∧ Hid (Few (j : Int) ps) ∧ Hid (Told L ps) ∧ Hid (Below w.heap.size w wr) ∧ w2.heap.size ≤ wr.heap.size) (fun _ i _ => ops.length - (intOf i).toNat)
    case atStart => exact ⟨0, 0, none, 0, [], _, Nat.zero_le _, Nat.le_refl _, rfl, rfl, rfl, World.ownsRow_nil _ _ _ _, HT2, few_zero _ (Int.le_refl _) _, (fun h hh => by cases hh), HB2, Nat.le_refl _⟩
    case round =>
      obtain ⟨j, q, so, co, L, ps, hj, hqj, rfl, rfl, hLl, HO, HT, HF, HTD, HB, hsz⟩ := hrel
      by_cases hlt : j < ops.length
      · obtain ⟨b, off, hsa, hcc⟩ := (HR.out.below HB.out).at (by omega)
        subst hsa
        obtain ⟨o0, o1, o2⟩ := opC_at ops j hlt
        have x0 := hcc _ _ o0
        have x1 := hcc _ _ o1
        have x2 := hcc _ _ o2
        have hh := HOK.out j hlt
        obtain ⟨⟨k, h, nn⟩, hp⟩ : ∃ p : Opp, ops.getD j (0, 0, 0) = p := ⟨_, rfl⟩
        rw [hp] at x0 x1 x2 hh
        have hh0 : 0 ≤ h := hh.1
        have hh1 : h ≤ 18446744073709551615 := hh.2
        have y0 : wr.cell? ⟨b, off + j * 3, none⟩ = some (.int .i64 k) := x0
        have y1 : wr.cell? ⟨b, off + j * 3 + 1, none⟩ = some (.int .u64 h) := x1
        have y2 : wr.cell? ⟨b, off + j * 3 + 2, none⟩ = some (.int .i64 nn) := x2
        clear x0 x1 x2 hp hh o0 o1 o2 hcc
        by_cases hk0 : k = 0
        · have q0 : (k == 0) = true := by simp [hk0]
          clear hk0
          go_wp2_with fail
          obtain ⟨wz, hwz⟩ : ∃ wz, wz = wr.alloc (.cells #[.int .i64 k, .int .u64 h, .int .i64 nn] 33) := ⟨_, rfl⟩
          have hbz : Below wr.heap.size wr wz := by rw [hwz]; exact (Below.refl _ _).alloc (Nat.le_refl _) _
          have hcz : wz.heap[wr.heap.size]? = some (.cells #[.int .i64 k, .int .u64 h, .int .i64 nn] 33 (0, 0)) := by rw [hwz]; exact heap_alloc_new _ _
          have hTz := HT.out.below hbz
          have hOz : wz.ownsRow w2.heap.size 31 1 (.slice so q co) q (u64s L) := by rw [hwz]; exact HO.out.alloc _
          have hBz : Below w.heap.size w wz := below_two HB.out hbz
          have hszz : w2.heap.size ≤ wz.heap.size := Nat.le_trans hsz hbz.size
          have hbw : w.heap.size ≤ w1.heap.size := HB1.out.size
          rw [← hwz]
          have HTZ := Lib.hid hTz; have HOZ := Lib.hid hOz; have HBZ := Lib.hid hBz; have HCZ := Lib.hid hcz
          clear hwz hbz hcz hTz hOz hBz y0 y1 y2
          refine (put_any _ w1.heap.size tb pb ps nn HTZ.out (fun i hi => by have := HF.out i hi; omega)).mono ?_
          rintro e w3 ⟨-, hch, (⟨rfl, hT3, -⟩ | ⟨i, rfl, hi, hfree, -, hT3⟩)⟩
          · have hO3 : w3.ownsRow w2.heap.size 31 1 (.slice so q co) q (u64s L) := row_chg HOZ.out hch (fun g hg hgp => by have := (HOZ.out.lt g hg).1; omega)
            have hB3 : Below w.heap.size w w3 := HBZ.out.trans (hch.below HBZ.out.size (fun g hg => by have := HTZ.out.pB; omega))
            have hsz3 := Nat.le_trans hszz hch.size
            obtain ⟨H, hH⟩ : ∃ H : Int, ∀ s, s < q → L.getD s 0 ≠ H := exists_not L q
            have HNE := Lib.hid hH
            have HO3 := Lib.hid hO3; have HB3 := Lib.hid hB3; have HT3 := Lib.hid hT3
            clear hO3 hB3 hT3 hch hH
            clear HO HT HB HTZ HOZ HBZ HCZ
            go_wp2
            go_loop [38] (fun i => ∃ s : Nat, s ≤ q ∧ i = .int .i64 s) (fun i => q - (intOf i).toNat)
            case atStart => exact ⟨0, Nat.zero_le _, rfl⟩
            case round =>
              obtain ⟨s, hs, rfl⟩ := hrel
              by_cases hlt2 : s < q
              · obtain ⟨b3, off3, hso, hc3⟩ := (rd_of_row HO3.out).at (by omega)
                subst hso
                have cs := hc3 s _ (u64s_at L s (by omega))
                have hne := HNE.out s hlt2
                have hsq : (s : Int) < (q : Int) := by omega
                generalize hxs : L.getD s 0 = xs at *
                have qx : (xs == H) = false := by simp [hne]
                clear hc3 hne hxs
                go_wp2
                go_round
                case rel => exact ⟨s + 1, by omega, by go_num⟩
                case measure => simp [intOf]; omega
              · obtain rfl : s = q := by omega
                go_wp2
                go_roundw
                case rel => exact ⟨j + 1, s, so, co, L, ps, by omega, by omega, by go_num, rfl, hLl, HO3, HT3, (fun i hi => by have := HF.out i hi; omega), HTD, HB3, hsz3⟩
                case measure => simp [intOf]; omega
          · have hO3 : w3.ownsRow w2.heap.size 31 1 (.slice so q co) q (u64s L) := row_chg HOZ.out hch (fun g hg hgp => by have := (HOZ.out.lt g hg).1; omega)
            have hB3 : Below w.heap.size w w3 := HBZ.out.trans (hch.below HBZ.out.size (fun g hg => by have := HTZ.out.pB; omega))
            have hsz3 := Nat.le_trans hszz hch.size
            have hti := HF.out i hi
            obtain ⟨H, hH⟩ : ∃ H : Int, H = 16 * ((ps.getD i plZ).2.1 + 1) + (i : Int) := ⟨_, rfl⟩
            have hne : ∀ s, s < q → L.getD s 0 ≠ H := fun s hs => by
              rw [hH]; exact told_new HTD.out HTZ.out.le hi _ (by have : s < L.length := by omega
                                                                  exact getD_mem' L s this)
            have htold : Told (L ++ [H]) (ps.set i (true, (ps.getD i plZ).2.1 + 1, nn)) := by
              intro x hx
              rcases List.mem_append.1 hx with h1 | h1
              · refine told_mono HTD.out (by rw [List.length_set]) (fun t ht => ?_) x h1
                rw [set_getD _ _ _ _ hi]
                by_cases hit : i = t
                · rw [if_pos hit, ← hit]; show _ ≤ (ps.getD i plZ).2.1 + 1; omega
                · rw [if_neg hit]; exact Int.le_refl _
              · rw [List.mem_singleton.1 h1]
                refine ⟨i, (ps.getD i plZ).2.1 + 1, by rw [List.length_set]; exact hi, ?_, hH⟩
                rw [set_getD _ _ _ _ hi, if_pos rfl]; exact Int.le_refl _
            have hfew : Few ((j : Int) + 1) (ps.set i (true, (ps.getD i plZ).2.1 + 1, nn)) := few_set HF.out hi _ (by show 0 ≤ (ps.getD i plZ).2.1 + 1; omega) (by show (ps.getD i plZ).2.1 + 1 ≤ (j : Int) + 1; omega)
            rw [← hH]
            have HNE := Lib.hid hne; have HTOLD := Lib.hid htold; have HFEW := Lib.hid hfew
            have HO3 := Lib.hid hO3; have HB3 := Lib.hid hB3; have HT3 := Lib.hid hT3
            clear hO3 hB3 hT3 hch hH hne htold hfew hti hfree
            clear HO HT HB HTZ HOZ HBZ HCZ
            go_wp2
            go_loop [38] (fun i => ∃ s : Nat, s ≤ q ∧ i = .int .i64 s) (fun i => q - (intOf i).toNat)
            case atStart => exact ⟨0, Nat.zero_le _, rfl⟩
            case round =>
              obtain ⟨s, hs, rfl⟩ := hrel
              by_cases hlt2 : s < q
              · obtain ⟨b3, off3, hso, hc3⟩ := (rd_of_row HO3.out).at (by omega)
                subst hso
                have cs := hc3 s _ (u64s_at L s (by omega))
                have hne := HNE.out s hlt2
                have hsq : (s : Int) < (q : Int) := by omega
                generalize hxs : L.getD s 0 = xs at *
                have qx : (xs == H) = false := by simp [hne]
                clear hc3 hne hxs
                go_wp2
                go_round
                case rel => exact ⟨s + 1, by omega, by go_num⟩
                case measure => simp [intOf]; omega
              · obtain rfl : s = q := by omega
                go_wp2_with (at_builtin; refine app_u64 _ rfl _ _ rfl w2.heap.size _ _ _ rfl HO3.out _ _ rfl ?qg ?qn ?qb ?_)
                case qg => rfl
                case qn => omega
                intro v' w4 hown hchg hfresh
                obtain ⟨so', co', rfl⟩ := (rd_of_row hown).form
                rw [← u64s_snoc] at hown
                have hT4 : TabAt w1.heap.size w4 tb pb (ps.set i (true, (ps.getD i plZ).2.1 + 1, nn)) := HT3.out.kept
                  (hchg.block tb (block_lt HT3.out.tab) (fun hx => by have := (HO3.out.lt _ hx).1; omega)) (hchg.block pb (block_lt HT3.out.row) (fun hx => by have := (HO3.out.lt _ hx).1; omega))
                have hB4 : Below w.heap.size w w4 := HB3.out.trans (hchg.below HB3.out.size fun i hi => by have := (HO3.out.lt i hi).1; have := HB2.out.size; omega)
                have hsz4 := Nat.le_trans hsz3 hchg.size
                have HO4 := Lib.hid hown; have HT4 := Lib.hid hT4; have HB4 := Lib.hid hB4
                clear hown hchg hfresh hT4 hB4
                go_wp2
                go_roundw
                case rel => exact ⟨j + 1, s + 1, so', co', L ++ [H], _, by omega, by omega, by go_num, rfl, by simp [hLl], HO4, HT4, by have := HFEW.out; exact this, HTOLD, HB4, hsz4⟩
                case measure => simp [intOf]; omega
        · have q0 : (k == 0) = false := by simp [hk0]
          by_cases hk2 : k = 2
          · have q2 : (k == 2) = true := by simp [hk2]
            have q3 : (k == 3) = false := by simp [hk2]
            clear hk2 hk0
            go_wp2_with fail
            obtain ⟨wz, hwz⟩ : ∃ wz, wz = wr.alloc (.cells #[.int .i64 k, .int .u64 h, .int .i64 nn] 33) := ⟨_, rfl⟩
            have hbz : Below wr.heap.size wr wz := by rw [hwz]; exact (Below.refl _ _).alloc (Nat.le_refl _) _
            have hcz : wz.heap[wr.heap.size]? = some (.cells #[.int .i64 k, .int .u64 h, .int .i64 nn] 33 (0, 0)) := by rw [hwz]; exact heap_alloc_new _ _
            have hTz := HT.out.below hbz
            have hOz : wz.ownsRow w2.heap.size 31 1 (.slice so q co) q (u64s L) := by rw [hwz]; exact HO.out.alloc _
            have hBz : Below w.heap.size w wz := below_two HB.out hbz
            have hszz : w2.heap.size ≤ wz.heap.size := Nat.le_trans hsz hbz.size
            have hbw : w.heap.size ≤ w1.heap.size := HB1.out.size
            have hpw := block_lt HT.out.row
            rw [← hwz]
            have HTZ := Lib.hid hTz; have HOZ := Lib.hid hOz; have HBZ := Lib.hid hBz; have HCZ := Lib.hid hcz
            clear hwz hbz hcz hTz hOz hBz y0 y1 y2
            refine (hset_any _ w1.heap.size tb pb ps h nn HTZ.out (fun i hi => by have := HF.out i hi; omega) hh0 hh1).mono ?_
            rintro e w3 ⟨-, hch, (⟨-, rfl, hT3⟩ | ⟨i, -, rfl, hi, hin, hT3⟩)⟩
            · have hO3 : w3.ownsRow w2.heap.size 31 1 (.slice so q co) q (u64s L) := row_chg HOZ.out hch (fun g hg hgp => by have := (HOZ.out.lt g hg).1; omega)
              have hB3 : Below w.heap.size w w3 := HBZ.out.trans (hch.below HBZ.out.size (fun g hg => by have := HTZ.out.pB; omega))
              have hsz3 := Nat.le_trans hszz hch.size
              have hc3 := cell_of ((hch.block wr.heap.size (block_lt HCZ.out) (by omega)).trans HCZ.out) 0 (u := .int .i64 k) rfl
              have hfew : Few ((j : Int) + 1) ps := fun i hi => by have := HF.out i hi; omega
              have htold : Told L ps := HTD.out
              have HFEW := Lib.hid hfew; have HTOLD := Lib.hid htold
              have HO3 := Lib.hid hO3; have HB3 := Lib.hid hB3; have HT3 := Lib.hid hT3
              clear hO3 hB3 hT3 hch hfew htold
              go_wp2
              go_roundw
              case rel => exact ⟨j + 1, q, so, co, L, _, by omega, by omega, by go_num, rfl, hLl, HO3, HT3, by have := HFEW.out; exact this, HTOLD, HB3, hsz3⟩
              case measure => simp [intOf]; omega
            · have hO3 : w3.ownsRow w2.heap.size 31 1 (.slice so q co) q (u64s L) := row_chg HOZ.out hch (fun g hg hgp => by have := (HOZ.out.lt g hg).1; omega)
              have hB3 : Below w.heap.size w w3 := HBZ.out.trans (hch.below HBZ.out.size (fun g hg => by have := HTZ.out.pB; omega))
              have hsz3 := Nat.le_trans hszz hch.size
              have hc3 := cell_of ((hch.block wr.heap.size (block_lt HCZ.out) (by omega)).trans HCZ.out) 0 (u := .int .i64 k) rfl
              have hfew : Few ((j : Int) + 1) (ps.set i (true, (ps.getD i plZ).2.1, nn)) := by
                have hti := HF.out i hi
                exact few_set HF.out hi _ hti.1 (by show (ps.getD i plZ).2.1 ≤ (j : Int) + 1; omega)
              have htold : Told L (ps.set i (true, (ps.getD i plZ).2.1, nn)) := by
                refine told_mono HTD.out (by rw [List.length_set]) (fun t ht => ?_)
                rw [set_getD _ _ _ _ hi]
                by_cases hit : i = t
                · rw [if_pos hit, ← hit]; exact Int.le_refl _
                · rw [if_neg hit]; exact Int.le_refl _
              have HFEW := Lib.hid hfew; have HTOLD := Lib.hid htold
              have HO3 := Lib.hid hO3; have HB3 := Lib.hid hB3; have HT3 := Lib.hid hT3
              clear hO3 hB3 hT3 hch hfew htold
              go_wp2
              go_roundw
              case rel => exact ⟨j + 1, q, so, co, L, _, by omega, by omega, by go_num, rfl, hLl, HO3, HT3, by have := HFEW.out; exact this, HTOLD, HB3, hsz3⟩
              case measure => simp [intOf]; omega
          · have q2 : (k == 2) = false := by simp [hk2]
            by_cases hk3 : k = 3
            · have q3 : (k == 3) = true := by simp [hk3]
              clear hk2 hk0 hk3
              go_wp2_with fail
              obtain ⟨wz, hwz⟩ : ∃ wz, wz = wr.alloc (.cells #[.int .i64 k, .int .u64 h, .int .i64 nn] 33) := ⟨_, rfl⟩
              have hbz : Below wr.heap.size wr wz := by rw [hwz]; exact (Below.refl _ _).alloc (Nat.le_refl _) _
              have hcz : wz.heap[wr.heap.size]? = some (.cells #[.int .i64 k, .int .u64 h, .int .i64 nn] 33 (0, 0)) := by rw [hwz]; exact heap_alloc_new _ _
              have hTz := HT.out.below hbz
              have hOz : wz.ownsRow w2.heap.size 31 1 (.slice so q co) q (u64s L) := by rw [hwz]; exact HO.out.alloc _
              have hBz : Below w.heap.size w wz := below_two HB.out hbz
              have hszz : w2.heap.size ≤ wz.heap.size := Nat.le_trans hsz hbz.size
              have hbw : w.heap.size ≤ w1.heap.size := HB1.out.size
              have hpw := block_lt HT.out.row
              rw [← hwz]
              have HTZ := Lib.hid hTz; have HOZ := Lib.hid hOz; have HBZ := Lib.hid hBz; have HCZ := Lib.hid hcz
              clear hwz hbz hcz hTz hOz hBz y0 y1 y2
              refine (drop_any _ w1.heap.size tb pb ps h HTZ.out (fun i hi => by have := HF.out i hi; omega) hh0 hh1).mono ?_
              rintro e w3 ⟨-, hch, (⟨-, rfl, hT3⟩ | ⟨i, -, rfl, hi, hin, hT3⟩)⟩
              · have hO3 : w3.ownsRow w2.heap.size 31 1 (.slice so q co) q (u64s L) := row_chg HOZ.out hch (fun g hg hgp => by have := (HOZ.out.lt g hg).1; omega)
                have hB3 : Below w.heap.size w w3 := HBZ.out.trans (hch.below HBZ.out.size (fun g hg => by have := HTZ.out.pB; omega))
                have hsz3 := Nat.le_trans hszz hch.size
                have hc3 := cell_of ((hch.block wr.heap.size (block_lt HCZ.out) (by omega)).trans HCZ.out) 0 (u := .int .i64 k) rfl
                have hfew : Few ((j : Int) + 1) ps := fun i hi => by have := HF.out i hi; omega
                have htold : Told L ps := HTD.out
                have HFEW := Lib.hid hfew; have HTOLD := Lib.hid htold
                have HO3 := Lib.hid hO3; have HB3 := Lib.hid hB3; have HT3 := Lib.hid hT3
                clear hO3 hB3 hT3 hch hfew htold
                go_wp2
                go_roundw
                case rel => exact ⟨j + 1, q, so, co, L, _, by omega, by omega, by go_num, rfl, hLl, HO3, HT3, by have := HFEW.out; exact this, HTOLD, HB3, hsz3⟩
                case measure => simp [intOf]; omega
              · have hO3 : w3.ownsRow w2.heap.size 31 1 (.slice so q co) q (u64s L) := row_chg HOZ.out hch (fun g hg hgp => by have := (HOZ.out.lt g hg).1; omega)
                have hB3 : Below w.heap.size w w3 := HBZ.out.trans (hch.below HBZ.out.size (fun g hg => by have := HTZ.out.pB; omega))
                have hsz3 := Nat.le_trans hszz hch.size
                have hc3 := cell_of ((hch.block wr.heap.size (block_lt HCZ.out) (by omega)).trans HCZ.out) 0 (u := .int .i64 k) rfl
                have hfew : Few ((j : Int) + 1) (ps.set i (false, (ps.getD i plZ).2.1, 0)) := by
                  have hti := HF.out i hi
                  exact few_set HF.out hi _ hti.1 (by show (ps.getD i plZ).2.1 ≤ (j : Int) + 1; omega)
                have htold : Told L (ps.set i (false, (ps.getD i plZ).2.1, 0)) := by
                  refine told_mono HTD.out (by rw [List.length_set]) (fun t ht => ?_)
                  rw [set_getD _ _ _ _ hi]
                  by_cases hit : i = t
                  · rw [if_pos hit, ← hit]; exact Int.le_refl _
                  · rw [if_neg hit]; exact Int.le_refl _
                have HFEW := Lib.hid hfew; have HTOLD := Lib.hid htold
                have HO3 := Lib.hid hO3; have HB3 := Lib.hid hB3; have HT3 := Lib.hid hT3
                clear hO3 hB3 hT3 hch hfew htold
                go_wp2
                go_roundw
                case rel => exact ⟨j + 1, q, so, co, L, _, by omega, by omega, by go_num, rfl, hLl, HO3, HT3, by have := HFEW.out; exact this, HTOLD, HB3, hsz3⟩
                case measure => simp [intOf]; omega
            · have q3 : (k == 3) = false := by simp [hk3]
              clear hk2 hk0 hk3
              go_wp2
              have hb3 : Below wr.heap.size wr (wr.alloc (.cells #[.int .i64 k, .int .u64 h, .int .i64 nn] 33)) := (Below.refl _ _).alloc (Nat.le_refl _) _
              have HB3 := Lib.hid hb3; clear hb3
              go_roundw
              case rel => exact ⟨j + 1, q, so, co, L, ps, by omega, by omega, by go_num, rfl, hLl, HO.out.alloc _, HT.out.below HB3.out, (fun i hi => by have := HF.out i hi; omega), HTD, below_two HB.out HB3.out, Nat.le_trans hsz HB3.out.size⟩
              case measure => simp [intOf]; omega
      · obtain rfl : j = ops.length := by omega
        go_wp2
        go_ret
        exact ⟨rfl, HB.out⟩

end Go.Proofs.Ytlaljhjondmecaa
