/-
  The references Times and sets.
-/
import Derived.Test.YtnnaijbdimdhpaaTly23
import Derived.Test.YtnnaijbdimdhpaaTly16
namespace Go.Proofs.Ytnnaijbdimdhpaa
open Go.RowKit Go.Shelf
set_option linter.unusedVariables false

theorem timesN_le {n : Nat} (hn : n ≤ 6) {m : Nat} (hm : m ≤ n) : timesN n m ≤ 720 := by
  have h : (List.range 7).all (fun n => (List.range (n + 1)).all fun m => decide (timesN n m ≤ 720)) = true := by decide
  have := List.all_eq_true.1 (List.all_eq_true.1 h n (List.mem_range.2 (by omega))) m (List.mem_range.2 (by omega))
  exact of_decide_eq_true this

set_option maxRecDepth 100000 in
set_option maxHeartbeats 1000000 in
theorem times_any (n m : Nat) (w : World) (hn : n ≤ 6) (hm : m ≤ n) :
    Calls Try.prog 29 #[.int .i64 n, .int .i64 m] w fun e w' => e = .returned (.int .u64 (timesN n m)) ∧ w' = w := by
  go_enter Try.func29, Try.ntmps29
  go_wp2
  go_loop [5, 6] (fun x i => ∃ k : Nat, k ≤ m ∧ i = .int .i64 k ∧ ∃ p : Nat, p ≤ 720 ∧ Hid (p = timesN n k) ∧ x = .int .u64 p) (fun _ i => m - (intOf i).toNat)
  case atStart => exact ⟨0, Nat.zero_le _, rfl, 1, by omega, rfl, rfl⟩
  case round =>
    obtain ⟨k, hk, rfl, p, hp, HP, rfl⟩ := hrel
    by_cases hlt : k < m
    · obtain ⟨d, hd⟩ : ∃ d, d = n - k := ⟨_, rfl⟩
      have hdz : (n : Int) - (k : Int) = (d : Int) := by omega
      have hd6 : d ≤ 6 := by omega
      have hnew : p * d = timesN n (k + 1) := by rw [HP.out, hd]; rfl
      have hle : p * d ≤ 720 := by rw [hnew]; exact timesN_le hn (by omega)
      obtain ⟨q, hq⟩ : ∃ q, q = p * d := ⟨_, rfl⟩
      have hmul : IntKind.u64.wrap ((p : Int) * (d : Int)) = (q : Int) := by rw [show ((p : Int) * (d : Int)) = (q : Int) by rw [hq]; simp, IntKind.wrap_u64]; omega
      rw [← hq] at hnew hle
      have HQ := Lib.hid hnew
      clear hd hq hnew HP
      go_wp2
      go_round
      case rel => exact ⟨k + 1, by omega, by go_num, q, hle, HQ, rfl⟩
      case measure => simp [intOf]; omega
    · obtain rfl : k = m := by omega
      go_wp2
      go_ret
      exact ⟨ret_int (by rw [HP.out]), rfl⟩

/-- the sets whose first item is one of j -/
def setsP (k from' n j : Nat) : List Nat := (List.range j).flatMap fun i => (setsR k (from' + i + 1) n).map (· + 2 ^ (from' + i))
theorem setsP_succ (k from' n j : Nat) : setsP k from' n (j + 1) = setsP k from' n j ++ (setsR k (from' + j + 1) n).map (· + 2 ^ (from' + j)) := by
  simp [setsP, List.range_succ, List.flatMap_append]
theorem setsP_pre (k from' n : Nat) {j m : Nat} (h : j ≤ m) : setsP k from' n j <+: setsP k from' n m := by
  obtain ⟨d, rfl⟩ : ∃ d, m = j + d := ⟨m - j, by omega⟩
  simp only [setsP, List.range_add, List.flatMap_append]
  exact List.prefix_append _ _
def setsBd : Bool := (List.range 8).all fun k => (List.range 8).all fun f => (List.range 7).all fun n => decide ((setsR k f n).length ≤ 64) && (setsR k f n).all fun s => decide (s ≤ 63)
theorem setsBd_true : setsBd = true := by decide +kernel
theorem setsR_bd {k f n : Nat} (hk : k ≤ 7) (hf : f ≤ 7) (hn : n ≤ 6) : (setsR k f n).length ≤ 64 ∧ ∀ s ∈ setsR k f n, s ≤ 63 := by
  have h := List.all_eq_true.1 (List.all_eq_true.1 (List.all_eq_true.1 setsBd_true k (List.mem_range.2 (by omega))) f (List.mem_range.2 (by omega))) n (List.mem_range.2 (by omega))
  rw [Bool.and_eq_true] at h
  exact ⟨of_decide_eq_true h.1, fun s hs => of_decide_eq_true (List.all_eq_true.1 h.2 s hs)⟩

/-- a slice in a block that has been laid since -/
def Fresh (B : Nat) (v : Value) : Prop := ∀ b, sBlk v = some b → B ≤ b
theorem fresh_of_row {w : World} {B : Nat} {e : TypeId} {sa : Option Addr} {n cap m : Nat} {xs : List Value} (h : w.ownsRow B e 1 (.slice sa n cap) m xs) : Fresh B (.slice sa n cap) := by
  intro b hb
  rcases h.2 with ⟨h1, _⟩ | ⟨g, c, cur, h1, h2, _⟩
  · rw [h1] at hb; cases hb
  · rw [h1] at hb
    cases hb
    exact h2

set_option maxRecDepth 100000 in
set_option maxHeartbeats 2000000 in
theorem sets_any (n : Nat) (hn : n ≤ 6) : ∀ (k from' : Nat) (w : World), k ≤ 6 → from' ≤ n →
    Calls Try.prog 60 #[.int .i64 from', .int .i64 n, .int .i64 k] w fun e w' => ∃ sa m cap, e = .returned (.slice sa m cap) ∧ Rd w' 1 (.slice sa m cap) m (u64s (castL (setsR k from' n))) ∧ Fresh w.heap.size (.slice sa m cap) ∧ Below w.heap.size w w' := by
  intro k
  induction k with
  | zero =>
    intro from' w _ _
    go_enter Try.func60, Try.ntmps60
    go_wp2
    go_ret
    refine ⟨_, _, _, rfl, ?_, ?_, (Below.refl _ w).alloc (Nat.le_refl _) _⟩
    · refine ⟨rfl, by unfold maxLen; omega, _, _, rfl, Nat.le_refl _, .inr ⟨_, 0, rfl, fun i u hu => ?_⟩⟩
      exact cell_of (World.alloc_heap_new w _) _ (by simpa [u64s, castL, setsR] using hu)
    · intro b hb
      cases hb
      exact Nat.le_refl _
  | succ k ih =>
    intro from' w hk hf
    have hkz : ((k + 1 : Nat) : Int) - 1 = (k : Int) := by omega
    have hk0 : (((k + 1 : Nat) : Int) == 0) = false := by rw [beq_eq_false_iff_ne]; omega
    have hbd := setsR_bd (k := k + 1) (f := from') (n := n) (by omega) (by omega) hn
    have hR : setsR (k + 1) from' n = setsP k from' n (n - from') := rfl
    rw [hR] at hbd ⊢
    have HBD := Lib.hid hbd
    have HIH := Lib.hid ih
    clear hbd hR ih
    generalize ((k + 1 : Nat) : Int) = K at *
    go_enter Try.func60, Try.ntmps60
    go_wp2
    go_loopw [7, 8, 10] (fun v i u wr => ∃ (j : Nat) (sa : Option Addr) (m cap : Nat), j ≤ n - from' ∧ i = .int .i64 ((from' + j : Nat) : Int) ∧ v = .slice sa m cap ∧ m = (castL (setsP k from' n j)).length ∧ Hid (wr.ownsRow w.heap.size 22 1 (.slice sa m cap) m (u64s (castL (setsP k from' n j)))) ∧ Hid (Below w.heap.size w wr)) (fun _ i _ _ => n - (intOf i).toNat)
    case atStart => exact ⟨0, none, 0, 0, Nat.zero_le _, rfl, rfl, rfl, World.ownsRow_nil _ _ _ _, Below.refl _ _⟩
    case round =>
      obtain ⟨j, sa, m, cap, hj, rfl, rfl, hm, HO, HB⟩ := hrel
      obtain ⟨i, hi⟩ : ∃ i, i = from' + j := ⟨_, rfl⟩
      rw [← hi]
      by_cases hlt : i < n
      · have hS := HIH.out (i + 1) wr (by omega) (by omega)
        rw [show ((i + 1 : Nat) : Int) = (i : Int) + 1 by omega] at hS
        have hps := setsP_succ k from' n j
        rw [← hi] at hps
        have hpre := setsP_pre k from' n (show j + 1 ≤ n - from' by omega)
        rw [hps] at hpre
        obtain ⟨M, hM⟩ : ∃ M, M = setsR k (i + 1) n := ⟨_, rfl⟩
        have hMb := setsR_bd (k := k) (f := i + 1) (n := n) (by omega) (by omega) hn
        rw [← hM] at hps hpre hS hMb
        obtain ⟨L, hL⟩ : ∃ L, L = setsP k from' n j := ⟨_, rfl⟩
        rw [← hL] at hps hpre hm HO
        have hplen : L.length + M.length ≤ 64 := by
          have h1 := hpre.length_le
          rw [List.length_append, List.length_map] at h1
          have := HBD.out.1
          omega
        have HPS := Lib.hid hps; have HM := Lib.hid hMb.2; have HI := Lib.hid hi; have HMM := Lib.hid hm
        have hm64 : m ≤ 64 := by rw [hm, castL_len]; omega
        have hML : M.length ≤ 64 := hMb.1
        have hmL : m = L.length := by rw [hm, castL_len]
        have HML := Lib.hid hmL
        have hp := power_any i wr (by omega)
        have hjn : j + 1 ≤ n - from' := by omega
        clear hps hpre hM hL hMb hi hm hmL hp
        go_wp2_with (refine hS.mono ?_; rintro e w1 ⟨sb, mb, cb, rfl, hrb, hfb, hb1⟩; have HRB := Lib.hid hrb; have HFB := Lib.hid hfb; have HB1 := Lib.hid hb1; (obtain rfl : mb = M.length := (by rw [hrb.len_u64, castL_len])); clear hrb hfb hb1)
        obtain ⟨v0, hv0⟩ : ∃ v0, v0 = Value.slice sb M.length cb := ⟨_, rfl⟩
        have HV0 := Lib.hid hv0
        go_loopw [7, 10, 27] (fun v u q wr2 => ∃ (z : Nat) (sa2 : Option Addr) (cap2 : Nat), z ≤ M.length ∧ q = .int .i64 z ∧ v = .slice sa2 (L.length + z) cap2 ∧ Hid (wr2.ownsRow w.heap.size 22 1 (.slice sa2 (L.length + z) cap2) (L.length + z) (u64s (castL (L ++ (M.take z).map (· + 2 ^ i))))) ∧ Hid (Below w.heap.size w wr2) ∧ Hid (Rd wr2 1 v0 M.length (u64s (castL M))) ∧ Hid (∀ b, (Value.slice sa2 (L.length + z) cap2).ownBlock = some b → sBlk v0 ≠ some b)) (fun _ _ q _ => M.length - (intOf q).toNat)
        case atStart =>
          refine ⟨0, sa, cap, Nat.zero_le _, rfl, by rw [HML.out]; rfl, ?_, ?_, ?_, ?_⟩
          · show World.ownsRow _ _ _ _ _ _ _
            rw [show L ++ (M.take 0).map (· + 2 ^ i) = L by simp, Nat.add_zero]
            have h1 := HO.out
            rw [HML.out] at h1
            exact row_kept h1 fun g hx => HB1.out.block g (h1.lt g hx).2
          · exact HB.out.trans (HB1.out.mono HB.out.size)
          · show Rd _ _ _ _ _; rw [HV0.out]; exact HRB.out
          · intro b hb hb2
            have h1 := (HO.out.lt b (by rw [HML.out]; exact hb)).2
            have h2 := HFB.out b (by rw [← HV0.out]; exact hb2)
            omega
        case round =>
          obtain ⟨z, sa2, cap2, hz, rfl, rfl, HO2, HB2, HR2, HD2⟩ := hrel
          have HRV : Hid (Rd wr 1 (.slice sb M.length cb) M.length (u64s (castL M))) := by have := HR2.out; rw [HV0.out] at this; exact this
          by_cases hltz : z < M.length
          · obtain ⟨b, off, rfl, hcell⟩ := HRV.out.at (by omega)
            have hc := hcell z _ (u64s_at (castL M) z (by rw [castL_len]; exact hltz))
            rw [castL_at M hltz] at hc
            obtain ⟨x, hx⟩ : ∃ x, x = M.getD z 0 := ⟨_, rfl⟩
            rw [← hx] at hc
            have hgx : M[z] = x := by rw [hx]; simp [List.getD, List.getElem?_eq_getElem hltz]
            have hx63 : x ≤ 63 := HM.out x (by rw [← hgx]; exact List.getElem_mem hltz)
            have htk : L ++ (M.take (z + 1)).map (· + 2 ^ i) = (L ++ (M.take z).map (· + 2 ^ i)) ++ [x + 2 ^ i] := by
              rw [List.take_add_one, List.getElem?_eq_getElem hltz, hgx, List.map_append, List.append_assoc]; rfl
            have hp := power_any i wr (by omega)
            have hP64 : 2 ^ i ≤ 64 := Nat.pow_le_pow_right (n := 2) (j := 6) (by omega) (by omega)
            generalize 2 ^ i = P at *
            have HTK := Lib.hid htk
            clear hcell hx hgx htk
            go_wp2_with (first
              | (go_at_call 17; refine hp.mono ?_; rintro e wr ⟨rfl, rfl⟩)
              | (at_builtin; refine app_u64 _ rfl _ _ rfl w.heap.size _ _ _ rfl HO2.out _ _ rfl ?qg ?qn ?qb ?_))
            case qg => rfl
            case qn => omega
            case qb => exact HB2.out.size
            intro v' w3 hown hchg hfresh
            obtain ⟨sa', cap', rfl⟩ := (rd_of_row hown).form
            have HO3 := Lib.hid hown; have HC3 := Lib.hid hchg; have HF3 := Lib.hid hfresh
            clear hown hchg hfresh
            go_wp2
            go_roundw
            case rel =>
              refine ⟨z + 1, sa', cap', by omega, by go_num, rfl, ?_, ?_, ?_, ?_⟩
              · have := HO3.out
                show World.ownsRow _ _ _ _ _ _ _
                rw [← List.map_take] at this
                rw [HTK.out, castL, List.map_append, List.map_cons, List.map_nil, u64s_snoc, Int.natCast_add]
                exact this
              · exact HB2.out.trans (HC3.out.below HB2.out.size fun i hi => (HO2.out.lt i hi).1)
              · exact HR2.out.keep fun b hb hl => HC3.out.block b hl (fun h => HD2.out b h hb)
              · intro b hb hb2
                rcases HF3.out b hb with h1 | h1
                · exact HD2.out b h1 hb2
                · obtain ⟨b', off', e1, e2⟩ := HRV.out.at (by omega)
                  cases e1
                  rw [HV0.out] at hb2
                  cases hb2
                  have h2 : b < wr.heap.size := World.block_lt_of_cell? _ _ (e2 0 _ (u64s_at (castL M) 0 (by rw [castL_len]; omega)))
                  have h3 : wr.heap.size ≤ b := by simpa using h1
                  omega
            case measure => simp [intOf]; omega
          · obtain rfl : z = M.length := by omega
            go_wp2
            go_roundw
            case rel =>
              refine ⟨j + 1, sa2, L.length + M.length, cap2, hjn, by have := HI.out; go_num, rfl, ?_, ?_, HB2.out⟩
              · rw [HPS.out, castL_len, List.length_append, List.length_map]
              · have := HO2.out
                rw [List.take_length] at this
                show World.ownsRow _ _ _ _ _ _ _
                rw [HPS.out]
                exact this
            case measure => simp [intOf]; omega
      · obtain rfl : j = n - from' := by omega
        clear hi
        go_wp2
        go_ret
        exact ⟨sa, m, cap, rfl, rd_of_row HO.out, fresh_of_row HO.out, HB.out⟩

end Go.Proofs.Ytnnaijbdimdhpaa
