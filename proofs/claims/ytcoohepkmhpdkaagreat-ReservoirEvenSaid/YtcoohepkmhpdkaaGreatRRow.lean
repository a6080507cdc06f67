/-
  The reference's draws one behind the other: Row; and whether draws are alike: Same.
-/
import Derived.Test.YtcoohepkmhpdkaaGreatRTake
namespace Go.Proofs.YtcoohepkmhpdkaaGreat
open Go.RowKit
set_option linter.unusedVariables false

/-- limits that words of 64 bits serve -/
def Lims (ns : List Nat) : Prop := ∀ n ∈ ns, 0 < n ∧ n < 2 ^ 64
theorem Lims.at {ns : List Nat} (h : Lims ns) {i : Nat} (hi : i < ns.length) : 0 < ns.getD i 0 ∧ ns.getD i 0 < 2 ^ 64 := by
  rw [List.getD_eq_getElem?_getD, List.getElem?_eq_getElem hi]
  exact h _ (List.getElem_mem hi)

/-- v[k:] -/
theorem Rd.from {w : World} {sz : Nat} {sa : Option Addr} {n cap : Nat} {cs : List Value} (h : Rd w sz (.slice sa n cap) n cs) {k : Nat} (hk : k ≤ n) :
    Rd w sz (.slice (if cap = k then sa else sa.map (·.add (k * sz))) (n - k) (cap - k)) (n - k) (cs.drop (k * sz)) := by
  have hc := h.cap_le.1
  obtain ⟨h1, h2, sa', cap', hv, hcc, h3⟩ := h
  cases hv
  refine ⟨by rw [List.length_drop, h1, Nat.sub_mul], by omega, _, _, rfl, by omega, ?_⟩
  by_cases h0 : n = k
  · exact .inl (by omega)
  · rcases h3 with h3 | ⟨b, off, rfl, h5⟩
    · omega
    · rw [if_neg (by omega)]
      refine .inr ⟨b, off + k * sz, by simp [Addr.add_lit], fun i u hu => ?_⟩
      rw [List.getElem?_drop] at hu
      have := h5 _ _ hu
      rw [Nat.add_assoc]
      exact this

set_option maxRecDepth 100000 in
set_option maxHeartbeats 4000000 in
theorem rrow_any (w : World) (v vl : Value) (m ml : Nat) (l ns : List Nat) (hr : Rd w 1 v m (u64s (zsN l))) (hrl : Rd w 1 vl ml (u64s (zsN ns))) (hm : m < 50000) (hml : ml < 50000) (hw : W64 l) (hns : Lims ns) :
    Calls Tryz.prog 42 #[v, vl] w fun e w' => TkE (rowN l ns) (fun r => ∃ sa cap, e = .returned (.tuple #[.slice sa r.1.length cap, .int .i64 (r.2 : Int), .bool true]) ∧ w'.ownsRow w.heap.size 65 3 (.slice sa r.1.length cap) r.1.length (dwC r.1))
      (e = .returned (.tuple #[.slice none 0 0, .int .i64 (l.length : Int), .bool false])) ∧ Below w.heap.size w w' := by
  obtain rfl := hr.len_u64
  obtain rfl := hrl.len_u64
  rw [zsN_len] at *
  obtain ⟨sa, cap, rfl⟩ := hr.form
  obtain ⟨sl, capl, rfl⟩ := hrl.form
  have hcap := hr.cap_le.1
  have HR := Lib.hid hr; have HW := Lib.hid hw; have HL := Lib.hid hrl; have HNS := Lib.hid hns
  clear hr hw hrl hns
  obtain ⟨R, hR⟩ : ∃ R, R = rowN l ns := ⟨_, rfl⟩
  rw [← hR]
  have HR0 := Lib.hid hR; clear hR
  go_enter Tryz.func42, Tryz.ntmps42
  go_wp2
  go_loopw [7, 8, 15] (fun s7 s8 i wr => ∃ (k used : Nat) (acc : List Drw) (sd : Option Addr) (cd : Nat), k ≤ ns.length ∧ i = .int .i64 k ∧ used ≤ l.length ∧ s8 = .int .i64 used ∧ s7 = .slice sd k cd ∧ acc.length = k ∧ Hid (wr.ownsRow w.heap.size 65 3 (.slice sd k cd) k (dwC acc)) ∧ Hid (Below w.heap.size w wr) ∧ Hid (R = rowA l (ns.drop k) acc used)) (fun _ _ i _ => ns.length - (intOf i).toNat)
  case atStart => exact ⟨0, 0, [], none, 0, Nat.zero_le _, rfl, Nat.zero_le _, rfl, rfl, rfl, World.ownsRow_nil _ _ _ _, Below.refl _ w, HR0⟩
  case round =>
    obtain ⟨k, used, acc, sd, cd, hk, rfl, hu, rfl, rfl, hak, HO, HB, HRk⟩ := hrel
    have HAK := Lib.hid hak; clear hak
    by_cases hlt : k < ns.length
    · obtain ⟨hn0, hn1⟩ := HNS.out.at hlt
      obtain ⟨bb, off, rfl, hc⟩ := (HL.out.below HB.out).at (by omega)
      have cx := hc k _ (u64s_at (zsN ns) k (by rw [zsN_len]; exact hlt))
      rw [zsN_get] at cx
      have hst := rowA_step (l := l) hlt acc used
      generalize ns.getD k 0 = n at *
      have HST := Lib.hid hst; have HN0 := Lib.hid hn0; have HN1 := Lib.hid hn1
      have hrs := (HR.out.below HB.out).from hu
      rw [Nat.mul_one] at hrs
      have hsl : (zsN l).length = l.length := zsN_len l
      obtain ⟨sx, hx⟩ : ∃ sx, (if cap = used then sa else sa.map (·.add used)) = sx := ⟨_, rfl⟩
      rw [hx] at hrs
      have hrs' : Rd wr 1 (.slice sx (l.length - used) (cap - used)) (l.length - used) (u64s (zsN (l.drop used))) := by rw [zsN_drop, u64s_drop]; exact hrs
      have C := rtake_any wr _ _ (l.drop used) n hrs' (by omega) (fun a ha => HW.out a (List.mem_of_mem_drop ha)) HN0.out HN1.out
      have HC := Lib.hid C
      clear hst hc hn0 hn1 hrs hrs' hsl C
      go_wp2_with fail
      refine HC.out.mono ?_
      rintro e w1 ⟨he, hb1⟩
      have HB1 := Lib.hid (HB.out.trans (hb1.mono HB.out.size))
      have HO1 := Lib.hid (row_chg HO.out (Chg.of_below (S := fun _ => False) hb1) (fun _ _ h => h))
      have hsz1 := hb1.size
      cases htk : takeN n 0 (l.drop used) with
      | none =>
        rw [htk] at he
        obtain rfl : e = .returned (.tuple #[.agg #[.int .u64 0, .int .u64 0, .int .i64 0], .bool false]) := he
        have hE : R = none := by rw [HRk.out, HST.out, htk]
        have HE := Lib.hid hE
        clear hE htk hb1 cx
        go_wp2_with fail
        go_ret3
        rw [HE.out]
        refine ⟨?_, HB1.out.alloc HB1.out.size _⟩
        exact (rfl : _ = _)
      | some d =>
        rw [htk] at he
        obtain rfl : e = .returned (.tuple #[.agg #[.int .u64 (d.1 : Int), .int .u64 (d.2.1 : Int), .int .i64 (d.2.2 : Int)], .bool true]) := he
        have hus := takeN_used htk
        rw [List.length_drop] at hus
        have hus' : used + d.2.2 ≤ l.length := by omega
        have hE : R = rowA l (ns.drop (k + 1)) (acc ++ [d]) (used + d.2.2) := by rw [HRk.out, HST.out, htk]
        have HE := Lib.hid hE
        clear hE htk hb1 cx hus
        obtain ⟨d1, d2, d3⟩ := d
        simp only at hus'
        have hd3 : d3 ≤ 50000 := by omega
        go_wp2_with (at_builtin; go_must (refine app_dw _ rfl _ _ rfl w.heap.size _ _ _ rfl (HO1.out.alloc _) _ _ _ _ rfl ?qg ?qn ?qb ?_))
        case qg => simp
        case qn => omega
        case qb => have := HB1.out.size; simp; omega
        intro v' w2 hown hchg hfresh
        obtain ⟨sa', cap', rfl⟩ := (rd_of_row hown).form
        have hblk : w2.heap[w1.heap.size]? = some (.cells #[.int .u64 (d1 : Int), .int .u64 (d2 : Int), .int .i64 (d3 : Int)] 65 (0, 0)) := by
          rw [hchg.block _ (by simp) (fun h => by have := (HO1.out.lt _ h).2; omega)]
          exact heap_alloc_new _ _
        have c2 := cell_of hblk 2 rfl
        rw [← dwC_snoc acc (d1, d2, d3)] at hown
        have hc2 := ((HB1.out.alloc HB1.out.size (.cells #[.int .u64 (d1 : Int), .int .u64 (d2 : Int), .int .i64 (d3 : Int)] 65)).trans (hchg.below (B := w.heap.size) (by have := HB1.out.size; simp; omega) fun i hi => (HO1.out.lt i hi).1))
        have HO2 := Lib.hid hown; have HB2 := Lib.hid hc2
        clear hown hchg hfresh hblk hc2
        go_wp2_with fail
        go_roundw
        case rel => exact ⟨k + 1, used + d3, acc ++ [(d1, d2, d3)], sa', cap', by omega, by go_num, hus', by go_num, rfl, by rw [List.length_append, HAK.out]; rfl, HO2, HB2, HE⟩
        case measure => simp [intOf]; omega
    · obtain rfl : k = ns.length := by omega
      have hE : R = some (acc, used) := by rw [HRk.out, List.drop_length]; rfl
      have HE := Lib.hid hE; clear hE
      go_wp2_with fail
      go_ret3
      rw [HE.out]
      refine ⟨⟨sd, cd, ?_, ?_⟩, HB.out⟩
      · show _ = Ending.returned (.tuple #[.slice sd acc.length cd, _, _])
        rw [HAK.out]
        rfl
      · show wr.ownsRow _ _ _ (.slice sd acc.length cd) acc.length _
        rw [HAK.out]
        exact HO.out

end Go.Proofs.YtcoohepkmhpdkaaGreat
