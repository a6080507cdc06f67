/-
  The references' reservoirs: Slots and Order; the law ReservoirSlots.
-/
import Derived.Test.YtnnaijbdimdhpaaRes2
namespace Go.Proofs.Ytnnaijbdimdhpaa
open Go.RowKit
set_option linter.unusedVariables false

/-- after s slots are done -/
def slotsMid (k s : Nat) (d : List Int) : List Int := (List.range k).map fun t => if t < s then slotAt k t d else (t : Int)
theorem slotsMid_len (k s : Nat) (d : List Int) : (slotsMid k s d).length = k := by simp [slotsMid]
theorem slotsMid_zero (k : Nat) (d : List Int) : slotsMid k 0 d = rowL k := by
  simp only [slotsMid, rowL]; congr
theorem slotsMid_end (k : Nat) (d : List Int) : slotsMid k k d = slotsR k d := by
  simp only [slotsMid, slotsR]
  refine List.map_congr_left fun t ht => ?_
  rw [if_pos (by simpa using ht)]
theorem slotsMid_get (k s : Nat) (d : List Int) (hs : s < k) : (slotsMid k s d).getD s 0 = (s : Int) := by
  simp [slotsMid, List.getD, hs]
theorem slotsMid_succ (k s : Nat) (d : List Int) (hs : s < k) : (slotsMid k s d).set s (slotAt k s d) = slotsMid k (s + 1) d := by
  refine List.ext_getElem (by simp [slotsMid_len]) fun t h1 h2 => ?_
  have ht : t < k := by rw [slotsMid_len] at h2; exact h2
  rw [List.getElem_set]
  simp only [slotsMid, List.getElem_map, List.getElem_range]
  by_cases hst : s = t
  · subst hst; rw [if_pos rfl, if_pos (by omega)]
  · rw [if_neg hst]
    by_cases h : t < s
    · rw [if_pos h, if_pos (by omega)]
    · rw [if_neg h, if_neg (by omega)]

set_option maxRecDepth 100000 in
set_option maxHeartbeats 2000000 in
theorem refslots_any (w : World) (n : Int) (k : Nat) (vd : Value) (nd : Nat) (d : List Int) (hr : Rd w 1 vd nd (i64s d)) (hk : k ≤ 1000) (hd : nd ≤ 1000) :
    Calls Try.prog 61 #[.int .i64 n, .int .i64 (k : Int), vd] w fun e w' => ∃ sa cap, e = .returned (.slice sa k cap) ∧ w'.ownsRow w.heap.size 3 1 (.slice sa k cap) k (i64s (slotsR k d)) ∧ Below w.heap.size w w' := by
  obtain rfl := hr.len_i64
  obtain ⟨sd, cd, rfl⟩ := hr.form
  have HR := Lib.hid hr; clear hr
  go_enter Try.func61, Try.ntmps61
  go_wp2_with (go_at_call 88; go_must (refine (refrow_any _ k (by omega)).mono ?_); rintro e w1 ⟨sa, ca, rfl, hown, hbel⟩; have HO := Lib.hid hown; have HB := Lib.hid hbel; clear hown hbel)
  go_loopw [15] (fun i wr => ∃ s : Nat, s ≤ k ∧ i = .int .i64 s ∧ Hid (wr.ownsRow w.heap.size 3 1 (.slice sa k ca) k (i64s (slotsMid k s d))) ∧ Hid (Below w.heap.size w wr)) (fun i _ => k - (intOf i).toNat)
  case atStart => exact ⟨0, Nat.zero_le _, rfl, by rw [slotsMid_zero]; exact HO, HB⟩
  case round =>
    obtain ⟨s, hs, rfl, HO1, HB1⟩ := hrel
    by_cases hlt : s < k
    · go_wp2
      obtain ⟨wo, hwo⟩ : ∃ wo : World, wo = wr := ⟨_, rfl⟩
      go_loopw [20] (fun i wq => ∃ j : Nat, j ≤ d.length ∧ i = .int .i64 j ∧ Hid (wq.ownsRow w.heap.size 3 1 (.slice sa k ca) k (i64s ((slotsMid k s d).set s (slotAt k s (d.take j))))) ∧ Hid (Below w.heap.size w wq)) (fun i _ => d.length - (intOf i).toNat)
      case atStart =>
        refine ⟨0, Nat.zero_le _, rfl, ?_, HB1⟩
        have : (slotsMid k s d).set s (slotAt k s (d.take 0)) = slotsMid k s d := by
          refine List.ext_getElem (by simp) fun t h1 h2 => ?_
          rw [List.getElem_set]
          by_cases hst : s = t
          · subst hst
            rw [if_pos rfl]
            have := slotsMid_get k s d hlt
            rw [List.getD, List.getElem?_eq_getElem h2] at this
            simp only [Option.getD_some] at this
            rw [this]
            rfl
          · rw [if_neg hst]
        rw [this]
        exact HO1
      case round =>
        obtain ⟨j, hj, rfl, HO2, HB2⟩ := hrel
        by_cases hjt : j < d.length
        · obtain ⟨b, off, rfl, hc⟩ := (HR.out.below HB2.out).at (by omega)
          have cx := hc j _ (i64s_at d j hjt)
          clear hc
          have hstep : slotAt k s (d.take (j + 1)) = if d.getD j 0 = (s : Int) then (k : Int) + j else slotAt k s (d.take j) := foldI_take _ _ _ _ hjt
          obtain ⟨g, hsa, hg1, hg2, hg3, hcell, hfz⟩ := row_ptr HO2.out (by omega)
          have cg := hcell s _ (i64s_at _ s (by rw [List.length_set, slotsMid_len]; exact hlt))
          have fg := hfz s
          subst hsa
          clear hcell hfz
          generalize hx : d.getD j 0 = x at *
          have HX := Lib.hid hx; have HS := Lib.hid hstep; clear hx hstep
          have hsk : (s : Int) < (k : Int) := by omega
          have hs0 : (0 : Int) ≤ (s : Int) := by omega
          by_cases hxs : x = (s : Int)
          · have q : (x == (s : Int)) = true := by simp [hxs]
            have HXS := Lib.hid hxs; clear hxs
            go_wp2
            go_roundw
            case rel =>
              refine ⟨j + 1, by omega, by go_num, ?_, HB2.out.setCell (p := ⟨g, s, none⟩) hg1 _⟩
              rw [HS.out, if_pos HXS.out]
              have := row_set HO2.out hlt (.int .i64 ((k : Int) + (j : Int)))
              rw [← i64s_set, List.set_set] at this
              exact this
            case measure => simp [intOf]; omega
          · have q : (x == (s : Int)) = false := by simp [hxs]
            have HXS := Lib.hid hxs; clear hxs
            go_wp2
            go_roundw
            case rel =>
              refine ⟨j + 1, by omega, by go_num, ?_, HB2⟩
              rw [HS.out, if_neg HXS.out]
              exact HO2.out
            case measure => simp [intOf]; omega
        · obtain rfl : j = d.length := by omega
          go_wp2
          go_roundw
          case rel =>
            refine ⟨s + 1, by omega, by go_num, ?_, HB2⟩
            have := HO2.out
            rw [List.take_length, slotsMid_succ k s d hlt] at this
            exact this
          case measure => simp [intOf]; omega
    · obtain rfl : s = k := by omega
      go_wp2
      go_ret
      refine ⟨sa, ca, rfl, ?_, HB1.out⟩
      have := HO1.out
      rw [slotsMid_end] at this
      exact this

end Go.Proofs.Ytnnaijbdimdhpaa
