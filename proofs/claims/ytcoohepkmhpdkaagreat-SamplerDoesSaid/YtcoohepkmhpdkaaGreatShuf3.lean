/-
  The program's Then and Back; the laws ShuffleOrders, ShuffleOnly, ShuffleThen.
-/
import Derived.Test.YtcoohepkmhpdkaaGreatShuf2
import Derived.Test.YtcoohepkmhpdkaaGreatBs
namespace Go.Proofs.YtcoohepkmhpdkaaGreat
open Go.RowKit
set_option linter.unusedVariables false

set_option maxRecDepth 100000 in
set_option maxHeartbeats 1000000 in
theorem then1_at (w : World) (bp : Nat) (v : Value) (n : Nat) (p : List Int) (x : Int) (hb : w.cell? ⟨bp, 0, none⟩ = some v) (hr : Rd w 1 v n (i64s p)) (h0 : 0 ≤ x) (h1 : x < (n : Int)) :
    Calls Tryz.prog 128 #[.int .i64 x, .pointer (some ⟨bp, 0, none⟩)] w fun e w' => e = .returned (.int .i64 (p.getD x.toNat 0)) ∧ w = w' := by
  have hln := hr.len_i64
  subst hln
  obtain ⟨sa, cap, rfl⟩ := hr.form
  obtain ⟨b, off, rfl, hc⟩ := hr.at (by omega)
  obtain ⟨k, rfl⟩ := Int.eq_ofNat_of_zero_le h0
  have cx := hc k _ (i64s_at p k (by omega))
  have hk : ((k : Int)).toNat = k := by omega
  rw [hk]
  generalize hy : p.getD k 0 = y at *
  clear hc hy hr
  go_enter Tryz.func128, Tryz.ntmps128
  go_wp2
  go_ret
  exact ⟨rfl, rfl⟩

set_option maxRecDepth 100000 in
set_option maxHeartbeats 4000000 in
theorem then_ok (w : World) (vp vq : Value) (n m : Nat) (p q : List Int) (hp : Rd w 1 vp n (i64s p)) (hq : Rd w 1 vq m (i64s q)) (hbig : n ≤ 50000) (hnm : n = m) (ip : IsP p) (iq : IsP q) :
    Calls Tryz.prog 88 #[vp, vq] w fun e w' => ∃ sa cap, e = .returned (.slice sa n cap) ∧ w'.ownsRow w.heap.size 3 1 (.slice sa n cap) n (i64s (thenL p q)) ∧ Below w.heap.size w w' := by
  subst hnm
  have hln := hp.len_i64
  have hlq := hq.len_i64
  subst hln
  obtain ⟨sp, cp, rfl⟩ := hp.form
  obtain ⟨sq, cq, rfl⟩ := hq.form
  have ep : isPB p = true := isPB_iff.2 ip
  have eq : isPB q = true := isPB_iff.2 iq
  have q1 : ((p.length : Int) != (p.length : Int)) = false := by simp
  have HP := Lib.hid hp; have HQ := Lib.hid hq; have EP := Lib.hid ep; have EQ := Lib.hid eq; have IQ := Lib.hid iq; have HL := Lib.hid hlq
  clear hp hq ep eq ip iq hlq
  have hb0 : Below w.heap.size w (w.alloc (.cells #[.slice sp p.length cp] 36)) := (Below.refl _ w).alloc (Nat.le_refl _) _
  have HB0 := Lib.hid hb0; clear hb0
  obtain ⟨w0, hw0⟩ : ∃ w0, w0 = w.alloc (.cells #[.slice sp p.length cp] 36) := ⟨_, rfl⟩
  have hcb : w0.cell? ⟨w.heap.size, 0, none⟩ = some (.slice sp p.length cp) := by rw [hw0]; exact cell_of (heap_alloc_new w _) 0 rfl
  rw [← hw0] at HB0
  have HW0 := Lib.hid hw0
  have HCB := Lib.hid hcb
  have hsz0 : w.heap.size < w0.heap.size := World.block_lt_of_cell? _ _ hcb
  clear hw0 
  go_enter Tryz.func88, Tryz.ntmps88
  go_wp2_with fail
  rw [← HW0.out]
  go_wp2_with fail
  refine (is_any _ _ _ p (HP.out.below HB0.out) (by omega)).mono ?_
  rintro e w1 ⟨rfl, hb1⟩
  rw [EP.out]
  have hcb1 : w1.cell? ⟨w.heap.size, 0, none⟩ = some (.slice sp p.length cp) := (hb1.cell hsz0).trans HCB.out
  have HB1 := Lib.hid hb1; clear hb1 hcb
  go_wp2_with fail
  refine (is_any _ _ _ q ((HQ.out.below HB0.out).below HB1.out) (by omega)).mono ?_
  rintro e w2 ⟨rfl, hb2⟩
  rw [EQ.out]
  have hcb2 : w2.cell? ⟨w.heap.size, 0, none⟩ = some (.slice sp p.length cp) := (hb2.cell (Nat.lt_of_lt_of_le hsz0 HB1.out.size)).trans hcb1
  have hB2 : Below w.heap.size w w2 := HB0.out.trans ((below_two HB1.out hb2).mono (by omega))
  have HB2 := Lib.hid hB2; have HCB2 := Lib.hid hcb2
  have hsz2 : w.heap.size < w2.heap.size := World.block_lt_of_cell? _ _ hcb2
  clear hb2 hB2 hcb1 hcb2 HB0 HB1
  go_wp2
  go_loopw [6, 27] (fun v i wr => ∃ (k : Nat) (sa : Option Addr) (ca : Nat), k ≤ p.length ∧ i = .int .i64 k ∧ v = .slice sa k ca ∧ Hid (wr.ownsRow w2.heap.size 3 1 (.slice sa k ca) k (i64s (thenL p (q.take k)))) ∧ Hid (Below w2.heap.size w2 wr)) (fun _ i _ => p.length - (intOf i).toNat)
  case atStart => exact ⟨0, none, 0, Nat.zero_le _, rfl, rfl, World.ownsRow_nil _ _ _ _, Below.refl _ _⟩
  case round =>
    obtain ⟨k, sa, ca, hk, rfl, rfl, HO, HB⟩ := hrel
    by_cases hlt : k < p.length
    · obtain ⟨b, off, rfl, hc⟩ := ((HQ.out.below HB2.out).below HB.out).at (by omega)
      have cx := hc k _ (i64s_at q k (by have := HL.out; omega))
      have hxr := IQ.out.get (i := k) (by have := HL.out; omega)
      have hstep : thenL p (q.take (k + 1)) = thenL p (q.take k) ++ [p.getD (q.getD k 0).toNat 0] := by
        unfold thenL
        rw [List.take_succ_eq_append_getElem (show k < q.length by have := HL.out; omega), List.map_append]
        simp [List.getD, List.getElem?_eq_getElem (show k < q.length by have := HL.out; omega)]
      have hxl : q.getD k 0 < (p.length : Int) := by have := HL.out; omega
      have hx0 := hxr.1
      clear hc hxr
      generalize hx : q.getD k 0 = x at *
      have HST := Lib.hid hstep; have HX0 := Lib.hid hx0; have HXL := Lib.hid hxl
      clear hx hstep hx0 hxl
      go_wp2_with fail
      refine (then1_at _ _ _ _ p x ((HB.out.cell hsz2).trans HCB2.out) ((HP.out.below HB2.out).below HB.out) HX0.out HXL.out).mono ?_
      rintro e w3 ⟨rfl, rfl⟩
      generalize hy : p.getD x.toNat 0 = y at *
      clear hy
      go_wp2_with (at_builtin; refine app_i64 _ rfl _ _ rfl w2.heap.size _ _ _ rfl HO.out _ _ rfl ?qg ?qn ?qb ?_)
      case qg => rfl
      case qn => omega
      case qb => exact HB.out.size
      intro v' w3 hown hchg hfresh
      obtain ⟨sa', ca', rfl⟩ := (rd_of_row hown).form
      rw [← i64s_snoc, ← HST.out] at hown
      have HO1 := Lib.hid hown; have HC1 := Lib.hid hchg
      clear hown hchg hfresh
      go_wp2
      go_roundw
      case rel => exact ⟨k + 1, sa', ca', by omega, by go_num, rfl, HO1, HB.out.trans (HC1.out.below HB.out.size fun i hi => (HO.out.lt i hi).1)⟩
      case measure => simp [intOf]; omega
    · obtain rfl : k = p.length := by omega
      go_wp2
      go_ret
      refine ⟨sa, ca, rfl, ?_, HB2.out.trans (HB.out.mono HB2.out.size)⟩
      have := HO.out
      rw [HL.out, List.take_length, ← HL.out] at this
      exact row_mono this HB2.out.size

set_option maxRecDepth 100000 in
set_option maxHeartbeats 1000000 in
theorem then_bad (w : World) (vp vq : Value) (n m : Nat) (p q : List Int) (hp : Rd w 1 vp n (i64s p)) (hq : Rd w 1 vq m (i64s q)) (hbig : n ≤ 50000) (hbm : m ≤ 50000) (hbad : p.length ≠ q.length ∨ isPB p = false ∨ isPB q = false) :
    Calls Tryz.prog 88 #[vp, vq] w fun e w' => e = .returned (.slice none 0 0) ∧ Below w.heap.size w w' := by
  have hln := hp.len_i64
  have hlq := hq.len_i64
  subst hln; subst hlq
  obtain ⟨sp, cp, rfl⟩ := hp.form
  obtain ⟨sq, cq, rfl⟩ := hq.form
  have HP := Lib.hid hp; have HQ := Lib.hid hq
  clear hp hq
  have hb0 : Below w.heap.size w (w.alloc (.cells #[.slice sp p.length cp] 36)) := (Below.refl _ w).alloc (Nat.le_refl _) _
  have HB0 := Lib.hid hb0; clear hb0
  obtain ⟨w0, hw0⟩ : ∃ w0, w0 = w.alloc (.cells #[.slice sp p.length cp] 36) := ⟨_, rfl⟩
  have hcb : w0.cell? ⟨w.heap.size, 0, none⟩ = some (.slice sp p.length cp) := by rw [hw0]; exact cell_of (heap_alloc_new w _) 0 rfl
  rw [← hw0] at HB0
  have HW0 := Lib.hid hw0
  clear hw0
  by_cases hl : p.length = q.length
  · have q1 : ((p.length : Int) != (q.length : Int)) = false := by simp [hl]
    cases ep : isPB p with
    | false =>
      have EP := Lib.hid ep
      clear hbad hl ep
      go_enter Tryz.func88, Tryz.ntmps88
      go_wp2_with fail
      rw [← HW0.out]
      go_wp2_with fail
      refine (is_any _ _ _ p (HP.out.below HB0.out) (by omega)).mono ?_
      rintro e w1 ⟨rfl, hb1⟩
      rw [EP.out]
      have HB1 := Lib.hid hb1; clear hb1
      go_wp2
      go_ret
      exact ⟨rfl, HB0.out.trans (HB1.out.mono HB0.out.size)⟩
    | true =>
      have eq : isPB q = false := by
        rcases hbad with h | h | h
        · exact absurd hl h
        · rw [ep] at h; cases h
        · exact h
      have EP := Lib.hid ep; have EQ := Lib.hid eq
      clear hbad hl ep eq
      go_enter Tryz.func88, Tryz.ntmps88
      go_wp2_with fail
      rw [← HW0.out]
      go_wp2_with fail
      refine (is_any _ _ _ p (HP.out.below HB0.out) (by omega)).mono ?_
      rintro e w1 ⟨rfl, hb1⟩
      rw [EP.out]
      have HB1 := Lib.hid hb1; clear hb1
      go_wp2_with fail
      refine (is_any _ _ _ q ((HQ.out.below HB0.out).below HB1.out) (by omega)).mono ?_
      rintro e w2 ⟨rfl, hb2⟩
      rw [EQ.out]
      have HB2 := Lib.hid hb2; clear hb2
      go_wp2
      go_ret
      exact ⟨rfl, HB0.out.trans ((below_two HB1.out HB2.out).mono HB0.out.size)⟩
  · have q1 : ((p.length : Int) != (q.length : Int)) = true := by simp; omega
    clear hbad hl
    go_enter Tryz.func88, Tryz.ntmps88
    go_wp2_with fail
    rw [← HW0.out]
    go_wp2
    go_ret
    exact ⟨rfl, HB0.out⟩

/-- what k places have undone -/
def backMid (p : List Int) (k : Nat) : List Int := (List.range p.length).map fun (x : Nat) => if ixN p (x : Int) < k then ((ixN p (x : Int) : Nat) : Int) else 0
theorem backMid_len (p : List Int) (k : Nat) : (backMid p k).length = p.length := by simp [backMid]
theorem backMid_get (p : List Int) (k x : Nat) (h : x < p.length) : (backMid p k).getD x 0 = if ixN p (x : Int) < k then ((ixN p (x : Int) : Nat) : Int) else 0 := by simp [backMid, List.getD, h]
theorem backMid_zero (p : List Int) : backMid p 0 = List.replicate p.length 0 := by
  refine ext_getD (by simp [backMid_len]) fun i hi => ?_
  rw [backMid_len] at hi
  rw [backMid_get _ _ _ hi, if_neg (by omega)]
  simp [List.getD, hi]
theorem backMid_end {p : List Int} (hp : IsP p) : backMid p p.length = backL p := by
  refine ext_getD (by simp [backMid_len, backL_len]) fun i hi => ?_
  rw [backMid_len] at hi
  rw [backMid_get _ _ _ hi, backL_get _ _ hi, if_pos (ixN_spec hp (x := (i : Int)) (by omega) (by omega)).1]
theorem backMid_succ {p : List Int} (hp : IsP p) (k a : Nat) (hk : k < p.length) (ha : p.getD k 0 = (a : Int)) (hal : a < p.length) : (backMid p k).set a (k : Int) = backMid p (k + 1) := by
  refine ext_getD (by simp [backMid_len]) fun i hi => ?_
  rw [List.length_set, backMid_len] at hi
  rw [getD_set _ _ _ _ (by rw [backMid_len]; exact hal), backMid_get _ _ _ hi, backMid_get _ _ _ hi]
  have hak : ixN p (a : Int) = k := ixN_eq hp.nodup hk ha
  by_cases hai : a = i
  · subst hai
    rw [if_pos rfl, hak, if_pos (by omega)]
  · rw [if_neg hai]
    have h2 := (ixN_spec hp (x := (i : Int)) (by omega) (by omega)).2.1
    have h3 : ixN p (i : Int) ≠ k := fun e => by rw [e, ha] at h2; omega
    by_cases h4 : ixN p (i : Int) < k
    · rw [if_pos h4, if_pos (by omega)]
    · rw [if_neg h4, if_neg (by omega)]

theorem shr3 : shRight [0, 0, 0] := shRightB_iff.1 (by decide)

end Go.Proofs.YtcoohepkmhpdkaaGreat
