/-
  subset.Set, is, Choices; the reference's Set.
-/
import Derived.Test.YtcoohepkmhpdkaaGreatSub2
namespace Go.Proofs.YtcoohepkmhpdkaaGreat
open Go.RowKit
set_option linter.unusedVariables false
set_option linter.unusedSimpArgs false

/-- nothing laid beside (as function 84 does) -/
theorem grow_none (w : World) : Sort.grow w #[] = w := by simp [Sort.grow]

theorem compact_own (w : World) (B : Nat) (sa : Option Addr) (n cap : Nat) (l : List Int) (h : w.ownsRow B 3 1 (.slice sa n cap) n (i64s l)) :
    Calls Tryz.prog 84 #[.slice sa n cap] w fun e w' => e = .returned (.slice sa (Lib.compact l).length cap) ∧ w'.ownsRow B 3 1 (.slice sa (Lib.compact l).length cap) (Lib.compact l).length (i64s (Lib.compact l)) ∧ Chg (fun k => (Value.slice sa n cap).ownBlock = some k) w w' := by
  have hr := rd_of_row h
  have hln := hr.len_i64
  subst hln
  have hm := hr.2.1
  unfold maxLen at hm
  have hcl : (Lib.compact l).length ≤ l.length := (compact_le l l.length).1
  by_cases hn : 0 < l.length
  · obtain ⟨g, rfl, hg1, hg2, hg3, hcell, hfz⟩ := row_ptr h hn
    refine (Tryz.slices_Compact_int g 0 cap l w ?_ (by omega) hg3).mono ?_
    · intro j hj
      have hj' : j < l.length := by simpa using hj
      rw [Nat.zero_add]
      refine ⟨?_, hfz j⟩
      rw [hcell j _ (i64s_at l j hj')]
      simp [List.getD, hj']
    · rintro e w' ⟨rfl, q, rfl⟩
      have hlen : (Lib.compact l ++ List.replicate (l.length - (Lib.compact l).length) 0).length = l.length := by simp; omega
      obtain ⟨h1, h2⟩ := own_put h (Lib.compact l ++ List.replicate (l.length - (Lib.compact l).length) 0) hlen q #[]
      rw [grow_none] at h1 h2
      have h3 := row_prefix h1 hcl
      have e : (i64s (Lib.compact l ++ List.replicate (l.length - (Lib.compact l).length) 0)).take (Lib.compact l).length = i64s (Lib.compact l) := by
        simp [i64s]
      rw [e] at h3
      exact ⟨rfl, h3, h2.mono fun k hk => by rw [hk]; rfl⟩
  · obtain rfl : l = [] := List.eq_nil_of_length_eq_zero (by omega)
    refine (Tryz.slices_Compact_int_empty sa cap w).mono ?_
    rintro e w' ⟨rfl, rfl⟩
    exact ⟨rfl, h, Chg.refl _ _⟩

set_option maxRecDepth 100000 in
set_option maxHeartbeats 1000000 in
theorem subset_set (w : World) (v : Value) (n : Nat) (l : List Int) (h : Rd w 1 v n (i64s l)) (hbig : n ≤ 17592186043904) :
    Calls Tryz.prog 36 #[v] w fun e w' => ∃ sa cap, e = .returned (.slice sa (setL l).length cap) ∧ w'.ownsRow w.heap.size 3 1 (.slice sa (setL l).length cap) (setL l).length (i64s (setL l)) ∧ Below w.heap.size w w' := by
  have hln := h.len_i64
  subst hln
  obtain ⟨sa, cap, rfl⟩ := h.form
  have HR := Lib.hid h; clear h
  go_enter Tryz.func36, Tryz.ntmps36
  go_wp2_with fail
  refine (clone_i64 _ _ l _ HR.out (by omega)).mono ?_
  rintro e w1 ⟨s1, c1, rfl, hown1, hb1⟩
  have HO1 := Lib.hid hown1; have HB1 := Lib.hid hb1; clear hown1 hb1
  go_wp2_with fail
  refine (sort_own _ _ _ _ l HO1.out (by omega)).mono ?_
  rintro e w2 ⟨rfl, hown2, hc2⟩
  have HO2 := Lib.hid hown2; have HC2 := Lib.hid hc2; clear hown2 hc2
  go_wp2_with fail
  refine (compact_own _ _ _ _ _ (sortL l) HO2.out).mono ?_
  rintro e w3 ⟨rfl, hown3, hc3⟩
  have HO3 := Lib.hid hown3; have HC3 := Lib.hid hc3; clear hown3 hc3
  go_wp2
  go_ret
  exact ⟨_, _, rfl, HO3.out, (HB1.out.trans (HC2.out.below HB1.out.size fun k hk => (HO1.out.lt k hk).1)).trans (HC3.out.below (Nat.le_trans HB1.out.size HC2.out.size) fun k hk => (HO2.out.lt k hk).1)⟩

set_option maxRecDepth 17592186043904 in
set_option maxHeartbeats 1000000 in
theorem indexfunc_any (w : World) (v : Value) (n : Nat) (l : List Int) (F : Nat) (caps : Array Value) (f : Int → Bool) (h : Rd w 1 v n (i64s l)) (hbig : n ≤ 17592186043904)
    (hF : ∀ args w, (callFunc F args).run Tryz.prog w = .ok (.enter F args) w)
    (hstep : ∀ i, i < l.length → Calls Tryz.prog F (#[.int .i64 (l.getD i 0)] ++ caps) w fun e w' => e = .returned (.bool (f (l.getD i 0))) ∧ w = w') :
    Calls Tryz.prog 145 #[v, .func (.func F) #[] caps] w fun e w' => ∃ r : Int, e = .returned (.int .i64 r) ∧ w = w' ∧ ((r = -1 ∧ ∀ i, i < l.length → f (l.getD i 0) = false) ∨ (0 ≤ r ∧ ∃ i, i < l.length ∧ f (l.getD i 0) = true)) := by
  have hln := h.len_i64
  subst hln
  obtain ⟨sa, cap, rfl⟩ := h.form
  have HR := Lib.hid h; have HS := Lib.hid hstep; clear h hstep
  go_enter Tryz.func145, Tryz.ntmps145
  go_wp2
  go_loop [8] (fun i => ∃ s : Nat, s ≤ l.length ∧ i = .int .i64 s ∧ Hid (∀ t, t < s → f (l.getD t 0) = false)) (fun i => l.length - (intOf i).toNat)
  case atStart => exact ⟨0, Nat.zero_le _, rfl, fun t ht => by omega⟩
  case round =>
    obtain ⟨s, hs, rfl, HN⟩ := hrel
    by_cases hlt : s < l.length
    · obtain ⟨b, off, rfl, hc⟩ := HR.out.at (by omega)
      have cx := hc s _ (i64s_at l s hlt)
      have hcall := HS.out s hlt
      clear hc
      generalize hx : l.getD s 0 = x at *
      have HX := Lib.hid hx; have HCALL := Lib.hid hcall; clear hx hcall
      go_wp2_with fail
      refine HCALL.out.mono ?_
      rintro e w' ⟨rfl, rfl⟩
      cases hfx : f x with
      | true =>
        have HFX := Lib.hid hfx; clear hfx
        go_wp2
        go_ret
        exact ⟨_, rfl, rfl, .inr ⟨by omega, s, hlt, by rw [HX.out]; exact HFX.out⟩⟩
      | false =>
        have HFX := Lib.hid hfx; clear hfx
        go_wp2
        go_round
        case rel =>
          refine ⟨s + 1, by omega, by go_num, fun t ht => ?_⟩
          by_cases hts : t = s
          · subst hts; rw [HX.out]; exact HFX.out
          · exact HN.out t (by omega)
        case measure => simp [intOf]; omega
    · obtain rfl : s = l.length := by omega
      go_wp2
      go_ret
      exact ⟨_, rfl, rfl, .inl ⟨rfl, HN.out⟩⟩

set_option maxRecDepth 17592186043904 in
set_option maxHeartbeats 1000000 in
theorem containsfunc_any (w : World) (v : Value) (n : Nat) (l : List Int) (F : Nat) (caps : Array Value) (f : Int → Bool) (h : Rd w 1 v n (i64s l)) (hbig : n ≤ 17592186043904)
    (hF : ∀ args w, (callFunc F args).run Tryz.prog w = .ok (.enter F args) w)
    (hstep : ∀ i, i < l.length → Calls Tryz.prog F (#[.int .i64 (l.getD i 0)] ++ caps) w fun e w' => e = .returned (.bool (f (l.getD i 0))) ∧ w = w') :
    Calls Tryz.prog 143 #[v, .func (.func F) #[] caps] w fun e w' => ∃ r : Bool, e = .returned (.bool r) ∧ w = w' ∧ ((r = false ∧ ∀ i, i < l.length → f (l.getD i 0) = false) ∨ (r = true ∧ ∃ i, i < l.length ∧ f (l.getD i 0) = true)) := by
  have HI := Lib.hid (indexfunc_any w v n l F caps f h hbig hF hstep)
  clear h hstep hF
  go_enter Tryz.func143, Tryz.ntmps143
  go_wp2_with fail
  refine HI.out.mono ?_
  rintro e w' ⟨r, rfl, rfl, hr⟩
  rcases hr with ⟨rfl, hh⟩ | ⟨h0, hh⟩
  · have HH := Lib.hid hh; clear hh
    go_wp2
    go_ret
    exact ⟨_, rfl, rfl, .inl ⟨rfl, HH.out⟩⟩
  · have HH := Lib.hid hh; clear hh
    go_wp2
    go_ret
    exact ⟨_, rfl, rfl, .inr ⟨by simp [h0], HH.out⟩⟩

theorem ent_is1 (args : Array Value) (w : World) : (callFunc 142 args).run Tryz.prog w = .ok (.enter 142 args) w :=
  enters Tryz.func142 (by kernel_rfl) (by kernel_rfl) args w

set_option maxRecDepth 100000 in
set_option maxHeartbeats 1000000 in
theorem is1_any (w : World) (bp : Nat) (n x : Int) (hb : w.cell? ⟨bp, 0, none⟩ = some (.int .i64 n)) :
    Calls Tryz.prog 142 #[.int .i64 x, .pointer (some ⟨bp, 0, none⟩)] w fun e w' => e = .returned (.bool (!decide (0 ≤ x ∧ x < n))) ∧ w = w' := by
  by_cases h0 : x < 0
  · have hr : (!decide (0 ≤ x ∧ x < n)) = true := by simp; omega
    rw [hr]
    clear hr
    go_enter Tryz.func142, Tryz.ntmps142
    go_wp2
    go_ret
    exact ⟨rfl, rfl⟩
  · by_cases h1 : n ≤ x
    · have hr : (!decide (0 ≤ x ∧ x < n)) = true := by simp; omega
      rw [hr]
      clear hr
      go_enter Tryz.func142, Tryz.ntmps142
      go_wp2
      go_ret
      exact ⟨ret_bool (by simp [h1]), rfl⟩
    · have hr : (!decide (0 ≤ x ∧ x < n)) = false := by simp; omega
      rw [hr]
      clear hr
      go_enter Tryz.func142, Tryz.ntmps142
      go_wp2
      go_ret
      exact ⟨ret_bool (by simp; try omega), rfl⟩

set_option maxRecDepth 100000 in
set_option maxHeartbeats 2000000 in
theorem subis_any (w : World) (n : Int) (v : Value) (m : Nat) (l : List Int) (h : Rd w 1 v m (i64s l)) (hbig : m ≤ 17592186043904) :
    Calls Tryz.prog 115 #[.int .i64 n, v] w fun e w' => e = .returned (.bool (isSB n l)) ∧ Below w.heap.size w w' := by
  have hln := h.len_i64
  subst hln
  obtain ⟨sa, cap, rfl⟩ := h.form
  have HR := Lib.hid h; clear h
  have hb0 : Below w.heap.size w (w.alloc (.cells #[.int .i64 n] 3)) := (Below.refl _ w).alloc (Nat.le_refl _) _
  have HB0 := Lib.hid hb0; clear hb0
  obtain ⟨w0, hw0⟩ : ∃ w0, w0 = w.alloc (.cells #[.int .i64 n] 3) := ⟨_, rfl⟩
  have hcb : w0.cell? ⟨w.heap.size, 0, none⟩ = some (.int .i64 n) := by rw [hw0]; exact cell_of (heap_alloc_new w _) 0 rfl
  rw [← hw0] at HB0
  have HW0 := Lib.hid hw0; have HCB := Lib.hid hcb
  clear hw0 hcb
  have HCF := Lib.hid (containsfunc_any w0 (.slice sa l.length cap) l.length l 142 #[.pointer (some ⟨w.heap.size, 0, none⟩)] (fun x => !decide (0 ≤ x ∧ x < n)) (HR.out.below HB0.out) (by omega) ent_is1 (fun i hi => is1_any _ _ n _ HCB.out))
  go_enter Tryz.func115, Tryz.ntmps115
  go_wp2_with fail
  rw [← HW0.out]
  go_wp2_with fail
  refine HCF.out.mono ?_
  rintro e w1 ⟨r, rfl, rfl, hr⟩
  rcases hr with ⟨rfl, hh⟩ | ⟨rfl, hh⟩
  · have HH := Lib.hid hh; clear hh
    go_wp2_with fail
    refine (subset_set _ _ _ l (HR.out.below HB0.out) (by omega)).mono ?_
    rintro e w2 ⟨s2, c2, rfl, hown2, hb2⟩
    have HB2 := Lib.hid hb2; clear hb2 hown2
    have hres : (((setL l).length : Int) == (l.length : Int)) = isSB n l := by
      have hrange : ∀ x ∈ l, 0 ≤ x ∧ x < n := fun x hx => by
        obtain ⟨i, hi, rfl⟩ := mem_getD hx
        have := HH.out i hi
        simpa using this
      by_cases hnd : l.Nodup
      · have h1 := (setL_len l).2 hnd
        rw [isSB_iff.2 ⟨hnd, hrange⟩, h1]; simp
      · rw [isSB_not (fun h => hnd h.1)]
        have : (setL l).length ≠ l.length := fun h => hnd ((setL_len l).1 h)
        simp; omega
    have HRES := Lib.hid hres; clear hres
    generalize hq : (((setL l).length : Int) == (l.length : Int)) = q at *
    go_wp2
    go_ret
    exact ⟨ret_bool HRES.out, HB0.out.trans (HB2.out.mono HB0.out.size)⟩
  · have HH := Lib.hid hh; clear hh
    go_wp2
    go_ret
    refine ⟨ret_bool ?_, HB0.out⟩
    obtain ⟨i, hi, hf⟩ := HH.out
    refine (isSB_not fun h => ?_).symm
    have := h.2 _ (getD_mem l i hi)
    have hf' : (!decide (0 ≤ l.getD i 0 ∧ l.getD i 0 < n)) = true := hf
    rw [Bool.not_eq_true', decide_eq_false_iff_not] at hf'
    exact hf' this

theorem subcho_step {P l : List Int} {n i : Nat} (hP : P.Nodup) (hPl : P.length = n) (hi : i < l.length) (hm : ∀ z ∈ l.drop i, z ∈ P.drop i) (hl : l.Nodup) :
    ∃ a, i + a < P.length ∧ Lib.idxOf P (l.getD i 0) = (i : Int) + (a : Int) ∧ (swp P i (i + a)).Nodup ∧ (∀ z ∈ l.drop (i + 1), z ∈ (swp P i (i + a)).drop (i + 1)) ∧
      chP (P.drop i) (l.drop i) = (a : Int) :: chP ((swp P i (i + a)).drop (i + 1)) (l.drop (i + 1)) := by
  have hd := drop_cons' l i hi
  have hnd : (P.drop i).Nodup := hP.sublist (List.drop_sublist _ _)
  have hmem : l.getD i 0 ∈ P.drop i := hm _ (by rw [hd]; simp)
  obtain ⟨g1, g2, -⟩ := ixN_mem hnd hmem
  have hlen : (P.drop i).length = P.length - i := by simp
  have hia : i + ixN (P.drop i) (l.getD i 0) < P.length := by omega
  obtain ⟨k0, k1, k2⟩ := swp_cut P i _ hia
  refine ⟨ixN (P.drop i) (l.getD i 0), hia, ?_, swp_nodup hP (by omega) hia, ?_, ?_⟩
  · have := ix_eq hP hia (x := l.getD i 0) (by rw [← k2]; exact g2)
    rw [this]; omega
  · intro z hz
    rw [k1]
    have hp := cut_perm g1
    rw [g2] at hp
    have hz' : z ∈ l.drop i := by rw [hd]; exact List.mem_cons_of_mem _ hz
    rcases List.mem_cons.1 (hp.mem_iff.2 (hm z hz')) with h | h
    · have h2 : (l.drop i).Nodup := hl.sublist (List.drop_sublist _ _)
      rw [hd] at h2
      exact absurd (h ▸ hz) (List.nodup_cons.1 h2).1
    · exact h
  · rw [hd]
    simp only [chP]
    rw [k1]

end Go.Proofs.YtcoohepkmhpdkaaGreat
