/-
  Paths: derive.Path, Join; the document's Path, Same.
-/
import Derived.Test.YtgnbgjdkhnhlkaaDoorDrv6
namespace Go.Proofs.YtgnbgjdkhnhlkaaDoor
open Go.RowKit
set_option linter.unusedVariables false
set_option linter.unusedSimpArgs false

theorem sipH_lt {hi lo : Nat} {l : List Nat} (h1 : hi < 18446744073709551616) (h2 : lo < 18446744073709551616) (hl : Byt l) : (sipH hi lo l).1 < 18446744073709551616 ∧ (sipH hi lo l).2 < 18446744073709551616 := by
  have okF := sipBl_ok (l.length / 8) _ l (sipF_ok h1 h2) hl
  have hb8 := hl.drop (l.length / 8 * 8)
  have hl8 := tail_len l
  have hM : leN (l.drop (l.length / 8 * 8)) + l.length % 256 * 72057594037927936 < 18446744073709551616 := by
    have := le7_lt _ hb8 hl8; omega
  have ok1 := sipRs_ok (xorC_ok (m := 238) (by decide) (sipW_ok hM okF)) 4
  exact ⟨xall_lt (sipRs_ok (xorB_ok (m := 221) (by decide) ok1) 4), xall_lt ok1⟩

def KOk (k : Nat × Nat) : Prop := k.1 < 18446744073709551616 ∧ k.2 < 18446744073709551616
theorem childK_ok {k : Nat × Nat} (h : KOk k) (s : ByteArray) : KOk (childK k (bsN s)) :=
  sipH_lt h.1 h.2 (by rw [← lab108]; exact byt_bsN _)
theorem fold_ok {k : Nat × Nat} (h : KOk k) : ∀ L : List ByteArray, KOk ((L.map bsN).foldl childK k)
  | [] => h
  | s :: L => fold_ok (childK_ok h s) L

theorem parts_good {p : List Nat} (h : partsE p = 0) : ∀ s ∈ partsL p, labE s = 0 := by
  unfold partsL
  split
  · simp
  · rename_i hn
    have hp : p ≠ [] := fun e => hn (.inl e)
    have hf : firstBad (splitN p) = 0 := by
      unfold partsE at h
      rw [if_neg hp] at h
      split at h
      · rename_i h1; exact absurd h h1
      · rename_i h1; omega
    intro s hs
    generalize splitN p = l at *
    induction l with
    | nil => cases hs
    | cons a l ih =>
      simp only [firstBad] at hf
      by_cases ha : labE a = 0
      · simp only [ha, ne_eq, not_true, if_false] at hf
        rcases List.mem_cons.1 hs with rfl | hs
        · exact ha
        · exact ih hf hs
      · simp only [ne_eq, ha, not_false_iff, if_true] at hf
theorem lab_size {s : ByteArray} (h : labE (bsN s) = 0) : s.size ≤ 64 := by
  unfold labE at h
  rw [bsN_len] at h
  split at h
  · cases h
  · split at h
    · cases h
    · omega

theorem parts_len {p : List Nat} (h : partsE p = 0) : (partsL p).length ≤ 16 := by
  unfold partsL
  split
  · simp
  · rename_i hn
    have hp : p ≠ [] := fun e => hn (.inl e)
    unfold partsE at h
    rw [if_neg hp] at h
    split at h
    · rename_i h1; exact absurd h h1
    · split at h
      · cases h
      · omega

/-- a function's key in its box, its answer's box -/
theorem KBox.setk {w w1 : World} {hi lo : Nat} (h : KBox w w1 hi lo) (a b : Nat) : KBox w ((w1.setCell ⟨w.heap.size, 0, none⟩ (.int .u64 (a : Int))).setCell ⟨w.heap.size, 1, none⟩ (.int .u64 (b : Int))) a b :=
  ⟨set_of (set_of h.key 0 _) 1 _, by rw [Below.heap_setCell _ _ _ _ (by simp), Below.heap_setCell _ _ _ _ (by simp)]; exact h.res, (h.bel.setCell (by simp) _).setCell (by simp) _⟩
theorem KBox.kfrees {w w1 : World} {hi lo : Nat} (h : KBox w w1 hi lo) : w1.frozen? ⟨w.heap.size, 0, none⟩ = false ∧ w1.frozen? ⟨w.heap.size, 1, none⟩ = false := ⟨frozen_of h.key 0, frozen_of h.key 1⟩

theorem foldl_snoc_at {L : List ByteArray} {j : Nat} (hj : j < L.length) (k : Nat × Nat) : ((L.map bsN).take (j + 1)).foldl childK k = childK (((L.map bsN).take j).foldl childK k) (bsN (L.getD j ByteArray.empty)) := by
  have hj2 : j < (L.map bsN).length := by rw [List.length_map]; exact hj
  rw [List.take_succ_eq_append_getElem hj2, List.foldl_append]
  simp [List.getD, List.getElem?_eq_getElem hj]

set_option maxRecDepth 100000 in
set_option maxHeartbeats 4000000 in
theorem path_any (hi lo : Nat) (h1 : hi < 18446744073709551616) (h2 : lo < 18446744073709551616) (p : ByteArray) (hp : p.size ≤ 100000) (w : World) :
    Calls Tryd.prog 8 #[u128 (hi, lo), .string p] w fun e w' => e = .returned (.tuple #[u128 (pathK (hi, lo) (bsN p)), .int .i64 (partsE (bsN p) : Nat)]) ∧ Below w.heap.size w w' := by
  have CP := fun W => parts_any p hp W
  have hst := KBox.start w hi lo
  obtain ⟨E, hE⟩ : ∃ E, E = partsE (bsN p) := ⟨_, rfl⟩
  by_cases hz : E = 0
  · have hgood := parts_good (p := bsN p) (by rw [← hE]; exact hz)
    have hplen := parts_len (p := bsN p) (by rw [← hE]; exact hz)
    have hK : pathK (hi, lo) (bsN p) = (partsL (bsN p)).foldl childK (hi, lo) := by unfold pathK; rw [if_neg (by rw [← hE, hz]; simp)]
    rw [← hE, hz] at CP
    rw [hK, ← hE, hz]
    obtain ⟨K, hKe⟩ : ∃ K, K = (partsL (bsN p)).foldl childK (hi, lo) := ⟨_, rfl⟩
    rw [← hKe]
    generalize partsL (bsN p) = PL at *
    have HCP := Lib.hid CP; have HST := Lib.hid hst; have HG := Lib.hid hgood; have HK := Lib.hid hKe
    have HKO := Lib.hid (show KOk (hi, lo) from ⟨h1, h2⟩)
    clear CP hst hgood hK hKe h1 h2 hE hz
    obtain ⟨K1, K2⟩ := K
    simp only [u128] at *
    go_enter Tryd.func8, Tryd.ntmps8
    go_upto_region 1 with fail
    generalize ((w.alloc _).alloc _) = w1 at *
    go_wp2_with fail
    refine (HCP.out _).mono ?_
    rintro e w2 ⟨v, L, rfl, hL, hr, hb⟩
    subst hL
    obtain ⟨sa, cap, rfl⟩ := (rd_of_row hr).form
    have hws : w.heap.size + 2 ≤ w1.heap.size := block_lt HST.out.res
    have HB2 := Lib.hid (HST.out.below hb); have HR := Lib.hid (row_mono hr hws)
    have hmax : L.length ≤ 16 := by rw [List.length_map] at hplen; exact hplen
    clear hb hr HST HCP
    go_wp2_with fail
    go_loopw [21] (fun i wr => ∃ j a b : Nat, j ≤ L.length ∧ i = .int .i64 (j : Int) ∧ Hid (KBox w wr a b) ∧ Hid (wr.ownsRow (w.heap.size + 2) 9 1 (.slice sa L.length cap) L.length (strs L)) ∧ Hid ((a, b) = ((L.map bsN).take j).foldl childK (hi, lo))) (fun i _ => L.length - (intOf i).toNat)
    case atStart => exact ⟨0, hi, lo, Nat.zero_le _, rfl, HB2, HR, Lib.hid rfl⟩
    case round =>
      obtain ⟨j, a, b, hj, rfl, HBX, HRD, HAB⟩ := hrel
      have hrd := rd_of_row HRD.out
      by_cases hlt : j < L.length
      · obtain ⟨bb, off, rfl, hc⟩ := hrd.at (by omega)
        have cx := hc j _ (strs_at L j hlt)
        have hxm : bsN (L.getD j ByteArray.empty) ∈ L.map bsN := by
          rw [List.getD_eq_getElem?_getD, List.getElem?_eq_getElem hlt]; exact List.mem_map.2 ⟨_, List.getElem_mem hlt, rfl⟩
        have hlab := HG.out _ hxm
        have hfs := foldl_snoc_at hlt (hi, lo)
        rw [← HAB.out] at hfs
        have hko : KOk (a, b) := by rw [HAB.out, ← List.map_take]; exact fold_ok HKO.out _
        generalize L.getD j ByteArray.empty = x at *
        have C := child_any a b hko.1 hko.2 x wr
        have hca : childA (a, b) (bsN x) = childK (a, b) (bsN x) := by unfold childA; rw [if_pos hlab]
        rw [hca, hlab] at C
        generalize childK (a, b) (bsN x) = R at *
        obtain ⟨r1, r2⟩ := R
        simp only [u128] at C
        have HC := Lib.hid C; have HFS := Lib.hid hfs; have HRR := Lib.hid hrd
        obtain ⟨k0, k1⟩ := HBX.out.cells
        clear C hfs hrd hxm hlab hko hca hc
        go_wp2_with fail
        refine HC.out.mono ?_
        rintro e w4 ⟨rfl, hb4⟩
        have HB4 := Lib.hid (HBX.out.below hb4)
        have HR4 := Lib.hid (row_chg HRD.out (Chg.of_below (S := fun _ => False) hb4) (fun _ _ h => h))
        clear hb4 HBX k0 k1 cx
        obtain ⟨f0, f1⟩ := HB4.out.kfrees
        obtain ⟨k0, k1⟩ := HB4.out.cells
        go_wp2_with fail
        go_roundw
        case rel => exact ⟨j + 1, r1, r2, by omega, by go_num, HB4.out.setk r1 r2, Lib.hid (row_kept HR4.out (fun g hg => by have := (HR4.out.lt g hg).1; rw [Below.heap_setCell _ _ _ _ (by show g ≠ w.heap.size; omega), Below.heap_setCell _ _ _ _ (by show g ≠ w.heap.size; omega)])), Lib.hid HFS.out.symm⟩
        case measure => first | (simp [intOf]; done) | (simp [intOf]; omega)
      · obtain rfl : j = L.length := by omega
        obtain ⟨k0, k1⟩ := HBX.out.cells
        obtain ⟨d0, d1, q0, q1⟩ := HBX.out.rcells
        have hfin : (a, b) = (K1, K2) := by rw [HAB.out, HK.out, List.take_of_length_le (by rw [List.length_map]; exact Nat.le_refl _)]
        obtain ⟨rfl, rfl⟩ := Prod.mk.inj hfin
        go_wp2_with fail
        refine bodyPost_ret (v := .tuple #[u128 (a, b), .int .i64 0]) (by simp [u128, results, Tryd.results8, go_sem, d0, d1]) rfl ⟨?_, HBX.out.ends _ _⟩
        exact (rfl : _ = _)
  · have hK : pathK (hi, lo) (bsN p) = (0, 0) := by unfold pathK; rw [if_pos (by rw [← hE]; exact hz)]
    have hne : ((E : Int) != 0) = true := by rw [bne_iff_ne]; omega
    rw [← hE] at CP ⊢
    rw [hK]
    have HCP := Lib.hid CP; have HST := Lib.hid hst
    clear CP hst hK h1 h2 hE
    simp only [u128]
    go_enter Tryd.func8, Tryd.ntmps8
    go_upto_region 1 with fail
    generalize ((w.alloc _).alloc _) = w1 at *
    go_wp2_with fail
    refine (HCP.out _).mono ?_
    rintro e w2 ⟨v, L, rfl, hL, hr, hb⟩
    obtain ⟨sa, cap, rfl⟩ := (rd_of_row hr).form
    have HB2 := Lib.hid (HST.out.below hb)
    clear hb hr HST HCP hL
    obtain ⟨d0, d1, q0, q1⟩ := HB2.out.rcells
    go_wp2_with fail
    refine bodyPost_ret (v := .tuple #[u128 (0, 0), .int .i64 (E : Int)]) (by simp [u128, results, Tryd.results8, go_sem, d0, d1]) rfl ⟨?_, HB2.out.ends _ _⟩
    exact (rfl : _ = _)

set_option maxRecDepth 100000 in
set_option maxHeartbeats 4000000 in
theorem refpath_any (hi lo : Nat) (h1 : hi < 18446744073709551616) (h2 : lo < 18446744073709551616) (p : ByteArray) (hp : p.size ≤ 100000) (w : World) :
    Calls Tryd.prog 10 #[u128 (hi, lo), .string p] w fun e w' => e = .returned (.tuple #[u128 (pathK (hi, lo) (bsN p)), .int .i64 (partsE (bsN p) : Nat)]) ∧ Below w.heap.size w w' := by
  have CP := fun W => refparts_any p hp W
  have hst := KBox.start w hi lo
  obtain ⟨E, hE⟩ : ∃ E, E = partsE (bsN p) := ⟨_, rfl⟩
  by_cases hz : E = 0
  · have hgood := parts_good (p := bsN p) (by rw [← hE]; exact hz)
    have hplen := parts_len (p := bsN p) (by rw [← hE]; exact hz)
    have hK : pathK (hi, lo) (bsN p) = (partsL (bsN p)).foldl childK (hi, lo) := by unfold pathK; rw [if_neg (by rw [← hE, hz]; simp)]
    rw [← hE, hz] at CP
    rw [hK, ← hE, hz]
    obtain ⟨K, hKe⟩ : ∃ K, K = (partsL (bsN p)).foldl childK (hi, lo) := ⟨_, rfl⟩
    rw [← hKe]
    generalize partsL (bsN p) = PL at *
    have HCP := Lib.hid CP; have HST := Lib.hid hst; have HG := Lib.hid hgood; have HK := Lib.hid hKe
    have HKO := Lib.hid (show KOk (hi, lo) from ⟨h1, h2⟩)
    clear CP hst hgood hK hKe h1 h2 hE hz
    obtain ⟨K1, K2⟩ := K
    simp only [u128] at *
    go_enter Tryd.func10, Tryd.ntmps10
    go_upto_region 1 with fail
    generalize ((w.alloc _).alloc _) = w1 at *
    go_wp2_with fail
    refine (HCP.out _).mono ?_
    rintro e w2 ⟨v, L, rfl, hL, hr, hb⟩
    subst hL
    obtain ⟨sa, cap, rfl⟩ := (rd_of_row hr).form
    have hws : w.heap.size + 2 ≤ w1.heap.size := block_lt HST.out.res
    have HB2 := Lib.hid (HST.out.below hb); have HR := Lib.hid (row_mono hr hws)
    have hmax : L.length ≤ 16 := by rw [List.length_map] at hplen; exact hplen
    clear hb hr HST HCP
    go_wp2_with fail
    go_loopw [21] (fun i wr => ∃ j a b : Nat, j ≤ L.length ∧ i = .int .i64 (j : Int) ∧ Hid (KBox w wr a b) ∧ Hid (wr.ownsRow (w.heap.size + 2) 9 1 (.slice sa L.length cap) L.length (strs L)) ∧ Hid ((a, b) = ((L.map bsN).take j).foldl childK (hi, lo))) (fun i _ => L.length - (intOf i).toNat)
    case atStart => exact ⟨0, hi, lo, Nat.zero_le _, rfl, HB2, HR, Lib.hid rfl⟩
    case round =>
      obtain ⟨j, a, b, hj, rfl, HBX, HRD, HAB⟩ := hrel
      have hrd := rd_of_row HRD.out
      by_cases hlt : j < L.length
      · obtain ⟨bb, off, rfl, hc⟩ := hrd.at (by omega)
        have cx := hc j _ (strs_at L j hlt)
        have hxm : bsN (L.getD j ByteArray.empty) ∈ L.map bsN := by
          rw [List.getD_eq_getElem?_getD, List.getElem?_eq_getElem hlt]; exact List.mem_map.2 ⟨_, List.getElem_mem hlt, rfl⟩
        have hlab := HG.out _ hxm
        have hfs := foldl_snoc_at hlt (hi, lo)
        rw [← HAB.out] at hfs
        have hko : KOk (a, b) := by rw [HAB.out, ← List.map_take]; exact fold_ok HKO.out _
        generalize L.getD j ByteArray.empty = x at *
        have C := refchild_any a b hko.1 hko.2 x (by have := lab_size hlab; omega) wr
        generalize childK (a, b) (bsN x) = R at *
        obtain ⟨r1, r2⟩ := R
        simp only [u128] at C
        have HC := Lib.hid C; have HFS := Lib.hid hfs; have HRR := Lib.hid hrd
        obtain ⟨k0, k1⟩ := HBX.out.cells
        clear C hfs hrd hxm hlab hko hc
        go_wp2_with fail
        refine HC.out.mono ?_
        rintro e w4 ⟨rfl, hb4⟩
        have HB4 := Lib.hid (HBX.out.below hb4)
        have HR4 := Lib.hid (row_chg HRD.out (Chg.of_below (S := fun _ => False) hb4) (fun _ _ h => h))
        clear hb4 HBX k0 k1 cx
        obtain ⟨f0, f1⟩ := HB4.out.kfrees
        obtain ⟨k0, k1⟩ := HB4.out.cells
        go_wp2_with fail
        go_roundw
        case rel => exact ⟨j + 1, r1, r2, by omega, by go_num, HB4.out.setk r1 r2, Lib.hid (row_kept HR4.out (fun g hg => by have := (HR4.out.lt g hg).1; rw [Below.heap_setCell _ _ _ _ (by show g ≠ w.heap.size; omega), Below.heap_setCell _ _ _ _ (by show g ≠ w.heap.size; omega)])), Lib.hid HFS.out.symm⟩
        case measure => first | (simp [intOf]; done) | (simp [intOf]; omega)
      · obtain rfl : j = L.length := by omega
        obtain ⟨k0, k1⟩ := HBX.out.cells
        obtain ⟨d0, d1, q0, q1⟩ := HBX.out.rcells
        have hfin : (a, b) = (K1, K2) := by rw [HAB.out, HK.out, List.take_of_length_le (by rw [List.length_map]; exact Nat.le_refl _)]
        obtain ⟨rfl, rfl⟩ := Prod.mk.inj hfin
        go_wp2_with fail
        refine bodyPost_ret (v := .tuple #[u128 (a, b), .int .i64 0]) (by simp [u128, results, Tryd.results10, go_sem, d0, d1]) rfl ⟨?_, HBX.out.ends _ _⟩
        exact (rfl : _ = _)
  · have hK : pathK (hi, lo) (bsN p) = (0, 0) := by unfold pathK; rw [if_pos (by rw [← hE]; exact hz)]
    have hne : ((E : Int) != 0) = true := by rw [bne_iff_ne]; omega
    rw [← hE] at CP ⊢
    rw [hK]
    have HCP := Lib.hid CP; have HST := Lib.hid hst
    clear CP hst hK h1 h2 hE
    simp only [u128]
    go_enter Tryd.func10, Tryd.ntmps10
    go_upto_region 1 with fail
    generalize ((w.alloc _).alloc _) = w1 at *
    go_wp2_with fail
    refine (HCP.out _).mono ?_
    rintro e w2 ⟨v, L, rfl, hL, hr, hb⟩
    obtain ⟨sa, cap, rfl⟩ := (rd_of_row hr).form
    have HB2 := Lib.hid (HST.out.below hb)
    clear hb hr HST HCP hL
    obtain ⟨d0, d1, q0, q1⟩ := HB2.out.rcells
    go_wp2_with fail
    refine bodyPost_ret (v := .tuple #[u128 (0, 0), .int .i64 (E : Int)]) (by simp [u128, results, Tryd.results10, go_sem, d0, d1]) rfl ⟨?_, HB2.out.ends _ _⟩
    exact (rfl : _ = _)

theorem isEmpty_false {s : ByteArray} (h : s.size ≠ 0) : s.toList.isEmpty = false := by
  rw [Bool.eq_false_iff]; intro h1; exact h (bsN_nil.1 h1)
theorem bsN_ne {s : ByteArray} (h : s.size ≠ 0) : bsN s ≠ [] := by
  intro e; have := congrArg List.length e; rw [bsN_len] at this; exact h (by simpa using this)
theorem bsN_zero {s : ByteArray} (h : s.size = 0) : bsN s = [] := by apply List.eq_nil_of_length_eq_zero; rw [bsN_len]; exact h

set_option maxRecDepth 100000 in
set_option maxHeartbeats 2000000 in
theorem join_any (p q : ByteArray) (hp : p.size ≤ 1000) (hq : q.size ≤ 1000) (w : World) :
    Calls Tryd.prog 12 #[.string p, .string q] w fun e w' => ∃ j : ByteArray, e = .returned (.string j) ∧ bsN j = joinN (bsN p) (bsN q) ∧ j.size ≤ 2001 ∧ w' = w := by
  by_cases h1 : p.size = 0
  · have g1 := bsN_nil.2 h1
    have hr : bsN (p ++ q) = joinN (bsN p) (bsN q) := by unfold joinN; rw [if_pos (.inl (bsN_zero h1)), bsN_append]
    have hs : (p ++ q).size ≤ 2001 := by rw [size_append']; omega
    have HR := Lib.hid hr; have HS := Lib.hid hs
    clear hr hs
    go_enter Tryd.func12, Tryd.ntmps12
    go_wp2
    go_ret
    exact ⟨_, rfl, HR.out, HS.out, rfl⟩
  have g1 := isEmpty_false h1
  by_cases h2 : q.size = 0
  · have g2 := bsN_nil.2 h2
    have hr : bsN (p ++ q) = joinN (bsN p) (bsN q) := by unfold joinN; rw [if_pos (.inr (bsN_zero h2)), bsN_append]
    have hs : (p ++ q).size ≤ 2001 := by rw [size_append']; omega
    have HR := Lib.hid hr; have HS := Lib.hid hs
    clear hr hs
    go_enter Tryd.func12, Tryd.ntmps12
    go_wp2
    go_ret
    exact ⟨_, rfl, HR.out, HS.out, rfl⟩
  have g2 := isEmpty_false h2
  have hr : bsN (p ++ ⟨#[47]⟩ ++ q) = joinN (bsN p) (bsN q) := by
    unfold joinN; rw [if_neg (by rintro (h | h); exact bsN_ne h1 h; exact bsN_ne h2 h), bsN_append, bsN_append, List.append_assoc]; rfl
  have hs1 : (p ++ (⟨#[47]⟩ : ByteArray)).size = p.size + 1 := by rw [size_append']; rfl
  have hs : (p ++ ⟨#[47]⟩ ++ q).size ≤ 2001 := by rw [size_append', hs1]; omega
  have HR := Lib.hid hr; have HS := Lib.hid hs
  clear hr hs
  go_enter Tryd.func12, Tryd.ntmps12
  go_wp2
  go_ret
  exact ⟨_, rfl, HR.out, HS.out, rfl⟩

set_option maxRecDepth 100000 in
set_option maxHeartbeats 2000000 in
/-- one list beside itself -/
theorem same_any (L : List ByteArray) (va vb : Value) (n : Nat) (w : World) (ha : Rd w 1 va n (strs L)) (hb : Rd w 1 vb n (strs L)) (hn : n ≤ 100000) :
    Calls Tryd.prog 11 #[va, vb] w fun e w' => e = .returned (.bool true) ∧ Below w.heap.size w w' := by
  have hln : n = L.length := by have := ha.1; rw [strs_len] at this; omega
  obtain ⟨sa, ca, rfl⟩ := ha.form
  obtain ⟨sb, cb, rfl⟩ := hb.form
  have HA := Lib.hid ha; have HB := Lib.hid hb; have HLN := Lib.hid hln
  clear ha hb hln
  go_enter Tryd.func11, Tryd.ntmps11
  go_wp2
  go_loopw [13] (fun i wr => ∃ k m : Nat, k ≤ n ∧ i = .int .i64 (k : Int) ∧ wr = w.drewN m) (fun i _ => n - (intOf i).toNat)
  case atStart => exact ⟨0, 0, Nat.zero_le _, rfl, rfl⟩
  case round =>
    obtain ⟨k, m, hk, rfl, rfl⟩ := hrel
    by_cases hlt : k < n
    · obtain ⟨b1, o1, rfl, hc1⟩ := HA.out.at (by omega)
      obtain ⟨b2, o2, rfl, hc2⟩ := HB.out.at (by omega)
      have hat := strs_at L k (by rw [← HLN.out]; exact hlt)
      have x1 := hc1 k _ hat
      have x2 := hc2 k _ hat
      generalize L.getD k ByteArray.empty = x at *
      clear hc1 hc2 hat
      have hmx : Tryd.prog.follows .mixedOrders = true := by kernel_rfl
      go_wp2
      go_quiet (fail)
      go_wp2
      go_roundw
      case rel => exact ⟨k + 1, _, by omega, by go_num, rfl⟩
      case measure => simp [intOf]; omega
    · obtain rfl : k = n := by omega
      go_wp2
      go_ret
      exact ⟨rfl, below_drewN' (Below.refl _ w) m⟩

end Go.Proofs.YtgnbgjdkhnhlkaaDoor
