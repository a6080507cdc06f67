/-
  TallyWords: the law's walk.
-/
import Derived.Test.YtnnaijbdimdhpaaTly9
namespace Go.Proofs.Ytnnaijbdimdhpaa
open Go.RowKit Go.Shelf
set_option linter.unusedVariables false
set_option linter.unusedSimpArgs false

theorem wordsE_zero {m n : Int} (h : wordsE m n = 0) (hn : 0 ≤ n) : ∃ k l : Nat, m = k ∧ n = l ∧ 1 ≤ k ∧ k ≤ 12 ∧ 0 < l ∧ l ≤ 2 ^ k := by
  unfold wordsE at h
  split at h
  · omega
  · split at h
    · omega
    · split at h
      · omega
      · rename_i h1 h2 h3
        obtain ⟨k, rfl⟩ : ∃ k : Nat, m = k := ⟨m.toNat, by omega⟩
        obtain ⟨l, rfl⟩ : ∃ l : Nat, n = l := ⟨n.toNat, by omega⟩
        rw [Int.toNat_natCast] at h3
        exact ⟨k, l, rfl, rfl, by omega, by omega, by omega, by omega⟩

set_option maxRecDepth 100000 in
set_option maxHeartbeats 4000000 in
theorem law_TallyWords (w : World) (m n : Int) (hn : 0 ≤ n ∧ n < 18446744073709551616) :
    Calls Try.prog 3 #[.int .i64 m, .int .u64 n] w fun e w' => e = .returned (.bool true) ∧ Below w.heap.size w w' := by
  have CA := awake51 w
  by_cases hE : wordsE m n = 0
  · obtain ⟨k, l, rfl, rfl, hk1, hk, hl0, hl⟩ := wordsE_zero hE hn.1
    have C1 := Lib.hid (fun W => lemire_ok k l W hk1 hk hl0 hl)
    have C2 := Lib.hid (fun W => mask_ok k l W hk1 hk hl0 hl)
    have C3 := Lib.hid (fun W => refWords_any (k : Int) (l : Int) W hn)
    have C4 := Lib.hid (fun W => refLem_any k l W hk1 hk hl0 hl)
    have C5 := Lib.hid (fun W => refMask_any k l W hk1 hk hl0 hl)
    have C6 := Lib.hid (fun W => power_any k W (by omega))
    have MF := Lib.hid (fun b h1 h2 => mask_facts (m := k) (n := l) (b := b) hl0 hl h1 h2)
    rw [hE] at C3
    obtain ⟨N, hN⟩ : ∃ N, N = 2 ^ k := ⟨_, rfl⟩
    have hN64 : N ≤ 4096 := by rw [hN]; exact Nat.pow_le_pow_right (n := 2) (j := 12) (by omega) hk
    rw [← hN] at C1 C2 C4 C5 C6 MF hl
    have hNl : (N : Int) / (l : Int) = ((N / l : Nat) : Int) := by omega
    have hNr : (N : Int) % (l : Int) = ((N % l : Nat) : Int) := by omega
    have hQ : N / l ≤ 4096 := by have := Nat.div_le_self N l; omega
    generalize hq : N / l = Q at *
    generalize hr : N % l = R at *
    clear hN hE hq hr hn
    go_enter Try.func3, Try.ntmps3
    go_wp2_with fail
    refine CA.mono ?_
    rintro e w1 ⟨rfl, hb1⟩
    have HB1 := Lib.hid hb1
    clear hb1 CA
    go_wp2_with fail
    refine (C1.out w1).mono ?_
    rintro e w2 ⟨b1, rfl, hr1, hb⟩
    have HB2 := Lib.hid (HB1.out.trans (hb.mono HB1.out.size)); have HR1 := Lib.hid hr1
    clear hb hr1 HB1 C1
    go_wp2_with fail
    refine (C2.out w2).mono ?_
    rintro e w3 ⟨b, b2, hb12, hn1, hn2, rfl, hr2, hb⟩
    have HB3 := Lib.hid (HB2.out.trans (hb.mono HB2.out.size)); have HR1' := Lib.hid (HR1.out.below hb)
    obtain ⟨q, g, hq0, hcL, hcN, hsum, hgg⟩ := MF.out b hn1 hn2
    rw [hcL] at hr2
    rw [hcN]
    have HR2 := Lib.hid hr2
    have HN1 := Lib.hid hn1; have HN2 := Lib.hid hn2; have HCL := Lib.hid hcL; have HCN := Lib.hid hcN; have HS := Lib.hid hsum
    clear hb HB2 HR1 C2 hr2 hn1 hn2 hcL hcN MF
    go_wp2_with fail
    refine (C3.out w3).mono ?_
    rintro e w4 ⟨rfl, rfl⟩
    go_wp2_with fail
    refine (C4.out w4).mono ?_
    rintro e w5 ⟨v3, rfl, hr3, hb⟩
    have HB5 := Lib.hid (HB3.out.trans (hb.mono HB3.out.size)); have HR1 := Lib.hid (HR1'.out.below hb); have HR2' := Lib.hid (HR2.out.below hb)
    obtain ⟨s3, c3, rfl⟩ := hr3.form
    have HR3 := Lib.hid hr3
    clear hb HB3 HR1' C4 hr3 HR2 C3
    go_wp2_with fail
    refine (C5.out w5).mono ?_
    rintro e w6 ⟨bb, v4, hn1, hn2, rfl, hr4, hb⟩
    have hbb : bb = b := mask_uniq hn1 hn2 HN1.out HN2.out
    subst hbb
    rw [HCL.out] at hr4
    rw [HCN.out]
    have HB6 := Lib.hid (HB5.out.trans (hb.mono HB5.out.size)); have HR1' := Lib.hid (HR1.out.below hb); have HR2 := Lib.hid (HR2'.out.below hb); have HR3' := Lib.hid (HR3.out.below hb)
    obtain ⟨s4, c4, rfl⟩ := hr4.form
    have HR4 := Lib.hid hr4
    clear hb HB5 HR1 C5 hr4 HR2' HR3 hn1 hn2 HN1 HN2 HCL HCN
    have W1 := Lib.hid (fun W (hb : Below w6.heap.size w6 W) => words_any W _ _ _ _ _ _ (HR1'.out.below hb) (HR3'.out.below hb) (by omega) (by omega))
    have W2 := Lib.hid (fun W (hb : Below w6.heap.size w6 W) => words_any W _ _ _ _ _ _ (HR2.out.below hb) (HR4.out.below hb) (by omega) (by omega))
    simp only [eqL_self] at W1 W2
    go_wp2_with fail
    refine (W1.out w6 (Below.refl _ _)).mono ?_
    rintro e w7 ⟨rfl, n1, rfl⟩
    go_wp2_with fail
    refine (W2.out _ (below_drewN' (Below.refl _ _) n1)).mono ?_
    rintro e w8 ⟨rfl, n2, rfl⟩
    obtain ⟨W, hW⟩ : ∃ W, W = (w6.drewN n1).drewN n2 := ⟨_, rfl⟩
    have hbW : Below w6.heap.size w6 W := by rw [hW]; exact below_drewN' (below_drewN' (Below.refl _ _) n1) n2
    have hwW : Below w.heap.size w W := HB6.out.trans (hbW.mono HB6.out.size)
    have E1 := Lib.hid (refEven_rep _ _ _ W (HR1'.out.below hbW) (by omega))
    have E2 := Lib.hid (refEven_rep _ _ _ W (HR2.out.below hbW) (by omega))
    have c0 : W.cell? ⟨b2, 0, none⟩ = some (.int .u64 q) := by
      obtain ⟨b', off, e1, e2⟩ := (HR2.out.below hbW).at hl0
      cases e1
      exact e2 0 _ (by simp [u64s, hl0])
    have C6' := Lib.hid (C6.out W)
    have HWW := Lib.hid hwW
    obtain ⟨M, hM⟩ : ∃ M, M = q * l := ⟨_, rfl⟩
    rw [← hM] at hsum
    have hMb : M ≤ 4096 := by omega
    have hmul : IntKind.u64.wrap ((q : Int) * (l : Int)) = (M : Int) := by
      rw [show ((q : Int) * (l : Int)) = (M : Int) by rw [hM]; simp, IntKind.wrap_u64]; omega
    have hl0' : (0 : Int) < (l : Int) := by omega
    have hlne : ((l : Int) == 0) = false := by rw [beq_eq_false_iff_ne]; omega
    rw [← hW]
    clear hW hbW hwW HR1' HR2 HR3' HR4 W1 W2 C6 HB6 HS hM
    go_wp2_with fail
    refine C6'.out.mono ?_
    rintro e w9 ⟨rfl, rfl⟩
    go_wp2_with fail
    refine E1.out.mono ?_
    rintro e w10 ⟨rfl, rfl⟩
    go_wp2_with fail
    refine E2.out.mono ?_
    rintro e w11 ⟨rfl, rfl⟩
    go_wp2_with fail
    go_ret
    exact ⟨ret_bool (decide_eq_true (by omega)), HWW.out⟩
  · have C1 := Lib.hid (fun W => lemire_bad m n W hn hE)
    have C2 := Lib.hid (fun W => mask_bad m n W hn hE)
    have C3 := Lib.hid (fun W => refWords_any m n W hn)
    obtain ⟨E, hEE⟩ : ∃ E, E = wordsE m n := ⟨_, rfl⟩
    rw [← hEE] at C1 C2 C3 hE
    have hne : (E != 0) = true := by simpa using hE
    clear hEE hE hn
    go_enter Try.func3, Try.ntmps3
    go_wp2_with fail
    refine CA.mono ?_
    rintro e w1 ⟨rfl, hb1⟩
    have HB1 := Lib.hid hb1
    clear hb1 CA
    go_wp2_with fail
    refine (C1.out w1).mono ?_
    rintro e w2 ⟨rfl, hb⟩
    have HB2 := Lib.hid (HB1.out.trans (hb.mono HB1.out.size))
    clear hb HB1 C1
    go_wp2_with fail
    refine (C2.out w2).mono ?_
    rintro e w3 ⟨rfl, hb⟩
    have HB3 := Lib.hid (HB2.out.trans (hb.mono HB2.out.size))
    clear hb HB2 C2
    go_wp2_with fail
    refine (C3.out w3).mono ?_
    rintro e w4 ⟨rfl, rfl⟩
    go_wp2_with fail
    go_ret
    exact ⟨rfl, HB3.out⟩

end Go.Proofs.Ytnnaijbdimdhpaa
