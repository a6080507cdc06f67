/-
  TallySlots: the law's walk.
-/
import Derived.Test.YtnnaijbdimdhpaaTly27
import Derived.Test.YtnnaijbdimdhpaaLawTP
namespace Go.Proofs.Ytnnaijbdimdhpaa
open Go.RowKit Go.Shelf
set_option linter.unusedVariables false
set_option linter.unusedSimpArgs false

set_option maxRecDepth 100000 in
set_option maxHeartbeats 4000000 in
theorem law_TallySlots (w : World) (n k i : Int) :
    Calls Try.prog 7 #[.int .i64 n, .int .i64 k, .int .i64 i] w fun e w' => e = .returned (.bool true) ∧ Below w.heap.size w w' := by
  have CA := awake51 w
  by_cases hE : n < 0 ∨ 6 < n ∨ k < 0 ∨ n < k
  · have C1 := Lib.hid (fun W => slots_bad51 n k W hE)
    by_cases h1 : n < 0
    all_goals by_cases h2 : 6 < n
    all_goals by_cases h3 : k < 0
    all_goals by_cases h4 : n < k
    all_goals first
      | (exfalso; omega)
      | (clear hE
         go_enter Try.func7, Try.ntmps7
         go_wp2_with fail
         refine CA.mono ?_
         rintro e w1 ⟨rfl, hb1⟩
         have HB1 := Lib.hid hb1
         clear hb1 CA
         go_wp2_with fail
         refine (C1.out w1).mono ?_
         rintro e w2 ⟨rfl, hb⟩
         have HB2 := Lib.hid (HB1.out.trans (hb.mono HB1.out.size))
         clear hb HB1 C1
         go_wp2_with fail
         go_ret
         exact ⟨rfl, HB2.out⟩)
  · obtain ⟨n, rfl⟩ : ∃ m : Nat, n = m := ⟨n.toNat, by omega⟩
    obtain ⟨k, rfl⟩ : ∃ m : Nat, k = m := ⟨k.toNat, by omega⟩
    have hn : n ≤ 6 := by omega
    have hk : k ≤ n := by omega
    clear hE
    have C1 := fun W => slots_ok51 n k W hn hk
    obtain ⟨e1, e2⟩ := counts_rep hn hk
    obtain ⟨S, hS⟩ : ∃ S, S = setsR k 0 n := ⟨_, rfl⟩
    obtain ⟨c, hc⟩ : ∃ c, c = timesN (n - k) (n - k) := ⟨_, rfl⟩
    rw [e2, e1, ← hS, ← hc] at C1
    have C1 := Lib.hid C1
    have C2 := Lib.hid (fun W => refSets_any n k W hn hk)
    have C3 := Lib.hid (fun W => times_any (n - k) (n - k) W (by omega) (Nat.le_refl _))
    rw [← hS] at C2
    rw [← hc] at C3
    obtain ⟨hSl, hSb⟩ := setsR_bd (k := k) (f := 0) (n := n) (by omega) (by omega) hn
    have hcb : c ≤ 720 := by rw [hc]; exact timesN_le (by omega) (Nat.le_refl _)
    have C4 := Lib.hid (fun (s : Nat) (hs : s ∈ S) (W : World) => refSlots_any n k s hn hk (by rw [hS] at hs; have := hSb s hs; omega) (n - k) [] (.slice none 0 0) W (by simp; omega) ⟨rfl, by unfold maxLen; simp, none, 0, rfl, Nat.le_refl _, .inl rfl⟩)
    have HS := Lib.hid (fun (s : Nat) (hs : s ∈ S) => (show cntS n k s [] = c by rw [hS] at hs; rw [hc]; exact cntS_sets hn hk hs))
    rw [← hS] at hSl
    have HSB := Lib.hid hSb
    have enk : ((n - k : Nat) : Int) = (n : Int) - (k : Int) := by omega
    rw [enk] at C3
    clear e1 e2 hS hc hSb enk
    go_enter Try.func7, Try.ntmps7
    go_wp2_with fail
    refine CA.mono ?_
    rintro e w1 ⟨rfl, hb1⟩
    have HB1 := Lib.hid hb1
    clear hb1 CA
    go_wp2_with fail
    refine (C1.out w1).mono ?_
    rintro e w2 ⟨v1, v2, rfl, r1, r2, hb⟩
    obtain ⟨sa, ca, rfl⟩ := r1.form
    obtain ⟨sb, cb, rfl⟩ := r2.form
    have HB2 := Lib.hid (HB1.out.trans (hb.mono HB1.out.size))
    have HR1 := Lib.hid r1
    have HR2 := Lib.hid r2
    clear hb HB1 C1 r1 r2
    go_wp2_with fail
    refine (C2.out w2).mono ?_
    rintro e w3 ⟨s3, c3, rfl, r3, hb⟩
    have HB3 := Lib.hid (HB2.out.trans (hb.mono HB2.out.size))
    have HR1' := Lib.hid (HR1.out.below hb); have HR2' := Lib.hid (HR2.out.below hb); have HR3 := Lib.hid r3
    clear hb HB2 HR1 HR2 C2 r3
    have W1 := Lib.hid (words_any w3 _ _ _ _ _ _ HR1'.out HR3.out (by omega) (by omega))
    simp only [eqL_self] at W1
    go_wp2_with fail
    refine W1.out.mono ?_
    rintro e w4 ⟨rfl, n1, rfl⟩
    have hb4 : Below w3.heap.size w3 (w3.drewN n1) := below_drewN' (Below.refl _ _) n1
    obtain ⟨w4, e4⟩ : ∃ w4, w4 = w3.drewN n1 := ⟨_, rfl⟩
    rw [← e4] at hb4 ⊢
    clear e4
    have HR2 := Lib.hid (HR2'.out.below hb4)
    have HR3' := Lib.hid (HR3.out.below hb4)
    have HB4 := Lib.hid (HB3.out.trans (hb4.mono HB3.out.size))
    clear hb4 W1 HR1' HR2' HR3 HB3
    go_wp2_with fail
    refine (C3.out w4).mono ?_
    rintro e w4 ⟨rfl, rfl⟩
    have E1 := Lib.hid (refEven_rep _ _ _ w4 HR2.out (by omega))
    go_wp2_with fail
    refine E1.out.mono ?_
    rintro e w4 ⟨rfl, rfl⟩
    clear E1 C3
    by_cases hi0 : i < 0
    · go_wp2_with fail
      clear hSl C4 HS HSB HR2 HR3'
      go_quiet (fail)
      go_wp2_with fail
      go_ret
      exact ⟨rfl, below_drewN' HB4.out nq⟩
    obtain ⟨j, rfl⟩ : ∃ j : Nat, i = j := ⟨i.toNat, by omega⟩
    clear hi0
    have hj0 : decide ((j : Int) < 0) = false := decide_eq_false (by omega)
    by_cases hi1 : S.length ≤ j
    · have hj1 : decide ((S.length : Int) ≤ (j : Int)) = true := decide_eq_true (by omega)
      go_wp2_with fail
      clear hSl C4 HS HSB HR2 HR3'
      go_quiet (fail)
      go_wp2_with fail
      go_ret
      exact ⟨rfl, below_drewN' HB4.out nq⟩
    have hj : j < S.length := by omega
    obtain ⟨b3, o3, rfl, hc3⟩ := HR3'.out.at (by omega)
    obtain ⟨b2, o2, rfl, hc2⟩ := HR2.out.at (by omega)
    have h3 := hc3 j _ (u64s_at (castL S) j (by rw [castL_len]; exact hj))
    have h2 := hc2 j _ (u64s_at _ j (by rw [List.length_replicate]; exact hj))
    rw [castL_at S hj] at h3
    rw [show (List.replicate S.length (c : Int)).getD j 0 = (c : Int) by simp [List.getD, hj]] at h2
    have hmem : S.getD j 0 ∈ S := by rw [List.getD_eq_getElem?_getD, List.getElem?_eq_getElem hj]; exact List.getElem_mem hj
    have C5 := C4.out _ hmem
    rw [HS.out _ hmem] at C5
    generalize S.getD j 0 = s at *
    have hl3 := World.block_lt_of_cell? _ _ h3
    have hl2 := World.block_lt_of_cell? _ _ h2
    have g3 : ∀ u : LaterW w4, u.w.cell? ⟨b3, o3 + j, none⟩ = some (.int .u64 s) := fun u => cell_same h3 (u.h.block _ hl3)
    have g2 : ∀ u : LaterW w4, u.w.cell? ⟨b2, o2 + j, none⟩ = some (.int .u64 c) := fun u => cell_same h2 (u.h.block _ hl2)
    have hcl : ∀ u : LaterW w4, Calls Try.prog 30 #[.int .i64 n, .int .i64 k, .slice none 0 0, .int .u64 s] u.w fun e w' => e = .returned (.int .u64 c) ∧ ∃ u' : LaterW w4, w' = u'.w := fun u => (C5 u.w).mono fun e w' ⟨he, hb⟩ => ⟨he, ⟨w', u.h.trans (hb.mono u.h.size)⟩, rfl⟩
    have hmx : Try.prog.follows .mixedOrders = true := by kernel_rfl
    have hj1 : decide ((S.length : Int) ≤ (j : Int)) = false := decide_eq_false (by omega)
    have hin1 : ¬ S.length ≤ j := hi1
    clear hmem C4 C5 HS HSB hc3 hc2 HR3' HR2 h2 h3 hl2 hl3 hSl hi1
    go_wp2_with fail
    refine wp_region_quiet (C := fun w' => ∃ u : LaterW w4, w' = u.w) hmx (by kernel_rfl) ⟨⟨w4.drew, (Below.refl _ w4).drew⟩, rfl⟩ ?_
    repeat (quiet_step (with_reducible exact hcl _))
    refine wpQuiet_nil ?_
    rintro _ ⟨u, rfl⟩
    go_wp2_with fail
    go_ret
    exact ⟨rfl, HB4.out.trans (u.h.mono HB4.out.size)⟩

end Go.Proofs.Ytnnaijbdimdhpaa
