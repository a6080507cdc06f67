/-
  TallyAdds: the law's walk.
-/
import Derived.Test.YtnnaijbdimdhpaaTly14
namespace Go.Proofs.Ytnnaijbdimdhpaa
open Go.RowKit Go.Shelf
set_option linter.unusedVariables false
set_option linter.unusedSimpArgs false

set_option maxRecDepth 100000 in
set_option maxHeartbeats 4000000 in
theorem law_TallyAdds (w : World) (m b x y : Int) (hx : 0 ≤ x ∧ x < 18446744073709551616) (hy : 0 ≤ y ∧ y < 18446744073709551616) :
    Calls Try.prog 4 #[.int .i64 m, .int .i64 b, .int .u64 x, .int .u64 y] w fun e w' => e = .returned (.bool true) ∧ Below w.heap.size w w' := by
  have CA := awake51 w
  obtain ⟨x, rfl⟩ : ∃ k : Nat, x = k := ⟨x.toNat, by omega⟩
  obtain ⟨y, rfl⟩ : ∃ k : Nat, y = k := ⟨y.toNat, by omega⟩
  have C3 := Lib.hid (fun W => refKeys_any 3 m b x y W (by omega) (by omega) (by omega))
  by_cases hE : keysE 3 m b x y = 0
  · rw [hE] at C3
    obtain ⟨k, q, rfl, rfl, hk1, hk, hq1, hq, hxk, hyk, hne⟩ := keysE_zero hE
    have hk3 : k ≤ 3 := by omega
    have C1 := Lib.hid (fun W => add_ok k q x y W hk1 hk3 hq1 hq hxk hyk hne)
    have C4 := Lib.hid (fun W => refAdd_any k q x y W hk1 hk3 hq1 hq hxk hyk)
    have hbd := addL_even hk1 hk3 hq1 hq hxk hyk hne
    obtain ⟨c, hc⟩ : ∃ c, c = 2 * q := ⟨_, rfl⟩
    obtain ⟨s, hs⟩ : ∃ s, s = 2 * (k - 1) := ⟨_, rfl⟩
    obtain ⟨n, hn⟩ : ∃ n, n = 4 ^ q := ⟨_, rfl⟩
    obtain ⟨Z, hZ⟩ : ∃ n, n = 4 ^ (k - 1) := ⟨_, rfl⟩
    have hn2 : 2 ^ c = n := by rw [hn, hc, Nat.pow_mul]
    have hZ2 : 2 ^ s = Z := by rw [hZ, hs, Nat.pow_mul]
    have hn64 : n ≤ 64 := by rw [hn]; exact Nat.pow_le_pow_right (n := 4) (j := 3) (by omega) (by omega)
    have C6 := Lib.hid (fun W => power_any c W (by omega))
    have C7 := Lib.hid (fun W => power_any s W (by omega))
    rw [← hn] at hbd C1 C4
    rw [← hZ] at hbd
    rw [hbd] at C1 C4
    rw [hn2] at C6
    rw [hZ2] at C7
    have hcz : 2 * (q : Int) = (c : Int) := by omega
    have hsz : 2 * ((k : Int) - 1) = (s : Int) := by omega
    clear hE hxk hyk hne hbd hc hs hn hZ hn2 hZ2
    go_enter Try.func4, Try.ntmps4
    go_wp2_with fail
    refine CA.mono ?_
    rintro e w1 ⟨rfl, hb1⟩
    have HB1 := Lib.hid hb1
    clear hb1 CA
    go_wp2_with fail
    refine (C1.out w1).mono ?_
    rintro e w2 ⟨bk, rfl, hr, hb⟩
    have HB2 := Lib.hid (HB1.out.trans (hb.mono HB1.out.size))
    have HR := Lib.hid hr
    clear hb HB1 C1 hr
    go_wp2_with fail
    refine (C3.out w2).mono ?_
    rintro e w2 ⟨rfl, rfl⟩
    go_wp2_with fail
    refine (C4.out w2).mono ?_
    rintro e w3 ⟨v3, rfl, hr3, hb⟩
    obtain ⟨s3, c3, rfl⟩ := hr3.form
    have HB3 := Lib.hid (HB2.out.trans (hb.mono HB2.out.size)); have HR1 := Lib.hid (HR.out.below hb); have HR3 := Lib.hid hr3
    clear hb HB2 HR hr3 C4
    have W1 := Lib.hid (words_any w3 _ _ _ _ _ _ HR1.out HR3.out (by omega) (by omega))
    simp only [eqL_self] at W1
    go_wp2_with fail
    refine W1.out.mono ?_
    rintro e w4 ⟨rfl, n1, rfl⟩
    have hb4 : Below w3.heap.size w3 (w3.drewN n1) := below_drewN' (Below.refl _ _) n1
    have E1 := Lib.hid (refEven_rep _ _ _ (w3.drewN n1) (HR1.out.below hb4) (by omega))
    have HB4 := Lib.hid (HB3.out.trans (hb4.mono HB3.out.size))
    clear hb4 W1 HR1 HR3 HB3
    go_wp2_with fail
    refine (C7.out _).mono ?_
    rintro e w5 ⟨rfl, rfl⟩
    go_wp2_with fail
    refine (C6.out _).mono ?_
    rintro e w6 ⟨rfl, rfl⟩
    go_wp2_with fail
    refine E1.out.mono ?_
    rintro e w7 ⟨rfl, rfl⟩
    go_wp2_with fail
    go_ret
    exact ⟨rfl, HB4.out⟩
  · have C1 := Lib.hid (fun W => add_bad m b x y W (by omega) (by omega) hE)
    obtain ⟨E, hEE⟩ : ∃ E, E = keysE 3 m b x y := ⟨_, rfl⟩
    rw [← hEE] at C1 C3 hE
    have hne : (E != 0) = true := by simpa using hE
    clear hEE hE
    go_enter Try.func4, Try.ntmps4
    go_wp2_with fail
    refine CA.mono ?_
    rintro e w1 ⟨rfl, hb1⟩
    have HB1 := Lib.hid hb1
    clear hb1 CA
    go_wp2_with fail
    refine (C1.out w1).mono ?_
    rintro e w2 ⟨rfl, hb⟩
    have HB2 := Lib.hid (HB1.out.trans (hb.mono HB1.out.size))
    clear hb HB1 C1
    go_wp2_with fail
    refine (C3.out w2).mono ?_
    rintro e w4 ⟨rfl, rfl⟩
    go_wp2_with fail
    go_ret
    exact ⟨rfl, HB2.out⟩

end Go.Proofs.Ytnnaijbdimdhpaa
