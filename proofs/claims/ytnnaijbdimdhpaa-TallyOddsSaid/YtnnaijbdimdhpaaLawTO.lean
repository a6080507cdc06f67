/-
  TallyOdds: the law's walk.
-/
import Derived.Test.YtnnaijbdimdhpaaTly12
namespace Go.Proofs.Ytnnaijbdimdhpaa
open Go.RowKit Go.Shelf
set_option linter.unusedVariables false
set_option linter.unusedSimpArgs false

set_option maxRecDepth 100000 in
set_option maxHeartbeats 4000000 in
theorem law_TallyOdds (w : World) (m b x y : Int) (hx : 0 ≤ x ∧ x < 18446744073709551616) (hy : 0 ≤ y ∧ y < 18446744073709551616) :
    Calls Try.prog 5 #[.int .i64 m, .int .i64 b, .int .u64 x, .int .u64 y] w fun e w' => e = .returned (.bool true) ∧ Below w.heap.size w w' := by
  have CA := awake51 w
  obtain ⟨x, rfl⟩ : ∃ k : Nat, x = k := ⟨x.toNat, by omega⟩
  obtain ⟨y, rfl⟩ : ∃ k : Nat, y = k := ⟨y.toNat, by omega⟩
  have C3 := Lib.hid (fun W => refKeys_any 12 m b x y W (by omega) (by omega) (by omega))
  by_cases hE : keysE 12 m b x y = 0
  · rw [hE] at C3
    obtain ⟨k, q, rfl, rfl, hk1, hk, hq1, hq, hxk, hyk, hne⟩ := keysE_zero hE
    obtain ⟨s, hs⟩ : ∃ s, k = s + q := ⟨k - q, by omega⟩
    have C1 := Lib.hid (fun W => odd_ok k q s x y W hk1 (by omega) hq1 hs hxk hyk hne)
    have C4 := Lib.hid (fun W => refOdd_any k q s x y W hk1 (by omega) hq1 hs hxk hyk)
    have C6 := Lib.hid (fun W => power_any s W (by omega))
    have hbd := oddC_bound (w := k) (s := s) (by omega) hxk hyk hne
    have hsub : (k : Int) - (q : Int) = (s : Int) := by omega
    have hS64 : 2 ^ s ≤ 4096 := Nat.pow_le_pow_right (n := 2) (j := 12) (by omega) (by omega)
    generalize oddC (2 ^ k) (2 ^ s) x y = Z at *
    generalize 2 ^ s = S at *
    clear hE hxk hyk hne hs
    go_enter Try.func5, Try.ntmps5
    go_wp2_with fail
    refine CA.mono ?_
    rintro e w1 ⟨rfl, hb1⟩
    have HB1 := Lib.hid hb1
    clear hb1 CA
    go_wp2_with fail
    refine (C1.out w1).mono ?_
    rintro e w2 ⟨rfl, hb⟩
    have HB2 := Lib.hid (HB1.out.trans (hb.mono HB1.out.size))
    clear hb HB1 C1
    go_wp2_with fail
    refine (C3.out w2).mono ?_
    rintro e w2 ⟨rfl, rfl⟩
    go_wp2_with fail
    refine (C4.out w2).mono ?_
    rintro e w3 ⟨rfl, n, rfl⟩
    go_wp2_with fail
    refine (C6.out _).mono ?_
    rintro e w3 ⟨rfl, rfl⟩
    go_wp2_with fail
    go_ret
    exact ⟨rfl, below_drewN' HB2.out n⟩
  · have C1 := Lib.hid (fun W => odd_bad m b x y W (by omega) (by omega) hE)
    obtain ⟨E, hEE⟩ : ∃ E, E = keysE 12 m b x y := ⟨_, rfl⟩
    rw [← hEE] at C1 C3 hE
    have hne : (E != 0) = true := by simpa using hE
    clear hEE hE
    go_enter Try.func5, Try.ntmps5
    go_wp2_with fail
    refine CA.mono ?_
    rintro e w1 ⟨rfl, hb1⟩
    have HB1 := Lib.hid hb1
    clear hb1 CA
    go_wp2_with fail
    refine (C1.out w1).mono ?_
    rintro e w2 ⟨rfl, hb⟩
    have HB2 := Lib.hid (HB1.out.trans (hb.mono HB1.out.size))
    clear hb HB1 C1
    go_wp2_with fail
    refine (C3.out w2).mono ?_
    rintro e w4 ⟨rfl, rfl⟩
    go_wp2_with fail
    go_ret
    exact ⟨rfl, HB2.out⟩

end Go.Proofs.Ytnnaijbdimdhpaa
