/-
  The reference's subset that words tell: Limits, Take.
-/
import Derived.Test.YtcoohepkmhpdkaaSTake
namespace Go.Proofs.Ytcoohepkmhpdkaa
open Go.RowKit
set_option linter.unusedVariables false

theorem limS_snoc (n k : Nat) : limS n (k + 1) = limS n k ++ [n - k] := by simp [limS, List.range_succ]

set_option maxRecDepth 100000 in
set_option maxHeartbeats 1000000 in
theorem rlim41_any (w : World) (n k : Nat) (hk : k ≤ n) (hn : n ≤ 50000) :
    Calls Try.prog 19 #[.int .i64 (n : Int), .int .i64 (k : Int)] w fun e w' => ∃ sa cap, e = .returned (.slice sa k cap) ∧ w'.ownsRow w.heap.size 40 1 (.slice sa k cap) k (u64s (zsN (limS n k))) ∧ Below w.heap.size w w' := by
  go_enter Try.func19, Try.ntmps19
  go_wp2
  go_loopw [5, 6] (fun v i wr => ∃ (j : Nat) (sa : Option Addr) (cap : Nat), j ≤ k ∧ i = .int .i64 j ∧ v = .slice sa j cap ∧ Hid (wr.ownsRow w.heap.size 40 1 (.slice sa j cap) j (u64s (zsN (limS n j)))) ∧ Hid (Below w.heap.size w wr)) (fun _ i _ => k - (intOf i).toNat)
  case atStart => exact ⟨0, none, 0, Nat.zero_le _, rfl, rfl, World.ownsRow_nil _ _ _ _, Below.refl _ _⟩
  case round =>
    obtain ⟨j, sa, cap, hj, rfl, rfl, HO, HB⟩ := hrel
    by_cases hlt : j < k
    · have e1 : ((n : Int) - (j : Int)) = ((n - j : Nat) : Int) := by omega
      have hb : n - j ≤ 50000 := by omega
      have hs := limS_snoc n j
      generalize n - j = m at *
      have HS := Lib.hid hs; clear hs
      go_wp2_with (at_builtin; refine app_u64 _ rfl _ _ rfl w.heap.size _ _ _ rfl HO.out _ _ rfl ?qg ?qn ?qb ?_)
      case qg => rfl
      case qn => omega
      case qb => exact HB.out.size
      intro v' w1 hown hchg hfresh
      obtain ⟨sa', cap', rfl⟩ := (rd_of_row hown).form
      rw [← u64s_snoc, ← zsN_snoc, ← HS.out] at hown
      have HO1 := Lib.hid hown; have HC1 := Lib.hid hchg
      clear hown hchg hfresh
      go_wp2
      go_roundw
      case rel => exact ⟨j + 1, sa', cap', by omega, by go_num, rfl, HO1, HB.out.trans (HC1.out.below HB.out.size fun i hi => (HO.out.lt i hi).1)⟩
      case measure => simp [intOf]; omega
    · obtain rfl : j = k := by omega
      go_wp2
      go_ret
      exact ⟨sa, cap, rfl, HO.out, HB.out⟩

end Go.Proofs.Ytcoohepkmhpdkaa
