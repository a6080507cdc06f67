/-
  The reference's order that words tell: Limits, Take.
-/
import Derived.Test.YtcoohepkmhpdkaaHTake
namespace Go.Proofs.Ytcoohepkmhpdkaa
open Go.RowKit
set_option linter.unusedVariables false

set_option maxRecDepth 100000 in
set_option maxHeartbeats 1000000 in
theorem rlim40_any (w : World) (n : Nat) (hn : n ≤ 50000) :
    Calls Try.prog 18 #[.int .i64 (n : Int)] w fun e w' => ∃ sa cap, e = .returned (.slice sa (n - 1) cap) ∧ w'.ownsRow w.heap.size 40 1 (.slice sa (n - 1) cap) (n - 1) (u64s (zsN (limH n))) ∧ Below w.heap.size w w' := by
  obtain ⟨N, hN⟩ : ∃ N, N = n - 1 := ⟨_, rfl⟩
  have HNK := Lib.hid hN
  rw [← hN]
  clear hN
  go_enter Try.func18, Try.ntmps18
  go_wp2
  go_loopw [3, 4] (fun v s wr => ∃ (i j : Nat) (sa : Option Addr) (cap : Nat), i ≤ n ∧ s = .int .i64 i ∧ v = .slice sa j cap ∧ j ≤ 50000 ∧ Hid (i = n - j) ∧ Hid (j ≤ n - 1) ∧ Hid (wr.ownsRow w.heap.size 40 1 (.slice sa j cap) j (u64s (zsN ((limH n).take j)))) ∧ Hid (Below w.heap.size w wr)) (fun _ i _ => (intOf i).toNat)
  case atStart => exact ⟨n, 0, none, 0, Nat.le_refl _, rfl, rfl, by omega, Lib.hid rfl, Lib.hid (Nat.zero_le _), World.ownsRow_nil _ _ _ _, Below.refl _ _⟩
  case round =>
    obtain ⟨i, j, sa, cap, hj, rfl, rfl, hj2, HIJ, HJN, HO, HB⟩ := hrel
    by_cases hlt : 2 ≤ i
    · have hij := HIJ.out
      have hjk : j < n - 1 := by omega
      have hs : (limH n).take (j + 1) = (limH n).take j ++ [i] := by
        rw [List.take_succ_eq_append_getElem (by rw [limH_len]; exact hjk)]
        have h1 := limH_get hjk
        rw [List.getD_eq_getElem?_getD, List.getElem?_eq_getElem (by rw [limH_len]; exact hjk)] at h1
        simp only [Option.getD_some] at h1
        rw [h1, hij]
      obtain ⟨q, rfl⟩ : ∃ q, i = q + 1 := ⟨i - 1, by omega⟩
      have HS := Lib.hid hs
      have HJK := Lib.hid (show j + 1 ≤ n - 1 by omega)
      have HQ := Lib.hid (show q = n - (j + 1) by omega)
      clear hs hij hjk
      go_wp2_with (at_builtin; refine app_u64 _ rfl _ _ rfl w.heap.size _ _ _ rfl HO.out _ _ rfl ?qg ?qn ?qb ?_)
      case qg => rfl
      case qn => omega
      case qb => exact HB.out.size
      intro v' w1 hown hchg hfresh
      obtain ⟨sa', cap', rfl⟩ := (rd_of_row hown).form
      have hcast : ((q : Int) + 1) = ((q + 1 : Nat) : Int) := by omega
      rw [hcast, ← u64s_snoc, ← zsN_snoc, ← HS.out] at hown
      have HO1 := Lib.hid hown; have HC1 := Lib.hid hchg
      clear hown hchg hfresh hcast
      go_wp2
      go_roundw
      case rel => exact ⟨q, j + 1, sa', cap', by omega, by go_num, rfl, by have := HJK.out; omega, HQ, HJK, HO1, HB.out.trans (HC1.out.below HB.out.size fun i hi => (HO.out.lt i hi).1)⟩
      case measure => simp [intOf]
    · have hjk : j = N := by have := HIJ.out; have := HNK.out; have := HJN.out; omega
      subst hjk
      have hO := HO.out
      rw [List.take_of_length_le (by rw [limH_len]; have := HNK.out; omega)] at hO
      have HO' := Lib.hid hO; clear hO
      go_wp2
      go_ret
      exact ⟨sa, cap, rfl, HO'.out, HB.out⟩

end Go.Proofs.Ytcoohepkmhpdkaa
