/-
  The document's Limits of an ask that may be: words given back, and numbers one behind the other.
-/
import Derived.Test.YtcoohepkmhpdkaaSmp1
import Derived.Test.YtcoohepkmhpdkaaRShuf
import Derived.Test.YtcoohepkmhpdkaaRSub
import Derived.Test.YtcoohepkmhpdkaaRvTake
import Derived.Laws.EntriesVeiled
namespace Go.Proofs.Ytcoohepkmhpdkaa
open Go.RowKit
set_option linter.unusedVariables false
set_option linter.unusedSimpArgs false

/-- what Limits of an ask answers: it reads the limits -/
def LimQ (w : World) (K N k : Int) (ws : List Nat) (e : Ending) (w' : World) : Prop :=
  ∃ sl m, e = .returned sl ∧ Rd w' 1 sl m (u64s (zsN (askL K N k ws))) ∧ Below w.heap.size w w'

set_option maxRecDepth 100000 in
set_option maxHeartbeats 2000000 in
theorem lim46_12 (w : World) (K N k : Int) (hK : K = 1 ∨ K = 2) (sa : Option Addr) (n cap : Nat) (ws : List Nat) (h : Rd w 1 (.slice sa n cap) n (u64s (zsN ws))) (h0 : askE K N k ws = 0) :
    Calls Try.prog 11 #[.int .i64 K, .int .i64 N, .int .i64 k, .slice sa n cap] w (LimQ w K N k ws) := by
  have hL : askL K N k ws = ws := by simp [askL, h0, hK]
  have H := Lib.hid (show LimQ w K N k ws (.returned (.slice sa n cap)) w from ⟨_, n, rfl, by rw [hL]; exact h, Below.refl _ _⟩)
  clear h h0 hL
  rcases hK with rfl | rfl
  · go_enter Try.func11, Try.ntmps11
    go_wp2
    go_ret
    exact H.out
  · go_enter Try.func11, Try.ntmps11
    go_wp2
    go_ret
    exact H.out

set_option maxRecDepth 100000 in
set_option maxHeartbeats 2000000 in
theorem lim46_3 (w : World) (N k : Int) (v : Value) (ws : List Nat) (h0 : askE 3 N k ws = 0) :
    Calls Try.prog 11 #[.int .i64 3, .int .i64 N, .int .i64 k, v] w (LimQ w 3 N k ws) := by
  have hE : askE 3 N k ws = resChk N 0 := by simp [askE]
  rw [hE] at h0
  obtain ⟨a, b, c, d⟩ := resChk_zero.1 h0
  obtain ⟨M, rfl⟩ : ∃ M : Nat, N = (M : Int) := ⟨N.toNat, by omega⟩
  have hL : askL 3 M k ws = limH M := by
    simp only [askL, hE, h0]
    simp
    rfl
  have C := Lib.hid (rlim40_any w M (by omega))
  have HL := Lib.hid hL
  clear hE h0 a b c d hL
  go_enter Try.func11, Try.ntmps11
  go_wp2_with fail
  refine C.out.mono ?_
  rintro e w1 ⟨sl, cl, rfl, ho, hb⟩
  have H := Lib.hid (show LimQ w 3 M k ws (.returned (.slice sl (M - 1) cl)) w1 from ⟨_, M - 1, rfl, by rw [HL.out]; exact rd_of_row ho, hb⟩)
  clear ho hb
  go_wp2_with fail
  go_ret
  exact H.out

set_option maxRecDepth 100000 in
set_option maxHeartbeats 2000000 in
theorem lim46_4 (w : World) (N k : Int) (v : Value) (ws : List Nat) (h0 : askE 4 N k ws = 0) :
    Calls Try.prog 11 #[.int .i64 4, .int .i64 N, .int .i64 k, v] w (LimQ w 4 N k ws) := by
  have hE : askE 4 N k ws = resChk N k := by simp [askE]
  rw [hE] at h0
  obtain ⟨a, b, c, d⟩ := resChk_zero.1 h0
  obtain ⟨M, rfl⟩ : ∃ M : Nat, N = (M : Int) := ⟨N.toNat, by omega⟩
  obtain ⟨m, rfl⟩ : ∃ m : Nat, k = (m : Int) := ⟨k.toNat, by omega⟩
  have hL : askL 4 M m ws = limS M m := by
    simp only [askL, hE, h0]
    simp
    rfl
  have C := Lib.hid (rlim41_any w M m (by omega) (by omega))
  have HL := Lib.hid hL
  clear hE h0 a b c d hL
  go_enter Try.func11, Try.ntmps11
  go_wp2_with fail
  refine C.out.mono ?_
  rintro e w1 ⟨sl, cl, rfl, ho, hb⟩
  have H := Lib.hid (show LimQ w 4 M m ws (.returned (.slice sl m cl)) w1 from ⟨_, m, rfl, by rw [HL.out]; exact rd_of_row ho, hb⟩)
  clear ho hb
  go_wp2_with fail
  go_ret
  exact H.out

theorem limR_up (n k : Nat) : limR n k = upL (k + 1) (n - k) := by
  refine List.ext_getElem (by rw [limR_len, upL_len]) fun i h1 h2 => ?_
  rw [limR_len] at h1
  simp only [limR, upL, List.getElem_map, List.getElem_range]
  omega

set_option maxRecDepth 100000 in
set_option maxHeartbeats 2000000 in
theorem lim46_5 (w : World) (N k : Int) (v : Value) (ws : List Nat) (h0 : askE 5 N k ws = 0) :
    Calls Try.prog 11 #[.int .i64 5, .int .i64 N, .int .i64 k, v] w (LimQ w 5 N k ws) := by
  have hE : askE 5 N k ws = resChk N k := by simp [askE]
  rw [hE] at h0
  obtain ⟨a, b, c, d⟩ := resChk_zero.1 h0
  obtain ⟨M, rfl⟩ : ∃ M : Nat, N = (M : Int) := ⟨N.toNat, by omega⟩
  obtain ⟨m, rfl⟩ : ∃ m : Nat, k = (m : Int) := ⟨k.toNat, by omega⟩
  have hL : askL 5 M m ws = limR M m := by
    rw [limR_up]
    simp only [askL, hE, h0]
    simp
  have C := Lib.hid (rlim42_any w M m (by omega) (by omega))
  have HL := Lib.hid hL
  clear hE h0 a b c d hL
  go_enter Try.func11, Try.ntmps11
  go_wp2_with fail
  refine C.out.mono ?_
  rintro e w1 ⟨sl, cl, rfl, ho, hb⟩
  have H := Lib.hid (show LimQ w 5 M m ws (.returned (.slice sl (M - m) cl)) w1 from ⟨_, M - m, rfl, by rw [HL.out]; exact rd_of_row ho, hb⟩)
  clear ho hb
  go_wp2_with fail
  go_ret
  exact H.out

end Go.Proofs.Ytcoohepkmhpdkaa
