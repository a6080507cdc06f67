/-
  The document's Limits of every ask that may be; the law's check of an ask.
-/
import Derived.Test.YtcoohepkmhpdkaaSmp6
import Derived.Test.YtcoohepkmhpdkaaR43
import Derived.Laws.EntriesVeiled
namespace Go.Proofs.Ytcoohepkmhpdkaa
open Go.RowKit
set_option linter.unusedVariables false
set_option linter.unusedSimpArgs false

set_option maxRecDepth 100000 in
set_option maxHeartbeats 2000000 in
theorem lim46_6 (w : World) (N k : Int) (sa : Option Addr) (n cap : Nat) (ws : List Nat) (h : Rd w 1 (.slice sa n cap) n (u64s (zsN ws))) (h0 : askE 6 N k ws = 0) :
    Calls Try.prog 11 #[.int .i64 6, .int .i64 N, .int .i64 k, .slice sa n cap] w (LimQ w 6 N k ws) := by
  have hE : askE 6 N k ws = aliE ws := by simp [askE]
  rw [hE] at h0
  have hln : ws.length = n := by have := h.len_u64; rw [zsN_len] at this; exact this.symm
  obtain ⟨o1, o2, o3, o4⟩ := aliE_ok h0
  have hn : n ≤ 256 := by omega
  have hL : askL 6 N k ws = [n, ws.sum] := by
    simp only [askL, hE, h0, hln]
    simp
  have C := Lib.hid (build43_any w sa n cap ws h h0)
  have HL := Lib.hid hL
  obtain ⟨S, hS⟩ : ∃ S, S = ws.sum := ⟨_, rfl⟩
  have HS := Lib.hid hS
  have u1 : IntKind.u64.wrap (n : Int) = (n : Int) := by rw [IntKind.wrap_u64]; omega
  clear hE h0 hL hln o1 o2 o3 o4 h hS
  go_enter Try.func11, Try.ntmps11
  go_wp2_with fail
  refine C.out.mono ?_
  rintro e w1 ⟨bv, av, rfl, hb, ha, hbl⟩
  obtain ⟨sb, cb, rfl⟩ := (rd_of_row hb).form
  obtain ⟨sl, cl, rfl⟩ := (rd_of_row ha).form
  rw [← HS.out]
  have HBL := Lib.hid hbl
  clear hb ha hbl
  go_wp2_with fail
  go_ret
  refine ⟨_, 2, rfl, ?_, ((HBL.out.alloc HBL.out.size _).alloc (by have := HBL.out.size; simp; omega) _)⟩
  rw [HL.out, ← HS.out]
  exact rd_new _ #[.int .u64 (n : Int), .int .u64 (S : Int)] _ 2 1 rfl (by decide) _ 2 (by simp) (Nat.le_refl _)

theorem lim46_any (w : World) (K N k : Int) (sa : Option Addr) (n cap : Nat) (ws : List Nat) (h : Rd w 1 (.slice sa n cap) n (u64s (zsN ws))) (h0 : askE K N k ws = 0) :
    Calls Try.prog 11 #[.int .i64 K, .int .i64 N, .int .i64 k, .slice sa n cap] w (LimQ w K N k ws) := by
  by_cases h12 : K = 1 ∨ K = 2
  · exact lim46_12 w K N k h12 sa n cap ws h h0
  by_cases h3 : K = 3
  · subst h3; exact lim46_3 w N k _ ws h0
  by_cases h4 : K = 4
  · subst h4; exact lim46_4 w N k _ ws h0
  by_cases h5 : K = 5
  · subst h5; exact lim46_5 w N k _ ws h0
  by_cases h6 : K = 6
  · subst h6; exact lim46_6 w N k sa n cap ws h h0
  · exfalso
    simp [askE, h12, h3, h4, h5, h6] at h0

set_option maxRecDepth 100000 in
set_option maxHeartbeats 2000000 in
theorem chk_law (w : World) (K N k : Int) (sa : Option Addr) (n cap : Nat) (ws : List Nat) (h : Rd w 1 (.slice sa n cap) n (u64s (zsN ws))) (hw : W64 ws) :
    Calls Try.prog 6 #[.agg #[.int .i64 K, .int .i64 N, .int .i64 k, .slice sa n cap]] w fun e w' => e = .returned (.int .i64 (askE K N k ws)) ∧ Below w.heap.size w w' := by
  have C := Lib.hid (fun w1 (hb : Below w.heap.size w w1) => chk46_any w1 K N k sa n cap ws (h.below hb) hw)
  obtain ⟨E, hE⟩ : ∃ E, E = askE K N k ws := ⟨_, rfl⟩
  rw [← hE]
  have HE := Lib.hid hE
  clear h hw hE
  go_enter Try.func6, Try.ntmps6
  go_wp2_with fail
  refine (C.out _ ((Below.refl _ _).alloc (Nat.le_refl _) _)).mono ?_
  rintro e w1 ⟨rfl, rfl⟩
  go_wp2_with fail
  go_ret
  exact ⟨ret_int HE.out.symm, (Below.refl _ _).alloc (Nat.le_refl _) _⟩

end Go.Proofs.Ytcoohepkmhpdkaa
