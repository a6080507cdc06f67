/-
  The document's Limits of every ask that may be; the law's check of an ask.
-/
import Derived.Test.YtcoohepkmhpdkaaGreatSmp6
import Derived.Test.YtcoohepkmhpdkaaGreatR43
import Derived.Laws.EntriesVeiled
namespace Go.Proofs.YtcoohepkmhpdkaaGreat
open Go.RowKit
set_option linter.unusedVariables false
set_option linter.unusedSimpArgs false

set_option maxRecDepth 100000 in
set_option maxHeartbeats 2000000 in
theorem chk_law (w : World) (K N k : Int) (sa : Option Addr) (n cap : Nat) (ws : List Nat) (h : Rd w 1 (.slice sa n cap) n (u64s (zsN ws))) (hw : W64 ws) :
    Calls Tryz.prog 8 #[.agg #[.int .i64 K, .int .i64 N, .int .i64 k, .slice sa n cap]] w fun e w' => e = .returned (.int .i64 (askE K N k ws)) ∧ Below w.heap.size w w' := by
  have C := Lib.hid (fun w1 (hb : Below w.heap.size w w1) => chk46_any w1 K N k sa n cap ws (h.below hb) hw)
  obtain ⟨E, hE⟩ : ∃ E, E = askE K N k ws := ⟨_, rfl⟩
  rw [← hE]
  have HE := Lib.hid hE
  clear h hw hE
  go_enter Tryz.func8, Tryz.ntmps8
  go_wp2_with fail
  refine (C.out _ ((Below.refl _ _).alloc (Nat.le_refl _) _)).mono ?_
  rintro e w1 ⟨rfl, rfl⟩
  go_wp2_with fail
  go_ret
  exact ⟨ret_int HE.out.symm, (Below.refl _ _).alloc (Nat.le_refl _) _⟩

end Go.Proofs.YtcoohepkmhpdkaaGreat
