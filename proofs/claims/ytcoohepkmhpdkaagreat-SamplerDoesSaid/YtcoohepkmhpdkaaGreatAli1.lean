/-
  alias.Build's inner functions; the reference's find, total and Check.
-/
import Derived.Test.YtcoohepkmhpdkaaGreatPl
import Derived.Test.YtcoohepkmhpdkaaGreatDraw
import Derived.Test.YtcoohepkmhpdkaaGreatRes
import Derived.Test.YtcoohepkmhpdkaaGreatBs
import Derived.Deep.CutBlock
import Derived.Deep.DeepCutAuto
import Derived.Deep.RegionHeld3
namespace Go.Proofs.YtcoohepkmhpdkaaGreat
open Go.RowKit
set_option linter.unusedVariables false
set_option linter.unusedSimpArgs false

def bools (l : List Bool) : List Value := l.map Value.bool
theorem bools_len (l : List Bool) : (bools l).length = l.length := by simp [bools]
theorem bools_at (l : List Bool) (k : Nat) (h : k < l.length) : (bools l)[k]? = some (.bool (l.getD k true)) := by simp [bools, List.getD, List.getElem?_eq_getElem h]
theorem bools_set (l : List Bool) (k : Nat) (b : Bool) : bools (l.set k b) = (bools l).set k (.bool b) := by simp [bools, List.map_set]

/-- an index, or -1 -/
def ixA (o : Option Nat) : Int := match o with | some j => (j : Int) | none => -1
theorem ixA_some (j : Nat) : ixA (some j) = (j : Int) := rfl
theorem ixA_none : ixA none = -1 := rfl

theorem ent_ali2 (args : Array Value) (w : World) : (callFunc 133 args).run Tryz.prog w = .ok (.enter 133 args) w :=
  enters Tryz.func133 (by kernel_rfl) (by kernel_rfl) args w
theorem ent_ali3 (args : Array Value) (w : World) : (callFunc 134 args).run Tryz.prog w = .ok (.enter 134 args) w :=
  enters Tryz.func134 (by kernel_rfl) (by kernel_rfl) args w
theorem ent_ali1 (args : Array Value) (w : World) : (callFunc 132 args).run Tryz.prog w = .ok (.enter 132 args) w :=
  enters Tryz.func132 (by kernel_rfl) (by kernel_rfl) args w

theorem ali2_any (w : World) (x T bt : Nat) (hc : w.cell? ⟨bt, 0, none⟩ = some (.int .u64 (T : Int))) :
    Calls Tryz.prog 133 #[.int .u64 (x : Int), .pointer (some ⟨bt, 0, none⟩)] w fun e w' => e = .returned (.bool (decide (x < T))) ∧ w = w' := by
  go_enter Tryz.func133, Tryz.ntmps133
  go_wp2
  go_ret
  exact ⟨ret_bool (by simp), rfl⟩
theorem ali3_any (w : World) (x T bt : Nat) (hc : w.cell? ⟨bt, 0, none⟩ = some (.int .u64 (T : Int))) :
    Calls Tryz.prog 134 #[.int .u64 (x : Int), .pointer (some ⟨bt, 0, none⟩)] w fun e w' => e = .returned (.bool (decide (T < x))) ∧ w = w' := by
  go_enter Tryz.func134, Tryz.ntmps134
  go_wp2
  go_ret
  exact ⟨ret_bool (by simp), rfl⟩

set_option maxRecDepth 100000 in
set_option maxHeartbeats 2000000 in
theorem ali1_any (w : World) (F bt bh bd hb db n ch cd : Nat) (p : Nat → Bool) (s : StA)
    (hF : ∀ args w, (callFunc F args).run Tryz.prog w = .ok (.enter F args) w) (hp : ∀ x : Nat, Calls Tryz.prog F #[.int .u64 (x : Int), .pointer (some ⟨bt, 0, none⟩)] w fun e w' => e = .returned (.bool (p x)) ∧ w = w')
    (hH : w.cell? ⟨bh, 0, none⟩ = some (.slice (some ⟨hb, 0, none⟩) n ch)) (hD : w.cell? ⟨bd, 0, none⟩ = some (.slice (some ⟨db, 0, none⟩) n cd))
    (lh : s.has.length = n) (ld : s.dn.length = n) (hn : n ≤ 256)
    (ch0 : ∀ i u, (u64s (zsN s.has))[i]? = some u → w.cell? ⟨hb, i, none⟩ = some u) (cd0 : ∀ i u, (bools s.dn)[i]? = some u → w.cell? ⟨db, i, none⟩ = some u) :
    Calls Tryz.prog 132 #[.func (.func F) #[] #[.pointer (some ⟨bt, 0, none⟩)], .pointer (some ⟨bh, 0, none⟩), .pointer (some ⟨bd, 0, none⟩)] w fun e w' =>
      e = .returned (.int .i64 (ixA (fstFrom (hitA p s) s.dn.length))) ∧ w = w' := by
  have HP := Lib.hid hp; have CH := Lib.hid ch0; have CD := Lib.hid cd0; have LH := Lib.hid lh; have LD := Lib.hid ld
  clear hp ch0 cd0 lh ld
  go_enter Tryz.func132, Tryz.ntmps132
  go_wp2
  go_loop [9] (fun i => ∃ k : Nat, k ≤ n ∧ i = .int .i64 (k : Int) ∧ Hid (∀ t, t < k → hitA p s t = false)) (fun i => n - (intOf i).toNat)
  case atStart => exact ⟨0, Nat.zero_le _, rfl, Lib.hid fun t ht => by omega⟩
  case round =>
    obtain ⟨k, hk, rfl, HI⟩ := hrel
    by_cases hlt : k < n
    · have x1 := CH.out k _ (u64s_at (zsN s.has) k (by rw [zsN_len, LH.out]; exact hlt))
      have x2 := CD.out k _ (bools_at s.dn k (by rw [LD.out]; exact hlt))
      rw [zsN_get] at x1
      have hhit : hitA p s k = (!(s.dn.getD k true) && p (s.has.getD k 0)) := rfl
      generalize s.has.getD k 0 = x at *
      cases hd : s.dn.getD k true with
      | true =>
        rw [hd] at x2 hhit
        have HN := Lib.hid (show ∀ t, t < k + 1 → hitA p s t = false from fun t ht => by
          by_cases h : t = k
          · rw [h, hhit]; rfl
          · exact HI.out t (by omega))
        clear hd hhit
        go_wp2
        go_round
        case rel => exact ⟨k + 1, by omega, by go_num, HN⟩
        case measure => simp [intOf]; omega
      | false =>
        rw [hd] at x2 hhit
        have C := HP.out x
        cases hpx : p x with
        | true =>
          rw [hpx] at C hhit
          have HX := Lib.hid hhit; have HC := Lib.hid C
          clear hd hhit hpx C
          go_wp2_with fail
          refine HC.out.mono ?_
          rintro e w' ⟨rfl, rfl⟩
          go_wp2_with fail
          go_ret
          refine ⟨ret_int ?_, rfl⟩
          rw [fst_at (by rw [LD.out]; exact hlt) (by rw [HX.out]; rfl) HI.out]
          rfl
        | false =>
          rw [hpx] at C hhit
          have HN := Lib.hid (show ∀ t, t < k + 1 → hitA p s t = false from fun t ht => by
            by_cases h : t = k
            · rw [h, hhit]; rfl
            · exact HI.out t (by omega))
          have HC := Lib.hid C
          clear hd hhit hpx C
          go_wp2_with fail
          refine HC.out.mono ?_
          rintro e w' ⟨rfl, rfl⟩
          go_wp2_with fail
          go_round
          case rel => exact ⟨k + 1, by omega, by go_num, HN⟩
          case measure => simp [intOf]; omega
    · obtain rfl : k = n := by omega
      go_wp2
      go_ret
      refine ⟨ret_int ?_, rfl⟩
      rw [fst_no (by rw [LD.out]; exact HI.out)]
      rfl

end Go.Proofs.YtcoohepkmhpdkaaGreat
