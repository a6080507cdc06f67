/-
  The program's and the references' reservoirs: what they answer, by the plain functions of Plain.
-/
import Derived.Test.YtnnaijbdimdhpaaBs
namespace Go.Proofs.Ytnnaijbdimdhpaa
open Go.RowKit
set_option linter.unusedVariables false

/-- A function of the program with a body is entered. -/
theorem enters {P : Program} {F : Nat} {fn : Func} (h : P.funcs[F]? = some fn) (h1 : (fn.name == "runtime.NumGoroutine") = false) (h2 : fn.body.isNone = false) (args : Array Value) (w : World) :
    (callFunc F args).run P w = .ok (.enter F args) w := by
  have h1' : ¬ fn.name = "runtime.NumGoroutine" := by simpa using h1
  have h2' : ¬ fn.body = none := by intro hx; rw [hx] at h2; cases h2
  simp [callFunc, h, h1', h2']

set_option maxRecDepth 100000 in
set_option maxHeartbeats 1000000 in
theorem reschk_any (n k : Int) (w : World) : Calls Try.prog 103 #[.int .i64 n, .int .i64 k] w fun e w' => e = .returned (.int .i64 (resChk n k)) ∧ w = w' := by
  by_cases h1 : n < 0 ∨ k < 0 ∨ n < k
  · have hr : resChk n k = 1 := by unfold resChk; rw [if_pos h1]
    have HR := Lib.hid hr; clear hr
    by_cases a : n < 0
    · go_enter Try.func103, Try.ntmps103
      go_wp2
      go_ret
      exact ⟨ret_int HR.out.symm, rfl⟩
    · by_cases b : k < 0
      · go_enter Try.func103, Try.ntmps103
        go_wp2
        go_ret
        exact ⟨ret_int HR.out.symm, rfl⟩
      · have c : n < k := by omega
        go_enter Try.func103, Try.ntmps103
        go_wp2
        go_ret
        exact ⟨ret_int HR.out.symm, rfl⟩
  · have a : 0 ≤ n := by omega
    have b : 0 ≤ k := by omega
    have c : ¬ n < k := by omega
    by_cases d : 256 < n
    · have hr : resChk n k = 9 := by unfold resChk; rw [if_neg h1, if_pos d]
      have HR := Lib.hid hr; clear hr h1
      go_enter Try.func103, Try.ntmps103
      go_wp2
      go_ret
      exact ⟨ret_int HR.out.symm, rfl⟩
    · have hr : resChk n k = 0 := by unfold resChk; rw [if_neg h1, if_neg d]
      have HR := Lib.hid hr; clear hr h1
      go_enter Try.func103, Try.ntmps103
      go_wp2
      go_ret
      exact ⟨ret_int HR.out.symm, rfl⟩

theorem resRight_not {n k : Nat} {d : List Int} (i : Nat) (hi : i < d.length) (h : d.getD i 0 < 0 ∨ (k : Int) + i < d.getD i 0) : resRightB n k d = false := by
  rw [Bool.eq_false_iff, Ne, resRightB_iff]
  rintro ⟨_, h2⟩
  have := h2 i hi
  omega
theorem resRight_len {n k : Nat} {d : List Int} (h : d.length ≠ n - k) : resRightB n k d = false := by
  rw [Bool.eq_false_iff, Ne, resRightB_iff]
  rintro ⟨h1, _⟩
  exact h h1
theorem resRight_all {n k : Nat} {d : List Int} (h : d.length = n - k) (hk : ∀ j, j < d.length → 0 ≤ d.getD j 0 ∧ d.getD j 0 ≤ (k : Int) + j) : resRightB n k d = true := resRightB_iff.2 ⟨h, hk⟩

/-- what right tells -/
def rightE (n k : Nat) (d : List Int) : Int := if resRightB n k d then 0 else 2

set_option maxRecDepth 100000 in
set_option maxHeartbeats 1000000 in
/-- the program's right, where Check finds nothing -/
theorem right_any (w : World) (n k : Nat) (vd : Value) (nd : Nat) (d : List Int) (hr : Rd w 1 vd nd (i64s d)) (hk : k ≤ n) (hn : n ≤ 256) :
    Calls Try.prog 84 #[.int .i64 (n : Int), .int .i64 (k : Int), vd] w fun e w' => e = .returned (.int .i64 (rightE n k d)) ∧ w = w' := by
  obtain rfl := hr.len_i64
  have hm := hr.2.1
  unfold maxLen at hm
  obtain ⟨sa, ca, rfl⟩ := hr.form
  have hz : resChk (n : Int) (k : Int) = 0 := resChk_zero.2 (by omega)
  have HZ := Lib.hid hz; clear hz
  have HR := Lib.hid hr; clear hr
  by_cases hl : d.length = n - k
  · have q : ((d.length : Int) != (n : Int) - (k : Int)) = false := by simp; omega
    have HL := Lib.hid hl; clear hl
    go_enter Try.func84, Try.ntmps84
    go_wp2_with (go_at_call 103; refine (reschk_any _ _ _).mono ?_; rintro e w' ⟨rfl, rfl⟩; rw [HZ.out])
    go_loop [24] (fun i => ∃ j : Nat, j ≤ d.length ∧ i = .int .i64 j ∧ Hid (∀ t, t < j → 0 ≤ d.getD t 0 ∧ d.getD t 0 ≤ (k : Int) + t)) (fun i => d.length - (intOf i).toNat)
    case atStart => exact ⟨0, Nat.zero_le _, rfl, fun t ht => by omega⟩
    case round =>
      obtain ⟨j, hj, rfl, HJ⟩ := hrel
      by_cases hlt : j < d.length
      · obtain ⟨b, off, rfl, hc⟩ := HR.out.at (by omega)
        have cx := hc j _ (i64s_at d j hlt)
        have hjd : (j : Int) < 1000 := by have := HL.out; omega
        clear hc
        generalize hx : d.getD j 0 = x at *
        have HX := Lib.hid hx; clear hx
        by_cases h1 : x < 0
        · go_wp2
          go_ret
          exact ⟨ret_int (by unfold rightE; rw [resRight_not j hlt (by rw [HX.out]; omega)]; rfl), rfl⟩
        · by_cases h2 : (k : Int) + (j : Int) < x
          · go_wp2
            go_ret
            exact ⟨ret_int (by unfold rightE; rw [resRight_not j hlt (by rw [HX.out]; omega)]; rfl), rfl⟩
          · go_wp2
            go_round
            case rel =>
              refine ⟨j + 1, by omega, by go_num, fun t ht => ?_⟩
              by_cases htj : t = j
              · subst htj; rw [HX.out]; omega
              · exact HJ.out t (by omega)
            case measure => simp [intOf]; omega
      · go_wp2
        go_ret
        exact ⟨ret_int (by unfold rightE; rw [resRight_all HL.out (fun t ht => HJ.out t (by omega))]; rfl), rfl⟩
  · have q : ((d.length : Int) != (n : Int) - (k : Int)) = true := by simp; omega
    have HL := Lib.hid hl; clear hl
    go_enter Try.func84, Try.ntmps84
    go_wp2_with (go_at_call 103; refine (reschk_any _ _ _).mono ?_; rintro e w' ⟨rfl, rfl⟩; rw [HZ.out])
    go_ret
    exact ⟨ret_int (by unfold rightE; rw [resRight_len HL.out]; rfl), rfl⟩

set_option maxRecDepth 100000 in
set_option maxHeartbeats 1000000 in
/-- the program's right, where Check finds something -/
theorem right_bad (w : World) (n k : Int) (vd : Value) (sa : Option Addr) (nd ca : Nat) (hz : resChk n k ≠ 0) :
    Calls Try.prog 84 #[.int .i64 n, .int .i64 k, .slice sa nd ca] w fun e w' => e = .returned (.int .i64 (resChk n k)) ∧ w = w' := by
  have q : (resChk n k != 0) = true := by simp [hz]
  generalize hc : resChk n k = c at *
  have HC := Lib.hid hc; clear hc hz
  go_enter Try.func84, Try.ntmps84
  go_wp2_with (go_at_call 103; refine (reschk_any _ _ _).mono ?_; rintro e w' ⟨rfl, rfl⟩; rw [HC.out])
  go_ret
  exact ⟨rfl, rfl⟩

end Go.Proofs.Ytnnaijbdimdhpaa
