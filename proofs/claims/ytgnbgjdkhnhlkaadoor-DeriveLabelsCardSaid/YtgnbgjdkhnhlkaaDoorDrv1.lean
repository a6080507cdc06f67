/-
  Labels: derive.fits, derive.Label, the document's Label.
-/
import Derived.Test.YtgnbgjdkhnhlkaaDoorSipA
import Derived.Lib.ConvBytes
import Derived.Lib.IndexBytes
import Derived.Lib.Strings
namespace Go.Proofs.YtgnbgjdkhnhlkaaDoor
open Go.RowKit
set_option linter.unusedVariables false
set_option linter.unusedSimpArgs false

/-- a string's bytes -/
def bsN (s : ByteArray) : List Nat := s.data.toList.map UInt8.toNat
theorem bsN_len (s : ByteArray) : (bsN s).length = s.size := by
  show (s.data.toList.map UInt8.toNat).length = s.data.size
  rw [List.length_map, Array.length_toList]
theorem bsN_get (s : ByteArray) {j : Nat} (h : j < s.size) : (bsN s)[j]? = some s[j].toNat := by
  simp only [bsN, List.getElem?_map, Lib.data_getElem? s j h, Option.map_some]
theorem byt_bsN (s : ByteArray) : Byt (bsN s) := by
  intro b hb
  obtain ⟨x, -, rfl⟩ := List.mem_map.1 hb
  exact x.toNat_lt
theorem bsN_mem {s : ByteArray} {x : Nat} (h : x ∈ bsN s) : ∃ j, ∃ h : j < s.size, x = s[j].toNat := by
  obtain ⟨j, hj, rfl⟩ := List.mem_iff_getElem.1 h
  have h2 : j < s.size := by rw [bsN_len] at hj; exact hj
  refine ⟨j, h2, ?_⟩
  have := bsN_get s h2
  rw [List.getElem?_eq_getElem hj] at this
  exact Option.some.inj this
theorem bsN_nil {s : ByteArray} : s.toList.isEmpty = true ↔ s.size = 0 := by
  rw [Lib.toList_data, List.isEmpty_iff, Lib.size_eq, List.length_eq_zero_iff]

theorem labE_ok {s : ByteArray} (h0 : s.size ≠ 0) (h64 : s.size ≤ 64) (h : ∀ j (hj : j < s.size), labC s[j].toNat = true) : labE (bsN s) = 0 := by
  unfold labE
  rw [if_neg (by rw [bsN_len]; exact h0), if_neg (by rw [bsN_len]; omega), if_pos]
  rw [List.all_eq_true]
  intro x hx
  obtain ⟨j, hj, rfl⟩ := bsN_mem hx
  exact h j hj
theorem labE_bad {s : ByteArray} (h0 : s.size ≠ 0) (h64 : s.size ≤ 64) {j : Nat} (hj : j < s.size) (h : labC s[j].toNat = false) : labE (bsN s) = 5 := by
  unfold labE
  rw [if_neg (by rw [bsN_len]; exact h0), if_neg (by rw [bsN_len]; omega), if_neg]
  intro hall
  rw [List.all_eq_true] at hall
  have := hall s[j].toNat (List.mem_iff_getElem?.2 ⟨j, bsN_get s hj⟩)
  rw [h] at this; cases this

set_option maxRecDepth 100000 in
set_option maxHeartbeats 2000000 in
theorem fits_any (c : Nat) (hc : c < 256) (w : World) :
    Calls Tryd.prog 21 #[.int .i32 (c : Int)] w fun e w' => e = .returned (.bool (labC c)) ∧ w' = w := by
  go_enter Tryd.func21, Tryd.ntmps21
  go_wp2
  all_goals go_ret
  all_goals refine ⟨ret_bool ?_, rfl⟩
  all_goals (rw [Bool.eq_iff_iff]; simp [labC]; try omega)

set_option maxRecDepth 100000 in
set_option maxHeartbeats 2000000 in
theorem reflabel_any (s : ByteArray) (w : World) :
    Calls Tryd.prog 14 #[.string s] w fun e w' => e = .returned (.int .i64 (labE (bsN s) : Nat)) ∧ w' = w := by
  by_cases h0 : s.size = 0
  · have hE : labE (bsN s) = 3 := by unfold labE; rw [if_pos (by rw [bsN_len]; exact h0)]
    rw [hE]
    have g0 : ((s.size : Int) == 0) = true := by rw [beq_iff_eq]; omega
    go_enter Tryd.func14, Tryd.ntmps14
    go_wp2
    go_ret
    exact ⟨rfl, rfl⟩
  have g0 : ((s.size : Int) == 0) = false := by rw [beq_eq_false_iff_ne]; omega
  by_cases h64 : 64 < s.size
  · have hE : labE (bsN s) = 4 := by unfold labE; rw [if_neg (by rw [bsN_len]; exact h0), if_pos (by rw [bsN_len]; exact h64)]
    rw [hE]
    have g1 : decide ((64 : Int) < (s.size : Int)) = true := decide_eq_true (by omega)
    go_enter Tryd.func14, Tryd.ntmps14
    go_wp2
    go_ret
    exact ⟨rfl, rfl⟩
  have g1 : decide ((64 : Int) < (s.size : Int)) = false := decide_eq_false (by omega)
  have hok := fun h => labE_ok (s := s) h0 (by omega) h
  have hbad := fun j hj h => labE_bad (s := s) h0 (by omega) (j := j) hj h
  obtain ⟨E, hE⟩ : ∃ E, E = labE (bsN s) := ⟨_, rfl⟩
  rw [← hE] at hok hbad ⊢
  have HOK := Lib.hid hok; have HBAD := Lib.hid hbad
  clear hok hbad hE
  go_enter Tryd.func14, Tryd.ntmps14
  go_wp2
  go_loop [3] (fun i => ∃ j : Nat, j ≤ s.size ∧ i = .int .i64 (j : Int) ∧ Hid (∀ t (ht : t < s.size), t < j → labC s[t].toNat = true)) (fun i => s.size - (intOf i).toNat)
  case atStart => exact ⟨0, Nat.zero_le _, rfl, Lib.hid fun t _ h => absurd h (Nat.not_lt_zero _)⟩
  case round =>
    obtain ⟨j, hj, rfl, HA⟩ := hrel
    by_cases hlt : j < s.size
    · have hstep : labC s[j].toNat = true → ∀ t (ht : t < s.size), t < j + 1 → labC s[t].toNat = true := fun h t ht h1 => by
        by_cases e : t = j
        · subst e; exact h
        · exact HA.out t ht (by omega)
      have hfail := HBAD.out j hlt
      obtain ⟨c, hc⟩ : ∃ c, s[j].toNat = c := ⟨_, rfl⟩
      rw [hc] at hstep hfail
      have HST := Lib.hid hstep; have HF := Lib.hid hfail
      clear hstep hfail HOK HBAD
      cases hb : labC c with
      | true =>
        have hcc : (97 ≤ c ∧ c ≤ 122) ∨ (48 ≤ c ∧ c ≤ 57) ∨ c = 45 ∨ c = 95 := by
          simp [labC] at hb; omega
        go_wp2
        all_goals first
          | (exfalso; simp only [bne_iff_ne, bne_eq_false_iff_eq, ne_eq] at *; omega)
          | (go_round
             case rel => exact ⟨j + 1, by omega, by go_num, Lib.hid (HST.out hb)⟩
             case measure => simp [intOf]; omega)
      | false =>
        have hcc : ¬ ((97 ≤ c ∧ c ≤ 122) ∨ (48 ≤ c ∧ c ≤ 57) ∨ c = 45 ∨ c = 95) := by
          simp [labC] at hb; omega
        go_wp2
        all_goals first
          | (exfalso; simp only [bne_iff_ne, bne_eq_false_iff_eq, ne_eq] at *; omega)
          | (go_ret; rw [HF.out hb]; exact ⟨rfl, rfl⟩)
    · have hall := HOK.out fun t ht => HA.out t ht (by omega)
      obtain rfl := hall
      go_wp2
      go_ret
      exact ⟨rfl, rfl⟩

set_option maxRecDepth 100000 in
set_option maxHeartbeats 2000000 in
theorem label_any (s : ByteArray) (w : World) :
    Calls Tryd.prog 15 #[.string s] w fun e w' => e = .returned (.int .i64 (labE (bsN s) : Nat)) ∧ w' = w := by
  by_cases h0 : s.size = 0
  · have hE : labE (bsN s) = 3 := by unfold labE; rw [if_pos (by rw [bsN_len]; exact h0)]
    rw [hE]
    have g0 := bsN_nil.2 h0
    go_enter Tryd.func15, Tryd.ntmps15
    go_wp2
    go_ret
    exact ⟨rfl, rfl⟩
  have g0 : s.toList.isEmpty = false := by
    rw [Bool.eq_false_iff]; intro h; exact h0 (bsN_nil.1 h)
  by_cases h64 : 64 < s.size
  · have hE : labE (bsN s) = 4 := by unfold labE; rw [if_neg (by rw [bsN_len]; exact h0), if_pos (by rw [bsN_len]; exact h64)]
    rw [hE]
    have g1 : decide ((64 : Int) < (s.size : Int)) = true := decide_eq_true (by omega)
    go_enter Tryd.func15, Tryd.ntmps15
    go_wp2
    go_ret
    exact ⟨rfl, rfl⟩
  have g1 : decide ((64 : Int) < (s.size : Int)) = false := decide_eq_false (by omega)
  have hok := fun h => labE_ok (s := s) h0 (by omega) h
  have hbad := fun j hj h => labE_bad (s := s) h0 (by omega) (j := j) hj h
  obtain ⟨E, hE⟩ : ∃ E, E = labE (bsN s) := ⟨_, rfl⟩
  rw [← hE] at hok hbad ⊢
  have HOK := Lib.hid hok; have HBAD := Lib.hid hbad
  clear hok hbad hE
  go_enter Tryd.func15, Tryd.ntmps15
  go_wp2
  go_loop [13] (fun i => ∃ j : Nat, j ≤ s.size ∧ i = .int .i64 (j : Int) ∧ Hid (∀ t (ht : t < s.size), t < j → labC s[t].toNat = true)) (fun i => s.size - (intOf i).toNat)
  case atStart => exact ⟨0, Nat.zero_le _, rfl, Lib.hid fun t _ h => absurd h (Nat.not_lt_zero _)⟩
  case round =>
    obtain ⟨j, hj, rfl, HA⟩ := hrel
    by_cases hlt : j < s.size
    · have hstep : labC s[j].toNat = true → ∀ t (ht : t < s.size), t < j + 1 → labC s[t].toNat = true := fun h t ht h1 => by
        by_cases e : t = j
        · subst e; exact h
        · exact HA.out t ht (by omega)
      have hfail := HBAD.out j hlt
      have hlt256 : s[j].toNat < 256 := s[j].toNat_lt
      obtain ⟨c, hc⟩ : ∃ c, s[j].toNat = c := ⟨_, rfl⟩
      rw [hc] at hstep hfail hlt256
      have C := fun W => fits_any c hlt256 W
      have hwr : IntKind.i32.wrap (c : Int) = (c : Int) := by rw [IntKind.wrap_i32]; omega
      have HST := Lib.hid hstep; have HF := Lib.hid hfail; have HC := Lib.hid C
      clear hstep hfail HOK HBAD C
      cases hb : labC c with
      | true =>
        have H2 := HC.out w
        rw [hb] at H2
        have HN := HST.out hb
        have HN := Lib.hid HN
        clear hb HC HF HST
        go_wp2_with fail
        refine H2.mono ?_
        rintro e w' ⟨rfl, rfl⟩
        go_wp2_with fail
        go_round
        case rel => exact ⟨j + 1, by omega, by go_num, HN⟩
        case measure => simp [intOf]; omega
      | false =>
        have H2 := HC.out w
        rw [hb] at H2
        have hE5 := HF.out hb
        clear hb HC HF HST
        subst hE5
        go_wp2_with fail
        refine H2.mono ?_
        rintro e w' ⟨rfl, rfl⟩
        go_wp2_with fail
        go_ret
        exact ⟨rfl, rfl⟩
    · have hall := HOK.out fun t ht => HA.out t ht (by omega)
      obtain rfl := hall
      go_wp2_with fail
      go_ret
      exact ⟨rfl, rfl⟩

end Go.Proofs.YtgnbgjdkhnhlkaaDoor
