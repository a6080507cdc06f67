/-
  slices.Sort at few distinct words.
-/
import Derived.Test.YtamjhblhkabpaaaSo6
namespace Go.Proofs.Ytamjhblhkabpaaa
open Go.RowKit
set_option linter.unusedVariables false
set_option linter.unusedSimpArgs false

theorem bitLen_few : ∀ n : Nat, 0 < n → n ≤ 16 → n ≤ 12 + Lib.bitLen n ∧ Lib.bitLen n ≤ 64 := by
  have h : ∀ n : Nat, n < 17 → n ≤ 12 + Lib.bitLen n ∧ Lib.bitLen n ≤ 64 := by decide
  exact fun n h0 h1 => h n (by omega)

set_option maxRecDepth 100000 in
set_option maxHeartbeats 4000000 in
theorem sortU_any (w : World) (g n cap : Nat) (L : List Int) (h : RowU w g n cap L) (hnd : L.Nodup) (hn : 0 < n) (h16 : n ≤ 16) :
    Calls Try.prog 21 #[.slice (some ⟨g, 0, none⟩) n cap] w fun e w' => e = .returned (.tuple #[]) ∧ ∃ L', L'.Perm L ∧ L'.Pairwise (· < ·) ∧ RowU w' g n cap L' ∧ Chg (fun k => k = g) w w' := by
  obtain ⟨lim, hlim⟩ : ∃ lim, lim = Lib.bitLen n := ⟨_, rfl⟩
  have hf := bitLen_few n hn h16
  rw [← hlim] at hf
  have hLen : ∀ W, Calls Try.prog 26 #[.int .u64 (n : Int)] W fun e w' => e = .returned (.int .i64 (lim : Int)) ∧ w' = W := fun W => by
    have := Try.bits_Len (n : Int) W (by omega) (by omega)
    rwa [Int.toNat_natCast, ← hlim] at this
  have HLEN := Lib.hid hLen
  have HP := Lib.hid (pdqU_any w g n cap lim L h hnd hn h16 hf.1 hf.2)
  have hln := (h.ptr hn).1
  have HN := Lib.hid hln
  clear hLen h hnd hlim hf hln
  go_enter Try.func21, Try.ntmps21
  go_wp2_with fail
  refine (HLEN.out _).mono ?_
  rintro e w1 ⟨rfl, rfl⟩
  go_wp2_with fail
  refine HP.out.mono ?_
  rintro e w2 ⟨rfl, L2, h1, h2, h3, h4⟩
  have H1 := Lib.hid h1; have H2 := Lib.hid h2; have H3 := Lib.hid h3; have H4 := Lib.hid h4
  clear h1 h2 h3 h4
  go_wp2_with fail
  go_end0
  have hl2 : L2.length = n := by have := H1.out.len; have := HN.out; omega
  exact ⟨rfl, L2, H1.out.perm, rise_sorted (by rw [hl2]; exact H2.out), H3.out, H4.out⟩

set_option maxRecDepth 100000 in
set_option maxHeartbeats 4000000 in
theorem ins0_any (w : World) : Calls Try.prog 27 #[.slice none 0 0, .int .i64 0, .int .i64 0] w fun e w' => e = .returned (.tuple #[]) ∧ w = w' := by
  go_enter Try.func27, Try.ntmps27
  go_wp2_with fail
  go_loopw [6, 7] (fun i _ wr => i = .int .i64 1 ∧ Hid (w = wr)) (fun _ _ _ => 0)
  case atStart => exact ⟨rfl, rfl⟩
  case round =>
    obtain ⟨rfl, hw⟩ := hrel
    obtain rfl := hw.out
    clear hw
    go_wp2_with fail
    go_end0
    exact ⟨rfl, rfl⟩
set_option maxRecDepth 100000 in
set_option maxHeartbeats 4000000 in
theorem pdq0_any (w : World) (lim : Int) : Calls Try.prog 25 #[.slice none 0 0, .int .i64 0, .int .i64 0, .int .i64 lim] w fun e w' => e = .returned (.tuple #[]) ∧ w = w' := by
  go_enter Try.func25, Try.ntmps25
  go_wp2_with fail
  go_loopw [1, 2, 3, 8, 9, 10, 11, 12, 13, 14, 15, 16, 17, 18] (fun sa sb sl s8 s9 _ _ _ _ _ _ _ _ _ wx => sa = .int .i64 0 ∧ sb = .int .i64 0 ∧ sl = .int .i64 lim ∧ s8 = .bool true ∧ s9 = .bool true ∧ Hid (w = wx)) (fun _ _ _ _ _ _ _ _ _ _ _ _ _ _ _ => 0)
  case atStart => exact ⟨rfl, rfl, rfl, rfl, rfl, rfl⟩
  case round =>
    obtain ⟨rfl, rfl, rfl, rfl, rfl, hw⟩ := hrel
    obtain rfl := hw.out
    clear hw
    go_wp2_with fail
    refine (ins0_any _).mono ?_
    rintro e w2 ⟨rfl, rfl⟩
    go_wp2_with fail
    refine bodyPost_ret (results_none rfl _ _ _) rfl ?_
    exact ⟨rfl, rfl⟩
set_option maxRecDepth 100000 in
set_option maxHeartbeats 4000000 in
theorem sort0_any (w : World) : Calls Try.prog 21 #[.slice none 0 0] w fun e w' => e = .returned (.tuple #[]) ∧ w = w' := by
  have HLEN := Lib.hid (fun W => Try.bits_Len 0 W (by omega) (by omega))
  go_enter Try.func21, Try.ntmps21
  go_wp2_with fail
  refine (HLEN.out _).mono ?_
  rintro e w1 ⟨rfl, rfl⟩
  go_wp2_with fail
  refine (pdq0_any _ _).mono ?_
  rintro e w2 ⟨rfl, rfl⟩
  go_wp2_with fail
  go_end0
  exact ⟨rfl, rfl⟩

end Go.Proofs.Ytamjhblhkabpaaa
