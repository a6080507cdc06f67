/-
  Whether draws took as many words, with the same ranks: the reference's Ranks, of draws with other numbers.
-/
import Derived.Test.YtcoohepkmhpdkaaGreatAimPlain
namespace Go.Proofs.YtcoohepkmhpdkaaGreat
open Go.RowKit
set_option linter.unusedVariables false

theorem turnS_len : ∀ {ds : List Drw} {vs : List Nat}, vs.length = ds.length → (turnS ds vs).length = ds.length
  | [], [], _ => rfl
  | d :: ds, v :: vs, h => by simp [turnS, turnS_len (ds := ds) (vs := vs) (by simpa using h)]
  | [], v :: vs, h => by simp at h
  | d :: ds, [], h => by simp at h
theorem turnS_at : ∀ {ds : List Drw} {vs : List Nat}, vs.length = ds.length → ∀ i, i < ds.length → ((turnS ds vs).getD i dwZ).2.1 = (ds.getD i dwZ).2.1 ∧ ((turnS ds vs).getD i dwZ).2.2 = (ds.getD i dwZ).2.2
  | [], [], _, i, hi => by simp at hi
  | d :: ds, v :: vs, h, 0, _ => ⟨rfl, rfl⟩
  | d :: ds, v :: vs, h, i + 1, hi => by
    have := turnS_at (ds := ds) (vs := vs) (by simpa using h) i (by simpa using hi)
    simpa [turnS] using this
  | [], v :: vs, h, _, _ => by simp at h
  | d :: ds, [], h, _, _ => by simp at h

set_option maxRecDepth 100000 in
set_option maxHeartbeats 2000000 in
theorem ranks_any (w : World) (va vb : Value) (a b : List Drw) (na nb : Nat) (ha : Rd w 3 va na (dwC a)) (hb : Rd w 3 vb nb (dwC b)) (la : na < 50000) (hl : a.length = b.length)
    (hk : ∀ i, i < a.length → (a.getD i dwZ).2.1 = (b.getD i dwZ).2.1 ∧ (a.getD i dwZ).2.2 = (b.getD i dwZ).2.2) :
    Calls Tryz.prog 18 #[va, vb] w fun e w' => e = .returned (.bool true) ∧ ∃ n, w' = w.drewN n := by
  obtain rfl : na = a.length := by have := ha.1; rw [dwC_len] at this; omega
  obtain rfl : nb = b.length := by have := hb.1; rw [dwC_len] at this; omega
  obtain ⟨sa, ca, rfl⟩ := ha.form
  obtain ⟨sb, cb, rfl⟩ := hb.form
  have hne : ((a.length : Int) != (b.length : Int)) = false := by simp [hl]
  have HA := Lib.hid ha; have HB := Lib.hid hb; have HL := Lib.hid hl; have HK := Lib.hid hk
  clear ha hb hl hk
  go_enter Tryz.func18, Tryz.ntmps18
  go_wp2
  go_loopw [13] (fun i wr => ∃ k n : Nat, k ≤ a.length ∧ i = .int .i64 k ∧ wr = w.drewN n) (fun i _ => a.length - (intOf i).toNat)
  case atStart => exact ⟨0, 0, Nat.zero_le _, rfl, rfl⟩
  case round =>
    obtain ⟨k, n, hk, rfl, rfl⟩ := hrel
    by_cases hlt : k < a.length
    · obtain ⟨b1, o1, rfl, hc1⟩ := HA.out.at (by omega)
      obtain ⟨b2, o2, rfl, hc2⟩ := HB.out.at (by have := HL.out; omega)
      have x1 := dwC_at a k hlt
      have x2 := dwC_at b k (by have := HL.out; omega)
      have y2 := hc1 _ _ x1.2.1
      have y3 := hc1 _ _ x1.2.2
      have z2 := hc2 _ _ x2.2.1
      have z3 := hc2 _ _ x2.2.2
      obtain ⟨e1, e2⟩ := HK.out k hlt
      rw [e1] at y2
      rw [e2] at y3
      rw [← Nat.add_assoc] at y2 y3 z2 z3
      have hkb : (k : Int) < (b.length : Int) := by have := HL.out; omega
      have hka : (k : Int) < (a.length : Int) := by omega
      have hk0 : (0 : Int) ≤ (k : Int) := by omega
      generalize (b.getD k dwZ).2.1 = r at *
      generalize (b.getD k dwZ).2.2 = u at *
      have q1 : ((r : Int) != (r : Int)) = false := by simp
      have q2 : ((u : Int) != (u : Int)) = false := by simp
      clear hc1 hc2 x1 x2 e1 e2
      go_wp2
      go_quiet (fail)
      go_wp2
      go_roundw
      case rel => exact ⟨k + 1, _, by omega, by go_num, by rfl⟩
      case measure => simp [intOf]; omega
    · go_wp2
      go_ret
      exact ⟨rfl, _, rfl⟩

end Go.Proofs.YtcoohepkmhpdkaaGreat
