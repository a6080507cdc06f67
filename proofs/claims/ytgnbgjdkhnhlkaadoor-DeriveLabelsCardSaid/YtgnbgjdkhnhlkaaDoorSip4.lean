/-
  Bytes as a number: load.Tail, the document's Num.
-/
import Derived.Test.YtgnbgjdkhnhlkaaDoorSip1
namespace Go.Proofs.YtgnbgjdkhnhlkaaDoor
open Go.RowKit
set_option linter.unusedVariables false
set_option linter.unusedSimpArgs false

def u8s (l : List Nat) : List Value := l.map fun (x : Nat) => Value.int .u8 (x : Int)
theorem u8s_len (l : List Nat) : (u8s l).length = l.length := by simp [u8s]
theorem u8s_at (l : List Nat) (k : Nat) (h : k < l.length) : (u8s l)[k]? = some (.int .u8 (l.getD k 0 : Nat)) := by simp [u8s, List.getD, List.getElem?_eq_getElem h]
theorem u8s_drop (l : List Nat) (k : Nat) : u8s (l.drop k) = (u8s l).drop k := by simp [u8s]
theorem u8s_take (l : List Nat) (k : Nat) : u8s (l.take k) = (u8s l).take k := by simp [u8s]
theorem u8s_snoc (l : List Nat) (x : Nat) : u8s (l ++ [x]) = u8s l ++ [.int .u8 (x : Int)] := by simp [u8s]
theorem u8s_one {l : List Nat} : ∀ u ∈ u8s l, u.oneCell' = true := by
  intro u hu; obtain ⟨x, _, rfl⟩ := List.mem_map.1 hu; rfl
def Byt (l : List Nat) : Prop := ∀ b ∈ l, b < 256
theorem Rd.len_u8 {w : World} {v : Value} {n : Nat} {l : List Nat} (h : Rd w 1 v n (u8s l)) : n = l.length := by
  have := h.1
  rw [u8s_len] at this
  omega

theorem swrapN (a : Nat) (h : a < 18446744073709551616) : IntKind.u64.wrap (a : Int) = (a : Int) := by rw [IntKind.wrap_u64]; omega
theorem sor0 (b q : Nat) (hb : b * q < 18446744073709551616) : bits .or .u64 0 ((b : Int) * (q : Int)) = ((b * q : Nat) : Int) := by
  have h := bits_or_u64_nat 0 (b * q) (by omega) hb
  rw [← Int.natCast_mul]
  simpa using h

/-- a byte behind the higher ones -/
theorem or_step (a b q k : Nat) (hq : q = 2 ^ k) (hb : b < 256) (h : (b + 256 * a) * q < 18446744073709551616) :
    bits .or .u64 ((256 * a * q : Nat) : Int) ((b : Int) * (q : Int)) = (((b + 256 * a) * q : Nat) : Int) := by
  have hq0 : 0 < q := by rw [hq]; exact Nat.two_pow_pos _
  have h1 : b * q < 256 * q := Nat.mul_lt_mul_of_pos_right hb hq0
  have h2 : (b + 256 * a) * q = a * (256 * q) + b * q := by rw [Nat.add_mul, Nat.mul_comm 256 a, Nat.mul_assoc, Nat.add_comm]
  have h3 : 256 * a * q = a * (256 * q) := by rw [Nat.mul_comm 256 a, Nat.mul_assoc]
  rw [h2] at h
  rw [h2, h3, ← Int.natCast_mul]
  exact sorN (k + 8) (by rw [hq, Nat.pow_add, Nat.mul_comm]) h1 h
theorem or_last (a b : Nat) (hb : b < 256) (h : b + 256 * a < 18446744073709551616) :
    bits .or .u64 ((a * 256 : Nat) : Int) (b : Int) = ((b + 256 * a : Nat) : Int) := by
  have := or_step a b 1 0 rfl hb (by omega)
  rw [show ((1 : Nat) : Int) = 1 from rfl, Int.mul_one, Nat.mul_one, Nat.mul_one, Nat.mul_comm 256 a] at this
  rw [this, Nat.mul_comm a 256]

set_option maxRecDepth 100000 in
set_option maxHeartbeats 4000000 in
theorem tail_0 (s : Option Addr) (cap : Nat)   (w : World)  :
    Calls Tryd.prog 43 #[.slice s 0 cap] w fun e w' => e = .returned (.int .u64 (leN [] : Nat)) ∧ w' = w := by
  show Calls _ _ _ _ fun e w' => e = .returned (.int .u64 ((0 : Nat) : Int)) ∧ w' = w
  go_enter Tryd.func43, Tryd.ntmps43
  go_wp2
  go_ret
  exact ⟨rfl, rfl⟩

theorem tailN_1 (b0 : Nat) (h0 : b0 < 256) : bits .or .u64 (0) ((b0 : Int)) = ((leN [b0] : Nat) : Int) := by
  have a0 : b0 = b0 := rfl
  have := sor0 b0 1 (by omega)
  rw [show ((1 : Nat) : Int) = 1 from rfl, Int.mul_one, Nat.mul_one] at this
  rw [this]; simp [leN]

set_option maxRecDepth 100000 in
set_option maxHeartbeats 4000000 in
theorem tail_1 (b o cap : Nat) (b0 : Nat) (h0 : b0 < 256) (w : World) (c0 : w.cell? ⟨b, o, none⟩ = some (.int .u8 (b0 : Int))) :
    Calls Tryd.prog 43 #[.slice (some ⟨b, o, none⟩) 1 cap] w fun e w' => e = .returned (.int .u64 (leN [b0] : Nat)) ∧ w' = w := by
  have hres := tailN_1 b0 h0
  generalize leN [b0] = R at *
  have HR := Lib.hid hres; clear hres
  go_enter Tryd.func43, Tryd.ntmps43
  go_wp2
  go_ret
  exact ⟨ret_int HR.out, rfl⟩

theorem tailN_2 (b0 b1 : Nat) (h0 : b0 < 256) (h1 : b1 < 256) : bits .or .u64 (bits .or .u64 (0) ((b1 : Int) * 256)) ((b0 : Int)) = ((leN [b0, b1] : Nat) : Int) := by
  have a1 : b1 = b1 := rfl
  have e1 : bits .or .u64 0 ((b1 : Int) * 256) = ((b1 * 256 : Nat) : Int) := sor0 b1 256 (by omega)
  obtain ⟨A1, hA1⟩ : ∃ A, A = b1 := ⟨_, rfl⟩
  rw [← hA1] at e1
  have B1 : A1 < 256 := by omega
  obtain ⟨A0, hA0⟩ : ∃ A, A = b0 + 256 * A1 := ⟨_, rfl⟩
  have B0 : A0 < 65536 := by omega
  have e0 : bits .or .u64 ((A1 * 256 : Nat) : Int) (b0 : Int) = ((A0 : Nat) : Int) := by rw [hA0]; exact or_last A1 b0 h0 (by omega)
  have hr : leN [b0, b1] = A0 := by simp only [leN]; omega
  rw [hr, show (b1 : Int) = (A1 : Int) by omega, e1, e0]

set_option maxRecDepth 100000 in
set_option maxHeartbeats 4000000 in
theorem tail_2 (b o cap : Nat) (b0 b1 : Nat) (h0 : b0 < 256) (h1 : b1 < 256) (w : World) (c0 : w.cell? ⟨b, o, none⟩ = some (.int .u8 (b0 : Int))) (c1 : w.cell? ⟨b, o + 1, none⟩ = some (.int .u8 (b1 : Int))) :
    Calls Tryd.prog 43 #[.slice (some ⟨b, o, none⟩) 2 cap] w fun e w' => e = .returned (.int .u64 (leN [b0, b1] : Nat)) ∧ w' = w := by
  have hres := tailN_2 b0 b1 h0 h1
  generalize leN [b0, b1] = R at *
  have HR := Lib.hid hres; clear hres
  go_enter Tryd.func43, Tryd.ntmps43
  go_wp2
  go_ret
  exact ⟨ret_int HR.out, rfl⟩

theorem tailN_3 (b0 b1 b2 : Nat) (h0 : b0 < 256) (h1 : b1 < 256) (h2 : b2 < 256) : bits .or .u64 (bits .or .u64 (bits .or .u64 (0) ((b2 : Int) * 65536)) ((b1 : Int) * 256)) ((b0 : Int)) = ((leN [b0, b1, b2] : Nat) : Int) := by
  have a2 : b2 = b2 := rfl
  have e2 : bits .or .u64 0 ((b2 : Int) * 65536) = ((b2 * 65536 : Nat) : Int) := sor0 b2 65536 (by omega)
  obtain ⟨A2, hA2⟩ : ∃ A, A = b2 := ⟨_, rfl⟩
  rw [← hA2] at e2
  have B2 : A2 < 256 := by omega
  obtain ⟨A1, hA1⟩ : ∃ A, A = b1 + 256 * A2 := ⟨_, rfl⟩
  have B1 : A1 < 65536 := by omega
  have e1 : bits .or .u64 ((A2 * 65536 : Nat) : Int) ((b1 : Int) * 256) = ((A1 * 256 : Nat) : Int) := by
    have := or_step A2 b1 256 8 rfl h1 (by omega)
    rw [show A2 * 65536 = 256 * A2 * 256 by omega, hA1]; exact this
  obtain ⟨A0, hA0⟩ : ∃ A, A = b0 + 256 * A1 := ⟨_, rfl⟩
  have B0 : A0 < 16777216 := by omega
  have e0 : bits .or .u64 ((A1 * 256 : Nat) : Int) (b0 : Int) = ((A0 : Nat) : Int) := by rw [hA0]; exact or_last A1 b0 h0 (by omega)
  have hr : leN [b0, b1, b2] = A0 := by simp only [leN]; omega
  rw [hr, show (b2 : Int) = (A2 : Int) by omega, e2, e1, e0]

set_option maxRecDepth 100000 in
set_option maxHeartbeats 4000000 in
theorem tail_3 (b o cap : Nat) (b0 b1 b2 : Nat) (h0 : b0 < 256) (h1 : b1 < 256) (h2 : b2 < 256) (w : World) (c0 : w.cell? ⟨b, o, none⟩ = some (.int .u8 (b0 : Int))) (c1 : w.cell? ⟨b, o + 1, none⟩ = some (.int .u8 (b1 : Int))) (c2 : w.cell? ⟨b, o + 2, none⟩ = some (.int .u8 (b2 : Int))) :
    Calls Tryd.prog 43 #[.slice (some ⟨b, o, none⟩) 3 cap] w fun e w' => e = .returned (.int .u64 (leN [b0, b1, b2] : Nat)) ∧ w' = w := by
  have hres := tailN_3 b0 b1 b2 h0 h1 h2
  generalize leN [b0, b1, b2] = R at *
  have HR := Lib.hid hres; clear hres
  go_enter Tryd.func43, Tryd.ntmps43
  go_wp2
  go_ret
  exact ⟨ret_int HR.out, rfl⟩

theorem tailN_4 (b0 b1 b2 b3 : Nat) (h0 : b0 < 256) (h1 : b1 < 256) (h2 : b2 < 256) (h3 : b3 < 256) : bits .or .u64 (bits .or .u64 (bits .or .u64 (bits .or .u64 (0) ((b3 : Int) * 16777216)) ((b2 : Int) * 65536)) ((b1 : Int) * 256)) ((b0 : Int)) = ((leN [b0, b1, b2, b3] : Nat) : Int) := by
  have a3 : b3 = b3 := rfl
  have e3 : bits .or .u64 0 ((b3 : Int) * 16777216) = ((b3 * 16777216 : Nat) : Int) := sor0 b3 16777216 (by omega)
  obtain ⟨A3, hA3⟩ : ∃ A, A = b3 := ⟨_, rfl⟩
  rw [← hA3] at e3
  have B3 : A3 < 256 := by omega
  obtain ⟨A2, hA2⟩ : ∃ A, A = b2 + 256 * A3 := ⟨_, rfl⟩
  have B2 : A2 < 65536 := by omega
  have e2 : bits .or .u64 ((A3 * 16777216 : Nat) : Int) ((b2 : Int) * 65536) = ((A2 * 65536 : Nat) : Int) := by
    have := or_step A3 b2 65536 16 rfl h2 (by omega)
    rw [show A3 * 16777216 = 256 * A3 * 65536 by omega, hA2]; exact this
  obtain ⟨A1, hA1⟩ : ∃ A, A = b1 + 256 * A2 := ⟨_, rfl⟩
  have B1 : A1 < 16777216 := by omega
  have e1 : bits .or .u64 ((A2 * 65536 : Nat) : Int) ((b1 : Int) * 256) = ((A1 * 256 : Nat) : Int) := by
    have := or_step A2 b1 256 8 rfl h1 (by omega)
    rw [show A2 * 65536 = 256 * A2 * 256 by omega, hA1]; exact this
  obtain ⟨A0, hA0⟩ : ∃ A, A = b0 + 256 * A1 := ⟨_, rfl⟩
  have B0 : A0 < 4294967296 := by omega
  have e0 : bits .or .u64 ((A1 * 256 : Nat) : Int) (b0 : Int) = ((A0 : Nat) : Int) := by rw [hA0]; exact or_last A1 b0 h0 (by omega)
  have hr : leN [b0, b1, b2, b3] = A0 := by simp only [leN]; omega
  rw [hr, show (b3 : Int) = (A3 : Int) by omega, e3, e2, e1, e0]

set_option maxRecDepth 100000 in
set_option maxHeartbeats 4000000 in
theorem tail_4 (b o cap : Nat) (b0 b1 b2 b3 : Nat) (h0 : b0 < 256) (h1 : b1 < 256) (h2 : b2 < 256) (h3 : b3 < 256) (w : World) (c0 : w.cell? ⟨b, o, none⟩ = some (.int .u8 (b0 : Int))) (c1 : w.cell? ⟨b, o + 1, none⟩ = some (.int .u8 (b1 : Int))) (c2 : w.cell? ⟨b, o + 2, none⟩ = some (.int .u8 (b2 : Int))) (c3 : w.cell? ⟨b, o + 3, none⟩ = some (.int .u8 (b3 : Int))) :
    Calls Tryd.prog 43 #[.slice (some ⟨b, o, none⟩) 4 cap] w fun e w' => e = .returned (.int .u64 (leN [b0, b1, b2, b3] : Nat)) ∧ w' = w := by
  have hres := tailN_4 b0 b1 b2 b3 h0 h1 h2 h3
  generalize leN [b0, b1, b2, b3] = R at *
  have HR := Lib.hid hres; clear hres
  go_enter Tryd.func43, Tryd.ntmps43
  go_wp2
  go_ret
  exact ⟨ret_int HR.out, rfl⟩

theorem tailN_5 (b0 b1 b2 b3 b4 : Nat) (h0 : b0 < 256) (h1 : b1 < 256) (h2 : b2 < 256) (h3 : b3 < 256) (h4 : b4 < 256) : bits .or .u64 (bits .or .u64 (bits .or .u64 (bits .or .u64 (bits .or .u64 (0) ((b4 : Int) * 4294967296)) ((b3 : Int) * 16777216)) ((b2 : Int) * 65536)) ((b1 : Int) * 256)) ((b0 : Int)) = ((leN [b0, b1, b2, b3, b4] : Nat) : Int) := by
  have a4 : b4 = b4 := rfl
  have e4 : bits .or .u64 0 ((b4 : Int) * 4294967296) = ((b4 * 4294967296 : Nat) : Int) := sor0 b4 4294967296 (by omega)
  obtain ⟨A4, hA4⟩ : ∃ A, A = b4 := ⟨_, rfl⟩
  rw [← hA4] at e4
  have B4 : A4 < 256 := by omega
  obtain ⟨A3, hA3⟩ : ∃ A, A = b3 + 256 * A4 := ⟨_, rfl⟩
  have B3 : A3 < 65536 := by omega
  have e3 : bits .or .u64 ((A4 * 4294967296 : Nat) : Int) ((b3 : Int) * 16777216) = ((A3 * 16777216 : Nat) : Int) := by
    have := or_step A4 b3 16777216 24 rfl h3 (by omega)
    rw [show A4 * 4294967296 = 256 * A4 * 16777216 by omega, hA3]; exact this
  obtain ⟨A2, hA2⟩ : ∃ A, A = b2 + 256 * A3 := ⟨_, rfl⟩
  have B2 : A2 < 16777216 := by omega
  have e2 : bits .or .u64 ((A3 * 16777216 : Nat) : Int) ((b2 : Int) * 65536) = ((A2 * 65536 : Nat) : Int) := by
    have := or_step A3 b2 65536 16 rfl h2 (by omega)
    rw [show A3 * 16777216 = 256 * A3 * 65536 by omega, hA2]; exact this
  obtain ⟨A1, hA1⟩ : ∃ A, A = b1 + 256 * A2 := ⟨_, rfl⟩
  have B1 : A1 < 4294967296 := by omega
  have e1 : bits .or .u64 ((A2 * 65536 : Nat) : Int) ((b1 : Int) * 256) = ((A1 * 256 : Nat) : Int) := by
    have := or_step A2 b1 256 8 rfl h1 (by omega)
    rw [show A2 * 65536 = 256 * A2 * 256 by omega, hA1]; exact this
  obtain ⟨A0, hA0⟩ : ∃ A, A = b0 + 256 * A1 := ⟨_, rfl⟩
  have B0 : A0 < 1099511627776 := by omega
  have e0 : bits .or .u64 ((A1 * 256 : Nat) : Int) (b0 : Int) = ((A0 : Nat) : Int) := by rw [hA0]; exact or_last A1 b0 h0 (by omega)
  have hr : leN [b0, b1, b2, b3, b4] = A0 := by simp only [leN]; omega
  rw [hr, show (b4 : Int) = (A4 : Int) by omega, e4, e3, e2, e1, e0]

set_option maxRecDepth 100000 in
set_option maxHeartbeats 4000000 in
theorem tail_5 (b o cap : Nat) (b0 b1 b2 b3 b4 : Nat) (h0 : b0 < 256) (h1 : b1 < 256) (h2 : b2 < 256) (h3 : b3 < 256) (h4 : b4 < 256) (w : World) (c0 : w.cell? ⟨b, o, none⟩ = some (.int .u8 (b0 : Int))) (c1 : w.cell? ⟨b, o + 1, none⟩ = some (.int .u8 (b1 : Int))) (c2 : w.cell? ⟨b, o + 2, none⟩ = some (.int .u8 (b2 : Int))) (c3 : w.cell? ⟨b, o + 3, none⟩ = some (.int .u8 (b3 : Int))) (c4 : w.cell? ⟨b, o + 4, none⟩ = some (.int .u8 (b4 : Int))) :
    Calls Tryd.prog 43 #[.slice (some ⟨b, o, none⟩) 5 cap] w fun e w' => e = .returned (.int .u64 (leN [b0, b1, b2, b3, b4] : Nat)) ∧ w' = w := by
  have hres := tailN_5 b0 b1 b2 b3 b4 h0 h1 h2 h3 h4
  generalize leN [b0, b1, b2, b3, b4] = R at *
  have HR := Lib.hid hres; clear hres
  go_enter Tryd.func43, Tryd.ntmps43
  go_wp2
  go_ret
  exact ⟨ret_int HR.out, rfl⟩

theorem tailN_6 (b0 b1 b2 b3 b4 b5 : Nat) (h0 : b0 < 256) (h1 : b1 < 256) (h2 : b2 < 256) (h3 : b3 < 256) (h4 : b4 < 256) (h5 : b5 < 256) : bits .or .u64 (bits .or .u64 (bits .or .u64 (bits .or .u64 (bits .or .u64 (bits .or .u64 (0) ((b5 : Int) * 1099511627776)) ((b4 : Int) * 4294967296)) ((b3 : Int) * 16777216)) ((b2 : Int) * 65536)) ((b1 : Int) * 256)) ((b0 : Int)) = ((leN [b0, b1, b2, b3, b4, b5] : Nat) : Int) := by
  have a5 : b5 = b5 := rfl
  have e5 : bits .or .u64 0 ((b5 : Int) * 1099511627776) = ((b5 * 1099511627776 : Nat) : Int) := sor0 b5 1099511627776 (by omega)
  obtain ⟨A5, hA5⟩ : ∃ A, A = b5 := ⟨_, rfl⟩
  rw [← hA5] at e5
  have B5 : A5 < 256 := by omega
  obtain ⟨A4, hA4⟩ : ∃ A, A = b4 + 256 * A5 := ⟨_, rfl⟩
  have B4 : A4 < 65536 := by omega
  have e4 : bits .or .u64 ((A5 * 1099511627776 : Nat) : Int) ((b4 : Int) * 4294967296) = ((A4 * 4294967296 : Nat) : Int) := by
    have := or_step A5 b4 4294967296 32 rfl h4 (by omega)
    rw [show A5 * 1099511627776 = 256 * A5 * 4294967296 by omega, hA4]; exact this
  obtain ⟨A3, hA3⟩ : ∃ A, A = b3 + 256 * A4 := ⟨_, rfl⟩
  have B3 : A3 < 16777216 := by omega
  have e3 : bits .or .u64 ((A4 * 4294967296 : Nat) : Int) ((b3 : Int) * 16777216) = ((A3 * 16777216 : Nat) : Int) := by
    have := or_step A4 b3 16777216 24 rfl h3 (by omega)
    rw [show A4 * 4294967296 = 256 * A4 * 16777216 by omega, hA3]; exact this
  obtain ⟨A2, hA2⟩ : ∃ A, A = b2 + 256 * A3 := ⟨_, rfl⟩
  have B2 : A2 < 4294967296 := by omega
  have e2 : bits .or .u64 ((A3 * 16777216 : Nat) : Int) ((b2 : Int) * 65536) = ((A2 * 65536 : Nat) : Int) := by
    have := or_step A3 b2 65536 16 rfl h2 (by omega)
    rw [show A3 * 16777216 = 256 * A3 * 65536 by omega, hA2]; exact this
  obtain ⟨A1, hA1⟩ : ∃ A, A = b1 + 256 * A2 := ⟨_, rfl⟩
  have B1 : A1 < 1099511627776 := by omega
  have e1 : bits .or .u64 ((A2 * 65536 : Nat) : Int) ((b1 : Int) * 256) = ((A1 * 256 : Nat) : Int) := by
    have := or_step A2 b1 256 8 rfl h1 (by omega)
    rw [show A2 * 65536 = 256 * A2 * 256 by omega, hA1]; exact this
  obtain ⟨A0, hA0⟩ : ∃ A, A = b0 + 256 * A1 := ⟨_, rfl⟩
  have B0 : A0 < 281474976710656 := by omega
  have e0 : bits .or .u64 ((A1 * 256 : Nat) : Int) (b0 : Int) = ((A0 : Nat) : Int) := by rw [hA0]; exact or_last A1 b0 h0 (by omega)
  have hr : leN [b0, b1, b2, b3, b4, b5] = A0 := by simp only [leN]; omega
  rw [hr, show (b5 : Int) = (A5 : Int) by omega, e5, e4, e3, e2, e1, e0]

set_option maxRecDepth 100000 in
set_option maxHeartbeats 4000000 in
theorem tail_6 (b o cap : Nat) (b0 b1 b2 b3 b4 b5 : Nat) (h0 : b0 < 256) (h1 : b1 < 256) (h2 : b2 < 256) (h3 : b3 < 256) (h4 : b4 < 256) (h5 : b5 < 256) (w : World) (c0 : w.cell? ⟨b, o, none⟩ = some (.int .u8 (b0 : Int))) (c1 : w.cell? ⟨b, o + 1, none⟩ = some (.int .u8 (b1 : Int))) (c2 : w.cell? ⟨b, o + 2, none⟩ = some (.int .u8 (b2 : Int))) (c3 : w.cell? ⟨b, o + 3, none⟩ = some (.int .u8 (b3 : Int))) (c4 : w.cell? ⟨b, o + 4, none⟩ = some (.int .u8 (b4 : Int))) (c5 : w.cell? ⟨b, o + 5, none⟩ = some (.int .u8 (b5 : Int))) :
    Calls Tryd.prog 43 #[.slice (some ⟨b, o, none⟩) 6 cap] w fun e w' => e = .returned (.int .u64 (leN [b0, b1, b2, b3, b4, b5] : Nat)) ∧ w' = w := by
  have hres := tailN_6 b0 b1 b2 b3 b4 b5 h0 h1 h2 h3 h4 h5
  generalize leN [b0, b1, b2, b3, b4, b5] = R at *
  have HR := Lib.hid hres; clear hres
  go_enter Tryd.func43, Tryd.ntmps43
  go_wp2
  go_ret
  exact ⟨ret_int HR.out, rfl⟩

set_option maxHeartbeats 4000000 in
theorem tailN_7 (b0 b1 b2 b3 b4 b5 b6 : Nat) (h0 : b0 < 256) (h1 : b1 < 256) (h2 : b2 < 256) (h3 : b3 < 256) (h4 : b4 < 256) (h5 : b5 < 256) (h6 : b6 < 256) : bits .or .u64 (bits .or .u64 (bits .or .u64 (bits .or .u64 (bits .or .u64 (bits .or .u64 (bits .or .u64 (0) ((b6 : Int) * 281474976710656)) ((b5 : Int) * 1099511627776)) ((b4 : Int) * 4294967296)) ((b3 : Int) * 16777216)) ((b2 : Int) * 65536)) ((b1 : Int) * 256)) ((b0 : Int)) = ((leN [b0, b1, b2, b3, b4, b5, b6] : Nat) : Int) := by
  have a6 : b6 = b6 := rfl
  have e6 : bits .or .u64 0 ((b6 : Int) * 281474976710656) = ((b6 * 281474976710656 : Nat) : Int) := sor0 b6 281474976710656 (by omega)
  obtain ⟨A6, hA6⟩ : ∃ A, A = b6 := ⟨_, rfl⟩
  rw [← hA6] at e6
  have B6 : A6 < 256 := by omega
  obtain ⟨A5, hA5⟩ : ∃ A, A = b5 + 256 * A6 := ⟨_, rfl⟩
  have B5 : A5 < 65536 := by omega
  have e5 : bits .or .u64 ((A6 * 281474976710656 : Nat) : Int) ((b5 : Int) * 1099511627776) = ((A5 * 1099511627776 : Nat) : Int) := by
    have := or_step A6 b5 1099511627776 40 rfl h5 (by omega)
    rw [show A6 * 281474976710656 = 256 * A6 * 1099511627776 by omega, hA5]; exact this
  obtain ⟨A4, hA4⟩ : ∃ A, A = b4 + 256 * A5 := ⟨_, rfl⟩
  have B4 : A4 < 16777216 := by omega
  have e4 : bits .or .u64 ((A5 * 1099511627776 : Nat) : Int) ((b4 : Int) * 4294967296) = ((A4 * 4294967296 : Nat) : Int) := by
    have := or_step A5 b4 4294967296 32 rfl h4 (by omega)
    rw [show A5 * 1099511627776 = 256 * A5 * 4294967296 by omega, hA4]; exact this
  obtain ⟨A3, hA3⟩ : ∃ A, A = b3 + 256 * A4 := ⟨_, rfl⟩
  have B3 : A3 < 4294967296 := by omega
  have e3 : bits .or .u64 ((A4 * 4294967296 : Nat) : Int) ((b3 : Int) * 16777216) = ((A3 * 16777216 : Nat) : Int) := by
    have := or_step A4 b3 16777216 24 rfl h3 (by omega)
    rw [show A4 * 4294967296 = 256 * A4 * 16777216 by omega, hA3]; exact this
  obtain ⟨A2, hA2⟩ : ∃ A, A = b2 + 256 * A3 := ⟨_, rfl⟩
  have B2 : A2 < 1099511627776 := by omega
  have e2 : bits .or .u64 ((A3 * 16777216 : Nat) : Int) ((b2 : Int) * 65536) = ((A2 * 65536 : Nat) : Int) := by
    have := or_step A3 b2 65536 16 rfl h2 (by omega)
    rw [show A3 * 16777216 = 256 * A3 * 65536 by omega, hA2]; exact this
  obtain ⟨A1, hA1⟩ : ∃ A, A = b1 + 256 * A2 := ⟨_, rfl⟩
  have B1 : A1 < 281474976710656 := by omega
  have e1 : bits .or .u64 ((A2 * 65536 : Nat) : Int) ((b1 : Int) * 256) = ((A1 * 256 : Nat) : Int) := by
    have := or_step A2 b1 256 8 rfl h1 (by omega)
    rw [show A2 * 65536 = 256 * A2 * 256 by omega, hA1]; exact this
  obtain ⟨A0, hA0⟩ : ∃ A, A = b0 + 256 * A1 := ⟨_, rfl⟩
  have B0 : A0 < 72057594037927936 := by omega
  have e0 : bits .or .u64 ((A1 * 256 : Nat) : Int) (b0 : Int) = ((A0 : Nat) : Int) := by rw [hA0]; exact or_last A1 b0 h0 (by omega)
  have hr : leN [b0, b1, b2, b3, b4, b5, b6] = A0 := by simp only [leN]; omega
  rw [hr, show (b6 : Int) = (A6 : Int) by omega, e6, e5, e4, e3, e2, e1, e0]

set_option maxRecDepth 100000 in
set_option maxHeartbeats 4000000 in
theorem tail_7 (b o cap : Nat) (b0 b1 b2 b3 b4 b5 b6 : Nat) (h0 : b0 < 256) (h1 : b1 < 256) (h2 : b2 < 256) (h3 : b3 < 256) (h4 : b4 < 256) (h5 : b5 < 256) (h6 : b6 < 256) (w : World) (c0 : w.cell? ⟨b, o, none⟩ = some (.int .u8 (b0 : Int))) (c1 : w.cell? ⟨b, o + 1, none⟩ = some (.int .u8 (b1 : Int))) (c2 : w.cell? ⟨b, o + 2, none⟩ = some (.int .u8 (b2 : Int))) (c3 : w.cell? ⟨b, o + 3, none⟩ = some (.int .u8 (b3 : Int))) (c4 : w.cell? ⟨b, o + 4, none⟩ = some (.int .u8 (b4 : Int))) (c5 : w.cell? ⟨b, o + 5, none⟩ = some (.int .u8 (b5 : Int))) (c6 : w.cell? ⟨b, o + 6, none⟩ = some (.int .u8 (b6 : Int))) :
    Calls Tryd.prog 43 #[.slice (some ⟨b, o, none⟩) 7 cap] w fun e w' => e = .returned (.int .u64 (leN [b0, b1, b2, b3, b4, b5, b6] : Nat)) ∧ w' = w := by
  have hres := tailN_7 b0 b1 b2 b3 b4 b5 b6 h0 h1 h2 h3 h4 h5 h6
  generalize leN [b0, b1, b2, b3, b4, b5, b6] = R at *
  have HR := Lib.hid hres; clear hres
  go_enter Tryd.func43, Tryd.ntmps43
  go_wp2
  go_ret
  exact ⟨ret_int HR.out, rfl⟩

set_option maxHeartbeats 4000000 in
theorem tailN_8 (b0 b1 b2 b3 b4 b5 b6 b7 : Nat) (h0 : b0 < 256) (h1 : b1 < 256) (h2 : b2 < 256) (h3 : b3 < 256) (h4 : b4 < 256) (h5 : b5 < 256) (h6 : b6 < 256) (h7 : b7 < 256) : bits .or .u64 (bits .or .u64 (bits .or .u64 (bits .or .u64 (bits .or .u64 (bits .or .u64 (bits .or .u64 (bits .or .u64 (0) ((b7 : Int) * 72057594037927936)) ((b6 : Int) * 281474976710656)) ((b5 : Int) * 1099511627776)) ((b4 : Int) * 4294967296)) ((b3 : Int) * 16777216)) ((b2 : Int) * 65536)) ((b1 : Int) * 256)) ((b0 : Int)) = ((leN [b0, b1, b2, b3, b4, b5, b6, b7] : Nat) : Int) := by
  have a7 : b7 = b7 := rfl
  have e7 : bits .or .u64 0 ((b7 : Int) * 72057594037927936) = ((b7 * 72057594037927936 : Nat) : Int) := sor0 b7 72057594037927936 (by omega)
  obtain ⟨A7, hA7⟩ : ∃ A, A = b7 := ⟨_, rfl⟩
  rw [← hA7] at e7
  have B7 : A7 < 256 := by omega
  obtain ⟨A6, hA6⟩ : ∃ A, A = b6 + 256 * A7 := ⟨_, rfl⟩
  have B6 : A6 < 65536 := by omega
  have e6 : bits .or .u64 ((A7 * 72057594037927936 : Nat) : Int) ((b6 : Int) * 281474976710656) = ((A6 * 281474976710656 : Nat) : Int) := by
    have := or_step A7 b6 281474976710656 48 rfl h6 (by omega)
    rw [show A7 * 72057594037927936 = 256 * A7 * 281474976710656 by omega, hA6]; exact this
  obtain ⟨A5, hA5⟩ : ∃ A, A = b5 + 256 * A6 := ⟨_, rfl⟩
  have B5 : A5 < 16777216 := by omega
  have e5 : bits .or .u64 ((A6 * 281474976710656 : Nat) : Int) ((b5 : Int) * 1099511627776) = ((A5 * 1099511627776 : Nat) : Int) := by
    have := or_step A6 b5 1099511627776 40 rfl h5 (by omega)
    rw [show A6 * 281474976710656 = 256 * A6 * 1099511627776 by omega, hA5]; exact this
  obtain ⟨A4, hA4⟩ : ∃ A, A = b4 + 256 * A5 := ⟨_, rfl⟩
  have B4 : A4 < 4294967296 := by omega
  have e4 : bits .or .u64 ((A5 * 1099511627776 : Nat) : Int) ((b4 : Int) * 4294967296) = ((A4 * 4294967296 : Nat) : Int) := by
    have := or_step A5 b4 4294967296 32 rfl h4 (by omega)
    rw [show A5 * 1099511627776 = 256 * A5 * 4294967296 by omega, hA4]; exact this
  obtain ⟨A3, hA3⟩ : ∃ A, A = b3 + 256 * A4 := ⟨_, rfl⟩
  have B3 : A3 < 1099511627776 := by omega
  have e3 : bits .or .u64 ((A4 * 4294967296 : Nat) : Int) ((b3 : Int) * 16777216) = ((A3 * 16777216 : Nat) : Int) := by
    have := or_step A4 b3 16777216 24 rfl h3 (by omega)
    rw [show A4 * 4294967296 = 256 * A4 * 16777216 by omega, hA3]; exact this
  obtain ⟨A2, hA2⟩ : ∃ A, A = b2 + 256 * A3 := ⟨_, rfl⟩
  have B2 : A2 < 281474976710656 := by omega
  have e2 : bits .or .u64 ((A3 * 16777216 : Nat) : Int) ((b2 : Int) * 65536) = ((A2 * 65536 : Nat) : Int) := by
    have := or_step A3 b2 65536 16 rfl h2 (by omega)
    rw [show A3 * 16777216 = 256 * A3 * 65536 by omega, hA2]; exact this
  obtain ⟨A1, hA1⟩ : ∃ A, A = b1 + 256 * A2 := ⟨_, rfl⟩
  have B1 : A1 < 72057594037927936 := by omega
  have e1 : bits .or .u64 ((A2 * 65536 : Nat) : Int) ((b1 : Int) * 256) = ((A1 * 256 : Nat) : Int) := by
    have := or_step A2 b1 256 8 rfl h1 (by omega)
    rw [show A2 * 65536 = 256 * A2 * 256 by omega, hA1]; exact this
  obtain ⟨A0, hA0⟩ : ∃ A, A = b0 + 256 * A1 := ⟨_, rfl⟩
  have B0 : A0 < 18446744073709551616 := by omega
  have e0 : bits .or .u64 ((A1 * 256 : Nat) : Int) (b0 : Int) = ((A0 : Nat) : Int) := by rw [hA0]; exact or_last A1 b0 h0 (by omega)
  have hr : leN [b0, b1, b2, b3, b4, b5, b6, b7] = A0 := by simp only [leN]; omega
  rw [hr, show (b7 : Int) = (A7 : Int) by omega, e7, e6, e5, e4, e3, e2, e1, e0]

set_option maxRecDepth 100000 in
set_option maxHeartbeats 4000000 in
theorem tail_8 (b o cap : Nat) (b0 b1 b2 b3 b4 b5 b6 b7 : Nat) (h0 : b0 < 256) (h1 : b1 < 256) (h2 : b2 < 256) (h3 : b3 < 256) (h4 : b4 < 256) (h5 : b5 < 256) (h6 : b6 < 256) (h7 : b7 < 256) (w : World) (c0 : w.cell? ⟨b, o, none⟩ = some (.int .u8 (b0 : Int))) (c1 : w.cell? ⟨b, o + 1, none⟩ = some (.int .u8 (b1 : Int))) (c2 : w.cell? ⟨b, o + 2, none⟩ = some (.int .u8 (b2 : Int))) (c3 : w.cell? ⟨b, o + 3, none⟩ = some (.int .u8 (b3 : Int))) (c4 : w.cell? ⟨b, o + 4, none⟩ = some (.int .u8 (b4 : Int))) (c5 : w.cell? ⟨b, o + 5, none⟩ = some (.int .u8 (b5 : Int))) (c6 : w.cell? ⟨b, o + 6, none⟩ = some (.int .u8 (b6 : Int))) (c7 : w.cell? ⟨b, o + 7, none⟩ = some (.int .u8 (b7 : Int))) :
    Calls Tryd.prog 43 #[.slice (some ⟨b, o, none⟩) 8 cap] w fun e w' => e = .returned (.int .u64 (leN [b0, b1, b2, b3, b4, b5, b6, b7] : Nat)) ∧ w' = w := by
  have hres := tailN_8 b0 b1 b2 b3 b4 b5 b6 b7 h0 h1 h2 h3 h4 h5 h6 h7
  generalize leN [b0, b1, b2, b3, b4, b5, b6, b7] = R at *
  have HR := Lib.hid hres; clear hres
  go_enter Tryd.func43, Tryd.ntmps43
  go_wp2
  go_ret
  exact ⟨ret_int HR.out, rfl⟩

set_option maxRecDepth 100000 in
set_option maxHeartbeats 4000000 in
theorem tail_9 (b o cap n : Nat) (hn : 8 < n) (b0 b1 b2 b3 b4 b5 b6 b7 : Nat) (h0 : b0 < 256) (h1 : b1 < 256) (h2 : b2 < 256) (h3 : b3 < 256) (h4 : b4 < 256) (h5 : b5 < 256) (h6 : b6 < 256) (h7 : b7 < 256) (w : World) (c0 : w.cell? ⟨b, o, none⟩ = some (.int .u8 (b0 : Int))) (c1 : w.cell? ⟨b, o + 1, none⟩ = some (.int .u8 (b1 : Int))) (c2 : w.cell? ⟨b, o + 2, none⟩ = some (.int .u8 (b2 : Int))) (c3 : w.cell? ⟨b, o + 3, none⟩ = some (.int .u8 (b3 : Int))) (c4 : w.cell? ⟨b, o + 4, none⟩ = some (.int .u8 (b4 : Int))) (c5 : w.cell? ⟨b, o + 5, none⟩ = some (.int .u8 (b5 : Int))) (c6 : w.cell? ⟨b, o + 6, none⟩ = some (.int .u8 (b6 : Int))) (c7 : w.cell? ⟨b, o + 7, none⟩ = some (.int .u8 (b7 : Int))) :
    Calls Tryd.prog 43 #[.slice (some ⟨b, o, none⟩) (n : Nat) cap] w fun e w' => e = .returned (.int .u64 (leN [b0, b1, b2, b3, b4, b5, b6, b7] : Nat)) ∧ w' = w := by
  have hres := tailN_8 b0 b1 b2 b3 b4 b5 b6 b7 h0 h1 h2 h3 h4 h5 h6 h7
  generalize leN [b0, b1, b2, b3, b4, b5, b6, b7] = R at *
  have HR := Lib.hid hres; clear hres
  have hmin : (8 : Int) < (n : Int) := by omega
  go_enter Tryd.func43, Tryd.ntmps43
  go_wp2
  go_ret
  exact ⟨ret_int HR.out, rfl⟩

end Go.Proofs.YtgnbgjdkhnhlkaaDoor
