/-
  Whether draws are alike: the reference's Same.
-/
import Derived.Test.YtkgmobneipdpeaaRRow
import Derived.Laws.StructEq
namespace Go.Proofs.Ytkgmobneipdpeaa
open Go.RowKit
set_option linter.unusedVariables false

set_option maxRecDepth 100000 in
theorem neq_dw (w : World) (a1 a2 a3 b1 b2 b3 : Int) : (binOp .neq 92 (.agg #[.int .u64 a1, .int .u64 a2, .int .i64 a3]) (.agg #[.int .u64 b1, .int .u64 b2, .int .i64 b3])).run Try.prog w = .ok (.bool (!(a1 == b1 && (a2 == b2 && a3 == b3)))) w := by
  have hf : (Try.prog.fieldsOf 92).toList = [{ name := "N", type := 55, offset := 0, embedded := false, tag := "", pkgPath := "", byteOffset := 0 },
        { name := "Rank", type := 55, offset := 1, embedded := false, tag := "", pkgPath := "", byteOffset := 8 },
        { name := "Used", type := 3, offset := 2, embedded := false, tag := "", pkgPath := "", byteOffset := 16 }] := by kernel_rfl
  have hu : Try.prog.underlying 92 = some (.struct (Try.prog.fieldsOf 92)) := by kernel_rfl
  have hp : Try.prog.stoodInHeld 92 = false := by kernel_rfl
  have p0 : ∀ (x y z : Value), (part 55 #[x, y, z] 0).run Try.prog w = .ok x w := fun _ _ _ => by kernel_rfl
  have p1 : ∀ (x y z : Value), (part 55 #[x, y, z] 1).run Try.prog w = .ok y w := fun _ _ _ => by kernel_rfl
  have p2 : ∀ (x y z : Value), (part 3 #[x, y, z] 2).run Try.prog w = .ok z w := fun _ _ _ => by kernel_rfl
  have e55 : ∀ (d : Nat) (x y : Int), (Op.equalIn (d + 1) 55 (.int .u64 x) (.int .u64 y)).run Try.prog w = .ok (x == y) w := fun d x y => run_equalIn_int w d 55 .u64 .u64 x y Try.underlying55
  have e3 : ∀ (d : Nat) (x y : Int), (Op.equalIn (d + 1) 3 (.int .i64 x) (.int .i64 y)).run Try.prog w = .ok (x == y) w := fun d x y => run_equalIn_int w d 3 .i64 .i64 x y Try.underlying3
  rw [run_neq_struct, show (10000 : Nat) = 9999 + 1 from rfl, run_equalIn_agg w 9999 92 _ _ hu hp, hf]
  simp only [Op.eqFields]
  rw [show (9999 : Nat) = 9998 + 1 from rfl]
  simp [Sem.run_bind, p0, p1, p2, e55, e3]
  cases h1 : (a1 == b1) <;> cases h2 : (a2 == b2) <;> cases h3 : (a3 == b3) <;> simp_all

theorem guard_dw (op : BinOp) (w : World) (x y : Operand) (xs ys : Array Value) : (eqGuard op 92 x y (.agg xs) (.agg ys)).run Try.prog w = .ok () w :=
  run_eqGuard_agg w op 92 x y xs ys (by kernel_rfl)

def dwEq (a b : List Drw) : Bool := decide (a = b)
theorem dwEq_len {a b : List Drw} (h : a.length ≠ b.length) : dwEq a b = false := by
  simp only [dwEq, decide_eq_false_iff_not]; rintro rfl; exact h rfl
theorem dwEq_all {a b : List Drw} (h : a.length = b.length) (hk : ∀ j, j < a.length → a.getD j dwZ = b.getD j dwZ) : dwEq a b = true := by
  simp only [dwEq, decide_eq_true_eq]
  refine List.ext_getElem h fun j h1 h2 => ?_
  have := hk j h1
  simpa [List.getD, List.getElem?_eq_getElem h1, List.getElem?_eq_getElem h2] using this
theorem dwEq_not {a b : List Drw} (k : Nat) (hk : a.getD k dwZ ≠ b.getD k dwZ) : dwEq a b = false := by
  simp only [dwEq, decide_eq_false_iff_not]; rintro rfl; exact hk rfl
theorem dwEq_self (a : List Drw) : dwEq a a = true := by simp [dwEq]

set_option maxRecDepth 100000 in
set_option maxHeartbeats 2000000 in
theorem rsame_any (w : World) (va vb : Value) (a b : List Drw) (na nb : Nat) (ha : Rd w 3 va na (dwC a)) (hb : Rd w 3 vb nb (dwC b)) (la : na < 50000) (lb : nb < 50000) :
    Calls Try.prog 21 #[va, vb] w fun e w' => e = .returned (.bool (dwEq a b)) ∧ ∃ n, w' = w.drewN n := by
  obtain rfl : na = a.length := by have := ha.1; rw [dwC_len] at this; omega
  obtain rfl : nb = b.length := by have := hb.1; rw [dwC_len] at this; omega
  obtain ⟨sa, ca, rfl⟩ := ha.form
  obtain ⟨sb, cb, rfl⟩ := hb.form
  have hgd := guard_dw
  by_cases hl : a.length = b.length
  · have hne : ((a.length : Int) != (b.length : Int)) = false := by simp [hl]
    have HA := Lib.hid ha; have HB := Lib.hid hb; have HL := Lib.hid hl
    clear ha hb hl
    go_enter Try.func21, Try.ntmps21
    go_wp2
    go_loopw [13] (fun i wr => ∃ k n : Nat, k ≤ a.length ∧ i = .int .i64 k ∧ wr = w.drewN n ∧ Hid (∀ j, j < k → a.getD j dwZ = b.getD j dwZ)) (fun i _ => a.length - (intOf i).toNat)
    case atStart => exact ⟨0, 0, Nat.zero_le _, rfl, rfl, fun j hj => by omega⟩
    case round =>
      obtain ⟨k, n, hk, rfl, rfl, HK⟩ := hrel
      by_cases hlt : k < a.length
      · obtain ⟨b1, o1, rfl, hc1⟩ := HA.out.at (by omega)
        obtain ⟨b2, o2, rfl, hc2⟩ := HB.out.at (by have := HL.out; omega)
        have x1 := dwC_at a k hlt
        have x2 := dwC_at b k (by have := HL.out; omega)
        have y1 := hc1 _ _ x1.1
        have y2 := hc1 _ _ x1.2.1
        have y3 := hc1 _ _ x1.2.2
        have z1 := hc2 _ _ x2.1
        have z2 := hc2 _ _ x2.2.1
        have z3 := hc2 _ _ x2.2.2
        rw [← Nat.add_assoc] at y2 y3 z2 z3
        have hkb : (k : Int) < (b.length : Int) := by have := HL.out; omega
        have hka : (k : Int) < (a.length : Int) := by omega
        have hk0 : (0 : Int) ≤ (k : Int) := by omega
        generalize hxa : a.getD k dwZ = xa at *
        generalize hxb : b.getD k dwZ = xb at *
        have HXA := Lib.hid hxa; have HXB := Lib.hid hxb
        clear hc1 hc2 hxa hxb x1 x2
        obtain ⟨p1, p2, p3⟩ := xa
        obtain ⟨r1, r2, r3⟩ := xb
        simp only at y1 y2 y3 z1 z2 z3
        by_cases hx : (p1, p2, p3) = (r1, r2, r3)
        · have HX := Lib.hid hx
          obtain ⟨rfl, rfl, rfl⟩ : p1 = r1 ∧ p2 = r2 ∧ p3 = r3 := by simpa using hx
          have hnq : ∀ w, (binOp .neq 92 (.agg #[.int .u64 (p1 : Int), .int .u64 (p2 : Int), .int .i64 (p3 : Int)]) (.agg #[.int .u64 (p1 : Int), .int .u64 (p2 : Int), .int .i64 (p3 : Int)])).run Try.prog w = .ok (.bool false) w := fun w => by
            rw [neq_dw]; simp
          clear hx
          go_wp2
          go_quiet (fail)
          go_wp2
          go_roundw
          case rel =>
            refine ⟨k + 1, _, by omega, by go_num, by rfl, fun j hj => ?_⟩
            by_cases hjk : j = k
            · subst hjk; rw [HXA.out, HXB.out]
            · exact HK.out j (by omega)
          case measure => simp [intOf]; omega
        · have HX := Lib.hid hx
          have hnq : ∀ w, (binOp .neq 92 (.agg #[.int .u64 (p1 : Int), .int .u64 (p2 : Int), .int .i64 (p3 : Int)]) (.agg #[.int .u64 (r1 : Int), .int .u64 (r2 : Int), .int .i64 (r3 : Int)])).run Try.prog w = .ok (.bool true) w := fun w => by
            rw [neq_dw]
            have : ((p1 : Int) == (r1 : Int) && ((p2 : Int) == (r2 : Int) && (p3 : Int) == (r3 : Int))) = false := by
              rw [Bool.eq_false_iff]
              intro h
              simp only [Bool.and_eq_true, beq_iff_eq] at h
              exact hx (by rw [show p1 = r1 by omega, show p2 = r2 by omega, show p3 = r3 by omega])
            rw [this]; rfl
          clear hx
          go_wp2
          go_quiet (fail)
          go_wp2
          go_ret
          exact ⟨ret_bool (dwEq_not k (by rw [HXA.out, HXB.out]; exact HX.out)).symm, n + nq, by simp⟩
      · go_wp2
        go_ret
        exact ⟨ret_bool (dwEq_all HL.out (fun j hj => HK.out j (by omega))).symm, _, rfl⟩
  · have hne : ((a.length : Int) != (b.length : Int)) = true := by simp; omega
    have HL := Lib.hid hl
    clear hl
    go_enter Try.func21, Try.ntmps21
    go_wp2
    go_ret
    exact ⟨ret_bool (dwEq_len HL.out).symm, 0, rfl⟩

end Go.Proofs.Ytkgmobneipdpeaa
