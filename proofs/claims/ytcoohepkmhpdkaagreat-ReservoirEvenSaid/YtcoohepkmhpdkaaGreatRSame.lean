/-
  Whether draws are alike: the reference's Same.
-/
import Derived.Test.YtcoohepkmhpdkaaGreatRRow
import Derived.Laws.StructEq
namespace Go.Proofs.YtcoohepkmhpdkaaGreat
open Go.RowKit
set_option linter.unusedVariables false

set_option maxRecDepth 100000 in
theorem neq_dw (w : World) (a1 a2 a3 b1 b2 b3 : Int) : (binOp .neq 65 (.agg #[.int .u64 a1, .int .u64 a2, .int .i64 a3]) (.agg #[.int .u64 b1, .int .u64 b2, .int .i64 b3])).run Tryz.prog w = .ok (.bool (!(a1 == b1 && (a2 == b2 && a3 == b3)))) w := by
  have hf : (Tryz.prog.fieldsOf 65).toList = [{ name := "N", type := 48, offset := 0, embedded := false, tag := "", pkgPath := "", byteOffset := 0 },
        { name := "Rank", type := 48, offset := 1, embedded := false, tag := "", pkgPath := "", byteOffset := 8 },
        { name := "Used", type := 3, offset := 2, embedded := false, tag := "", pkgPath := "", byteOffset := 16 }] := by kernel_rfl
  have hu : Tryz.prog.underlying 65 = some (.struct (Tryz.prog.fieldsOf 65)) := by kernel_rfl
  have hp : Tryz.prog.stoodInHeld 65 = false := by kernel_rfl
  have p0 : ∀ (x y z : Value), (part 48 #[x, y, z] 0).run Tryz.prog w = .ok x w := fun _ _ _ => by kernel_rfl
  have p1 : ∀ (x y z : Value), (part 48 #[x, y, z] 1).run Tryz.prog w = .ok y w := fun _ _ _ => by kernel_rfl
  have p2 : ∀ (x y z : Value), (part 3 #[x, y, z] 2).run Tryz.prog w = .ok z w := fun _ _ _ => by kernel_rfl
  have e55 : ∀ (d : Nat) (x y : Int), (Op.equalIn (d + 1) 48 (.int .u64 x) (.int .u64 y)).run Tryz.prog w = .ok (x == y) w := fun d x y => run_equalIn_int w d 48 .u64 .u64 x y Tryz.underlying48
  have e3 : ∀ (d : Nat) (x y : Int), (Op.equalIn (d + 1) 3 (.int .i64 x) (.int .i64 y)).run Tryz.prog w = .ok (x == y) w := fun d x y => run_equalIn_int w d 3 .i64 .i64 x y Tryz.underlying3
  rw [run_neq_struct, show (10000 : Nat) = 9999 + 1 from rfl, run_equalIn_agg w 9999 65 _ _ hu hp, hf]
  simp only [Op.eqFields]
  rw [show (9999 : Nat) = 9998 + 1 from rfl]
  simp [Sem.run_bind, p0, p1, p2, e55, e3]
  cases h1 : (a1 == b1) <;> cases h2 : (a2 == b2) <;> cases h3 : (a3 == b3) <;> simp_all

theorem guard_dw (op : BinOp) (w : World) (x y : Operand) (xs ys : Array Value) : (eqGuard op 65 x y (.agg xs) (.agg ys)).run Tryz.prog w = .ok () w :=
  run_eqGuard_agg w op 65 x y xs ys (by kernel_rfl)

def dwEq (a b : List Drw) : Bool := decide (a = b)
theorem dwEq_len {a b : List Drw} (h : a.length ≠ b.length) : dwEq a b = false := by
  simp only [dwEq, decide_eq_false_iff_not]; rintro rfl; exact h rfl
theorem dwEq_all {a b : List Drw} (h : a.length = b.length) (hk : ∀ j, j < a.length → a.getD j dwZ = b.getD j dwZ) : dwEq a b = true := by
  simp only [dwEq, decide_eq_true_eq]
  refine List.ext_getElem h fun j h1 h2 => ?_
  have := hk j h1
  simpa [List.getD, List.getElem?_eq_getElem h1, List.getElem?_eq_getElem h2] using this
theorem dwEq_not {a b : List Drw} (k : Nat) (hk : a.getD k dwZ ≠ b.getD k dwZ) : dwEq a b = false := by
  simp only [dwEq, decide_eq_false_iff_not]; rintro rfl; exact hk rfl
theorem dwEq_self (a : List Drw) : dwEq a a = true := by simp [dwEq]

end Go.Proofs.YtcoohepkmhpdkaaGreat
