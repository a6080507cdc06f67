/-
  The word that tells a number with a rank: wide.Cmp, lemire.Each, lemire.Word.
-/
import Derived.Test.YtcoohepkmhpdkaaGreatAimPlain
import Derived.Laws.StructEq
namespace Go.Proofs.YtcoohepkmhpdkaaGreat
open Go.RowKit
set_option linter.unusedVariables false

set_option maxRecDepth 100000 in
theorem eql_128 (w : World) (a1 a2 b1 b2 : Int) : (binOp .eql 117 (.agg #[.int .u64 a1, .int .u64 a2]) (.agg #[.int .u64 b1, .int .u64 b2])).run Tryz.prog w = .ok (.bool (a1 == b1 && a2 == b2)) w := by
  have hf : (Tryz.prog.fieldsOf 117).toList = [{ name := "Hi", type := 48, offset := 0, embedded := false, tag := "", pkgPath := "", byteOffset := 0 },
        { name := "Lo", type := 48, offset := 1, embedded := false, tag := "", pkgPath := "", byteOffset := 8 }] := by kernel_rfl
  have hu : Tryz.prog.underlying 117 = some (.struct (Tryz.prog.fieldsOf 117)) := by kernel_rfl
  have hp : Tryz.prog.stoodInHeld 117 = false := by kernel_rfl
  have p0 : ∀ (x y : Value), (part 48 #[x, y] 0).run Tryz.prog w = .ok x w := fun _ _ => by kernel_rfl
  have p1 : ∀ (x y : Value), (part 48 #[x, y] 1).run Tryz.prog w = .ok y w := fun _ _ => by kernel_rfl
  have e55 : ∀ (d : Nat) (x y : Int), (Op.equalIn (d + 1) 48 (.int .u64 x) (.int .u64 y)).run Tryz.prog w = .ok (x == y) w := fun d x y => run_equalIn_int w d 48 .u64 .u64 x y Tryz.underlying48
  rw [run_eql_struct, show (10000 : Nat) = 9999 + 1 from rfl, run_equalIn_agg w 9999 117 _ _ hu hp, hf]
  simp only [Op.eqFields]
  rw [show (9999 : Nat) = 9998 + 1 from rfl]
  simp [Sem.run_bind, p0, p1, e55]
  cases h1 : (a1 == b1) <;> cases h2 : (a2 == b2) <;> simp_all
theorem guard_128 (op : BinOp) (w : World) (x y : Operand) (xs ys : Array Value) : (eqGuard op 117 x y (.agg xs) (.agg ys)).run Tryz.prog w = .ok () w :=
  run_eqGuard_agg w op 117 x y xs ys (by kernel_rfl)

set_option maxRecDepth 100000 in
set_option maxHeartbeats 2000000 in
/-- Cmp, where the first number is less. -/
theorem cmp_less (w : World) (ah al bh bl : Nat) (h : ah < bh ∨ (ah = bh ∧ al < bl)) :
    Calls Tryz.prog 89 #[.agg #[.int .u64 (ah : Int), .int .u64 (al : Int)], .agg #[.int .u64 (bh : Int), .int .u64 (bl : Int)]] w fun e w' => e = .returned (.int .i64 (-1)) ∧ Below w.heap.size w w' := by
  have hg := guard_128
  have hq : ∀ w, (binOp .eql 117 (.agg #[.int .u64 (ah : Int), .int .u64 (al : Int)]) (.agg #[.int .u64 (bh : Int), .int .u64 (bl : Int)])).run Tryz.prog w = .ok (.bool false) w := fun w => by
    rw [eql_128]
    have : ((ah : Int) == (bh : Int) && (al : Int) == (bl : Int)) = false := by
      rw [Bool.eq_false_iff]
      intro h'
      simp only [Bool.and_eq_true, beq_iff_eq] at h'
      omega
    rw [this]
  rcases h with h | ⟨rfl, h⟩
  · go_enter Tryz.func89, Tryz.ntmps89
    go_wp2
    go_ret
    exact ⟨rfl, ((Below.refl _ _).alloc (Nat.le_refl _) _).alloc (by simp) _⟩
  · go_enter Tryz.func89, Tryz.ntmps89
    go_wp2
    go_ret
    exact ⟨rfl, ((Below.refl _ _).alloc (Nat.le_refl _) _).alloc (by simp) _⟩

set_option maxRecDepth 100000 in
set_option maxHeartbeats 2000000 in
theorem leach_any (w : World) (n : Nat) (h0 : 0 < n) (hn : n < 2 ^ 64) :
    Calls Tryz.prog 90 #[.int .u64 (n : Int)] w fun e w' => (∃ h l : Nat, e = .returned (.agg #[.int .u64 (h : Int), .int .u64 (l : Int)]) ∧ ∀ r, r < 2 ^ 64 / n → 0 < h ∨ (0 = h ∧ r < l)) ∧ Below w.heap.size w w' := by
  have bn : n ≤ 18446744073709551615 := by rw [p64] at hn; omega
  have D := fun w' => wdiv_any w' 1 0 n h0 (by omega) bn (by omega)
  rw [Nat.add_zero] at D
  have hr : ∀ r, r < 2 ^ 64 / n → 0 < 1 / n ∨ (0 = 1 / n ∧ r < 1 % n * 18446744073709551616 / n) := by
    intro r hr
    rw [p64] at hr
    by_cases h1 : n = 1
    · subst h1; exact .inl (by decide)
    · refine .inr ⟨(Nat.div_eq_of_lt (by omega)).symm, ?_⟩
      rw [Nat.mod_eq_of_lt (by omega), Nat.one_mul]
      exact hr
  generalize 1 / n = h at *
  generalize 1 % n * 18446744073709551616 / n = l at *
  generalize 1 % n * 18446744073709551616 % n = q at *
  have HD := Lib.hid D; have HR := Lib.hid hr
  clear D hr hn
  go_enter Tryz.func90, Tryz.ntmps90
  go_wp2_with fail
  refine (HD.out _).mono ?_
  rintro e w1 ⟨rfl, hb⟩
  have HB := Lib.hid hb
  have hsz := hb.size
  have hw : (w.alloc (.cells #[.int .u64 0, .int .u64 0] 117)).heap.size = w.heap.size + 1 := by simp
  have hc := hb.block w.heap.size (by omega)
  rw [heap_alloc_new] at hc
  have d0 := cell_of hc 0 rfl
  have d1 := cell_of hc 1 rfl
  have g0 := frozen_of hc 0
  have g1 := frozen_of hc 1
  have hlt : w.heap.size < w1.heap.size := by omega
  have hblk : ((((w1.setCell ⟨w.heap.size, 0, none⟩ (.int .u64 (h : Int))).setCell ⟨w.heap.size, 1, none⟩ (.int .u64 (l : Int))).alloc (.cells #[.int .u64 (h : Int), .int .u64 (l : Int)] 117)).heap[w.heap.size]?) = some (.cells #[.int .u64 (h : Int), .int .u64 (l : Int)] 117 (0, 0)) := by
    rw [Below.heap_alloc _ _ _ (by simp [World.setCell]; omega), set_of (set_of hc 0 _) 1 _]
    simp
  have k0 := Lib.hid (cell_of hblk 0 rfl)
  have k1 := Lib.hid (cell_of hblk 1 rfl)
  clear hb hsz hw hc hblk
  go_wp2_with fail
  have k0' := k0.out
  have k1' := k1.out
  refine bodyPost_ret (v := .agg #[.int .u64 (h : Int), .int .u64 (l : Int)]) (by simp [results, Tryz.results90, go_sem, k0', k1']) rfl ⟨⟨h, l, rfl, HR.out⟩, ?_⟩
  have hB := HB.out
  have h1 : Below w.heap.size w w1 := ((Below.refl _ w).alloc (Nat.le_refl _) _).trans (hB.mono (by simp))
  exact ((h1.setCell (by simp) _).setCell (by simp) _).alloc (by simp [World.setCell]; omega) _

set_option maxRecDepth 100000 in
set_option maxHeartbeats 2000000 in
theorem lword_any (w : World) (v r n : Nat) (hv : v < n) (hn : n < 2 ^ 64) (hr : r < 2 ^ 64 / n) :
    Calls Tryz.prog 40 #[.int .u64 (v : Int), .int .u64 (r : Int), .int .u64 (n : Int)] w fun e w' => e = .returned (.tuple #[.int .u64 (wrdN v r n : Int), .int .i64 0]) ∧ Below w.heap.size w w' := by
  have h0 : 0 < n := by omega
  have q0 : ((n : Int) == 0) = false := by simp; omega
  have q1 : ¬ (n : Int) ≤ (v : Int) := by omega
  have E := Lib.hid (leach_any w n h0 hn)
  have F := Lib.hid (fun w' => first_any w' v n hv hn)
  have hw4 := (word_tells hv hr).2.2.2
  have hb : wrdN v r n ≤ 18446744073709551615 := by rw [p64] at hw4; omega
  have e1 : ((firstN v n : Nat) : Int) + (r : Int) = (wrdN v r n : Int) := by unfold wrdN; omega
  have HR := Lib.hid hr
  generalize wrdN v r n = x at *
  generalize firstN v n = f at *
  clear hr hn hw4 hv
  go_enter Tryz.func40, Tryz.ntmps40
  go_wp2_with fail
  refine E.out.mono ?_
  rintro e w1 ⟨⟨h, l, rfl, hhl⟩, hb1⟩
  have C := Lib.hid (cmp_less w1 0 r h l (hhl r HR.out))
  have HB1 := Lib.hid hb1
  clear hhl hb1
  go_wp2_with fail
  refine C.out.mono ?_
  rintro e w2 ⟨rfl, hb2⟩
  have HB2 := Lib.hid (below_two HB1.out hb2)
  clear hb2
  go_wp2_with fail
  refine (F.out _).mono ?_
  rintro e w3 ⟨rfl, hb3⟩
  have HB3 := Lib.hid (below_two HB2.out hb3)
  clear hb3
  go_wp2_with fail
  go_ret2
  exact ⟨rfl, HB3.out⟩

end Go.Proofs.YtcoohepkmhpdkaaGreat
