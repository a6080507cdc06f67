/-
  The laws of layer 45 (derive): DeriveLabels, DerivePaths, DeriveJoins: their walks.
-/
import Derived.Test.YtgnbgjdkhnhlkaaDoorDrv7
import Derived.Laws.StructEq
namespace Go.Proofs.YtgnbgjdkhnhlkaaDoor
open Go.RowKit
set_option linter.unusedVariables false
set_option linter.unusedSimpArgs false

set_option maxRecDepth 100000 in
theorem eql_k (w : World) (a1 a2 b1 b2 : Int) : (binOp .eql 24 (.agg #[.int .u64 a1, .int .u64 a2]) (.agg #[.int .u64 b1, .int .u64 b2])).run Tryd.prog w = .ok (.bool (a1 == b1 && a2 == b2)) w := by
  have hf : (Tryd.prog.fieldsOf 24).toList = [{ name := "Hi", type := 22, offset := 0, embedded := false, tag := "", pkgPath := "", byteOffset := 0 },
        { name := "Lo", type := 22, offset := 1, embedded := false, tag := "", pkgPath := "", byteOffset := 8 }] := by kernel_rfl
  have hu : Tryd.prog.underlying 24 = some (.struct (Tryd.prog.fieldsOf 24)) := by kernel_rfl
  have hp : Tryd.prog.stoodInHeld 24 = false := by kernel_rfl
  have p0 : ∀ (x y : Value), (part 22 #[x, y] 0).run Tryd.prog w = .ok x w := fun _ _ => by kernel_rfl
  have p1 : ∀ (x y : Value), (part 22 #[x, y] 1).run Tryd.prog w = .ok y w := fun _ _ => by kernel_rfl
  have e55 : ∀ (d : Nat) (x y : Int), (Op.equalIn (d + 1) 22 (.int .u64 x) (.int .u64 y)).run Tryd.prog w = .ok (x == y) w := fun d x y => run_equalIn_int w d 22 .u64 .u64 x y Tryd.underlying22
  rw [run_eql_struct, show (10000 : Nat) = 9999 + 1 from rfl, run_equalIn_agg w 9999 24 _ _ hu hp, hf]
  simp only [Op.eqFields]
  rw [show (9999 : Nat) = 9998 + 1 from rfl]
  simp [Sem.run_bind, p0, p1, e55]
  cases h1 : (a1 == b1) <;> cases h2 : (a2 == b2) <;> simp_all
set_option maxRecDepth 100000 in
theorem neq_k (w : World) (a1 a2 b1 b2 : Int) : (binOp .neq 24 (.agg #[.int .u64 a1, .int .u64 a2]) (.agg #[.int .u64 b1, .int .u64 b2])).run Tryd.prog w = .ok (.bool (!(a1 == b1 && a2 == b2))) w := by
  have hf : (Tryd.prog.fieldsOf 24).toList = [{ name := "Hi", type := 22, offset := 0, embedded := false, tag := "", pkgPath := "", byteOffset := 0 },
        { name := "Lo", type := 22, offset := 1, embedded := false, tag := "", pkgPath := "", byteOffset := 8 }] := by kernel_rfl
  have hu : Tryd.prog.underlying 24 = some (.struct (Tryd.prog.fieldsOf 24)) := by kernel_rfl
  have hp : Tryd.prog.stoodInHeld 24 = false := by kernel_rfl
  have p0 : ∀ (x y : Value), (part 22 #[x, y] 0).run Tryd.prog w = .ok x w := fun _ _ => by kernel_rfl
  have p1 : ∀ (x y : Value), (part 22 #[x, y] 1).run Tryd.prog w = .ok y w := fun _ _ => by kernel_rfl
  have e55 : ∀ (d : Nat) (x y : Int), (Op.equalIn (d + 1) 22 (.int .u64 x) (.int .u64 y)).run Tryd.prog w = .ok (x == y) w := fun d x y => run_equalIn_int w d 22 .u64 .u64 x y Tryd.underlying22
  rw [run_neq_struct, show (10000 : Nat) = 9999 + 1 from rfl, run_equalIn_agg w 9999 24 _ _ hu hp, hf]
  simp only [Op.eqFields]
  rw [show (9999 : Nat) = 9998 + 1 from rfl]
  simp [Sem.run_bind, p0, p1, e55]
  cases h1 : (a1 == b1) <;> cases h2 : (a2 == b2) <;> simp_all
theorem guard_k (op : BinOp) (w : World) (x y : Operand) (xs ys : Array Value) : (eqGuard op 24 x y (.agg xs) (.agg ys)).run Tryd.prog w = .ok () w :=
  run_eqGuard_agg w op 24 x y xs ys (by kernel_rfl)

/-- a block of two words -/
def TwoW (w : World) (b : Nat) (k : Nat × Nat) : Prop := w.heap[b]? = some (.cells #[.int .u64 (k.1 : Int), .int .u64 (k.2 : Int)] 24 (0, 0))
theorem TwoW.below {w w' : World} {b : Nat} {k : Nat × Nat} (h : TwoW w b k) (hb : Below w.heap.size w w') : TwoW w' b k := (hb.block _ (block_lt h)).trans h
theorem TwoW.cells {w : World} {b : Nat} {k : Nat × Nat} (h : TwoW w b k) : w.cell? ⟨b, 0, none⟩ = some (.int .u64 (k.1 : Int)) ∧ w.cell? ⟨b, 1, none⟩ = some (.int .u64 (k.2 : Int)) := ⟨cell_of h 0 rfl, cell_of h 1 rfl⟩
theorem two_new (w : World) (k : Nat × Nat) : TwoW (w.alloc (.cells #[.int .u64 (k.1 : Int), .int .u64 (k.2 : Int)] 24)) w.heap.size k ∧ Below w.heap.size w (w.alloc (.cells #[.int .u64 (k.1 : Int), .int .u64 (k.2 : Int)] 24)) :=
  ⟨heap_alloc_new _ _, (Below.refl _ _).alloc (Nat.le_refl _) _⟩

theorem awk_ne : (pathK (1, 2) [97] = (1, 2)) = False ∧ partsE [97] = 0 ∧ pathK (1, 2) [] = (1, 2) ∧ partsE [] = 0 := by
  refine ⟨?_, rfl, rfl, rfl⟩
  have : decide (pathK (1, 2) [97] = (1, 2)) = false := by decide +kernel
  simpa using this

set_option maxRecDepth 100000 in
set_option maxHeartbeats 4000000 in
theorem awake45 (w : World) :
    Calls Tryd.prog 6 #[] w fun e w' => e = .returned (.bool true) ∧ Below w.heap.size w w' := by
  obtain ⟨n1, n2, n3, n4⟩ := awk_ne
  have C1 := fun W => path_any 1 2 (by decide) (by decide) ⟨#[]⟩ (by decide) W
  have C2 := fun W => path_any 1 2 (by decide) (by decide) ⟨#[97]⟩ (by decide) W
  rw [show bsN ⟨#[]⟩ = [] from rfl, n3, n4] at C1
  rw [show bsN ⟨#[97]⟩ = [97] from rfl, n2] at C2
  generalize pathK (1, 2) [97] = K at *
  obtain ⟨k1, k2⟩ := K
  have hne : ((k1 : Int) == 1 && (k2 : Int) == 2) = false := by
    rw [Bool.eq_false_iff]; intro h
    simp only [Bool.and_eq_true, beq_iff_eq] at h
    have h1 : k1 = 1 := by omega
    have h2 : k2 = 2 := by omega
    rw [h1, h2] at n1
    simp at n1
  have hq1 : ∀ w, (binOp .eql 24 (.agg #[.int .u64 1, .int .u64 2]) (.agg #[.int .u64 1, .int .u64 2])).run Tryd.prog w = .ok (.bool true) w := fun w => by rw [eql_k]; rfl
  have hq2 : ∀ w, (binOp .neq 24 (.agg #[.int .u64 (k1 : Int), .int .u64 (k2 : Int)]) (.agg #[.int .u64 1, .int .u64 2])).run Tryd.prog w = .ok (.bool true) w := fun w => by rw [neq_k, hne]; rfl
  have hg := guard_k
  simp only [u128] at C1 C2
  have HC1 := Lib.hid C1; have HC2 := Lib.hid C2
  have t1 := two_new w (1, 2)
  have T1 := Lib.hid t1.1; have B1 := Lib.hid t1.2
  clear C1 C2 n1 n2 n3 n4 hne t1
  go_enter Tryd.func6, Tryd.ntmps6
  go_upto_region 2 with fail
  generalize (w.alloc _) = w1 at *
  obtain ⟨c0, c1⟩ := T1.out.cells
  go_wp2_with fail
  refine (HC1.out _).mono ?_
  rintro e w2 ⟨rfl, hb⟩
  have T2 := Lib.hid (T1.out.below hb)
  have B2 := Lib.hid (B1.out.trans (hb.mono B1.out.size))
  have t3 := two_new w2 (1, 2)
  have T3 := Lib.hid t3.1; have B3 := Lib.hid (B2.out.trans (t3.2.mono B2.out.size)); have T2' := Lib.hid (T2.out.below t3.2)
  clear hb c0 c1 T1 B1 t3 T2
  go_upto_region 3 with fail
  generalize (w2.alloc _) = w3 at *
  obtain ⟨c0, c1⟩ := T2'.out.cells
  go_wp2_with fail
  refine (HC2.out _).mono ?_
  rintro e w4 ⟨rfl, hb⟩
  have T4 := Lib.hid (T2'.out.below hb)
  have T5 := Lib.hid (T3.out.below hb)
  have B4 := Lib.hid (B3.out.trans (hb.mono B3.out.size))
  have t6 := two_new w4 (k1, k2)
  have T6 := Lib.hid t6.1; have B6 := Lib.hid (B4.out.trans (t6.2.mono B4.out.size)); have T4' := Lib.hid (T4.out.below t6.2); have T5' := Lib.hid (T5.out.below t6.2)
  clear hb c0 c1 T2' T3 B3 t6 T4 T5
  go_upto_region 4 with fail
  generalize (w4.alloc _) = w5 at *
  obtain ⟨c0, c1⟩ := T4'.out.cells
  obtain ⟨d0, d1⟩ := T5'.out.cells
  obtain ⟨f0, f1⟩ := T6.out.cells
  go_wp2_with fail
  go_ret
  exact ⟨rfl, B6.out⟩

/-- the key's box, another box -/
structure KX (w w1 : World) (b : Nat) (k x : Nat × Nat) : Prop where
  key : TwoW w1 w.heap.size k
  box : TwoW w1 b x
  bel : Below w.heap.size w w1
theorem KX.below {w w1 w2 : World} {b : Nat} {k x : Nat × Nat} (h : KX w w1 b k x) (hb : Below w1.heap.size w1 w2) : KX w w2 b k x := ⟨h.key.below hb, h.box.below hb, h.bel.trans (hb.mono h.bel.size)⟩
theorem KX.drew {w w1 : World} {b : Nat} {k x : Nat × Nat} (h : KX w w1 b k x) : KX w w1.drew b k x := ⟨h.key, h.box, h.bel.drew⟩

set_option maxRecDepth 100000 in
set_option maxHeartbeats 4000000 in
theorem law_DeriveLabels (hi lo : Nat) (h1 : hi < 18446744073709551616) (h2 : lo < 18446744073709551616) (s : ByteArray) (n : Nat) (hn : n < 18446744073709551616) (w : World) :
    Calls Tryd.prog 5 #[u128 (hi, lo), .string s, .int .u64 (n : Int)] w fun e w' => e = .returned (.bool true) ∧ Below w.heap.size w w' := by
  have CA := fun W => awake45 W
  have CC := fun W => child_any hi lo h1 h2 s W
  have CR := fun W => reflabel_any s W
  have CL := fun W => label_any s W
  have CN := fun W => number_any hi lo h1 h2 n hn W
  have CM := fun W => refnumber_any hi lo h1 h2 n hn W
  generalize numK (hi, lo) n = R at *
  obtain ⟨r1, r2⟩ := R
  have hg := guard_k
  have hq1 : ∀ w, (binOp .neq 24 (.agg #[.int .u64 (r1 : Int), .int .u64 (r2 : Int)]) (.agg #[.int .u64 (r1 : Int), .int .u64 (r2 : Int)])).run Tryd.prog w = .ok (.bool false) w := fun w => by rw [neq_k]; simp
  have hE : labE (bsN s) = 0 → childA (hi, lo) (bsN s) = childK (hi, lo) (bsN s) ∧ s.size ≤ 1000 := fun h => ⟨by unfold childA; rw [if_pos h], by have := lab_size h; omega⟩
  have hE2 : labE (bsN s) ≠ 0 → childA (hi, lo) (bsN s) = (0, 0) := fun h => by unfold childA; rw [if_neg h]
  have CK := fun (h : s.size ≤ 1000) W => refchild_any hi lo h1 h2 s h W
  have hself : ((labE (bsN s) : Int) != (labE (bsN s) : Int)) = false := by simp
  have hself2 : ((labE (bsN s) : Int) == (labE (bsN s) : Int)) = true := by simp
  generalize labE (bsN s) = E at *
  generalize childK (hi, lo) (bsN s) = Q at *
  generalize childA (hi, lo) (bsN s) = X at *
  obtain ⟨x1, x2⟩ := X
  have t1 := two_new w (hi, lo)
  simp only [u128] at *
  have HA := Lib.hid CA; have HC := Lib.hid CC; have HR := Lib.hid CR; have HL := Lib.hid CL; have HN := Lib.hid CN; have HM := Lib.hid CM; have HK := Lib.hid CK
  have HE := Lib.hid hE; have HE2 := Lib.hid hE2
  have T1 := Lib.hid t1.1; have B1 := Lib.hid t1.2
  clear CA CC CR CL CN CM CK hE hE2 t1 h1 h2 hn
  go_enter Tryd.func5, Tryd.ntmps5
  go_upto_region 1 with fail
  generalize (w.alloc _) = w1 at *
  go_wp2_with fail
  refine (HA.out _).mono ?_
  rintro e w2 ⟨rfl, hb⟩
  have T2 := Lib.hid (T1.out.below hb)
  have B2 := Lib.hid (B1.out.trans (hb.mono B1.out.size))
  clear hb T1 B1 HA
  obtain ⟨c0, c1⟩ := T2.out.cells
  go_wp2_with fail
  refine (HC.out _).mono ?_
  rintro e w3 ⟨rfl, hb⟩
  have T3 := Lib.hid (T2.out.below hb)
  have B3 := Lib.hid (B2.out.trans (hb.mono B2.out.size))
  have t4 := two_new w3 (x1, x2)
  have K4 := Lib.hid (show KX w _ w3.heap.size (hi, lo) (x1, x2) from ⟨T3.out.below t4.2, t4.1, B3.out.trans (t4.2.mono B3.out.size)⟩)
  clear hb c0 c1 T2 B2 HC T3 B3 t4
  go_upto_region 4 with fail
  generalize hbx : w3.heap.size = bx at *
  generalize (w3.alloc _) = w4 at *
  clear hbx
  go_wp2_with fail
  refine (HR.out _).mono ?_
  rintro e w' ⟨rfl, rfl⟩
  clear HR
  go_upto_region 5 with fail
  obtain ⟨c0, c1⟩ := K4.out.key.cells
  have KD := Lib.hid K4.out.drew
  go_cut [32] (fun s32 wx => s32 = .bool false ∧ Hid (KX w wx bx (hi, lo) (x1, x2)))
  case first =>
    go_region_held3 (fun w' => w'.cell? ⟨w.heap.size, 0, none⟩ = some (.int .u64 (hi : Int)) ∧ w'.cell? ⟨w.heap.size, 1, none⟩ = some (.int .u64 (lo : Int)))
      (first | (with_reducible exact ⟨b0, b1⟩) | (with_reducible exact ⟨a0, a1⟩) | go_keep)
      (first
        | (go_at_call 15; refine (HL.out _).mono ?_; rintro e w' ⟨rfl, rfl⟩)
        | (go_at_call 16; refine (HN.out _).mono ?_; rintro e wA ⟨rfl, hbA⟩; (first | (with_reducible have hka := KD.out.below hbA; have KA := Lib.hid hka; clear hka hbA) | (with_reducible have hka := KB.out.below hbA; have KA := Lib.hid hka; clear hka hbA)); obtain ⟨a0, a1⟩ := KA.out.key.cells)
        | (go_at_call 17; refine (HM.out _).mono ?_; rintro e wB ⟨rfl, hbB⟩; (first | (with_reducible have hkb := KD.out.below hbB; have KB := Lib.hid hkb; clear hkb hbB) | (with_reducible have hkb := KA.out.below hbB; have KB := Lib.hid hkb; clear hkb hbB)); obtain ⟨b0, b1⟩ := KB.out.key.cells))
    all_goals
      (try go_wp2_with fail)
      go_meet
      first | (with_reducible exact ⟨rfl, KB⟩) | (with_reducible exact ⟨rfl, KA⟩)
  case rest =>
    obtain ⟨rfl, HX⟩ := hcut
    clear c0 c1 KD K4 HL HN HM
    obtain ⟨c0, c1⟩ := HX.out.key.cells
    obtain ⟨d0, d1⟩ := HX.out.box.cells
    by_cases hz : E = 0
    · subst hz
      obtain ⟨hx, hs⟩ := HE.out rfl
      subst hx
      have HK' := Lib.hid (HK.out hs)
      have hq3 : ∀ w, (binOp .eql 24 (.agg #[.int .u64 (x1 : Int), .int .u64 (x2 : Int)]) (.agg #[.int .u64 (x1 : Int), .int .u64 (x2 : Int)])).run Tryd.prog w = .ok (.bool true) w := fun w => by rw [eql_k]; simp
      have KD := Lib.hid HX.out.drew
      clear HK HE HE2 hs hq1
      go_upto_region 9 with fail
      go_region_held3 (fun w' => w'.cell? ⟨w.heap.size, 0, none⟩ = some (.int .u64 (hi : Int)) ∧ w'.cell? ⟨w.heap.size, 1, none⟩ = some (.int .u64 (lo : Int)) ∧ w'.cell? ⟨bx, 0, none⟩ = some (.int .u64 (x1 : Int)) ∧ w'.cell? ⟨bx, 1, none⟩ = some (.int .u64 (x2 : Int)))
        (first | (with_reducible exact ⟨a0, a1, a2, a3⟩) | go_keep)
        (first | (go_at_call 18; refine (HK'.out _).mono ?_; rintro e wA ⟨rfl, hbA⟩; with_reducible have hka := KD.out.below hbA; have KA := Lib.hid hka; clear hka hbA; obtain ⟨a0, a1⟩ := KA.out.key.cells; obtain ⟨a2, a3⟩ := KA.out.box.cells))
      all_goals
        go_wp2_with fail
        go_ret
        exact ⟨rfl, KA.out.bel⟩
    · have hx := HE2.out hz
      obtain ⟨rfl, rfl⟩ := Prod.mk.inj hx
      have hne : ((E : Int) != 0) = true := by rw [bne_iff_ne]; omega
      have hq3 : ∀ w, (binOp .eql 24 (.agg #[.int .u64 0, .int .u64 0]) (.agg #[.int .u64 0, .int .u64 0])).run Tryd.prog w = .ok (.bool true) w := fun w => by rw [eql_k]; rfl
      clear HK HE HE2 hq1 hx
      go_wp2_with fail
      go_ret
      exact ⟨rfl, HX.out.bel⟩

set_option maxRecDepth 100000 in
set_option maxHeartbeats 4000000 in
theorem law_DerivePaths (hi lo : Nat) (h1 : hi < 18446744073709551616) (h2 : lo < 18446744073709551616) (p : ByteArray) (w : World) :
    Calls Tryd.prog 3 #[u128 (hi, lo), .string p] w fun e w' => e = .returned (.bool true) ∧ Below w.heap.size w w' := by
  have CA := fun W => awake45 W
  have t1 := two_new w (hi, lo)
  by_cases h5 : 500 < p.size
  · have hd : decide ((500 : Int) < (p.size : Int)) = true := decide_eq_true (by omega)
    have HA := Lib.hid CA; have B1 := Lib.hid t1.2
    clear CA t1
    simp only [u128] at *
    go_enter Tryd.func3, Tryd.ntmps3
    go_upto_region 1 with fail
    generalize (w.alloc _) = w1 at *
    go_wp2_with fail
    refine (HA.out _).mono ?_
    rintro e w2 ⟨rfl, hb⟩
    have B2 := Lib.hid (B1.out.trans (hb.mono B1.out.size))
    clear hb B1 HA
    go_wp2_with fail
    go_ret
    exact ⟨rfl, B2.out⟩
  have hd : decide ((500 : Int) < (p.size : Int)) = false := decide_eq_false (by omega)
  have CP := fun W => parts_any p (by omega) W
  have CR := fun W => refparts_any p (by omega) W
  have CX := fun W => path_any hi lo h1 h2 p (by omega) W
  have CY := fun W => refpath_any hi lo h1 h2 p (by omega) W
  have hpl : (partsL (bsN p)).length ≤ 100000 := by
    by_cases hz : partsE (bsN p) = 0
    · have := parts_len hz; omega
    · unfold partsL; rw [if_pos (.inr hz)]; simp
  have hself2 : ((partsE (bsN p) : Int) == (partsE (bsN p) : Int)) = true := by simp
  generalize pathK (hi, lo) (bsN p) = X at *
  generalize partsL (bsN p) = PL at *
  generalize partsE (bsN p) = E at *
  obtain ⟨x1, x2⟩ := X
  have hg := guard_k
  have hq3 : ∀ w, (binOp .eql 24 (.agg #[.int .u64 (x1 : Int), .int .u64 (x2 : Int)]) (.agg #[.int .u64 (x1 : Int), .int .u64 (x2 : Int)])).run Tryd.prog w = .ok (.bool true) w := fun w => by rw [eql_k]; simp
  simp only [u128] at *
  have HA := Lib.hid CA; have HP := Lib.hid CP; have HR := Lib.hid CR; have HX := Lib.hid CX; have HY := Lib.hid CY; have HPL := Lib.hid hpl
  have T1 := Lib.hid t1.1; have B1 := Lib.hid t1.2
  clear CA CP CR CX CY t1 h1 h2 hpl
  go_enter Tryd.func3, Tryd.ntmps3
  go_upto_region 1 with fail
  generalize (w.alloc _) = w1 at *
  go_wp2_with fail
  refine (HA.out _).mono ?_
  rintro e w2 ⟨rfl, hb⟩
  have T2 := Lib.hid (T1.out.below hb)
  have B2 := Lib.hid (B1.out.trans (hb.mono B1.out.size))
  clear hb T1 B1 HA
  go_wp2_with fail
  refine (HP.out _).mono ?_
  rintro e w3 ⟨va, La, rfl, hLa, hra, hb⟩
  obtain ⟨sa, ca, rfl⟩ := (rd_of_row hra).form
  have T3 := Lib.hid (T2.out.below hb)
  have B3 := Lib.hid (B2.out.trans (hb.mono B2.out.size))
  have R3 := Lib.hid (rd_of_row hra); have HLA := Lib.hid hLa
  clear hb T2 B2 HP hra hLa
  obtain ⟨c0, c1⟩ := T3.out.cells
  go_wp2_with fail
  refine (HX.out _).mono ?_
  rintro e w4 ⟨rfl, hb⟩
  have T4 := Lib.hid (T3.out.below hb)
  have R4 := Lib.hid (R3.out.below hb)
  have B4 := Lib.hid (B3.out.trans (hb.mono B3.out.size))
  have t5 := two_new w4 (x1, x2)
  have K5 := Lib.hid (show KX w _ w4.heap.size (hi, lo) (x1, x2) from ⟨T4.out.below t5.2, t5.1, B4.out.trans (t5.2.mono B4.out.size)⟩)
  have R5 := Lib.hid (R4.out.below t5.2)
  clear hb c0 c1 T3 R3 B3 HX T4 R4 B4 t5
  go_upto_region 7 with fail
  generalize hbx : w4.heap.size = bx at *
  generalize (w4.alloc _) = w5 at *
  clear hbx
  go_wp2_with fail
  refine (HR.out _).mono ?_
  rintro e w6 ⟨vb, Lb, rfl, hLb, hrb, hb⟩
  obtain ⟨sb, cb, rfl⟩ := (rd_of_row hrb).form
  have hab : Lb = La := map_bsN_inj (hLb.trans HLA.out.symm)
  subst hab
  have K6 := Lib.hid (K5.out.below hb)
  have R6 := Lib.hid (R5.out.below hb)
  have Q6 := Lib.hid (rd_of_row hrb)
  have hll : Lb.length ≤ 100000 := by have := HPL.out; rw [← hLb, List.length_map] at this; exact this
  clear hb K5 R5 HR hrb hLb HLA HPL
  obtain ⟨c0, c1⟩ := K6.out.key.cells
  go_wp2_with fail
  refine (HY.out _).mono ?_
  rintro e w7 ⟨rfl, hb⟩
  have K7 := Lib.hid (K6.out.below hb)
  have R7 := Lib.hid (R6.out.below hb)
  have Q7 := Lib.hid (Q6.out.below hb)
  have t8 := two_new w7 (x1, x2)
  have K8 := Lib.hid (K7.out.below t8.2); have R8 := Lib.hid (R7.out.below t8.2); have Q8 := Lib.hid (Q7.out.below t8.2); have T8 := Lib.hid t8.1
  clear hb c0 c1 K6 R6 Q6 HY K7 R7 Q7 t8
  go_upto_region 9 with fail
  generalize hby : w7.heap.size = byy at *
  generalize (w7.alloc _) = w8 at *
  clear hby
  have CS := Lib.hid (same_any Lb _ _ _ w8 R8.out Q8.out hll)
  go_wp2_with fail
  refine CS.out.mono ?_
  rintro e w9 ⟨rfl, hb⟩
  have K9 := Lib.hid (K8.out.below hb); have T9 := Lib.hid (T8.out.below hb)
  clear hb K8 R8 Q8 T8 CS
  obtain ⟨d0, d1⟩ := K9.out.box.cells
  obtain ⟨f0, f1⟩ := T9.out.cells
  go_wp2_with fail
  go_ret
  exact ⟨rfl, K9.out.bel⟩

set_option maxRecDepth 100000 in
set_option maxHeartbeats 4000000 in
theorem law_DeriveJoins (hi lo : Nat) (h1 : hi < 18446744073709551616) (h2 : lo < 18446744073709551616) (p q : ByteArray) (w : World) :
    Calls Tryd.prog 4 #[u128 (hi, lo), .string p, .string q] w fun e w' => e = .returned (.bool true) ∧ Below w.heap.size w w' := by
  have CA := fun W => awake45 W
  have t1 := two_new w (hi, lo)
  by_cases h3 : 300 < p.size ∨ 300 < q.size
  · have HA := Lib.hid CA; have B1 := Lib.hid t1.2
    clear CA t1
    simp only [u128] at *
    by_cases h4 : 300 < p.size
    all_goals (try (have h5 : 300 < q.size := by omega))
    all_goals
      go_enter Tryd.func4, Tryd.ntmps4
      go_upto_region 1 with fail
      generalize (w.alloc _) = w1 at *
      go_wp2_with fail
      refine (HA.out _).mono ?_
      rintro e w2 ⟨rfl, hb⟩
      have B2 := Lib.hid (B1.out.trans (hb.mono B1.out.size))
      clear hb B1 HA
      go_wp2_with fail
      all_goals first
        | (go_ret; exact ⟨rfl, B2.out⟩)
        | (exfalso; omega)
  have hdp : decide ((300 : Int) < (p.size : Int)) = false := decide_eq_false (by omega)
  have hdq : decide ((300 : Int) < (q.size : Int)) = false := decide_eq_false (by omega)
  have CJ := fun W => join_any p q (by omega) (by omega) W
  have CX := fun j (hj : j.size ≤ 2001) W => path_any hi lo h1 h2 j (by omega) W
  have CY := fun W => refpath_any hi lo h1 h2 p (by omega) W
  have hko : KOk (pathK (hi, lo) (bsN p)) := by
    unfold pathK
    split
    · exact ⟨by decide, by decide⟩
    · rename_i hz
      unfold partsL
      split
      · exact ⟨h1, h2⟩
      · rw [← splitB_bs p.size p (Nat.le_refl _)]
        exact fold_ok ⟨h1, h2⟩ _
  have CZ := fun W => refpath_any (pathK (hi, lo) (bsN p)).1 (pathK (hi, lo) (bsN p)).2 hko.1 hko.2 q (by omega) W
  have CP := fun W => refparts_any p (by omega) W
  have CQ := fun W => refparts_any q (by omega) W
  have hlaw := join_law (hi, lo) (bsN p) (bsN q)
  have hJ0 : partsE (joinN (bsN p) (bsN q)) ≠ 0 → pathK (hi, lo) (joinN (bsN p) (bsN q)) = (0, 0) := fun h => by unfold pathK; rw [if_pos h]
  have CX' := fun j (hj : j.size ≤ 2001) (hjj : bsN j = joinN (bsN p) (bsN q)) W => by have := CX j hj W; rw [hjj] at this; exact this
  have hA := hlaw.1
  have hB := hlaw.2
  have hl1 : (partsL (bsN p)).length ≤ 100000 := by
    by_cases hz : partsE (bsN p) = 0
    · have := parts_len hz; omega
    · unfold partsL; rw [if_pos (.inr hz)]; simp
  have hl2 : (partsL (bsN q)).length ≤ 100000 := by
    by_cases hz : partsE (bsN q) = 0
    · have := parts_len hz; omega
    · unfold partsL; rw [if_pos (.inr hz)]; simp
  clear CX hlaw hko
  obtain ⟨JJ, hJJ⟩ : ∃ JJ, JJ = joinN (bsN p) (bsN q) := ⟨_, rfl⟩
  rw [← hJJ] at CJ CX' hJ0 hA hB
  clear hJJ
  generalize pathK (pathK (hi, lo) (bsN p)) (bsN q) = BB at *
  generalize pathK (hi, lo) (bsN p) = AA at *
  generalize pathK (hi, lo) JJ = XX at *
  generalize partsE JJ = EJ at *
  generalize partsE (bsN p) = E1 at *
  generalize partsE (bsN q) = E2 at *
  generalize partsL (bsN p) = L1 at *
  generalize partsL (bsN q) = L2 at *
  obtain ⟨x1, x2⟩ := XX
  obtain ⟨a1, a2⟩ := AA
  obtain ⟨b1, b2⟩ := BB
  have hg := guard_k
  simp only [u128] at *
  have HA := Lib.hid CA; have HJ := Lib.hid CJ; have HX := Lib.hid CX'; have HY := Lib.hid CY; have HZ := Lib.hid CZ; have HP := Lib.hid CP; have HQ := Lib.hid CQ
  have HLA := Lib.hid hA; have HLB := Lib.hid hB; have HJ0 := Lib.hid hJ0; have HL1 := Lib.hid hl1; have HL2 := Lib.hid hl2
  have T1 := Lib.hid t1.1; have B1 := Lib.hid t1.2
  clear CA CJ CX' CY CZ CP CQ hA hB hJ0 hl1 hl2 t1 h1 h2 h3
  go_enter Tryd.func4, Tryd.ntmps4
  go_upto_region 1 with fail
  generalize (w.alloc _) = w1 at *
  go_wp2_with fail
  refine (HA.out _).mono ?_
  rintro e w2 ⟨rfl, hb⟩
  have T2 := Lib.hid (T1.out.below hb)
  have B2 := Lib.hid (B1.out.trans (hb.mono B1.out.size))
  clear hb T1 B1 HA
  obtain ⟨c0, c1⟩ := T2.out.cells
  go_wp2_with fail
  refine (HJ.out _).mono ?_
  rintro e w' ⟨j, rfl, hj1, hj2, rfl⟩
  have HX' := Lib.hid (HX.out j hj2 hj1)
  clear HJ HX hj1 hj2
  go_wp2_with fail
  refine (HX'.out _).mono ?_
  rintro e w4 ⟨rfl, hb⟩
  have t5 := two_new w4 (x1, x2)
  have K5 := Lib.hid (show KX w _ w4.heap.size (hi, lo) (x1, x2) from ⟨(T2.out.below hb).below t5.2, t5.1, (B2.out.trans (hb.mono B2.out.size)).trans (t5.2.mono (B2.out.trans (hb.mono B2.out.size)).size)⟩)
  clear hb c0 c1 T2 B2 HX' t5
  go_upto_region 7 with fail
  generalize hbx : w4.heap.size = bx at *
  generalize (w4.alloc _) = w5 at *
  clear hbx
  obtain ⟨c0, c1⟩ := K5.out.key.cells
  go_wp2_with fail
  refine (HY.out _).mono ?_
  rintro e w6 ⟨rfl, hb⟩
  have t7 := two_new w6 (a1, a2)
  have K7 := Lib.hid ((K5.out.below hb).below t7.2)
  have U7 := Lib.hid t7.1
  clear hb c0 c1 K5 HY t7
  go_upto_region 8 with fail
  generalize hba : w6.heap.size = ba at *
  generalize (w6.alloc _) = w7 at *
  clear hba
  obtain ⟨c0, c1⟩ := U7.out.cells
  go_wp2_with fail
  refine (HZ.out _).mono ?_
  rintro e w8 ⟨rfl, hb⟩
  have t9 := two_new w8 (b1, b2)
  have K9 := Lib.hid ((K7.out.below hb).below t9.2)
  have V9 := Lib.hid t9.1
  clear hb c0 c1 K7 U7 HZ t9
  go_upto_region 9 with fail
  generalize hbb : w8.heap.size = bb at *
  generalize (w8.alloc _) = w9 at *
  clear hbb
  go_wp2_with fail
  refine (HP.out _).mono ?_
  rintro e w10 ⟨va, La, rfl, hLa, hra, hb⟩
  obtain ⟨sa, ca, rfl⟩ := (rd_of_row hra).form
  have K10 := Lib.hid (K9.out.below hb)
  have V10 := Lib.hid (V9.out.below hb)
  clear hb K9 V9 HP hra
  go_wp2_with fail
  refine (HQ.out _).mono ?_
  rintro e w11 ⟨vb, Lb, rfl, hLb, hrb, hb⟩
  obtain ⟨sb, cb, rfl⟩ := (rd_of_row hrb).form
  have K11 := Lib.hid (K10.out.below hb)
  have V11 := Lib.hid (V10.out.below hb)
  have hla : La.length ≤ 100000 := by have := HL1.out; rw [← hLa, List.length_map] at this; exact this
  have hlb : Lb.length ≤ 100000 := by have := HL2.out; rw [← hLb, List.length_map] at this; exact this
  have hA := HLA.out
  have hB := HLB.out
  rw [← hLa, ← hLb, List.length_map, List.length_map] at hA hB
  clear hb K10 V10 HQ hrb hLa hLb HLA HLB HL1 HL2
  obtain ⟨d0, d1⟩ := K11.out.box.cells
  obtain ⟨f0, f1⟩ := V11.out.cells
  by_cases hall : E1 ≠ 0 ∨ E2 ≠ 0 ∨ 16 < La.length + Lb.length
  · have hej := hA hall
    have hx := HJ0.out hej
    obtain ⟨rfl, rfl⟩ := Prod.mk.inj hx
    have hne : ((EJ : Int) != 0) = true := by rw [bne_iff_ne]; omega
    have hq3 : ∀ w, (binOp .eql 24 (.agg #[.int .u64 0, .int .u64 0]) (.agg #[.int .u64 0, .int .u64 0])).run Tryd.prog w = .ok (.bool true) w := fun w => by rw [eql_k]; rfl
    clear hA hB hx HJ0
    by_cases e1 : E1 = 0
    · subst e1
      by_cases e2 : E2 = 0
      · subst e2
        have hs : 16 < La.length + Lb.length := by rcases hall with h | h | h; exact absurd rfl h; exact absurd rfl h; exact h
        have hsd : decide ((16 : Int) < (La.length : Int) + (Lb.length : Int)) = true := decide_eq_true (by omega)
        clear hall
        go_wp2_with fail
        go_ret
        exact ⟨rfl, K11.out.bel⟩
      · have hne2 : ((E2 : Int) != 0) = true := by rw [bne_iff_ne]; omega
        clear hall
        go_wp2_with fail
        go_ret
        exact ⟨rfl, K11.out.bel⟩
    · have hne1 : ((E1 : Int) != 0) = true := by rw [bne_iff_ne]; omega
      clear hall
      go_wp2_with fail
      go_ret
      exact ⟨rfl, K11.out.bel⟩
  · have e1 : E1 = 0 := by omega
    have e2 : E2 = 0 := by omega
    have hs : La.length + Lb.length ≤ 16 := by omega
    obtain ⟨rfl, hx⟩ := hB e1 e2 hs
    obtain ⟨rfl, rfl⟩ := Prod.mk.inj hx
    subst e1
    subst e2
    have hsd : decide ((16 : Int) < (La.length : Int) + (Lb.length : Int)) = false := decide_eq_false (by omega)
    have hq3 : ∀ w, (binOp .eql 24 (.agg #[.int .u64 (x1 : Int), .int .u64 (x2 : Int)]) (.agg #[.int .u64 (x1 : Int), .int .u64 (x2 : Int)])).run Tryd.prog w = .ok (.bool true) w := fun w => by rw [eql_k]; simp
    clear hA hB hx HJ0 hall
    go_wp2_with fail
    go_ret
    exact ⟨rfl, K11.out.bel⟩

end Go.Proofs.YtgnbgjdkhnhlkaaDoor
