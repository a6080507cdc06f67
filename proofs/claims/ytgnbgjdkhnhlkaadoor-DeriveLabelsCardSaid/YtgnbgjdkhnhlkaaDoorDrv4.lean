/-
  Keys of numbers: derive.Number, the document's Number.
-/
import Derived.Test.YtgnbgjdkhnhlkaaDoorDrv3
import Derived.Deep.RegionHeldLaw
namespace Go.Proofs.YtgnbgjdkhnhlkaaDoor
open Go.RowKit
set_option linter.unusedVariables false
set_option linter.unusedSimpArgs false

/-- one byte behind a row of the call's own: the run, what it answers, and where -/
theorem app9 (W : World) (base : Nat) (sp : Option Addr) (cp g m : Nat) (l : List Nat) (y : Nat) (hown : W.ownsRow base 5 1 (.slice sp m cp) m (u8s l)) (hm : m ≤ 1000) (hc : W.cell? ⟨g, 0, none⟩ = some (.int .u8 (y : Int))) (hbase : base ≤ W.heap.size) :
    ∃ sa ca w4, (Builtin.append_ #[49, 49] 49 #[.slice sp m cp, .slice (some ⟨g, 0, none⟩) 1 1]).run Tryd.prog W = .ok (.slice sa (m + 1) ca) w4 ∧ Rd w4 1 (.slice sa (m + 1) ca) (m + 1) (u8s (l ++ [y])) ∧ Below base W w4 := by
  obtain ⟨i0, hi, hz0, hz1, hz2⟩ := info_parts info_u8
  obtain ⟨v', w4, hr, ho, hg, -⟩ := app_where (P := Tryd.prog) W base 49 49 5 i0 _ 1 1 Tryd.underlying49 hi hz0 hz1 hz2 rfl (by decide) _ m _ hown ⟨g, 0, none⟩ 1 1 [.int .u8 (y : Int)] rfl
    (fun j u hj => by
      match j, hj with
      | 0, hj => cases hj; exact hc)
    (fun u hu => by simp at hu; subst hu; rfl) (by unfold maxLen; omega) (by omega) hbase
  obtain ⟨sa, ca, rfl⟩ := (rd_of_row ho).form
  rw [← u8s_snoc] at ho
  exact ⟨sa, ca, w4, hr, rd_of_row ho, (Below.refl _ W).grown hg hbase fun k hk => (hown.lt k hk).1⟩

/-- an append whose run is known, at a step of a region that draws its order -/
theorem step_app_run {w : World} {ops : Array Oper} {o : Oper} {a : Act} {K : Act → World → Prop} {Q : Exit → Act → World → Prop} {E : Prop} (hgd : o.guard = none) (s x : Operand)
    (ho : o.op = .call { callee := .builtin .append, args := #[s, x], argTypes := #[49, 49] }) (hty : o.type = 49)
    (v vx : Value) (hs : a.eval s = v) (hx : a.eval x = vx) (v' : Value) (w' : World) (hrun : (Builtin.append_ #[49, 49] 49 #[v, vx]).run Tryd.prog w = .ok v' w')
    (h : K (a.put o.dst v') w') :
    if Region.wanted o (yielded ops a.tmps) = true then Oper.wp Tryd.prog o a w K Q else E := by
  have hw : Region.wanted o (yielded ops a.tmps) = true := by simp [Region.wanted, hgd]
  rw [if_pos hw]
  unfold Oper.wp execOp
  simp only [ho, hty, resolve, invoke, builtin, Sem.run_bind, Sem.run_pure, Result.andThen_ok, List.map_toArray, List.map_cons, List.map_nil, hs, hx, hrun]
  exact h

set_option maxRecDepth 100000 in
set_option maxHeartbeats 4000000 in
theorem number_any (hi lo : Nat) (h1 : hi < 18446744073709551616) (h2 : lo < 18446744073709551616) (n : Nat) (hn : n < 18446744073709551616) (w : World) :
    Calls Tryd.prog 16 #[u128 (hi, lo), .int .u64 (n : Int)] w fun e w' => e = .returned (u128 (numK (hi, lo) n)) ∧ Below w.heap.size w w' := by
  have CP := fun W => put64_nil n hn W
  have hby : Byt (byN n 8 ++ [110]) := by
    intro b hb; simp only [List.mem_append, List.mem_singleton] at hb
    rcases hb with hb | rfl
    · exact byN_byt n 8 b hb
    · decide
  have CO := fun W sx cx (hx : Rd W 1 (.slice sx 9 cx) 9 (u8s (byN n 8 ++ [110]))) => one_any hi lo h1 h2 _ hby _ _ W hx (by decide)
  rw [show sipH hi lo (byN n 8 ++ [110]) = numK (hi, lo) n from rfl] at CO
  generalize numK (hi, lo) n = R at *
  obtain ⟨r1, r2⟩ := R
  have hst := KBox.start w hi lo
  simp only [u128] at *
  have HCP := Lib.hid CP; have HCO := Lib.hid CO; have HST := Lib.hid hst
  clear CP CO hst h1 h2 hby
  go_enter Tryd.func16, Tryd.ntmps16
  go_upto_region 1 with fail
  generalize ((w.alloc _).alloc _) = w1 at *
  obtain ⟨k0, k1⟩ := HST.out.cells
  have fa : ∀ w3 sp cp, w3.ownsRow w1.drew.heap.size 5 1 (.slice sp 8 cp) 8 (u8s (byN n 8)) → Below w1.drew.heap.size w1.drew w3 → (w3.cell? ⟨w.heap.size, 0, none⟩ = some (.int .u64 (hi : Int)) ∧ w3.cell? ⟨w.heap.size, 1, none⟩ = some (.int .u64 (lo : Int))) ∧ ∃ sa ca w4, (Builtin.append_ #[49, 49] 49 #[.slice sp 8 cp, .slice (some ⟨w3.heap.size, 0, none⟩) 1 1]).run Tryd.prog (w3.alloc (.cells #[.int .u8 110] 5)) = .ok (.slice sa 9 ca) w4 ∧ Rd w4 1 (.slice sa 9 ca) 9 (u8s (byN n 8 ++ [110])) ∧ KBox w w4 hi lo := fun w3 sp cp ho hb => by
    have hb' : Below w1.heap.size w1 w3 := (Below.refl _ w1).drew.trans hb
    have hk := HST.out.below hb'
    refine ⟨hk.cells, ?_⟩
    obtain ⟨sa, ca, w4, h1, h2, h3⟩ := app9 (w3.alloc (.cells #[.int .u8 110] 5)) w1.heap.size sp cp w3.heap.size 8 (byN n 8) 110 (World.ownsRow.alloc ho _) (by decide) (by simp) (by have := hb'.size; simp; omega)
    exact ⟨sa, ca, w4, h1, h2, HST.out.below ((hb'.alloc hb'.size _).trans h3)⟩
  have fb : ∀ w3 sp cp, w3.ownsRow (w1.alloc (.cells #[.int .u8 110] 5)).drew.heap.size 5 1 (.slice sp 8 cp) 8 (u8s (byN n 8)) → Below (w1.alloc (.cells #[.int .u8 110] 5)).drew.heap.size (w1.alloc (.cells #[.int .u8 110] 5)).drew w3 → (w3.cell? ⟨w.heap.size, 0, none⟩ = some (.int .u64 (hi : Int)) ∧ w3.cell? ⟨w.heap.size, 1, none⟩ = some (.int .u64 (lo : Int))) ∧ ∃ sa ca w4, (Builtin.append_ #[49, 49] 49 #[.slice sp 8 cp, .slice (some ⟨w1.heap.size, 0, none⟩) 1 1]).run Tryd.prog w3 = .ok (.slice sa 9 ca) w4 ∧ Rd w4 1 (.slice sa 9 ca) 9 (u8s (byN n 8 ++ [110])) ∧ KBox w w4 hi lo := fun w3 sp cp ho hb => by
    have hsz : (w1.alloc (.cells #[.int .u8 110] 5)).drew.heap.size = w1.heap.size + 1 := by simp
    have hb' : Below w1.heap.size w1 w3 := ((Below.refl _ w1).alloc (Nat.le_refl _) _).drew.trans (hb.mono (by rw [hsz]; omega))
    have hk := HST.out.below hb'
    refine ⟨hk.cells, ?_⟩
    have hg : w3.heap[w1.heap.size]? = some (.cells #[.int .u8 110] 5 (0, 0)) := (hb.block _ (by rw [hsz]; omega)).trans (heap_alloc_new w1 _)
    obtain ⟨sa, ca, w4, h1, h2, h3⟩ := app9 w3 w1.heap.size sp cp w1.heap.size 8 (byN n 8) 110 (row_mono ho (by rw [hsz]; omega)) (by decide) (cell_of hg 0 rfl) hb'.size
    exact ⟨sa, ca, w4, h1, h2, HST.out.below (hb'.trans h3)⟩
  have FA := Lib.hid fa; have FB := Lib.hid fb
  clear fa fb
  go_region_held_law (fun w' => w'.cell? ⟨w.heap.size, 0, none⟩ = some (.int .u64 (hi : Int)) ∧ w'.cell? ⟨w.heap.size, 1, none⟩ = some (.int .u64 (lo : Int)))
    (first | (with_reducible exact ⟨s0, s1⟩) | (with_reducible exact ⟨t0, t1⟩) | (with_reducible exact ⟨v0, v1⟩) | go_keep)
    (first
      | (show (if Region.wanted _ _ = true then Oper.wp _ _ _ _ _ _ else _); refine step_app_run (by rfl) (.tmp 7) (.tmp 8) (by rfl) (by rfl) _ _ (by rfl) (by rfl) _ _ (by exact hrun) ?_)
      | (go_at_call 22; refine (HCP.out _).mono ?_; rintro e w3 ⟨sp, cp, rfl, hop, hb3⟩; (first | (with_reducible have hf := FA.out _ _ _ hop hb3; clear hop hb3; obtain ⟨⟨s0, s1⟩, sa, ca, w4, hrun, hx, hk4⟩ := hf; obtain ⟨t0, t1⟩ := hk4.cells; have HX := Lib.hid hx; have HK4 := Lib.hid hk4; clear hx hk4) | (with_reducible have hf := FB.out _ _ _ hop hb3; clear hop hb3; obtain ⟨⟨s0, s1⟩, sa, ca, w4, hrun, hx, hk4⟩ := hf; obtain ⟨t0, t1⟩ := hk4.cells; have HX := Lib.hid hx; have HK4 := Lib.hid hk4; clear hx hk4)))
      | (go_at_call 20; refine (HCO.out _ _ _ (by with_reducible exact HX.out)).mono ?_; rintro e w5 ⟨rfl, hb5⟩; have HK5 := Lib.hid (HK4.out.below hb5); clear hb5; obtain ⟨v0, v1⟩ := HK5.out.cells; obtain ⟨d0, d1, q0, q1⟩ := HK5.out.rcells))
  all_goals
    go_wp2_with fail
    refine bodyPost_ret (v := u128 (r1, r2)) (by simp [u128, results, Tryd.results16, go_sem, d0, d1]) rfl ⟨?_, HK5.out.ends _ _⟩
    exact (rfl : _ = _)

set_option maxRecDepth 100000 in
set_option maxHeartbeats 4000000 in
theorem refnumber_any (hi lo : Nat) (h1 : hi < 18446744073709551616) (h2 : lo < 18446744073709551616) (n : Nat) (hn : n < 18446744073709551616) (w : World) :
    Calls Tryd.prog 17 #[u128 (hi, lo), .int .u64 (n : Int)] w fun e w' => e = .returned (u128 (numK (hi, lo) n)) ∧ Below w.heap.size w w' := by
  have CP := fun W => refbytes_any n hn W
  have hby : Byt (byN n 8 ++ [110]) := by
    intro b hb; simp only [List.mem_append, List.mem_singleton] at hb
    rcases hb with hb | rfl
    · exact byN_byt n 8 b hb
    · decide
  have CO := fun W sx cx (hx : Rd W 1 (.slice sx 9 cx) 9 (u8s (byN n 8 ++ [110]))) => refone_any hi lo h1 h2 _ hby _ _ W hx (by decide)
  rw [show sipH hi lo (byN n 8 ++ [110]) = numK (hi, lo) n from rfl] at CO
  generalize numK (hi, lo) n = R at *
  obtain ⟨r1, r2⟩ := R
  have hst := KBox.start w hi lo
  simp only [u128] at *
  have HCP := Lib.hid CP; have HCO := Lib.hid CO; have HST := Lib.hid hst
  clear CP CO hst h1 h2 hby
  go_enter Tryd.func17, Tryd.ntmps17
  go_upto_region 1 with fail
  generalize ((w.alloc _).alloc _) = w1 at *
  obtain ⟨k0, k1⟩ := HST.out.cells
  have fa : ∀ w3 sp cp, w3.ownsRow w1.drew.heap.size 5 1 (.slice sp 8 cp) 8 (u8s (byN n 8)) → Below w1.drew.heap.size w1.drew w3 → (w3.cell? ⟨w.heap.size, 0, none⟩ = some (.int .u64 (hi : Int)) ∧ w3.cell? ⟨w.heap.size, 1, none⟩ = some (.int .u64 (lo : Int))) ∧ ∃ sa ca w4, (Builtin.append_ #[49, 49] 49 #[.slice sp 8 cp, .slice (some ⟨w3.heap.size, 0, none⟩) 1 1]).run Tryd.prog (w3.alloc (.cells #[.int .u8 110] 5)) = .ok (.slice sa 9 ca) w4 ∧ Rd w4 1 (.slice sa 9 ca) 9 (u8s (byN n 8 ++ [110])) ∧ KBox w w4 hi lo := fun w3 sp cp ho hb => by
    have hb' : Below w1.heap.size w1 w3 := (Below.refl _ w1).drew.trans hb
    have hk := HST.out.below hb'
    refine ⟨hk.cells, ?_⟩
    obtain ⟨sa, ca, w4, h1, h2, h3⟩ := app9 (w3.alloc (.cells #[.int .u8 110] 5)) w1.heap.size sp cp w3.heap.size 8 (byN n 8) 110 (World.ownsRow.alloc ho _) (by decide) (by simp) (by have := hb'.size; simp; omega)
    exact ⟨sa, ca, w4, h1, h2, HST.out.below ((hb'.alloc hb'.size _).trans h3)⟩
  have fb : ∀ w3 sp cp, w3.ownsRow (w1.alloc (.cells #[.int .u8 110] 5)).drew.heap.size 5 1 (.slice sp 8 cp) 8 (u8s (byN n 8)) → Below (w1.alloc (.cells #[.int .u8 110] 5)).drew.heap.size (w1.alloc (.cells #[.int .u8 110] 5)).drew w3 → (w3.cell? ⟨w.heap.size, 0, none⟩ = some (.int .u64 (hi : Int)) ∧ w3.cell? ⟨w.heap.size, 1, none⟩ = some (.int .u64 (lo : Int))) ∧ ∃ sa ca w4, (Builtin.append_ #[49, 49] 49 #[.slice sp 8 cp, .slice (some ⟨w1.heap.size, 0, none⟩) 1 1]).run Tryd.prog w3 = .ok (.slice sa 9 ca) w4 ∧ Rd w4 1 (.slice sa 9 ca) 9 (u8s (byN n 8 ++ [110])) ∧ KBox w w4 hi lo := fun w3 sp cp ho hb => by
    have hsz : (w1.alloc (.cells #[.int .u8 110] 5)).drew.heap.size = w1.heap.size + 1 := by simp
    have hb' : Below w1.heap.size w1 w3 := ((Below.refl _ w1).alloc (Nat.le_refl _) _).drew.trans (hb.mono (by rw [hsz]; omega))
    have hk := HST.out.below hb'
    refine ⟨hk.cells, ?_⟩
    have hg : w3.heap[w1.heap.size]? = some (.cells #[.int .u8 110] 5 (0, 0)) := (hb.block _ (by rw [hsz]; omega)).trans (heap_alloc_new w1 _)
    obtain ⟨sa, ca, w4, h1, h2, h3⟩ := app9 w3 w1.heap.size sp cp w1.heap.size 8 (byN n 8) 110 (row_mono ho (by rw [hsz]; omega)) (by decide) (cell_of hg 0 rfl) hb'.size
    exact ⟨sa, ca, w4, h1, h2, HST.out.below (hb'.trans h3)⟩
  have FA := Lib.hid fa; have FB := Lib.hid fb
  clear fa fb
  go_region_held_law (fun w' => w'.cell? ⟨w.heap.size, 0, none⟩ = some (.int .u64 (hi : Int)) ∧ w'.cell? ⟨w.heap.size, 1, none⟩ = some (.int .u64 (lo : Int)))
    (first | (with_reducible exact ⟨s0, s1⟩) | (with_reducible exact ⟨t0, t1⟩) | (with_reducible exact ⟨v0, v1⟩) | go_keep)
    (first
      | (show (if Region.wanted _ _ = true then Oper.wp _ _ _ _ _ _ else _); refine step_app_run (by rfl) (.tmp 7) (.tmp 8) (by rfl) (by rfl) _ _ (by rfl) (by rfl) _ _ (by exact hrun) ?_)
      | (go_at_call 24; refine (HCP.out _).mono ?_; rintro e w3 ⟨sp, cp, rfl, hop, hb3⟩; (first | (with_reducible have hf := FA.out _ _ _ hop hb3; clear hop hb3; obtain ⟨⟨s0, s1⟩, sa, ca, w4, hrun, hx, hk4⟩ := hf; obtain ⟨t0, t1⟩ := hk4.cells; have HX := Lib.hid hx; have HK4 := Lib.hid hk4; clear hx hk4) | (with_reducible have hf := FB.out _ _ _ hop hb3; clear hop hb3; obtain ⟨⟨s0, s1⟩, sa, ca, w4, hrun, hx, hk4⟩ := hf; obtain ⟨t0, t1⟩ := hk4.cells; have HX := Lib.hid hx; have HK4 := Lib.hid hk4; clear hx hk4)))
      | (go_at_call 23; refine (HCO.out _ _ _ (by with_reducible exact HX.out)).mono ?_; rintro e w5 ⟨rfl, hb5⟩; have HK5 := Lib.hid (HK4.out.below hb5); clear hb5; obtain ⟨v0, v1⟩ := HK5.out.cells; obtain ⟨d0, d1, q0, q1⟩ := HK5.out.rcells))
  all_goals
    go_wp2_with fail
    refine bodyPost_ret (v := u128 (r1, r2)) (by simp [u128, results, Tryd.results17, go_sem, d0, d1]) rfl ⟨?_, HK5.out.ends _ _⟩
    exact (rfl : _ = _)

end Go.Proofs.YtgnbgjdkhnhlkaaDoor
