/-
  The reference's draws from a list of words: Take, Row; and whether draws are alike: Same.
  The reference's draws one behind the other: Row; and whether draws are alike: Same.
  Whether draws are alike: the reference's Same.
  Two appends in one statement whose order is open: a row of ints and a row of draws.
-/
import Derived.Test.YtcoohepkmhpdkaaGreatDraw
import Derived.Laws.StructEq
import Derived.Deep.RegionHeld3
namespace Go.Proofs.YtcoohepkmhpdkaaGreat
open Go.RowKit
set_option linter.unusedVariables false

theorem cell_three_at (w : World) (x y z : Value) (e : TypeId) (g : Nat) (hg : g = w.heap.size) : ∀ j u, [x, y, z][j]? = some u → (w.alloc (.cells #[x, y, z] e)).cell? ((⟨g, 0, none⟩ : Addr).add j) = some u := by
  subst hg
  intro j u hu
  rw [Addr.add_lit, cell_of_row (w.alloc (.cells #[x, y, z] e)) w.heap.size _ _ e (0, 0) (heap_alloc_new w _)]
  simpa using hu

theorem info_dw : (Tryz.prog.info? 65).map (fun i => (i.zero, i.size, i.bytes)) = some (some (.agg #[.int .u64 0, .int .u64 0, .int .i64 0]), 3, 24) := by kernel_rfl

/-- 'append(s, d)', s a row of draws of the call's own: as a step of the walk. -/
theorem app_dw (W : World) {ops : Array Oper} {rest : List Oper} {o : Oper} {a : Act} {Q : Exit → Act → World → Prop} (hgd : o.guard = none) (s x : Operand)
    (ho : o.op = .call { callee := .builtin .append, args := #[s, x], argTypes := #[41, 41] })
    (base : Nat) (v : Value) (n : Nat) (xs : List Value) (hs : a.eval s = v) (hown : W.ownsRow base 65 3 v n xs)
    (g : Nat) (d1 d2 d3 : Int) (hx : a.eval x = .slice (some ⟨g, 0, none⟩) 1 1) (hg : g = W.heap.size) (hn : n ≤ 1000000) (hbase : base ≤ W.heap.size)
    (h : ∀ v' w', w'.ownsRow base 65 3 v' (n + 1) (xs ++ [.int .u64 d1, .int .u64 d2, .int .i64 d3]) → Chg (fun k => v.ownBlock = some k) W w' → (∀ k, v'.ownBlock = some k → v.ownBlock = some k ∨ W.heap.size ≤ k) → wpList Tryz.prog ops Q rest (a.put o.dst v') w') :
    wpList Tryz.prog ops Q (o :: rest) a (W.alloc (.cells #[.int .u64 d1, .int .u64 d2, .int .i64 d3] 65)) := by
  obtain ⟨i0, hi, hz0, hz1, hz2⟩ := info_parts info_dw
  refine wpList_plain hgd fun K hK => ?_
  obtain ⟨v', w', hr, h2, h3, h4⟩ := app_where (P := Tryz.prog) (W.alloc (.cells #[.int .u64 d1, .int .u64 d2, .int .i64 d3] 65)) base _ o.type _ i0 _ 3 24 Tryz.underlying41 hi hz0 hz1 hz2 rfl (by decide) v n xs (hown.alloc _) ⟨g, 0, none⟩ 1 1 [.int .u64 d1, .int .u64 d2, .int .i64 d3] rfl
    (cell_three_at W _ _ _ _ g hg) (fun y hy => by simp at hy; rcases hy with rfl | rfl | rfl <;> rfl) (by unfold maxLen; omega) (by omega) (by simp; omega)
  unfold Oper.wp execOp
  simp only [ho, resolve, invoke, builtin, Sem.run_bind, Sem.run_pure, Result.andThen_ok, List.map_toArray, List.map_cons, List.map_nil, hs, hx, hr]
  refine hK _ _ (h v' w' h2 (((Chg.refl _ W).alloc _).grown h3 (fun k hk => .inl hk)) fun k hk => ?_)
  rcases h4 with h4 | h4
  · exact .inl (h4 ▸ hk)
  · rw [h4] at hk
    simp at hk
    omega

set_option maxRecDepth 100000 in
set_option maxHeartbeats 4000000 in
theorem rtake_any (w : World) (v : Value) (m : Nat) (l : List Nat) (n : Nat) (hr : Rd w 1 v m (u64s (zsN l))) (hm : m < 50000) (hw : W64 l) (h0 : 0 < n) (hn : n < 2 ^ 64) :
    Calls Tryz.prog 25 #[v, .int .u64 (n : Int)] w fun e w' => TkE (takeN n 0 l) (fun d => e = .returned (.tuple #[.agg #[.int .u64 (d.1 : Int), .int .u64 (d.2.1 : Int), .int .i64 (d.2.2 : Int)], .bool true]))
      (e = .returned (.tuple #[.agg #[.int .u64 0, .int .u64 0, .int .i64 0], .bool false])) ∧ Below w.heap.size w w' := by
  obtain rfl := hr.len_u64
  rw [zsN_len] at *
  obtain ⟨sa, cap, rfl⟩ := hr.form
  have HR := Lib.hid hr; have HW := Lib.hid hw; have HN := Lib.hid hn; have H0 := Lib.hid h0
  clear hr hw hn h0
  obtain ⟨R, hR⟩ : ∃ R, R = takeN n 0 l := ⟨_, rfl⟩
  rw [← hR]
  have HR0 := Lib.hid hR; clear hR
  go_enter Tryz.func25, Tryz.ntmps25
  go_wp2
  go_loopw [12] (fun i wr => ∃ k : Nat, k ≤ l.length ∧ i = .int .i64 k ∧ Hid (wr.heap[w.heap.size]? = some (.cells #[.int .u64 0, .int .u64 0, .int .i64 0] 65 (0, 0))) ∧ Hid (Below w.heap.size w wr) ∧ Hid (R = takeN n k (l.drop k))) (fun i _ => l.length - (intOf i).toNat)
  case atStart => exact ⟨0, Nat.zero_le _, rfl, heap_alloc_new _ _, (Below.refl _ w).alloc (Nat.le_refl _) _, HR0⟩
  case round =>
    obtain ⟨k, hk, rfl, HC, HB, HRk⟩ := hrel
    have hsz := block_lt HC.out
    by_cases hlt : k < l.length
    · have hw1 := HW.out.at (k := k) (by omega)
      obtain ⟨bb, off, rfl, hc⟩ := (HR.out.below HB.out).at (by omega)
      have cx := hc k _ (u64s_at (zsN l) k (by rw [zsN_len]; exact hlt))
      rw [zsN_get] at cx
      have hyes := takeN_yes (n := n) (u := k) (k := k) (l := l) hlt
      have hno := takeN_no (n := n) (u := k) (k := k) (l := l) hlt
      have T := fun w => rtakes_any w (l.getD k 0) n H0.out hw1 HN.out
      have K := fun w => rrank_any w (l.getD k 0) n hw1 HN.out
      generalize l.getD k 0 = a at *
      have HTT := Lib.hid T; have HKK := Lib.hid K; have HY := Lib.hid hyes; have HNO := Lib.hid hno
      clear T K hyes hno hw1 hc
      go_wp2_with fail
      refine (HTT.out _).mono ?_
      rintro e w3 ⟨rfl, hb3⟩
      have hC3 := (hb3.block _ hsz).trans HC.out
      have HC3 := Lib.hid hC3; have HB3 := Lib.hid (HB.out.trans (hb3.mono (Nat.le_of_lt hsz))); clear hC3 hb3 cx
      cases htk : tknB a n with
      | true =>
        have hK := HKK.out w3 (tknB_iff.1 htk)
        have hYY := HY.out htk
        rw [show a * n / 2 ^ 64 = telN a n from rfl, show a - firstN (telN a n) n = rnkN a n from rfl] at hK
        have HK := Lib.hid hK; have HYY := Lib.hid hYY
        clear hK hYY
        generalize telN a n = v at *
        generalize rnkN a n = r at *
        clear htk
        go_wp2_with fail
        refine HK.out.mono ?_
        rintro e w4 ⟨rfl, hb4⟩
        have hC4 := (hb4.block _ (block_lt HC3.out)).trans HC3.out
        have d0 := cell_of hC4 0 rfl
        have d1 := cell_of hC4 1 rfl
        have d2 := cell_of hC4 2 rfl
        have g0 := frozen_of hC4 0
        have g1 := frozen_of hC4 1
        have g2 := frozen_of hC4 2
        have HB4 := Lib.hid (HB3.out.trans (hb4.mono HB3.out.size)); clear hb4 hC4
        go_wp2_with fail
        refine bodyPost_ret (v := .tuple #[.agg #[.int .u64 (v : Int), .int .u64 (r : Int), .int .i64 ((k : Int) + 1)], .bool true]) ?hres rfl ?_
        case hres => simp [results, Tryz.results25, go_sem, d0, d1, d2]
        rw [HRk.out, HYY.out]
        refine ⟨?_, ((HB4.out.setCell (by simp) _).setCell (by simp) _).setCell (by simp) _⟩
        exact (rfl : _ = _)
      | false =>
        have HNN := Lib.hid (HNO.out htk)
        clear htk
        go_wp2_with fail
        go_roundw
        case rel => exact ⟨k + 1, by omega, by go_num, HC3, HB3, Lib.hid (by rw [HRk.out, HNN.out])⟩
        case measure => simp [intOf]; omega
    · obtain rfl : k = l.length := by omega
      have hE : takeN n l.length (l.drop l.length) = none := takeN_end
      have hC4 := HC.out
      have d0 := cell_of hC4 0 rfl
      have d1 := cell_of hC4 1 rfl
      have d2 := cell_of hC4 2 rfl
      have g0 := frozen_of hC4 0
      have g1 := frozen_of hC4 1
      have g2 := frozen_of hC4 2
      have HE := Lib.hid hE
      clear hE hC4
      go_wp2_with fail
      refine bodyPost_ret (v := .tuple #[.agg #[.int .u64 0, .int .u64 0, .int .i64 0], .bool false]) ?hres2 rfl ?_
      case hres2 => simp [results, Tryz.results25, go_sem, d0, d1, d2]
      rw [HRk.out, HE.out]
      refine ⟨?_, ((HB.out.setCell (by simp) _).setCell (by simp) _).setCell (by simp) _⟩
      exact (rfl : _ = _)

end Go.Proofs.YtcoohepkmhpdkaaGreat

namespace Go.Proofs.YtcoohepkmhpdkaaGreat
open Go.RowKit
set_option linter.unusedVariables false

/-- limits that words of 64 bits serve -/
def Lims (ns : List Nat) : Prop := ∀ n ∈ ns, 0 < n ∧ n < 2 ^ 64
theorem Lims.at {ns : List Nat} (h : Lims ns) {i : Nat} (hi : i < ns.length) : 0 < ns.getD i 0 ∧ ns.getD i 0 < 2 ^ 64 := by
  rw [List.getD_eq_getElem?_getD, List.getElem?_eq_getElem hi]
  exact h _ (List.getElem_mem hi)

/-- v[k:] -/
theorem Rd.from {w : World} {sz : Nat} {sa : Option Addr} {n cap : Nat} {cs : List Value} (h : Rd w sz (.slice sa n cap) n cs) {k : Nat} (hk : k ≤ n) :
    Rd w sz (.slice (if cap = k then sa else sa.map (·.add (k * sz))) (n - k) (cap - k)) (n - k) (cs.drop (k * sz)) := by
  have hc := h.cap_le.1
  obtain ⟨h1, h2, sa', cap', hv, hcc, h3⟩ := h
  cases hv
  refine ⟨by rw [List.length_drop, h1, Nat.sub_mul], by omega, _, _, rfl, by omega, ?_⟩
  by_cases h0 : n = k
  · exact .inl (by omega)
  · rcases h3 with h3 | ⟨b, off, rfl, h5⟩
    · omega
    · rw [if_neg (by omega)]
      refine .inr ⟨b, off + k * sz, by simp [Addr.add_lit], fun i u hu => ?_⟩
      rw [List.getElem?_drop] at hu
      have := h5 _ _ hu
      rw [Nat.add_assoc]
      exact this

set_option maxRecDepth 100000 in
set_option maxHeartbeats 4000000 in
theorem rrow_any (w : World) (v vl : Value) (m ml : Nat) (l ns : List Nat) (hr : Rd w 1 v m (u64s (zsN l))) (hrl : Rd w 1 vl ml (u64s (zsN ns))) (hm : m < 50000) (hml : ml < 50000) (hw : W64 l) (hns : Lims ns) :
    Calls Tryz.prog 42 #[v, vl] w fun e w' => TkE (rowN l ns) (fun r => ∃ sa cap, e = .returned (.tuple #[.slice sa r.1.length cap, .int .i64 (r.2 : Int), .bool true]) ∧ w'.ownsRow w.heap.size 65 3 (.slice sa r.1.length cap) r.1.length (dwC r.1))
      (e = .returned (.tuple #[.slice none 0 0, .int .i64 (l.length : Int), .bool false])) ∧ Below w.heap.size w w' := by
  obtain rfl := hr.len_u64
  obtain rfl := hrl.len_u64
  rw [zsN_len] at *
  obtain ⟨sa, cap, rfl⟩ := hr.form
  obtain ⟨sl, capl, rfl⟩ := hrl.form
  have hcap := hr.cap_le.1
  have HR := Lib.hid hr; have HW := Lib.hid hw; have HL := Lib.hid hrl; have HNS := Lib.hid hns
  clear hr hw hrl hns
  obtain ⟨R, hR⟩ : ∃ R, R = rowN l ns := ⟨_, rfl⟩
  rw [← hR]
  have HR0 := Lib.hid hR; clear hR
  go_enter Tryz.func42, Tryz.ntmps42
  go_wp2
  go_loopw [7, 8, 15] (fun s7 s8 i wr => ∃ (k used : Nat) (acc : List Drw) (sd : Option Addr) (cd : Nat), k ≤ ns.length ∧ i = .int .i64 k ∧ used ≤ l.length ∧ s8 = .int .i64 used ∧ s7 = .slice sd k cd ∧ acc.length = k ∧ Hid (wr.ownsRow w.heap.size 65 3 (.slice sd k cd) k (dwC acc)) ∧ Hid (Below w.heap.size w wr) ∧ Hid (R = rowA l (ns.drop k) acc used)) (fun _ _ i _ => ns.length - (intOf i).toNat)
  case atStart => exact ⟨0, 0, [], none, 0, Nat.zero_le _, rfl, Nat.zero_le _, rfl, rfl, rfl, World.ownsRow_nil _ _ _ _, Below.refl _ w, HR0⟩
  case round =>
    obtain ⟨k, used, acc, sd, cd, hk, rfl, hu, rfl, rfl, hak, HO, HB, HRk⟩ := hrel
    have HAK := Lib.hid hak; clear hak
    by_cases hlt : k < ns.length
    · obtain ⟨hn0, hn1⟩ := HNS.out.at hlt
      obtain ⟨bb, off, rfl, hc⟩ := (HL.out.below HB.out).at (by omega)
      have cx := hc k _ (u64s_at (zsN ns) k (by rw [zsN_len]; exact hlt))
      rw [zsN_get] at cx
      have hst := rowA_step (l := l) hlt acc used
      generalize ns.getD k 0 = n at *
      have HST := Lib.hid hst; have HN0 := Lib.hid hn0; have HN1 := Lib.hid hn1
      have hrs := (HR.out.below HB.out).from hu
      rw [Nat.mul_one] at hrs
      have hsl : (zsN l).length = l.length := zsN_len l
      obtain ⟨sx, hx⟩ : ∃ sx, (if cap = used then sa else sa.map (·.add used)) = sx := ⟨_, rfl⟩
      rw [hx] at hrs
      have hrs' : Rd wr 1 (.slice sx (l.length - used) (cap - used)) (l.length - used) (u64s (zsN (l.drop used))) := by rw [zsN_drop, u64s_drop]; exact hrs
      have C := rtake_any wr _ _ (l.drop used) n hrs' (by omega) (fun a ha => HW.out a (List.mem_of_mem_drop ha)) HN0.out HN1.out
      have HC := Lib.hid C
      clear hst hc hn0 hn1 hrs hrs' hsl C
      go_wp2_with fail
      refine HC.out.mono ?_
      rintro e w1 ⟨he, hb1⟩
      have HB1 := Lib.hid (HB.out.trans (hb1.mono HB.out.size))
      have HO1 := Lib.hid (row_chg HO.out (Chg.of_below (S := fun _ => False) hb1) (fun _ _ h => h))
      have hsz1 := hb1.size
      cases htk : takeN n 0 (l.drop used) with
      | none =>
        rw [htk] at he
        obtain rfl : e = .returned (.tuple #[.agg #[.int .u64 0, .int .u64 0, .int .i64 0], .bool false]) := he
        have hE : R = none := by rw [HRk.out, HST.out, htk]
        have HE := Lib.hid hE
        clear hE htk hb1 cx
        go_wp2_with fail
        go_ret3
        rw [HE.out]
        refine ⟨?_, HB1.out.alloc HB1.out.size _⟩
        exact (rfl : _ = _)
      | some d =>
        rw [htk] at he
        obtain rfl : e = .returned (.tuple #[.agg #[.int .u64 (d.1 : Int), .int .u64 (d.2.1 : Int), .int .i64 (d.2.2 : Int)], .bool true]) := he
        have hus := takeN_used htk
        rw [List.length_drop] at hus
        have hus' : used + d.2.2 ≤ l.length := by omega
        have hE : R = rowA l (ns.drop (k + 1)) (acc ++ [d]) (used + d.2.2) := by rw [HRk.out, HST.out, htk]
        have HE := Lib.hid hE
        clear hE htk hb1 cx hus
        obtain ⟨d1, d2, d3⟩ := d
        simp only at hus'
        have hd3 : d3 ≤ 50000 := by omega
        go_wp2_with (at_builtin; go_must (refine app_dw _ rfl _ _ rfl w.heap.size _ _ _ rfl (HO1.out.alloc _) _ _ _ _ rfl ?qg ?qn ?qb ?_))
        case qg => simp
        case qn => omega
        case qb => have := HB1.out.size; simp; omega
        intro v' w2 hown hchg hfresh
        obtain ⟨sa', cap', rfl⟩ := (rd_of_row hown).form
        have hblk : w2.heap[w1.heap.size]? = some (.cells #[.int .u64 (d1 : Int), .int .u64 (d2 : Int), .int .i64 (d3 : Int)] 65 (0, 0)) := by
          rw [hchg.block _ (by simp) (fun h => by have := (HO1.out.lt _ h).2; omega)]
          exact heap_alloc_new _ _
        have c2 := cell_of hblk 2 rfl
        rw [← dwC_snoc acc (d1, d2, d3)] at hown
        have hc2 := ((HB1.out.alloc HB1.out.size (.cells #[.int .u64 (d1 : Int), .int .u64 (d2 : Int), .int .i64 (d3 : Int)] 65)).trans (hchg.below (B := w.heap.size) (by have := HB1.out.size; simp; omega) fun i hi => (HO1.out.lt i hi).1))
        have HO2 := Lib.hid hown; have HB2 := Lib.hid hc2
        clear hown hchg hfresh hblk hc2
        go_wp2_with fail
        go_roundw
        case rel => exact ⟨k + 1, used + d3, acc ++ [(d1, d2, d3)], sa', cap', by omega, by go_num, hus', by go_num, rfl, by rw [List.length_append, HAK.out]; rfl, HO2, HB2, HE⟩
        case measure => simp [intOf]; omega
    · obtain rfl : k = ns.length := by omega
      have hE : R = some (acc, used) := by rw [HRk.out, List.drop_length]; rfl
      have HE := Lib.hid hE; clear hE
      go_wp2_with fail
      go_ret3
      rw [HE.out]
      refine ⟨⟨sd, cd, ?_, ?_⟩, HB.out⟩
      · show _ = Ending.returned (.tuple #[.slice sd acc.length cd, _, _])
        rw [HAK.out]
        rfl
      · show wr.ownsRow _ _ _ (.slice sd acc.length cd) acc.length _
        rw [HAK.out]
        exact HO.out

end Go.Proofs.YtcoohepkmhpdkaaGreat

namespace Go.Proofs.YtcoohepkmhpdkaaGreat
open Go.RowKit
set_option linter.unusedVariables false

set_option maxRecDepth 100000 in
theorem neq_dw (w : World) (a1 a2 a3 b1 b2 b3 : Int) : (binOp .neq 65 (.agg #[.int .u64 a1, .int .u64 a2, .int .i64 a3]) (.agg #[.int .u64 b1, .int .u64 b2, .int .i64 b3])).run Tryz.prog w = .ok (.bool (!(a1 == b1 && (a2 == b2 && a3 == b3)))) w := by
  have hf : (Tryz.prog.fieldsOf 65).toList = [{ name := "N", type := 48, offset := 0, embedded := false, tag := "", pkgPath := "", byteOffset := 0 },
        { name := "Rank", type := 48, offset := 1, embedded := false, tag := "", pkgPath := "", byteOffset := 8 },
        { name := "Used", type := 3, offset := 2, embedded := false, tag := "", pkgPath := "", byteOffset := 16 }] := by kernel_rfl
  have hu : Tryz.prog.underlying 65 = some (.struct (Tryz.prog.fieldsOf 65)) := by kernel_rfl
  have hp : Tryz.prog.stoodInHeld 65 = false := by kernel_rfl
  have p0 : ∀ (x y z : Value), (part 48 #[x, y, z] 0).run Tryz.prog w = .ok x w := fun _ _ _ => by kernel_rfl
  have p1 : ∀ (x y z : Value), (part 48 #[x, y, z] 1).run Tryz.prog w = .ok y w := fun _ _ _ => by kernel_rfl
  have p2 : ∀ (x y z : Value), (part 3 #[x, y, z] 2).run Tryz.prog w = .ok z w := fun _ _ _ => by kernel_rfl
  have e55 : ∀ (d : Nat) (x y : Int), (Op.equalIn (d + 1) 48 (.int .u64 x) (.int .u64 y)).run Tryz.prog w = .ok (x == y) w := fun d x y => run_equalIn_int w d 48 .u64 .u64 x y Tryz.underlying48
  have e3 : ∀ (d : Nat) (x y : Int), (Op.equalIn (d + 1) 3 (.int .i64 x) (.int .i64 y)).run Tryz.prog w = .ok (x == y) w := fun d x y => run_equalIn_int w d 3 .i64 .i64 x y Tryz.underlying3
  rw [run_neq_struct, show (10000 : Nat) = 9999 + 1 from rfl, run_equalIn_agg w 9999 65 _ _ hu hp, hf]
  simp only [Op.eqFields]
  rw [show (9999 : Nat) = 9998 + 1 from rfl]
  simp [Sem.run_bind, p0, p1, p2, e55, e3]
  cases h1 : (a1 == b1) <;> cases h2 : (a2 == b2) <;> cases h3 : (a3 == b3) <;> simp_all

theorem guard_dw (op : BinOp) (w : World) (x y : Operand) (xs ys : Array Value) : (eqGuard op 65 x y (.agg xs) (.agg ys)).run Tryz.prog w = .ok () w :=
  run_eqGuard_agg w op 65 x y xs ys (by kernel_rfl)

def dwEq (a b : List Drw) : Bool := decide (a = b)
theorem dwEq_len {a b : List Drw} (h : a.length ≠ b.length) : dwEq a b = false := by
  simp only [dwEq, decide_eq_false_iff_not]; rintro rfl; exact h rfl
theorem dwEq_all {a b : List Drw} (h : a.length = b.length) (hk : ∀ j, j < a.length → a.getD j dwZ = b.getD j dwZ) : dwEq a b = true := by
  simp only [dwEq, decide_eq_true_eq]
  refine List.ext_getElem h fun j h1 h2 => ?_
  have := hk j h1
  simpa [List.getD, List.getElem?_eq_getElem h1, List.getElem?_eq_getElem h2] using this
theorem dwEq_not {a b : List Drw} (k : Nat) (hk : a.getD k dwZ ≠ b.getD k dwZ) : dwEq a b = false := by
  simp only [dwEq, decide_eq_false_iff_not]; rintro rfl; exact hk rfl
theorem dwEq_self (a : List Drw) : dwEq a a = true := by simp [dwEq]

end Go.Proofs.YtcoohepkmhpdkaaGreat

namespace Go.Proofs.YtcoohepkmhpdkaaGreat
open Go.RowKit
set_option linter.unusedVariables false

/-- two rows of the call's own, since the world Wb -/
structure Two (B : Nat) (Wb w : World) (vc0 vd0 vc vd : Value) (nc nd : Nat) (xc xd : List Value) : Prop where
  cs : w.ownsRow B 3 1 vc nc xc
  ds : w.ownsRow B 65 3 vd nd xd
  chg : Chg (fun g => vc0.ownBlock = some g ∨ vd0.ownBlock = some g) Wb w
  fc : ∀ g, vc.ownBlock = some g → vc0.ownBlock = some g ∨ Wb.heap.size ≤ g
  fd : ∀ g, vd.ownBlock = some g → vd0.ownBlock = some g ∨ Wb.heap.size ≤ g
  bs : B ≤ Wb.heap.size

/-- Rows of different kinds lie in different blocks. -/
theorem row_ne_row {w : World} {B B' : Nat} {e e' : TypeId} {sz sz' : Nat} {v v' : Value} {n n' : Nat} {xs xs' : List Value} (h : w.ownsRow B e sz v n xs) (h' : w.ownsRow B' e' sz' v' n' xs') (hne : e ≠ e') {g : Nat} (hg : v.ownBlock = some g) : v'.ownBlock ≠ some g := by
  intro hg'
  rcases h.2 with ⟨rfl, _⟩ | ⟨g1, c1, cur1, rfl, _, h1, _⟩
  · cases hg
  · rcases h'.2 with ⟨rfl, _⟩ | ⟨g2, c2, cur2, rfl, _, h2, _⟩
    · cases hg'
    · cases hg
      cases hg'
      rw [h1] at h2
      injection h2 with h2
      injection h2 with _ h3
      exact hne h3

section
variable {B : Nat} {Wb w w' : World} {vc0 vd0 vc vd v' : Value} {nc nd : Nat} {xc xd : List Value}

theorem Two.start (hc : w.ownsRow B 3 1 vc nc xc) (hd : w.ownsRow B 65 3 vd nd xd) (hB : B ≤ w.heap.size) : Two B w w vc vd vc vd nc nd xc xd :=
  ⟨hc, hd, Chg.refl _ _, fun g h => .inl h, fun g h => .inl h, hB⟩
theorem Two.drew (h : Two B Wb w vc0 vd0 vc vd nc nd xc xd) : Two B Wb w.drew vc0 vd0 vc vd nc nd xc xd := ⟨h.cs.drew, h.ds.drew, h.chg.drew, h.fc, h.fd, h.bs⟩
theorem Two.alloc (h : Two B Wb w vc0 vd0 vc vd nc nd xc xd) (o : Obj) : Two B Wb (w.alloc o) vc0 vd0 vc vd nc nd xc xd := ⟨h.cs.alloc _, h.ds.alloc _, h.chg.alloc _, h.fc, h.fd, h.bs⟩

theorem Two.appc (h : Two B Wb w vc0 vd0 vc vd nc nd xc xd) {y : Value} (hown : w'.ownsRow B 3 1 v' (nc + 1) (xc ++ [y])) (hg : w.grownBy w' vc.ownBlock) (hat : v'.ownBlock = vc.ownBlock ∨ v'.ownBlock = some w.heap.size) :
    Two B Wb w' vc0 vd0 v' vd (nc + 1) nd (xc ++ [y]) xd := by
  have hs := h.chg.size
  refine ⟨hown, row_kept h.ds fun g hx => hg.block g (h.ds.lt g hx).2 (fun hy => ?_), h.chg.grown hg fun k hk => ?_, fun g hx => ?_, h.fd, h.bs⟩
  · exact row_ne_row h.ds h.cs (by decide) hx hy.symm
  · rcases h.fc k hk with h1 | h1
    · exact .inl (.inl h1)
    · exact .inr h1
  · rcases hat with h1 | h1
    · exact h.fc g (h1 ▸ hx)
    · rw [h1] at hx
      cases hx
      exact .inr hs
theorem Two.appd (h : Two B Wb w vc0 vd0 vc vd nc nd xc xd) {y : List Value} (hown : w'.ownsRow B 65 3 v' (nd + 1) (xd ++ y)) (hg : w.grownBy w' vd.ownBlock) (hat : v'.ownBlock = vd.ownBlock ∨ v'.ownBlock = some w.heap.size) :
    Two B Wb w' vc0 vd0 vc v' nc (nd + 1) xc (xd ++ y) := by
  have hs := h.chg.size
  refine ⟨row_kept h.cs fun g hx => hg.block g (h.cs.lt g hx).2 (fun hy => ?_), hown, h.chg.grown hg fun k hk => ?_, h.fc, fun g hx => ?_, h.bs⟩
  · exact row_ne_row h.cs h.ds (by decide) hx hy.symm
  · rcases h.fd k hk with h1 | h1
    · exact .inl (.inr h1)
    · exact .inr h1
  · rcases hat with h1 | h1
    · exact h.fd g (h1 ▸ hx)
    · rw [h1] at hx
      cases hx
      exact .inr hs

/-- a cell of a block that was made since is as it was behind an append -/
theorem cell_far {row : Option Nat} (hg : w.grownBy w' row) (b o : Nat) (hb : b < w.heap.size) (hr : some b ≠ row) : w'.cell? ⟨b, o, none⟩ = w.cell? ⟨b, o, none⟩ :=
  World.cell?_of_block (hg.block b hb hr)
end

/-- the step of a region that draws: 'append(c, x)', c a row of ints -/
theorem step_appc {B : Nat} {Wb w : World} {vc0 vd0 vc vd : Value} {nc nd : Nat} {xc xd : List Value} {ops : Array Oper} {o : Oper} {a : Act} {K : Act → World → Prop} {Q : Exit → Act → World → Prop} {E : Prop} (hgd : o.guard = none) (s x : Operand)
    (ho : o.op = .call { callee := .builtin .append, args := #[s, x], argTypes := #[36, 36] })
    (hs : a.eval s = vc) (hT : Two B Wb w vc0 vd0 vc vd nc nd xc xd) (g : Nat) (y : Value) (hx : a.eval x = .slice (some ⟨g, 0, none⟩) 1 1) (hcell : w.cell? ⟨g, 0, none⟩ = some y) (h1 : y.oneCell' = true) (hn : nc ≤ 1000000)
    (h : ∀ sa cap w', Two B Wb w' vc0 vd0 (.slice sa (nc + 1) cap) vd (nc + 1) nd (xc ++ [y]) xd → (∀ b o, b < w.heap.size → (∀ k, vc.ownBlock = some k → k < b) → w'.cell? ⟨b, o, none⟩ = w.cell? ⟨b, o, none⟩) → w.heap.size ≤ w'.heap.size → K (a.put o.dst (.slice sa (nc + 1) cap)) w') :
    if Region.wanted o (yielded ops a.tmps) = true then Oper.wp Tryz.prog o a w K Q else E := by
  have hw : Region.wanted o (yielded ops a.tmps) = true := by simp [Region.wanted, hgd]
  rw [if_pos hw]
  obtain ⟨i0, hi, hz0, hz1, hz2⟩ := info_parts info_i64
  have hbs := h1
  obtain ⟨v', w', hr, h2, h3, h4⟩ := app_where (P := Tryz.prog) w B _ o.type _ i0 _ 1 8 Tryz.underlying36 hi hz0 hz1 hz2 rfl (by decide) vc nc xc hT.cs ⟨g, 0, none⟩ 1 1 [y] rfl
    (fun j u hu => by
      cases j with
      | zero => simp only [List.getElem?_cons_zero, Option.some.injEq] at hu; subst hu; rw [Addr.add_lit]; exact hcell
      | succ j => simp at hu) (fun z hz => by simp at hz; subst hz; exact h1) (by unfold maxLen; omega) (by omega) (Nat.le_trans hT.bs hT.chg.size)
  obtain ⟨sa, cap, rfl⟩ := (rd_of_row h2).form
  unfold Oper.wp execOp
  simp only [ho, resolve, invoke, builtin, Sem.run_bind, Sem.run_pure, Result.andThen_ok, List.map_toArray, List.map_cons, List.map_nil, hs, hx, hr]
  exact h sa cap w' (hT.appc h2 h3 h4) (fun b o hb hk => cell_far h3 b o hb fun hy => by have := hk b hy.symm; omega) h3.size

/-- the step of a region that draws: 'append(l, d)', l a row of draws -/
theorem step_appd {B : Nat} {Wb w : World} {vc0 vd0 vc vd : Value} {nc nd : Nat} {xc xd : List Value} {ops : Array Oper} {o : Oper} {a : Act} {K : Act → World → Prop} {Q : Exit → Act → World → Prop} {E : Prop} (hgd : o.guard = none) (s x : Operand)
    (ho : o.op = .call { callee := .builtin .append, args := #[s, x], argTypes := #[41, 41] })
    (hs : a.eval s = vd) (hT : Two B Wb w vc0 vd0 vc vd nc nd xc xd) (g : Nat) (y1 y2 y3 : Value) (hx : a.eval x = .slice (some ⟨g, 0, none⟩) 1 1) (hc1 : w.cell? ⟨g, 0, none⟩ = some y1) (hc2 : w.cell? ⟨g, 1, none⟩ = some y2) (hc3 : w.cell? ⟨g, 2, none⟩ = some y3)
    (h1 : y1.oneCell' = true) (h2 : y2.oneCell' = true) (h3 : y3.oneCell' = true) (hn : nd ≤ 1000000)
    (h : ∀ sa cap w', Two B Wb w' vc0 vd0 vc (.slice sa (nd + 1) cap) nc (nd + 1) xc (xd ++ [y1, y2, y3]) → (∀ b o, b < w.heap.size → (∀ k, vd.ownBlock = some k → k < b) → w'.cell? ⟨b, o, none⟩ = w.cell? ⟨b, o, none⟩) → w.heap.size ≤ w'.heap.size → K (a.put o.dst (.slice sa (nd + 1) cap)) w') :
    if Region.wanted o (yielded ops a.tmps) = true then Oper.wp Tryz.prog o a w K Q else E := by
  have hw : Region.wanted o (yielded ops a.tmps) = true := by simp [Region.wanted, hgd]
  rw [if_pos hw]
  obtain ⟨i0, hi, hz0, hz1, hz2⟩ := info_parts info_dw
  obtain ⟨v', w', hr, k2, k3, k4⟩ := app_where (P := Tryz.prog) w B _ o.type _ i0 _ 3 24 Tryz.underlying41 hi hz0 hz1 hz2 rfl (by decide) vd nd xd hT.ds ⟨g, 0, none⟩ 1 1 [y1, y2, y3] rfl
    (fun j u hu => by
      rw [Addr.add_lit]
      match j with
      | 0 => simp only [List.getElem?_cons_zero, Option.some.injEq] at hu; subst hu; exact hc1
      | 1 => simp at hu; subst hu; exact hc2
      | 2 => simp at hu; subst hu; exact hc3
      | j + 3 => simp at hu) (fun z hz => by simp at hz; rcases hz with rfl | rfl | rfl <;> assumption) (by unfold maxLen; omega) (by omega) (Nat.le_trans hT.bs hT.chg.size)
  obtain ⟨sa, cap, rfl⟩ := (rd_of_row k2).form
  unfold Oper.wp execOp
  simp only [ho, resolve, invoke, builtin, Sem.run_bind, Sem.run_pure, Result.andThen_ok, List.map_toArray, List.map_cons, List.map_nil, hs, hx, hr]
  exact h sa cap w' (hT.appd k2 k3 k4) (fun b o hb hk => cell_far k3 b o hb fun hy => by have := hk b hy.symm; omega) k3.size

end Go.Proofs.YtcoohepkmhpdkaaGreat
