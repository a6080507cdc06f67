/-
  Tables by their handles: what the program's functions do.
-/
import Derived.Test.YtamjhblhkabpaaaRes2
namespace Go.Proofs.Ytamjhblhkabpaaa
open Go.RowKit
set_option linter.unusedVariables false

/-- a place: whether something stands there, how often something was put there, what -/
abbrev Plc := Bool × Int × Int
def pl3 (p : Plc) : List Value := [.bool p.1, .int .u64 p.2.1, .int .i64 p.2.2]
def plC : List Plc → List Value
  | [] => []
  | p :: ps => pl3 p ++ plC ps
abbrev plZ : Plc := (false, 0, 0)
theorem plC_len : ∀ (ps : List Plc), (plC ps).length = ps.length * 3
  | [] => rfl
  | p :: ps => by simp only [plC, pl3, List.length_append, plC_len ps, List.length_cons, List.length_nil]; omega
theorem plC_at : ∀ (ps : List Plc) (i : Nat), i < ps.length → (plC ps)[i * 3]? = some (.bool (ps.getD i plZ).1) ∧ (plC ps)[i * 3 + 1]? = some (.int .u64 (ps.getD i plZ).2.1) ∧ (plC ps)[i * 3 + 2]? = some (.int .i64 (ps.getD i plZ).2.2)
  | [], i, h => by simp at h
  | p :: ps, 0, _ => ⟨rfl, rfl, rfl⟩
  | p :: ps, i + 1, h => by
    have e : ∀ j, (plC (p :: ps))[(i + 1) * 3 + j]? = (plC ps)[i * 3 + j]? := fun j => by
      have : (i + 1) * 3 + j = 3 + (i * 3 + j) := by omega
      rw [this]
      simp only [plC, pl3]
      rw [List.getElem?_append_right (by simp)]
      simp
    have g := plC_at ps i (by simpa using h)
    have e0 := e 0
    rw [Nat.add_zero, Nat.add_zero] at e0
    rw [e0, e 1, e 2]
    simpa using g
theorem plC_set : ∀ (ps : List Plc) (i : Nat) (q : Plc), i < ps.length → plC (ps.set i q) = (((plC ps).set (i * 3) (.bool q.1)).set (i * 3 + 1) (.int .u64 q.2.1)).set (i * 3 + 2) (.int .i64 q.2.2)
  | [], i, q, h => by simp at h
  | p :: ps, 0, q, _ => rfl
  | p :: ps, i + 1, q, h => by
    have e : ∀ (l : List Value) j u, (pl3 p ++ l).set ((i + 1) * 3 + j) u = pl3 p ++ l.set (i * 3 + j) u := fun l j u => by
      have : (i + 1) * 3 + j = (pl3 p).length + (i * 3 + j) := by simp [pl3]; omega
      rw [this, List.set_append_right _ _ (by omega)]
      simp
    have g := plC_set ps i q (by simpa using h)
    simp only [List.set_cons_succ, plC]
    have e0 := e (plC ps) 0 (.bool q.1)
    rw [Nat.add_zero, Nat.add_zero] at e0
    rw [e0, Nat.add_zero, e, e, g]

theorem setCell_same {w : World} {b o : Nat} {u : Value} (h : w.cell? ⟨b, o, none⟩ = some u) : w.setCell ⟨b, o, none⟩ u = w := by
  have hh : w.heap.modify b (fun x => match x with | .cells c e f => .cells (c.setIfInBounds o u) e f | x => x) = w.heap := by
    apply Array.ext_getElem?
    intro k
    rw [Array.getElem?_modify]
    by_cases hk : b = k
    · subst hk
      rw [if_pos rfl]
      unfold World.cell? at h
      cases hx : w.heap[b]? with
      | none => rfl
      | some ob =>
        rw [hx] at h
        cases ob with
        | cells c e f =>
          simp at h
          simp only [Option.map_some, Option.some.injEq, Obj.cells.injEq, and_true]
          apply Array.ext_getElem?
          intro j
          rw [Array.getElem?_setIfInBounds]
          by_cases hj : o = j
          · subst hj
            rw [if_pos rfl]
            have hlt := (Array.getElem?_eq_some_iff.1 h).1
            rw [if_pos hlt, h]
          · rw [if_neg hj]
        | _ => rfl
    · rw [if_neg hk]
  show { w with heap := _ } = w
  have : w.setCell ⟨b, o, none⟩ u = { w with heap := w.heap.modify b (fun x => match x with | .cells c e f => .cells (c.setIfInBounds o u) e f | x => x) } := rfl
  first
    | exact this.trans (by rw [hh])
    | rw [hh]

structure TabAt (B : Nat) (w : World) (tb pb : Nat) (ps : List Plc) : Prop where
  tab : w.heap[tb]? = some (.cells #[.slice (some ⟨pb, 0, none⟩) ps.length ps.length] 45 (0, 0))
  row : w.heap[pb]? = some (.cells (plC ps).toArray 54 (0, 0))
  ne : tb ≠ pb
  tB : B ≤ tb
  pB : B ≤ pb
  pos : 1 ≤ ps.length
  le : ps.length ≤ 16
theorem TabAt.kept {B : Nat} {w w' : World} {tb pb : Nat} {ps : List Plc} (h : TabAt B w tb pb ps) (ht : w'.heap[tb]? = w.heap[tb]?) (hp : w'.heap[pb]? = w.heap[pb]?) : TabAt B w' tb pb ps :=
  ⟨ht.trans h.tab, hp.trans h.row, h.ne, h.tB, h.pB, h.pos, h.le⟩
theorem TabAt.below {B : Nat} {w w' : World} {tb pb : Nat} {ps : List Plc} (h : TabAt B w tb pb ps) (hb : Below w.heap.size w w') : TabAt B w' tb pb ps :=
  h.kept (hb.block tb (block_lt h.tab)) (hb.block pb (block_lt h.row))
theorem TabAt.c0 {B : Nat} {w : World} {tb pb : Nat} {ps : List Plc} (h : TabAt B w tb pb ps) : w.cell? ⟨tb, 0, none⟩ = some (.slice (some ⟨pb, 0, none⟩) ps.length ps.length) := cell_of h.tab 0 rfl
theorem TabAt.at {B : Nat} {w : World} {tb pb : Nat} {ps : List Plc} (h : TabAt B w tb pb ps) {i : Nat} (hi : i < ps.length) :
    w.cell? ⟨pb, i * 3, none⟩ = some (.bool (ps.getD i plZ).1) ∧ w.cell? ⟨pb, i * 3 + 1, none⟩ = some (.int .u64 (ps.getD i plZ).2.1) ∧ w.cell? ⟨pb, i * 3 + 2, none⟩ = some (.int .i64 (ps.getD i plZ).2.2) := by
  obtain ⟨a, b, c⟩ := plC_at ps i hi
  exact ⟨cell_of h.row _ (by simpa using a), cell_of h.row _ (by simpa using b), cell_of h.row _ (by simpa using c)⟩
theorem TabAt.set {B : Nat} {w : World} {tb pb : Nat} {ps : List Plc} (h : TabAt B w tb pb ps) {i : Nat} (hi : i < ps.length) (q : Plc) :
    TabAt B (((w.setCell ⟨pb, i * 3, none⟩ (.bool q.1)).setCell ⟨pb, i * 3 + 1, none⟩ (.int .u64 q.2.1)).setCell ⟨pb, i * 3 + 2, none⟩ (.int .i64 q.2.2)) tb pb (ps.set i q) := by
  have h1 := set_of (set_of (set_of h.row (i * 3) (.bool q.1)) (i * 3 + 1) (.int .u64 q.2.1)) (i * 3 + 2) (.int .i64 q.2.2)
  refine ⟨?_, ?_, h.ne, h.tB, h.pB, by rw [List.length_set]; exact h.pos, by rw [List.length_set]; exact h.le⟩
  · have hn : ∀ (v : World) o u, (v.setCell ⟨pb, o, none⟩ u).heap[tb]? = v.heap[tb]? := fun v o u => Below.heap_setCell _ _ _ _ (by show tb ≠ pb; exact h.ne)
    rw [hn, hn, hn, List.length_set]
    exact h.tab
  · rw [h1, plC_set _ _ _ hi]
    simp
/-- times are few -/
def Few (T : Int) (ps : List Plc) : Prop := ∀ i, i < ps.length → 0 ≤ (ps.getD i plZ).2.1 ∧ (ps.getD i plZ).2.1 ≤ T

theorem ent_put1 (args : Array Value) (w : World) : (callFunc 23 args).run Try.prog w = .ok (.enter 23 args) w :=
  enters Try.func23 (by kernel_rfl) (by kernel_rfl) args w

set_option maxRecDepth 100000 in
set_option maxHeartbeats 1000000 in
theorem put1_any (w : World) (b : Bool) (t x : Int) :
    Calls Try.prog 23 #[.agg #[.bool b, .int .u64 t, .int .i64 x]] w fun e w' => e = .returned (.bool (!b)) ∧ w' = w.alloc (.cells #[.bool b, .int .u64 t, .int .i64 x] 54) := by
  go_enter Try.func23, Try.ntmps23
  go_wp2
  go_ret
  exact ⟨rfl, rfl⟩

set_option maxRecDepth 100000 in
set_option maxHeartbeats 1000000 in
theorem made_any (w : World) (tb pb R : Nat) (hc : w.cell? ⟨tb, 0, none⟩ = some (.slice (some ⟨pb, 0, none⟩) R R)) :
    Calls Try.prog 19 #[.pointer (some ⟨tb, 0, none⟩)] w fun e w' => e = .returned (.bool true) ∧ w = w' := by
  go_enter Try.func19, Try.ntmps19
  go_wp2
  go_ret
  exact ⟨rfl, rfl⟩
set_option maxRecDepth 100000 in
set_option maxHeartbeats 1000000 in
theorem made_nil (w : World) :
    Calls Try.prog 19 #[.pointer none] w fun e w' => e = .returned (.bool false) ∧ w = w' := by
  go_enter Try.func19, Try.ntmps19
  go_wp2
  go_ret
  exact ⟨rfl, rfl⟩
set_option maxRecDepth 100000 in
set_option maxHeartbeats 1000000 in
theorem handle_any (w : World) (tb pb R i : Nat) (t : Int) (hR : R ≤ 16) (hi : i < R) (hc : w.cell? ⟨tb, 0, none⟩ = some (.slice (some ⟨pb, 0, none⟩) R R)) (h1 : w.cell? ⟨pb, i * 3 + 1, none⟩ = some (.int .u64 t)) (h0 : 0 ≤ t) (ht : t ≤ 50000) :
    Calls Try.prog 20 #[.pointer (some ⟨tb, 0, none⟩), .int .i64 (i : Int)] w fun e w' => e = .returned (.int .u64 (16 * t + (i : Int))) ∧ w = w' := by
  go_enter Try.func20, Try.ntmps20
  go_wp2
  go_ret
  exact ⟨rfl, rfl⟩

set_option maxRecDepth 100000 in
set_option maxHeartbeats 1000000 in
/-- the first free place -/
theorem idx_place (w : World) (B tb pb : Nat) (ps : List Plc) (hT : TabAt B w tb pb ps) :
    Calls Try.prog 22 #[.slice (some ⟨pb, 0, none⟩) ps.length ps.length, .func (.func 23) #[] #[]] w fun e w' => Below w.heap.size w w' ∧
      ((e = .returned (.int .i64 (-1)) ∧ ∀ i, i < ps.length → (ps.getD i plZ).1 = true) ∨ ∃ i : Nat, e = .returned (.int .i64 (i : Int)) ∧ i < ps.length ∧ (ps.getD i plZ).1 = false ∧ ∀ j, j < i → (ps.getD j plZ).1 = true) := by
  have hF := ent_put1
  have hle := hT.le
  have HT := Lib.hid hT; clear hT
  go_enter Try.func22, Try.ntmps22
  go_wp2
  go_loopw [8] (fun i wr => ∃ s : Nat, s ≤ ps.length ∧ i = .int .i64 s ∧ Hid (∀ j, j < s → (ps.getD j plZ).1 = true) ∧ Hid (Below w.heap.size w wr)) (fun i _ => ps.length - (intOf i).toNat)
  case atStart => exact ⟨0, Nat.zero_le _, rfl, fun j hj => by omega, Below.refl _ _⟩
  case round =>
    obtain ⟨s, hs, rfl, HS, HB⟩ := hrel
    by_cases hlt : s < ps.length
    · obtain ⟨c0, c1, c2⟩ := (HT.out.below HB.out).at hlt
      obtain ⟨⟨b, t, x⟩, hp⟩ : ∃ p : Plc, ps.getD s plZ = p := ⟨_, rfl⟩
      rw [hp] at c0 c1 c2
      have HP := Lib.hid hp; clear hp
      go_wp2_with fail
      refine (put1_any _ b t x).mono ?_
      rintro e w2 ⟨rfl, hw2⟩
      have hb2 : Below w.heap.size w w2 := by rw [hw2]; exact HB.out.alloc HB.out.size _
      have HB2 := Lib.hid hb2; clear hb2 hw2 c0 c1 c2
      cases b with
      | false =>
        go_wp2
        go_ret
        exact ⟨HB2.out, .inr ⟨s, rfl, hlt, by rw [HP.out], HS.out⟩⟩
      | true =>
        go_wp2
        go_roundw
        case rel =>
          refine ⟨s + 1, by omega, by go_num, fun j hj => ?_, HB2⟩
          by_cases hjs : j = s
          · subst hjs; rw [HP.out]
          · exact HS.out j (by omega)
        case measure => simp [intOf]; omega
    · obtain rfl : s = ps.length := by omega
      go_wp2
      go_ret
      exact ⟨HB.out, .inl ⟨rfl, HS.out⟩⟩

/-- what a handle finds -/
def plOf (ps : List Plc) (h : Int) : Option Nat :=
  if (h % 16).toNat < ps.length ∧ (ps.getD (h % 16).toNat plZ).1 = true ∧ 16 * (ps.getD (h % 16).toNat plZ).2.1 + h % 16 = h then some (h % 16).toNat else none

set_option maxRecDepth 100000 in
set_option maxHeartbeats 1000000 in
theorem find_any (w : World) (B tb pb : Nat) (ps : List Plc) (h : Int) (hT : TabAt B w tb pb ps) (hF : Few 50000 ps) (h0 : 0 ≤ h) (h1 : h ≤ 18446744073709551615) :
    Calls Try.prog 24 #[.pointer (some ⟨tb, 0, none⟩), .int .u64 h] w fun e w' => w = w' ∧
      ((plOf ps h = none ∧ e = .returned (.tuple #[.int .i64 0, .int .i64 11])) ∨ ∃ i : Nat, plOf ps h = some i ∧ i < ps.length ∧ (ps.getD i plZ).1 = true ∧ e = .returned (.tuple #[.int .i64 (i : Int), .int .i64 0])) := by
  obtain ⟨m, hm⟩ : ∃ m : Nat, h % 16 = (m : Int) := ⟨(h % 16).toNat, by omega⟩
  have hm16 : m < 16 := by omega
  have hpl : plOf ps h = if m < ps.length ∧ (ps.getD m plZ).1 = true ∧ 16 * (ps.getD m plZ).2.1 + (m : Int) = h then some m else none := by
    unfold plOf; rw [hm, Int.toNat_natCast]
  have HPL := Lib.hid hpl; clear hpl
  have c0 := hT.c0
  have hle := hT.le
  by_cases hR : m < ps.length
  · obtain ⟨a0, a1, a2⟩ := hT.at hR
    have hf := hF m hR
    obtain ⟨⟨b, t, x⟩, hp⟩ : ∃ p : Plc, ps.getD m plZ = p := ⟨_, rfl⟩
    rw [hp] at a0 a1 a2 hf
    have HP := Lib.hid hp; clear hp a2
    obtain ⟨f0, f1⟩ := hf
    have f0' : 0 ≤ t := f0
    have f1' : t ≤ 50000 := f1
    have a0' : w.cell? ⟨pb, m * 3, none⟩ = some (.bool b) := a0
    have a1' : w.cell? ⟨pb, m * 3 + 1, none⟩ = some (.int .u64 t) := a1
    clear f0 f1 a0 a1 hT hF
    cases b with
    | false =>
      go_enter Try.func24, Try.ntmps24
      go_wp2_with fail
      refine (made_any _ tb pb _ c0).mono ?_
      rintro e w1 ⟨rfl, rfl⟩
      go_wp2
      go_ret2
      refine ⟨rfl, .inl ⟨?_, rfl⟩⟩
      rw [HPL.out, if_neg]
      rw [HP.out]
      rintro ⟨-, h, -⟩
      cases h
    | true =>
      by_cases hh : 16 * t + (m : Int) = h
      · have q : (16 * t + (m : Int) != h) = false := by simp [hh]
        have HH := Lib.hid hh
        clear hh
        go_enter Try.func24, Try.ntmps24
        go_wp2_with fail
        refine (made_any _ tb pb _ c0).mono ?_
        rintro e w1 ⟨rfl, rfl⟩
        go_wp2_with fail
        refine (handle_any _ tb pb _ m t hle hR c0 a1' f0' f1').mono ?_
        rintro e w1 ⟨rfl, rfl⟩
        go_wp2
        go_ret2
        refine ⟨rfl, .inr ⟨m, ?_, hR, by rw [HP.out], rfl⟩⟩
        rw [HPL.out, if_pos]
        rw [HP.out]
        exact ⟨hR, rfl, HH.out⟩
      · have q : (16 * t + (m : Int) != h) = true := by simp [hh]
        have HH := Lib.hid hh
        clear hh
        go_enter Try.func24, Try.ntmps24
        go_wp2_with fail
        refine (made_any _ tb pb _ c0).mono ?_
        rintro e w1 ⟨rfl, rfl⟩
        go_wp2_with fail
        refine (handle_any _ tb pb _ m t hle hR c0 a1' f0' f1').mono ?_
        rintro e w1 ⟨rfl, rfl⟩
        go_wp2
        go_ret2
        refine ⟨rfl, .inl ⟨?_, rfl⟩⟩
        rw [HPL.out, if_neg]
        rw [HP.out]
        rintro ⟨-, -, h⟩
        exact HH.out h
  · clear hT hF
    go_enter Try.func24, Try.ntmps24
    go_wp2_with fail
    refine (made_any _ tb pb _ c0).mono ?_
    rintro e w1 ⟨rfl, rfl⟩
    go_wp2
    go_ret2
    refine ⟨rfl, .inl ⟨?_, rfl⟩⟩
    rw [HPL.out, if_neg]
    rintro ⟨h, -⟩
    exact hR h

set_option maxRecDepth 100000 in
set_option maxHeartbeats 2000000 in
theorem put_any (w : World) (B tb pb : Nat) (ps : List Plc) (x : Int) (hT : TabAt B w tb pb ps) (hF : Few 40000 ps) :
    Calls Try.prog 13 #[.pointer (some ⟨tb, 0, none⟩), .int .i64 x] w fun e w' => Below B w w' ∧ Chg (fun k => k = pb) w w' ∧
      ((e = .returned (.tuple #[.int .u64 0, .int .i64 12]) ∧ TabAt B w' tb pb ps ∧ ∀ i, i < ps.length → (ps.getD i plZ).1 = true) ∨
       ∃ i : Nat, e = .returned (.tuple #[.int .u64 (16 * ((ps.getD i plZ).2.1 + 1) + (i : Int)), .int .i64 0]) ∧ i < ps.length ∧ (ps.getD i plZ).1 = false ∧ (∀ j, j < i → (ps.getD j plZ).1 = true) ∧ TabAt B w' tb pb (ps.set i (true, (ps.getD i plZ).2.1 + 1, x))) := by
  have c0 := hT.c0
  have hle := hT.le
  have HT := Lib.hid hT; have HF := Lib.hid hF
  clear hT hF
  go_enter Try.func13, Try.ntmps13
  go_wp2_with fail
  refine (made_any _ tb pb _ c0).mono ?_
  rintro e w1 ⟨rfl, rfl⟩
  go_wp2_with fail
  refine (idx_place _ B tb pb ps HT.out).mono ?_
  rintro e w1 ⟨hb1, (⟨rfl, hall⟩ | ⟨i, rfl, hi, hfree, hbef⟩)⟩
  · have HB1 := Lib.hid hb1; have HALL := Lib.hid hall; clear hb1 hall c0
    go_wp2
    go_ret2
    exact ⟨HB1.out.mono (by have := block_lt HT.out.tab; have := HT.out.tB; omega), Chg.of_below HB1.out, .inl ⟨rfl, HT.out.below HB1.out, HALL.out⟩⟩
  · have hT1 := HT.out.below hb1
    have c1 := hT1.c0
    obtain ⟨a0, a1, a2⟩ := hT1.at hi
    have hf := HF.out i hi
    have hb1' : Below B w w1 := hb1.mono (by have := block_lt HT.out.tab; have := HT.out.tB; omega)
    have f0 := frozen_of hT1.row (i * 3)
    have f1 := frozen_of hT1.row (i * 3 + 1)
    have f2 := frozen_of hT1.row (i * 3 + 2)
    have f3 := frozen_of hT1.row
    have hch1 : Chg (fun k => k = pb) w w1 := Chg.of_below hb1
    have HCH1 := Lib.hid hch1; clear hch1
    have HT1 := Lib.hid hT1; have HB1 := Lib.hid hb1'; have HFR := Lib.hid hfree; have HBF := Lib.hid hbef
    generalize hb : (ps.getD i plZ).1 = b at *
    generalize ht : (ps.getD i plZ).2.1 = t at *
    generalize hx : (ps.getD i plZ).2.2 = x0 at *
    have HTT := Lib.hid ht; have HBQ := Lib.hid hb
    clear c0 hT1 hb1 hb1' hfree hbef f3 hb ht hx
    go_wp2
    go_region
    have hT2 := HT1.out.set hi (true, t + 1, x)
    have hB2 : Below B w (((w1.setCell ⟨pb, i * 3, none⟩ (.bool true)).setCell ⟨pb, i * 3 + 1, none⟩ (.int .u64 (t + 1))).setCell ⟨pb, i * 3 + 2, none⟩ (.int .i64 x)).drew :=
      (((HB1.out.setCell (p := ⟨pb, i * 3, none⟩) HT.out.pB _).setCell (p := ⟨pb, i * 3 + 1, none⟩) HT.out.pB _).setCell (p := ⟨pb, i * 3 + 2, none⟩) HT.out.pB _).drew
    have hC2 : Chg (fun k => k = pb) w (((w1.setCell ⟨pb, i * 3, none⟩ (.bool true)).setCell ⟨pb, i * 3 + 1, none⟩ (.int .u64 (t + 1))).setCell ⟨pb, i * 3 + 2, none⟩ (.int .i64 x)).drew :=
      (((HCH1.out.setCell (p := ⟨pb, i * 3, none⟩) (.inl rfl) _).setCell (p := ⟨pb, i * 3 + 1, none⟩) (.inl rfl) _).setCell (p := ⟨pb, i * 3 + 2, none⟩) (.inl rfl) _).drew
    have hT3 : TabAt B (((w1.setCell ⟨pb, i * 3, none⟩ (.bool true)).setCell ⟨pb, i * 3 + 1, none⟩ (.int .u64 (t + 1))).setCell ⟨pb, i * 3 + 2, none⟩ (.int .i64 x)).drew tb pb (ps.set i (true, t + 1, x)) := hT2.kept rfl rfl
    generalize hw2 : (((w1.setCell ⟨pb, i * 3, none⟩ (.bool true)).setCell ⟨pb, i * 3 + 1, none⟩ (.int .u64 (t + 1))).setCell ⟨pb, i * 3 + 2, none⟩ (.int .i64 x)).drew = w2 at *
    have hi2 : i < (ps.set i (true, t + 1, x)).length := by rw [List.length_set]; exact hi
    have hc2 := hT3.c0
    have b1 := (hT3.at hi2).2.1
    have hgd : (ps.set i (true, t + 1, x)).getD i plZ = (true, t + 1, x) := by simp [List.getD, hi]
    rw [hgd] at b1
    rw [List.length_set] at hc2
    have HT3 := Lib.hid hT3; have HB2 := Lib.hid hB2; have HCC2 := Lib.hid hC2; have HC2 := Lib.hid hc2; have HB1C := Lib.hid b1
    clear hT2 hT3 hB2 hC2 hc2 b1 hgd hw2 hi2 c1 f0 f1 f2 a0 a1 a2
    go_wp2_with fail
    refine (handle_any _ tb pb _ i (t + 1) hle hi HC2.out HB1C.out (by omega) (by omega)).mono ?_
    rintro e w3 ⟨rfl, rfl⟩
    go_wp2
    go_ret2
    refine ⟨HB2.out, HCC2.out, .inr ⟨i, ?_⟩⟩
    rw [HTT.out, HBQ.out]
    exact ⟨rfl, hi, HFR.out, HBF.out, HT3.out⟩

set_option maxRecDepth 100000 in
set_option maxHeartbeats 2000000 in
theorem hset_any (w : World) (B tb pb : Nat) (ps : List Plc) (h x : Int) (hT : TabAt B w tb pb ps) (hF : Few 50000 ps) (h0 : 0 ≤ h) (h1 : h ≤ 18446744073709551615) :
    Calls Try.prog 18 #[.pointer (some ⟨tb, 0, none⟩), .int .u64 h, .int .i64 x] w fun e w' => Below B w w' ∧ Chg (fun k => k = pb) w w' ∧
      ((plOf ps h = none ∧ e = .returned (.int .i64 11) ∧ TabAt B w' tb pb ps) ∨ ∃ i : Nat, plOf ps h = some i ∧ e = .returned (.int .i64 0) ∧ i < ps.length ∧ (ps.getD i plZ).1 = true ∧ TabAt B w' tb pb (ps.set i (true, (ps.getD i plZ).2.1, x))) := by
  have c0 := hT.c0
  have hle := hT.le
  have HT := Lib.hid hT; have HF := Lib.hid hF
  clear hT hF
  go_enter Try.func18, Try.ntmps18
  go_wp2_with fail
  refine (find_any _ B tb pb ps h HT.out HF.out h0 h1).mono ?_
  rintro e w1 ⟨rfl, (⟨hn, rfl⟩ | ⟨i, hs, hi, hin, rfl⟩)⟩
  · have HN := Lib.hid hn; clear hn c0
    go_wp2
    go_ret
    exact ⟨Below.refl _ _, Chg.refl _ _, .inl ⟨HN.out, rfl, HT.out⟩⟩
  · obtain ⟨a0, a1, a2⟩ := HT.out.at hi
    have f0 := frozen_of HT.out.row (i * 3)
    have f2 := frozen_of HT.out.row (i * 3 + 2)
    have HS := Lib.hid hs; have HIN := Lib.hid hin
    generalize ht : (ps.getD i plZ).2.1 = t at *
    generalize hx : (ps.getD i plZ).2.2 = x0 at *
    rw [hin] at a0
    have A0 := Lib.hid a0; have A1 := Lib.hid a1; have HTT := Lib.hid ht
    clear hs hin ht hx a0 a1
    go_wp2
    go_ret
    refine ⟨(Below.refl _ _).setCell (p := ⟨pb, i * 3 + 2, none⟩) HT.out.pB _, (Chg.refl (fun k => k = pb) w).setCell (p := ⟨pb, i * 3 + 2, none⟩) (.inl rfl) _, .inr ⟨i, HS.out, rfl, hi, HIN.out, ?_⟩⟩
    have hT2 := HT.out.set hi (true, t, x)
    have e0 : w.setCell ⟨pb, i * 3, none⟩ (.bool true) = w := setCell_same A0.out
    have e1 : w.setCell ⟨pb, i * 3 + 1, none⟩ (.int .u64 t) = w := setCell_same A1.out
    rw [e0, e1] at hT2
    rw [HTT.out]
    exact hT2

set_option maxRecDepth 100000 in
set_option maxHeartbeats 2000000 in
theorem drop_any (w : World) (B tb pb : Nat) (ps : List Plc) (h : Int) (hT : TabAt B w tb pb ps) (hF : Few 50000 ps) (h0 : 0 ≤ h) (h1 : h ≤ 18446744073709551615) :
    Calls Try.prog 14 #[.pointer (some ⟨tb, 0, none⟩), .int .u64 h] w fun e w' => Below B w w' ∧ Chg (fun k => k = pb) w w' ∧
      ((plOf ps h = none ∧ e = .returned (.int .i64 11) ∧ TabAt B w' tb pb ps) ∨ ∃ i : Nat, plOf ps h = some i ∧ e = .returned (.int .i64 0) ∧ i < ps.length ∧ (ps.getD i plZ).1 = true ∧ TabAt B w' tb pb (ps.set i (false, (ps.getD i plZ).2.1, 0))) := by
  have c0 := hT.c0
  have hle := hT.le
  have HT := Lib.hid hT; have HF := Lib.hid hF
  clear hT hF
  go_enter Try.func14, Try.ntmps14
  go_wp2_with fail
  refine (find_any _ B tb pb ps h HT.out HF.out h0 h1).mono ?_
  rintro e w1 ⟨rfl, (⟨hn, rfl⟩ | ⟨i, hs, hi, hin, rfl⟩)⟩
  · have HN := Lib.hid hn; clear hn c0
    go_wp2
    go_ret
    exact ⟨Below.refl _ _, Chg.refl _ _, .inl ⟨HN.out, rfl, HT.out⟩⟩
  · obtain ⟨a0, a1, a2⟩ := HT.out.at hi
    have f0 := frozen_of HT.out.row (i * 3)
    have f1 := frozen_of HT.out.row (i * 3 + 1)
    have f2 := frozen_of HT.out.row (i * 3 + 2)
    have HS := Lib.hid hs; have HIN := Lib.hid hin
    generalize ht : (ps.getD i plZ).2.1 = t at *
    generalize hx : (ps.getD i plZ).2.2 = x0 at *
    rw [hin] at a0
    have HTT := Lib.hid ht
    clear hs hin ht hx
    go_wp2
    go_region
    go_wp2
    go_ret
    exact ⟨((((Below.refl _ _).setCell (p := ⟨pb, i * 3, none⟩) HT.out.pB _).setCell (p := ⟨pb, i * 3 + 1, none⟩) HT.out.pB _).setCell (p := ⟨pb, i * 3 + 2, none⟩) HT.out.pB _).drew, ((((Chg.refl (fun k => k = pb) w).setCell (p := ⟨pb, i * 3, none⟩) (.inl rfl) _).setCell (p := ⟨pb, i * 3 + 1, none⟩) (.inl rfl) _).setCell (p := ⟨pb, i * 3 + 2, none⟩) (.inl rfl) _).drew, .inr ⟨i, HS.out, rfl, hi, HIN.out, by rw [HTT.out]; exact (HT.out.set hi (false, t, 0)).kept rfl rfl⟩⟩

end Go.Proofs.Ytamjhblhkabpaaa
