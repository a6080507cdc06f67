/-
  Tapes that New made: what Next, Used, Left and Taken answer.
-/
import Derived.Test.YtcoohepkmhpdkaaGreatBs
namespace Go.Proofs.YtcoohepkmhpdkaaGreat
open Go.RowKit
set_option linter.unusedVariables false

/-- In block b lies a tape of the words l of which k were taken; wv, tv: the slices of the words and of what was taken. -/
def TapeAt (w : World) (B b : Nat) (wv tv : Value) (l : List Int) (k : Nat) : Prop :=
  k ≤ l.length ∧ B ≤ b ∧
  w.heap[b]? = some (.cells #[wv, .int .i64 0, .int .u64 0, .int .u64 0, .int .u64 0, .int .u64 0, .int .i64 ((l.length : Int) - (k : Int)), tv, .func (.func 22) #[] #[]] 61 (0, 0)) ∧
  w.ownsRow B 48 1 wv l.length (u64s l) ∧ w.ownsRow B 48 1 tv k (u64s (l.take k)) ∧
  wv.ownBlock ≠ some b ∧ tv.ownBlock ≠ some b ∧ (tv.ownBlock = none ∨ tv.ownBlock ≠ wv.ownBlock)

/-- The blocks that a tape writes to. -/
def tapeBlocks (b : Nat) (tv : Value) : Nat → Prop := fun x => x = b ∨ tv.ownBlock = some x

theorem TapeAt.chg {S : Nat → Prop} {w w' : World} {B b : Nat} {wv tv : Value} {l : List Int} {k : Nat} (h : TapeAt w B b wv tv l k) (hc : Chg S w w')
    (hb : ¬ S b) (hw : ∀ g, wv.ownBlock = some g → ¬ S g) (ht : ∀ g, tv.ownBlock = some g → ¬ S g) : TapeAt w' B b wv tv l k := by
  obtain ⟨h1, h2, h3, h4, h5, h6⟩ := h
  exact ⟨h1, h2, (hc.block b (block_lt h3) hb).trans h3, row_chg h4 hc hw, row_chg h5 hc ht, h6⟩

theorem TapeAt.below {w w' : World} {B b : Nat} {wv tv : Value} {l : List Int} {k : Nat} (h : TapeAt w B b wv tv l k) (hb : Below w.heap.size w w') : TapeAt w' B b wv tv l k :=
  h.chg (Chg.of_below (S := fun _ => False) hb) (fun h => h) (fun _ _ h => h) (fun _ _ h => h)

theorem qfun : ∀ (w : World) (fn : Fn) (fi ca : Array Value), (binOp .neq 59 (.func fn fi ca) .nilFunc).run Tryz.prog w = .ok (.bool true) w :=
  fun w fn fi ca => run_neq_func_nil w _ fn fi ca Tryz.underlying59

set_option maxRecDepth 100000 in
set_option maxHeartbeats 1000000 in
/-- the closure of New: the next word -/
theorem next_word (w : World) (b : Nat) (gw wc : Nat) (tv : Option Addr) (k tc : Nat) (x : Int) (hk : k < 50000) (n : Nat) (hn : n < 50000)
    (h0 : w.cell? ⟨b, 0, none⟩ = some (.slice (some ⟨gw, 0, none⟩) n wc)) (h7 : w.cell? ⟨b, 7, none⟩ = some (.slice tv k tc)) (hkn : (k : Int) < (n : Int)) (hx : w.cell? ⟨gw, k, none⟩ = some (.int .u64 x)) :
    Calls Tryz.prog 22 #[.pointer (some ⟨b, 0, none⟩)] w fun e w' => e = .returned (.int .u64 x) ∧ ∃ n, w' = w.drewN n := by
  have h00 : (0 : Int) ≤ (k : Int) := by omega
  go_enter Tryz.func22, Tryz.ntmps22
  go_wp2
  go_quiet (fail)
  go_wp2
  go_ret
  exact ⟨rfl, _, rfl⟩

set_option maxRecDepth 100000 in
set_option maxHeartbeats 1000000 in
theorem ok_true (w : World) (b : Nat) (fn : Fn) (fi ca : Array Value) (h8 : w.cell? ⟨b, 8, none⟩ = some (.func fn fi ca)) :
    Calls Tryz.prog 61 #[.pointer (some ⟨b, 0, none⟩)] w fun e w' => e = .returned (.bool true) ∧ w = w' := by
  have hf := qfun
  go_enter Tryz.func61, Tryz.ntmps61
  go_wp2
  go_ret
  exact ⟨rfl, rfl⟩

set_option maxRecDepth 100000 in
set_option maxHeartbeats 1000000 in
theorem ok_nil (w : World) :
    Calls Tryz.prog 61 #[.pointer none] w fun e w' => e = .returned (.bool false) ∧ w = w' := by
  go_enter Tryz.func61, Tryz.ntmps61
  go_wp2
  go_ret
  exact ⟨rfl, rfl⟩

set_option maxRecDepth 100000 in
set_option maxHeartbeats 1000000 in
/-- Next, where words are left. -/
theorem next_some (w : World) (B b : Nat) (wv tv : Value) (l : List Int) (k : Nat) (ht : TapeAt w B b wv tv l k) (hk : k < l.length) (hl : l.length < 50000) :
    Calls Tryz.prog 94 #[.pointer (some ⟨b, 0, none⟩)] w fun e w' => ∃ tv', e = .returned (.tuple #[.int .u64 (l.getD k 0), .int .i64 0]) ∧
      TapeAt w' B b wv tv' l (k + 1) ∧ Chg (tapeBlocks b tv) w w' ∧ (∀ g, tv'.ownBlock = some g → tv.ownBlock = some g ∨ w.heap.size ≤ g) := by
  obtain ⟨h1, hB, h2, h3, h4, h5, h6, h7⟩ := ht
  have hf := qfun
  have h3' := rd_of_row h3
  obtain ⟨sa, wc, rfl⟩ := h3'.form
  obtain ⟨gw, off, rfl, hcw⟩ := h3'.at (by omega)
  have h4' := rd_of_row h4
  obtain ⟨ta, tc, rfl⟩ := h4'.form
  have c0 : w.cell? ⟨b, 0, none⟩ = some (.slice (some ⟨gw, off, none⟩) l.length wc) := cell_of h2 0 rfl
  have c6 : w.cell? ⟨b, 6, none⟩ = some (.int .i64 ((l.length : Int) - (k : Int))) := cell_of h2 6 rfl
  have c7 : w.cell? ⟨b, 7, none⟩ = some (.slice ta k tc) := cell_of h2 7 rfl
  have c8 : w.cell? ⟨b, 8, none⟩ = some (.func (.func 22) #[] #[]) := cell_of h2 8 rfl
  have f6 := frozen_of h2 6
  have cx : w.cell? ⟨gw, off + k, none⟩ = some (.int .u64 (l.getD k 0)) := by
    exact hcw k _ (u64s_at l k hk)
  have hoff : off = 0 := by
    rcases h3.2 with ⟨h, _⟩ | ⟨g, cap, cur, h, _⟩
    · cases h
    · cases h; rfl
  subst hoff
  simp only [Nat.zero_add] at cx
  have hleft : (((l.length : Int) - (k : Int) : Int) == 0) = false := by
    rw [beq_eq_false_iff_ne]; omega
  have hk0 : (0 : Int) ≤ (k : Int) := by omega
  have hkl : (k : Int) < (l.length : Int) := by omega
  have hts := u64s_take l k hk
  generalize hx : l.getD k 0 = x at *
  have H2 := Lib.hid h2; have H3 := Lib.hid h3; have H4 := Lib.hid h4; have H5 := Lib.hid h5; have H6 := Lib.hid h6; have H7 := Lib.hid h7; have HX := Lib.hid hx; have HT := Lib.hid hts
  clear h2 h3 h4 h5 h6 h7 h3' h4' hcw hx hts
  go_enter Tryz.func94, Tryz.ntmps94
  go_wp2_with (first | (go_at_call 22; refine (next_word _ b gw wc ta k tc _ (by omega) l.length (by omega) (by assumption) (by assumption) (by assumption) (by assumption)).mono ?_; rintro e w' ⟨rfl, nq, rfl⟩) | (go_at_call 61; refine (ok_true _ b _ _ _ (by assumption)).mono ?_; rintro e w' ⟨rfl, rfl⟩) | (at_builtin; refine app_u64 _ rfl _ _ rfl B _ _ _ rfl (row_kept H4.out ?qo) w.heap.size x rfl ?qg ?qn ?qb ?_))
  case qo =>
    intro g hg
    rw [Below.heap_setCell _ _ _ _ (by rintro rfl; exact H6.out hg)]
    rfl
  case qg => simp [World.setCell]
  case qn => omega
  case qb => have := block_lt H2.out; simp [World.setCell]; omega
  intro v' w1 hown hchg hfresh
  obtain ⟨sa', cap', rfl⟩ := (rd_of_row hown).form
  have hbl := block_lt H2.out
  have hb1 : w1.heap[b]? = some (.cells #[.slice (some ⟨gw, 0, none⟩) l.length wc, .int .i64 0, .int .u64 0, .int .u64 0, .int .u64 0, .int .u64 0, .int .i64 ((l.length : Int) - (k : Int) - 1), .slice ta k tc, .func (.func 22) #[] #[]] 61 (0, 0)) := by
    rw [hchg.block b (by simp [World.setCell]; omega) H6.out]
    exact set_of (w := w.drewN nq) H2.out 6 _
  have hc1 : Chg (tapeBlocks b (.slice ta k tc)) w w1 :=
    (((Chg.refl _ w).drewN nq).setCell (p := ⟨b, 6, none⟩) (.inl (.inl rfl)) _).trans' hchg (fun i hi _ => .inr hi)
  have hfr : ∀ g, (Value.slice sa' (k + 1) cap').ownBlock = some g → (Value.slice ta k tc).ownBlock = some g ∨ w.heap.size ≤ g := by
    intro g hg
    have := hfresh g hg
    simpa [World.setCell] using this
  have hw1 : w1.ownsRow B 48 1 (.slice (some ⟨gw, 0, none⟩) l.length wc) l.length (u64s l) := row_chg H3.out hc1 fun g hg hs => by
    rcases hs with rfl | hs
    · exact H5.out hg
    · rcases H7.out with h | h
      · rw [h] at hs; cases hs
      · exact h (hs.trans hg.symm)
  have hv' : (Value.slice sa' (k + 1) cap').ownBlock ≠ some b := by
    intro h
    rcases hfr b h with h' | h'
    · exact H6.out h'
    · omega
  have hv7 : (Value.slice sa' (k + 1) cap').ownBlock = none ∨ (Value.slice sa' (k + 1) cap').ownBlock ≠ (Value.slice (some ⟨gw, 0, none⟩) l.length wc).ownBlock := by
    cases hv : (Value.slice sa' (k + 1) cap').ownBlock with
    | none => exact .inl rfl
    | some g =>
      refine .inr fun hg => ?_
      rcases hfr g hv with h' | h'
      · rcases H7.out with h | h
        · rw [h] at h'; cases h'
        · exact h (h'.trans hg)
      · have := (H3.out.lt g hg.symm).2
        omega
  have c7' : w1.cell? ⟨b, 7, none⟩ = some (.slice ta k tc) := cell_of hb1 7 rfl
  have f7' := frozen_of hb1 7
  have HB := Lib.hid hb1; have HC := Lib.hid hc1; have HW := Lib.hid hw1; have HO := Lib.hid hown; have HV := Lib.hid hv'; have HV7 := Lib.hid hv7; have HF := Lib.hid hfr
  clear hb1 hc1 hw1 hchg hown hfresh hv' hv7 hfr
  go_wp2
  go_ret2
  refine ⟨_, rfl, ⟨by omega, hB, ?_, ?_, ?_, H5.out, HV.out, HV7.out⟩, ?_, HF.out⟩
  · have := set_of HB.out 7 (.slice sa' (k + 1) cap')
    rw [this]
    simp
    omega
  · exact row_kept HW.out fun g hg => Below.heap_setCell _ _ _ _ (by rintro rfl; exact H5.out hg)
  · rw [HT.out]
    exact row_kept HO.out fun g hg => Below.heap_setCell _ _ _ _ (by rintro rfl; exact HV.out hg)
  · exact HC.out.setCell (p := ⟨b, 7, none⟩) (.inl (.inl rfl)) _

set_option maxRecDepth 100000 in
set_option maxHeartbeats 1000000 in
/-- Next, where no word is left. -/
theorem next_none (w : World) (B b : Nat) (wv tv : Value) (l : List Int) (ht : TapeAt w B b wv tv l l.length) :
    Calls Tryz.prog 94 #[.pointer (some ⟨b, 0, none⟩)] w fun e w' => e = .returned (.tuple #[.int .u64 0, .int .i64 7]) ∧ w = w' := by
  obtain ⟨h1, hB, h2, -⟩ := ht
  have c6 : w.cell? ⟨b, 6, none⟩ = some (.int .i64 ((l.length : Int) - (l.length : Int))) := cell_of h2 6 rfl
  have c8 : w.cell? ⟨b, 8, none⟩ = some (.func (.func 22) #[] #[]) := cell_of h2 8 rfl
  have c6' : w.cell? ⟨b, 6, none⟩ = some (.int .i64 0) := by rw [c6]; simp
  clear h2 c6
  go_enter Tryz.func94, Tryz.ntmps94
  go_wp2_with (go_at_call 61; refine (ok_true _ b _ _ _ (by assumption)).mono ?_; rintro e w' ⟨rfl, rfl⟩)
  go_ret2
  exact ⟨rfl, rfl⟩

set_option maxRecDepth 100000 in
set_option maxHeartbeats 1000000 in
theorem used_any (w : World) (B b : Nat) (wv tv : Value) (l : List Int) (k : Nat) (ht : TapeAt w B b wv tv l k) (hl : l.length < 50000) :
    Calls Tryz.prog 21 #[.pointer (some ⟨b, 0, none⟩)] w fun e w' => e = .returned (.int .i64 k) ∧ w = w' := by
  obtain ⟨h1, hB, h2, h3, h4, -⟩ := ht
  obtain ⟨ta, tc, rfl⟩ := (rd_of_row h4).form
  have c7 : w.cell? ⟨b, 7, none⟩ = some (.slice ta k tc) := cell_of h2 7 rfl
  have c8 : w.cell? ⟨b, 8, none⟩ = some (.func (.func 22) #[] #[]) := cell_of h2 8 rfl
  clear h2 h3 h4
  go_enter Tryz.func21, Tryz.ntmps21
  go_wp2_with (go_at_call 61; refine (ok_true _ b _ _ _ (by assumption)).mono ?_; rintro e w' ⟨rfl, rfl⟩)
  go_ret
  exact ⟨rfl, rfl⟩

set_option maxRecDepth 100000 in
set_option maxHeartbeats 1000000 in
theorem new_any (w : World) (v : Value) (l : List Int) (hr : Rd w 1 v l.length (u64s l)) (hl : l.length < 50000) :
    Calls Tryz.prog 7 #[v] w fun e w' => ∃ b wv, e = .returned (.pointer (some ⟨b, 0, none⟩)) ∧ TapeAt w' w.heap.size b wv (.slice none 0 0) l 0 ∧ Below w.heap.size w w' := by
  obtain ⟨sa, ca, rfl⟩ := hr.form
  have HR := Lib.hid hr; clear hr
  go_enter Tryz.func7, Tryz.ntmps7
  go_wp2_with (go_at_call 23; refine (clone_u64 _ _ _ _ HR.out (by omega)).mono ?_; rintro e w' ⟨sv, cv, rfl, hown, hbel⟩; have HO := Lib.hid hown; have HBE := Lib.hid hbel; clear hown hbel)
  go_ret
  have hb := HBE.out
  refine ⟨_, _, rfl, ⟨Nat.zero_le _, hb.size, ?_, HO.out.alloc _, ?_, ?_, ?_, ?_⟩, hb.alloc hb.size _⟩
  · rw [heap_alloc_new]; simp
  · exact World.ownsRow_nil _ _ _ _
  · intro h
    have := (HO.out.lt _ h).2
    omega
  · intro h; cases h
  · exact .inl rfl

end Go.Proofs.YtcoohepkmhpdkaaGreat
