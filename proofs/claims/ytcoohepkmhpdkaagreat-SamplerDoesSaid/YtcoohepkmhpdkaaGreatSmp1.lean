/-
  The sampler's tasks: row, single, weighted.
  The sampler's of, asked by kinds; the limits of an ask.
  The sampler's of, whole: what is wrong with an ask, its limits; Check, Limits, Draws.
  The sampler's Check, Limits, Draws.
  The document's Check of an ask.
-/
import Derived.Test.YtcoohepkmhpdkaaGreatAli5
import Derived.Laws.EntriesVeiled
namespace Go.Proofs.YtcoohepkmhpdkaaGreat
open Go.RowKit
set_option linter.unusedVariables false
set_option linter.unusedSimpArgs false

/-- a task's parts as values: how words are taken, what is done -/
def tkLem : Value := .func (.func 47) #[] #[]
def tkMsk : Value := .func (.func 49) #[] #[]
def badTask (E : Int) : Ending := .returned (.tuple #[.agg #[.slice none 0 0, .nilFunc, .nilFunc], .int .i64 E])

set_option maxRecDepth 100000 in
set_option maxHeartbeats 2000000 in
theorem srow_any (w : World) (sa : Option Addr) (n cap : Nat) (F : Nat) (caps : Array Value) :
    Calls Tryz.prog 53 #[.slice sa n cap, .func (.func F) #[] caps] w fun e w' =>
      e = .returned (.agg #[.slice sa n cap, .func (.func 47) #[] #[], .func (.func 102) #[] #[.pointer (some ⟨w.heap.size, 0, none⟩)]]) ∧
      w'.heap[w.heap.size]? = some (.cells #[.func (.func F) #[] caps] 95 (0, 0)) ∧ Below w.heap.size w w' := by
  go_enter Tryz.func53, Tryz.ntmps53
  go_wp2
  refine bodyPost_ret (v := .agg #[.slice sa n cap, .func (.func 47) #[] #[], .func (.func 102) #[] #[.pointer (some ⟨w.heap.size, 0, none⟩)]]) (by simp [results, Tryz.results53, go_sem]) rfl ⟨rfl, ?_, ?_⟩
  · exact heap_up (heap_at rfl)
  · exact ((Below.refl _ _).alloc (Nat.le_refl _) _).alloc (by simp) _

set_option maxRecDepth 100000 in
set_option maxHeartbeats 2000000 in
theorem ssingle_len (w : World) (K N k : Int) (sa : Option Addr) (n cap : Nat) (F1 F2 : Nat) (hn : n ≠ 1) :
    Calls Tryz.prog 46 #[.agg #[.int .i64 K, .int .i64 N, .int .i64 k, .slice sa n cap], .func (.func F1) #[] #[], .func (.func F2) #[] #[]] w fun e w' => e = badTask 1 ∧ Below w.heap.size w w' := by
  have q : ((n : Int) != 1) = true := by simp; omega
  go_enter Tryz.func46, Tryz.ntmps46
  go_wp2
  refine bodyPost_ret (v := .tuple #[.agg #[.slice none 0 0, .nilFunc, .nilFunc], .int .i64 1]) (by simp [results, Tryz.results46, go_sem]) rfl ⟨rfl, ?_⟩
  exact (((Below.refl _ _).alloc (Nat.le_refl _) _).alloc (by simp) _).alloc (by simp; omega) _

set_option maxRecDepth 100000 in
set_option maxHeartbeats 2000000 in
theorem ssingle_zero (w : World) (K N k : Int) (sa : Option Addr) (cap : Nat) (F1 F2 : Nat) (h : Rd w 1 (.slice sa 1 cap) 1 (u64s (zsN [0]))) :
    Calls Tryz.prog 46 #[.agg #[.int .i64 K, .int .i64 N, .int .i64 k, .slice sa 1 cap], .func (.func F1) #[] #[], .func (.func F2) #[] #[]] w fun e w' => e = badTask 8 ∧ Below w.heap.size w w' := by
  obtain ⟨b, off, rfl, hc⟩ := h.at (by omega)
  have x0 : w.cell? ⟨b, off, none⟩ = some (.int .u64 0) := hc 0 _ rfl
  have lb := World.block_lt_of_cell? w _ x0
  clear hc h
  go_enter Tryz.func46, Tryz.ntmps46
  have x1 : ∀ o1 o2 o3, (((w.alloc o1).alloc o2).alloc o3).cell? ⟨b, off, none⟩ = some (.int .u64 0) := fun o1 o2 o3 => Lib.cell?_alloc_some _ (Lib.cell?_alloc_some _ (Lib.cell?_alloc_some _ x0))
  go_wp2
  refine bodyPost_ret (v := .tuple #[.agg #[.slice none 0 0, .nilFunc, .nilFunc], .int .i64 8]) (by simp [results, Tryz.results46, go_sem]) rfl ⟨rfl, ?_⟩
  exact (((Below.refl _ _).alloc (Nat.le_refl _) _).alloc (by simp) _).alloc (by simp; omega) _

set_option maxRecDepth 100000 in
set_option maxHeartbeats 2000000 in
theorem ssingle_ok (w : World) (K N k : Int) (sa : Option Addr) (cap x : Nat) (F1 F2 : Nat) (h : Rd w 1 (.slice sa 1 cap) 1 (u64s (zsN [x]))) (hx : 0 < x) :
    Calls Tryz.prog 46 #[.agg #[.int .i64 K, .int .i64 N, .int .i64 k, .slice sa 1 cap], .func (.func F1) #[] #[], .func (.func F2) #[] #[]] w fun e w' => ∃ g b1 b2 : Nat,
      e = .returned (.tuple #[.agg #[.slice (some ⟨g, 0, none⟩) 1 1, .func (.func F1) #[] #[], .func (.func 92) #[] #[.pointer (some ⟨b1, 0, none⟩), .pointer (some ⟨b2, 0, none⟩)]], .int .i64 0]) ∧
      w'.ownsRow w.heap.size 48 1 (.slice (some ⟨g, 0, none⟩) 1 1) 1 (u64s (zsN [x])) ∧ w'.heap[b1]? = some (.cells #[.func (.func F2) #[] #[]] 92 (0, 0)) ∧ w'.heap[b2]? = some (.cells #[.int .u64 (x : Int)] 48 (0, 0)) ∧ w.heap.size ≤ b1 ∧ w.heap.size ≤ b2 ∧ Below w.heap.size w w' := by
  obtain ⟨b, off, rfl, hc⟩ := h.at (by omega)
  have x0 : w.cell? ⟨b, off, none⟩ = some (.int .u64 (x : Int)) := hc 0 _ rfl
  have lb := World.block_lt_of_cell? w _ x0
  have q : ((x : Int) == 0) = false := by simp; omega
  clear hc h hx
  go_enter Tryz.func46, Tryz.ntmps46
  have x1 : ∀ o1 o2 o3, (((w.alloc o1).alloc o2).alloc o3).cell? ⟨b, off, none⟩ = some (.int .u64 (x : Int)) := fun o1 o2 o3 => Lib.cell?_alloc_some _ (Lib.cell?_alloc_some _ (Lib.cell?_alloc_some _ x0))
  go_wp2
  refine bodyPost_ret (v := .tuple #[.agg #[.slice (some ⟨w.heap.size + 1 + 1 + 1 + 1, 0, none⟩) 1 1, .func (.func F1) #[] #[], .func (.func 92) #[] #[.pointer (some ⟨w.heap.size + 1, 0, none⟩), .pointer (some ⟨w.heap.size + 1 + 1 + 1, 0, none⟩)]], .int .i64 0]) (by simp [results, Tryz.results46, go_sem]) rfl ⟨w.heap.size + 1 + 1 + 1 + 1, w.heap.size + 1, w.heap.size + 1 + 1 + 1, rfl, ?_, ?_, ?_, by omega, by omega, ?_⟩
  · exact row_full (cs := #[.int .u64 (x : Int)]) (heap_at (by simp)) (by omega) (by simp [u64s, zsN]) (by simp [u64s, zsN]) (by omega)
  · exact heap_up (heap_up (heap_up (heap_at (by simp))))
  · exact heap_up (heap_at (by simp))
  · exact (((((Below.refl _ _).alloc (Nat.le_refl _) _).alloc (by simp) _).alloc (by simp; omega) _).alloc (by simp; omega) _).alloc (by simp; omega) _

set_option maxRecDepth 100000 in
set_option maxHeartbeats 2000000 in
theorem sweigh_bad (w : World) (K N k : Int) (sa : Option Addr) (n cap : Nat) (ws : List Nat) (h : Rd w 1 (.slice sa n cap) n (u64s (zsN ws))) (hw : W64 ws) (hn : n ≤ 17592186043904) (hE : aliE ws ≠ 0) :
    Calls Tryz.prog 52 #[.agg #[.int .i64 K, .int .i64 N, .int .i64 k, .slice sa n cap]] w fun e w' => e = badTask (aliE ws) ∧ Below w.heap.size w w' := by
  obtain ⟨E, hEE⟩ : ∃ E, E = aliE ws := ⟨_, rfl⟩
  rw [← hEE]
  have q : (E != 0) = true := by rw [hEE]; simpa using hE
  have HEE := Lib.hid hEE; clear hEE
  have C := Lib.hid (fun w1 (hb : Below w.heap.size w w1) => alibuild_any w1 (.slice sa n cap) n ws (h.below hb) hw hn)
  have HE := Lib.hid hE
  clear h hw hE
  go_enter Tryz.func52, Tryz.ntmps52
  go_wp2_with fail
  refine (C.out _ (((Below.refl _ _).alloc (Nat.le_refl _) _).alloc (by simp) _)).mono ?_
  rintro e w1 ⟨hq, hb⟩
  rcases hq with ⟨-, rfl⟩ | ⟨h0, -⟩
  · have hr1 : w1.heap[w.heap.size + 1]? = some (.cells #[.slice none 0 0, .nilFunc, .nilFunc] 52 (0, 0)) := (hb.block _ (by simp)).trans (heap_at (by simp))
    have y0 : ∀ o, (w1.alloc o).cell? ⟨w.heap.size + 1, 0, none⟩ = some (.slice none 0 0) := fun o => cell_of (heap_up hr1) 0 rfl
    have y1 : ∀ o, (w1.alloc o).cell? ⟨w.heap.size + 1, 1, none⟩ = some .nilFunc := fun o => cell_of (heap_up hr1) 1 rfl
    have y2 : ∀ o, (w1.alloc o).cell? ⟨w.heap.size + 1, 2, none⟩ = some .nilFunc := fun o => cell_of (heap_up hr1) 2 rfl
    have yf : ∀ o j, (w1.alloc o).frozen? ⟨w.heap.size + 1, j, none⟩ = false := fun o j => frozen_of (heap_up hr1) j
    have HB := Lib.hid ((((Below.refl w.heap.size w).alloc (Nat.le_refl _) (.cells #[.int .i64 K, .int .i64 N, .int .i64 k, .slice sa n cap] 24)).alloc (by simp) _).trans (hb.mono (by simp; omega)))
    clear hb hr1
    rw [← HEE.out]
    go_wp2_with fail
    refine bodyPost_ret (v := .tuple #[.agg #[.slice none 0 0, .nilFunc, .nilFunc], .int .i64 E]) (by simp [results, Tryz.results52, go_sem, *]) rfl ⟨rfl, ?_⟩
    exact (((HB.out.alloc HB.out.size _).setCell (p := ⟨w.heap.size + 1, 0, none⟩) (by show w.heap.size ≤ w.heap.size + 1; omega) _).setCell (p := ⟨w.heap.size + 1, 1, none⟩) (by show w.heap.size ≤ w.heap.size + 1; omega) _).setCell (p := ⟨w.heap.size + 1, 2, none⟩) (by show w.heap.size ≤ w.heap.size + 1; omega) _
  · exact absurd h0 HE.out

set_option maxRecDepth 100000 in
set_option maxHeartbeats 4000000 in
theorem sweigh_ok (w : World) (K N k : Int) (sa : Option Addr) (n cap : Nat) (ws : List Nat) (h : Rd w 1 (.slice sa n cap) n (u64s (zsN ws))) (hw : W64 ws) (hE : aliE ws = 0) :
    Calls Tryz.prog 52 #[.agg #[.int .i64 K, .int .i64 N, .int .i64 k, .slice sa n cap]] w fun e w' => ∃ g b1 bt bb ba : Nat,
      e = .returned (.tuple #[.agg #[.slice (some ⟨g, 0, none⟩) 2 2, .func (.func 47) #[] #[], .func (.func 102) #[] #[.pointer (some ⟨b1, 0, none⟩)]], .int .i64 0]) ∧
      w'.ownsRow w.heap.size 48 1 (.slice (some ⟨g, 0, none⟩) 2 2) 2 (u64s (zsN [n, ws.sum])) ∧ w'.heap[b1]? = some (.cells #[.func (.func 100) #[] #[.pointer (some ⟨bt, 0, none⟩)]] 95 (0, 0)) ∧
      w'.heap[bt]? = some (.cells #[.int .u64 (ws.sum : Int), .slice (some ⟨bb, 0, none⟩) n n, .slice (some ⟨ba, 0, none⟩) n n] 73 (0, 0)) ∧
      w'.ownsRow w.heap.size 48 1 (.slice (some ⟨bb, 0, none⟩) n n) n (u64s (zsN (aliF ws).bl)) ∧ w'.ownsRow w.heap.size 3 1 (.slice (some ⟨ba, 0, none⟩) n n) n (i64s (aliF ws).al) ∧ w.heap.size ≤ b1 ∧ w.heap.size ≤ bt ∧ Below w.heap.size w w' := by
  have hln : ws.length = n := by have := h.len_u64; rw [zsN_len] at this; exact this.symm
  obtain ⟨o1, o2, o3, o4⟩ := aliE_ok hE
  have hn : n ≤ 256 := by omega
  have C := Lib.hid (fun w1 (hb : Below w.heap.size w w1) => alibuild_any w1 (.slice sa n cap) n ws (h.below hb) hw (by omega))
  have HE := Lib.hid hE; have HLN := Lib.hid hln
  obtain ⟨S, hS⟩ : ∃ S, S = ws.sum := ⟨_, rfl⟩
  rw [← hS]
  have HS := Lib.hid hS
  have bS : S ≤ 1099511627776 := by
    have := sum_bound o2 o3 ws.length
    rw [List.take_length] at this
    omega
  have u1 : IntKind.u64.wrap (n : Int) = (n : Int) := by rw [IntKind.wrap_u64]; omega
  clear h hw hE hln o1 o2 o3 o4 hS
  go_enter Tryz.func52, Tryz.ntmps52
  go_wp2_with fail
  refine (C.out _ (((Below.refl _ _).alloc (Nat.le_refl _) _).alloc (by simp) _)).mono ?_
  rintro e w1 ⟨hq, hb⟩
  rcases hq with ⟨h0, -⟩ | ⟨-, bb, ba, rfl, hrb, hra⟩
  · exact absurd HE.out h0
  · rw [HLN.out] at hrb hra
    rw [HLN.out, ← HS.out]
    have hr0 : w1.heap[w.heap.size]? = some (.cells #[.int .i64 K, .int .i64 N, .int .i64 k, .slice sa n cap] 24 (0, 0)) := (hb.block _ (by simp; omega)).trans (heap_up (heap_at rfl))
    have hr1 : w1.heap[w.heap.size + 1]? = some (.cells #[.slice none 0 0, .nilFunc, .nilFunc] 52 (0, 0)) := (hb.block _ (by simp)).trans (heap_at (by simp))
    have hsz : w.heap.size + 1 + 1 ≤ w1.heap.size := by have := hb.size; simpa using this
    have z3 : ∀ o, (w1.alloc o).cell? ⟨w.heap.size, 3, none⟩ = some (.slice sa n cap) := fun o => cell_of (heap_up hr0) 3 rfl
    have HB := Lib.hid ((((Below.refl w.heap.size w).alloc (Nat.le_refl _) (.cells #[.int .i64 K, .int .i64 N, .int .i64 k, .slice sa n cap] 24)).alloc (by simp) _).trans (hb.mono (by simp; omega)))
    have HRB := Lib.hid hrb; have HRA := Lib.hid hra; have HR1 := Lib.hid hr1
    clear hb hr0 hr1 hrb hra
    go_wp2_with fail
    refine (srow_any _ _ 2 2 _ _).mono ?_
    rintro e w2 ⟨rfl, hb1, hb2⟩
    have hr2 : w2.heap[w.heap.size + 1]? = some (.cells #[.slice none 0 0, .nilFunc, .nilFunc] 52 (0, 0)) := (hb2.block _ (by simp; omega)).trans (heap_up (heap_up HR1.out))
    have y0 : w2.cell? ⟨w.heap.size + 1, 0, none⟩ = some (.slice none 0 0) := cell_of hr2 0 rfl
    have y1 : w2.cell? ⟨w.heap.size + 1, 1, none⟩ = some .nilFunc := cell_of hr2 1 rfl
    have y2 : w2.cell? ⟨w.heap.size + 1, 2, none⟩ = some .nilFunc := cell_of hr2 2 rfl
    have yf : ∀ j, w2.frozen? ⟨w.heap.size + 1, j, none⟩ = false := fun j => frozen_of hr2 j
    have hbt : w2.heap[w1.heap.size]? = some (.cells #[.int .u64 (S : Int), .slice (some ⟨bb, 0, none⟩) n n, .slice (some ⟨ba, 0, none⟩) n n] 73 (0, 0)) := (hb2.block _ (by simp; omega)).trans (heap_up (heap_at rfl))
    have hlim : w2.ownsRow w.heap.size 48 1 (.slice (some ⟨w1.heap.size + 1, 0, none⟩) 2 2) 2 (u64s (zsN [n, S])) :=
      row_full (cs := #[.int .u64 (n : Int), .int .u64 (S : Int)]) ((hb2.block _ (by simp)).trans (heap_at (by simp))) (by omega) (by simp [u64s, zsN]) (by simp [u64s, zsN]) (by omega)
    have hkb : w2.ownsRow w.heap.size 48 1 (.slice (some ⟨bb, 0, none⟩) n n) n (u64s (zsN (aliF ws).bl)) := row_chg (row_mono ((HRB.out.alloc _).alloc _) (by simp; omega)) (Chg.of_below (S := fun _ => False) hb2) (fun _ _ h => h)
    have hka : w2.ownsRow w.heap.size 3 1 (.slice (some ⟨ba, 0, none⟩) n n) n (i64s (aliF ws).al) := row_chg (row_mono ((HRA.out.alloc _).alloc _) (by simp; omega)) (Chg.of_below (S := fun _ => False) hb2) (fun _ _ h => h)
    have l1 : w.heap.size + 1 + 1 ≤ bb := by have : _ ≤ bb := (HRB.out.lt _ rfl).1; simpa using this
    have l2 : w.heap.size + 1 + 1 ≤ ba := by have : _ ≤ ba := (HRA.out.lt _ rfl).1; simpa using this
    have hbl : Below w.heap.size w w2 := ((HB.out.alloc HB.out.size _).alloc (by have := HB.out.size; simp; omega) _).trans (hb2.mono (by simp; omega))
    have H1 := Lib.hid hb1; have HBT := Lib.hid hbt; have HLM := Lib.hid hlim; have HKB := Lib.hid hkb; have HKA := Lib.hid hka; have HBL := Lib.hid hbl
    clear hb1 hb2 hr2 hbt hlim hkb hka hbl z3
    go_wp2_with fail
    refine bodyPost_ret (v := .tuple #[.agg #[.slice (some ⟨w1.heap.size + 1, 0, none⟩) 2 2, .func (.func 47) #[] #[], .func (.func 102) #[] #[.pointer (some ⟨w1.heap.size + 1 + 1, 0, none⟩)]], .int .i64 0]) (by simp [results, Tryz.results52, go_sem, *]) rfl ⟨w1.heap.size + 1, w1.heap.size + 1 + 1, w1.heap.size, bb, ba, rfl, ?_, ?_, ?_, ?_, ?_, by omega, by omega, ?_⟩
    · exact row_otherA (row_otherA (row_otherA HLM.out (p := ⟨w.heap.size + 1, 0, none⟩) (by show w1.heap.size + 1 ≠ w.heap.size + 1; omega)) (p := ⟨w.heap.size + 1, 1, none⟩) (by show w1.heap.size + 1 ≠ w.heap.size + 1; omega)) (p := ⟨w.heap.size + 1, 2, none⟩) (by show w1.heap.size + 1 ≠ w.heap.size + 1; omega)
    · rw [Below.heap_setCell _ _ _ _ (by show w1.heap.size + 1 + 1 ≠ w.heap.size + 1; omega), Below.heap_setCell _ _ _ _ (by show w1.heap.size + 1 + 1 ≠ w.heap.size + 1; omega), Below.heap_setCell _ _ _ _ (by show w1.heap.size + 1 + 1 ≠ w.heap.size + 1; omega)]
      have h9 := H1.out
      simpa using h9
    · rw [Below.heap_setCell _ _ _ _ (by show w1.heap.size ≠ w.heap.size + 1; omega), Below.heap_setCell _ _ _ _ (by show w1.heap.size ≠ w.heap.size + 1; omega), Below.heap_setCell _ _ _ _ (by show w1.heap.size ≠ w.heap.size + 1; omega)]
      exact HBT.out
    · exact row_otherA (row_otherA (row_otherA HKB.out (p := ⟨w.heap.size + 1, 0, none⟩) (by show bb ≠ w.heap.size + 1; omega)) (p := ⟨w.heap.size + 1, 1, none⟩) (by show bb ≠ w.heap.size + 1; omega)) (p := ⟨w.heap.size + 1, 2, none⟩) (by show bb ≠ w.heap.size + 1; omega)
    · exact row_otherA (row_otherA (row_otherA HKA.out (p := ⟨w.heap.size + 1, 0, none⟩) (by show ba ≠ w.heap.size + 1; omega)) (p := ⟨w.heap.size + 1, 1, none⟩) (by show ba ≠ w.heap.size + 1; omega)) (p := ⟨w.heap.size + 1, 2, none⟩) (by show ba ≠ w.heap.size + 1; omega)
    · exact ((HBL.out.setCell (p := ⟨w.heap.size + 1, 0, none⟩) (by show w.heap.size ≤ w.heap.size + 1; omega) _).setCell (p := ⟨w.heap.size + 1, 1, none⟩) (by show w.heap.size ≤ w.heap.size + 1; omega) _).setCell (p := ⟨w.heap.size + 1, 2, none⟩) (by show w.heap.size ≤ w.heap.size + 1; omega) _

end Go.Proofs.YtcoohepkmhpdkaaGreat

namespace Go.Proofs.YtcoohepkmhpdkaaGreat
open Go.RowKit
set_option linter.unusedVariables false
set_option linter.unusedSimpArgs false

set_option maxRecDepth 100000 in
set_option maxHeartbeats 1000000 in
theorem smany_any (n k : Int) (w : World) : Calls Tryz.prog 51 #[.int .i64 n, .int .i64 k] w fun e w' => e = .returned (.int .i64 (resChk n k)) ∧ w = w' := by
  go_enter Tryz.func51, Tryz.ntmps51
  go_wp2_with fail
  refine (reschk_any n k _).mono ?_
  rintro e w1 ⟨rfl, rfl⟩
  go_wp2_with fail
  go_ret
  exact ⟨rfl, rfl⟩

set_option maxRecDepth 100000 in
set_option maxHeartbeats 2000000 in
theorem sof_kind (w : World) (K N k : Int) (ws : Value) (h1 : K ≠ 1) (h2 : K ≠ 2) (h3 : K ≠ 3) (h4 : K ≠ 4) (h5 : K ≠ 5) (h6 : K ≠ 6) :
    Calls Tryz.prog 20 #[.agg #[.int .i64 K, .int .i64 N, .int .i64 k, ws]] w fun e w' => e = badTask 6 ∧ Below w.heap.size w w' := by
  have q1 : (K == 1) = false := by simpa using h1
  have q2 : (K == 2) = false := by simpa using h2
  have q3 : (K == 3) = false := by simpa using h3
  have q4 : (K == 4) = false := by simpa using h4
  have q5 : (K == 5) = false := by simpa using h5
  have q6 : (K == 6) = false := by simpa using h6
  clear h1 h2 h3 h4 h5 h6
  go_enter Tryz.func20, Tryz.ntmps20
  go_wp2
  refine bodyPost_ret (v := .tuple #[.agg #[.slice none 0 0, .nilFunc, .nilFunc], .int .i64 6]) (by simp [results, Tryz.results20, go_sem]) rfl ⟨rfl, ?_⟩
  exact (((Below.refl _ _).alloc (Nat.le_refl _) _).alloc (by simp) _).alloc (by simp; omega) _

/-- what a task is made of -/
def TaskShape (sl f g : Value) : Prop := (sl = .slice none 0 0 ∧ f = .nilFunc ∧ g = .nilFunc) ∨ ∃ (a : Option Addr) (n c F1 F2 : Nat) (caps : Array Value), sl = .slice a n c ∧ f = .func (.func F1) #[] #[] ∧ g = .func (.func F2) #[] caps

set_option maxRecDepth 100000 in
set_option maxHeartbeats 2000000 in
theorem sof_1 (w : World) (N k : Int) (sa : Option Addr) (n cap : Nat) (R : Value → Value → Value → Int → World → Prop) (hst : ∀ sl f g E (w2 : World) (p : Addr) v, p.block < w.heap.size + 3 → R sl f g E w2 → R sl f g E (w2.setCell p v)) (C : ∀ w1, Below w.heap.size w w1 → w1.heap.size = w.heap.size + 3 → Calls Tryz.prog 46 #[.agg #[.int .i64 1, .int .i64 N, .int .i64 k, .slice sa n cap], .func (.func 47) #[] #[], .func (.func 48) #[] #[]] w1 fun e w' => ∃ sl f g E, e = .returned (.tuple #[.agg #[sl, f, g], .int .i64 E]) ∧ TaskShape sl f g ∧ R sl f g E w' ∧ Below w1.heap.size w1 w') :
    Calls Tryz.prog 20 #[.agg #[.int .i64 1, .int .i64 N, .int .i64 k, .slice sa n cap]] w fun e w' => ∃ sl f g E, e = .returned (.tuple #[.agg #[sl, f, g], .int .i64 E]) ∧ R sl f g E w' ∧ Below w.heap.size w w' := by
  have C := Lib.hid C
  have HST := Lib.hid hst
  clear hst
  go_enter Tryz.func20, Tryz.ntmps20
  go_wp2_with fail
  refine (C.out _ ((((Below.refl _ _).alloc (Nat.le_refl _) _).alloc (by simp) _).alloc (by simp; omega) _) (by simp)).mono ?_
  rintro e w1 ⟨sl, f, g, E, rfl, hsh, hR, hb⟩
  have hr1 : w1.heap[w.heap.size + 1]? = some (.cells #[.slice none 0 0, .nilFunc, .nilFunc] 52 (0, 0)) := (hb.block _ (by simp)).trans (heap_up (heap_at (by simp)))
  have y0 : w1.cell? ⟨w.heap.size + 1, 0, none⟩ = some (.slice none 0 0) := cell_of hr1 0 rfl
  have y1 : w1.cell? ⟨w.heap.size + 1, 1, none⟩ = some .nilFunc := cell_of hr1 1 rfl
  have y2 : w1.cell? ⟨w.heap.size + 1, 2, none⟩ = some .nilFunc := cell_of hr1 2 rfl
  have yf : ∀ j, w1.frozen? ⟨w.heap.size + 1, j, none⟩ = false := fun j => frozen_of hr1 j
  have HR := Lib.hid hR
  have HB := Lib.hid (((((Below.refl w.heap.size w).alloc (Nat.le_refl _) (.cells #[.int .i64 1, .int .i64 N, .int .i64 k, .slice sa n cap] 24)).alloc (by simp) _).alloc (by simp; omega) _).trans (hb.mono (by simp; omega)))
  clear hR hb hr1
  rcases hsh with ⟨rfl, rfl, rfl⟩ | ⟨a1, a2, a3, a4, a5, a6, rfl, rfl, rfl⟩
  · go_wp2_with fail
    refine bodyPost_ret (v := .tuple #[.agg #[.slice none 0 0, .nilFunc, .nilFunc], .int .i64 E]) (by simp [results, Tryz.results20, go_sem, *]) rfl ⟨_, _, _, E, rfl, ?_, ?_⟩
    · exact HST.out _ _ _ _ _ ⟨w.heap.size + 1, 2, none⟩ _ (by show w.heap.size + 1 < w.heap.size + 3; omega) (HST.out _ _ _ _ _ ⟨w.heap.size + 1, 1, none⟩ _ (by show w.heap.size + 1 < w.heap.size + 3; omega) (HST.out _ _ _ _ _ ⟨w.heap.size + 1, 0, none⟩ _ (by show w.heap.size + 1 < w.heap.size + 3; omega) HR.out))
    · exact ((HB.out.setCell (p := ⟨w.heap.size + 1, 0, none⟩) (by show w.heap.size ≤ w.heap.size + 1; omega) _).setCell (p := ⟨w.heap.size + 1, 1, none⟩) (by show w.heap.size ≤ w.heap.size + 1; omega) _).setCell (p := ⟨w.heap.size + 1, 2, none⟩) (by show w.heap.size ≤ w.heap.size + 1; omega) _
  · go_wp2_with fail
    refine bodyPost_ret (v := .tuple #[.agg #[.slice a1 a2 a3, .func (.func a4) #[] #[], .func (.func a5) #[] a6], .int .i64 E]) (by simp [results, Tryz.results20, go_sem, *]) rfl ⟨_, _, _, E, rfl, ?_, ?_⟩
    · exact HST.out _ _ _ _ _ ⟨w.heap.size + 1, 2, none⟩ _ (by show w.heap.size + 1 < w.heap.size + 3; omega) (HST.out _ _ _ _ _ ⟨w.heap.size + 1, 1, none⟩ _ (by show w.heap.size + 1 < w.heap.size + 3; omega) (HST.out _ _ _ _ _ ⟨w.heap.size + 1, 0, none⟩ _ (by show w.heap.size + 1 < w.heap.size + 3; omega) HR.out))
    · exact ((HB.out.setCell (p := ⟨w.heap.size + 1, 0, none⟩) (by show w.heap.size ≤ w.heap.size + 1; omega) _).setCell (p := ⟨w.heap.size + 1, 1, none⟩) (by show w.heap.size ≤ w.heap.size + 1; omega) _).setCell (p := ⟨w.heap.size + 1, 2, none⟩) (by show w.heap.size ≤ w.heap.size + 1; omega) _

set_option maxRecDepth 100000 in
set_option maxHeartbeats 2000000 in
theorem sof_2 (w : World) (N k : Int) (sa : Option Addr) (n cap : Nat) (R : Value → Value → Value → Int → World → Prop) (hst : ∀ sl f g E (w2 : World) (p : Addr) v, p.block < w.heap.size + 3 → R sl f g E w2 → R sl f g E (w2.setCell p v)) (C : ∀ w1, Below w.heap.size w w1 → w1.heap.size = w.heap.size + 3 → Calls Tryz.prog 46 #[.agg #[.int .i64 2, .int .i64 N, .int .i64 k, .slice sa n cap], .func (.func 49) #[] #[], .func (.func 50) #[] #[]] w1 fun e w' => ∃ sl f g E, e = .returned (.tuple #[.agg #[sl, f, g], .int .i64 E]) ∧ TaskShape sl f g ∧ R sl f g E w' ∧ Below w1.heap.size w1 w') :
    Calls Tryz.prog 20 #[.agg #[.int .i64 2, .int .i64 N, .int .i64 k, .slice sa n cap]] w fun e w' => ∃ sl f g E, e = .returned (.tuple #[.agg #[sl, f, g], .int .i64 E]) ∧ R sl f g E w' ∧ Below w.heap.size w w' := by
  have C := Lib.hid C
  have HST := Lib.hid hst
  clear hst
  go_enter Tryz.func20, Tryz.ntmps20
  go_wp2_with fail
  refine (C.out _ ((((Below.refl _ _).alloc (Nat.le_refl _) _).alloc (by simp) _).alloc (by simp; omega) _) (by simp)).mono ?_
  rintro e w1 ⟨sl, f, g, E, rfl, hsh, hR, hb⟩
  have hr1 : w1.heap[w.heap.size + 1]? = some (.cells #[.slice none 0 0, .nilFunc, .nilFunc] 52 (0, 0)) := (hb.block _ (by simp)).trans (heap_up (heap_at (by simp)))
  have y0 : w1.cell? ⟨w.heap.size + 1, 0, none⟩ = some (.slice none 0 0) := cell_of hr1 0 rfl
  have y1 : w1.cell? ⟨w.heap.size + 1, 1, none⟩ = some .nilFunc := cell_of hr1 1 rfl
  have y2 : w1.cell? ⟨w.heap.size + 1, 2, none⟩ = some .nilFunc := cell_of hr1 2 rfl
  have yf : ∀ j, w1.frozen? ⟨w.heap.size + 1, j, none⟩ = false := fun j => frozen_of hr1 j
  have HR := Lib.hid hR
  have HB := Lib.hid (((((Below.refl w.heap.size w).alloc (Nat.le_refl _) (.cells #[.int .i64 2, .int .i64 N, .int .i64 k, .slice sa n cap] 24)).alloc (by simp) _).alloc (by simp; omega) _).trans (hb.mono (by simp; omega)))
  clear hR hb hr1
  rcases hsh with ⟨rfl, rfl, rfl⟩ | ⟨a1, a2, a3, a4, a5, a6, rfl, rfl, rfl⟩
  · go_wp2_with fail
    refine bodyPost_ret (v := .tuple #[.agg #[.slice none 0 0, .nilFunc, .nilFunc], .int .i64 E]) (by simp [results, Tryz.results20, go_sem, *]) rfl ⟨_, _, _, E, rfl, ?_, ?_⟩
    · exact HST.out _ _ _ _ _ ⟨w.heap.size + 1, 2, none⟩ _ (by show w.heap.size + 1 < w.heap.size + 3; omega) (HST.out _ _ _ _ _ ⟨w.heap.size + 1, 1, none⟩ _ (by show w.heap.size + 1 < w.heap.size + 3; omega) (HST.out _ _ _ _ _ ⟨w.heap.size + 1, 0, none⟩ _ (by show w.heap.size + 1 < w.heap.size + 3; omega) HR.out))
    · exact ((HB.out.setCell (p := ⟨w.heap.size + 1, 0, none⟩) (by show w.heap.size ≤ w.heap.size + 1; omega) _).setCell (p := ⟨w.heap.size + 1, 1, none⟩) (by show w.heap.size ≤ w.heap.size + 1; omega) _).setCell (p := ⟨w.heap.size + 1, 2, none⟩) (by show w.heap.size ≤ w.heap.size + 1; omega) _
  · go_wp2_with fail
    refine bodyPost_ret (v := .tuple #[.agg #[.slice a1 a2 a3, .func (.func a4) #[] #[], .func (.func a5) #[] a6], .int .i64 E]) (by simp [results, Tryz.results20, go_sem, *]) rfl ⟨_, _, _, E, rfl, ?_, ?_⟩
    · exact HST.out _ _ _ _ _ ⟨w.heap.size + 1, 2, none⟩ _ (by show w.heap.size + 1 < w.heap.size + 3; omega) (HST.out _ _ _ _ _ ⟨w.heap.size + 1, 1, none⟩ _ (by show w.heap.size + 1 < w.heap.size + 3; omega) (HST.out _ _ _ _ _ ⟨w.heap.size + 1, 0, none⟩ _ (by show w.heap.size + 1 < w.heap.size + 3; omega) HR.out))
    · exact ((HB.out.setCell (p := ⟨w.heap.size + 1, 0, none⟩) (by show w.heap.size ≤ w.heap.size + 1; omega) _).setCell (p := ⟨w.heap.size + 1, 1, none⟩) (by show w.heap.size ≤ w.heap.size + 1; omega) _).setCell (p := ⟨w.heap.size + 1, 2, none⟩) (by show w.heap.size ≤ w.heap.size + 1; omega) _

set_option maxRecDepth 100000 in
set_option maxHeartbeats 2000000 in
theorem sof_6 (w : World) (N k : Int) (sa : Option Addr) (n cap : Nat) (R : Value → Value → Value → Int → World → Prop) (hst : ∀ sl f g E (w2 : World) (p : Addr) v, p.block < w.heap.size + 3 → R sl f g E w2 → R sl f g E (w2.setCell p v)) (C : ∀ w1, Below w.heap.size w w1 → w1.heap.size = w.heap.size + 3 → Calls Tryz.prog 52 #[.agg #[.int .i64 6, .int .i64 N, .int .i64 k, .slice sa n cap]] w1 fun e w' => ∃ sl f g E, e = .returned (.tuple #[.agg #[sl, f, g], .int .i64 E]) ∧ TaskShape sl f g ∧ R sl f g E w' ∧ Below w1.heap.size w1 w') :
    Calls Tryz.prog 20 #[.agg #[.int .i64 6, .int .i64 N, .int .i64 k, .slice sa n cap]] w fun e w' => ∃ sl f g E, e = .returned (.tuple #[.agg #[sl, f, g], .int .i64 E]) ∧ R sl f g E w' ∧ Below w.heap.size w w' := by
  have C := Lib.hid C
  have HST := Lib.hid hst
  clear hst
  go_enter Tryz.func20, Tryz.ntmps20
  go_wp2_with fail
  refine (C.out _ ((((Below.refl _ _).alloc (Nat.le_refl _) _).alloc (by simp) _).alloc (by simp; omega) _) (by simp)).mono ?_
  rintro e w1 ⟨sl, f, g, E, rfl, hsh, hR, hb⟩
  have hr1 : w1.heap[w.heap.size + 1]? = some (.cells #[.slice none 0 0, .nilFunc, .nilFunc] 52 (0, 0)) := (hb.block _ (by simp)).trans (heap_up (heap_at (by simp)))
  have y0 : w1.cell? ⟨w.heap.size + 1, 0, none⟩ = some (.slice none 0 0) := cell_of hr1 0 rfl
  have y1 : w1.cell? ⟨w.heap.size + 1, 1, none⟩ = some .nilFunc := cell_of hr1 1 rfl
  have y2 : w1.cell? ⟨w.heap.size + 1, 2, none⟩ = some .nilFunc := cell_of hr1 2 rfl
  have yf : ∀ j, w1.frozen? ⟨w.heap.size + 1, j, none⟩ = false := fun j => frozen_of hr1 j
  have HR := Lib.hid hR
  have HB := Lib.hid (((((Below.refl w.heap.size w).alloc (Nat.le_refl _) (.cells #[.int .i64 6, .int .i64 N, .int .i64 k, .slice sa n cap] 24)).alloc (by simp) _).alloc (by simp; omega) _).trans (hb.mono (by simp; omega)))
  clear hR hb hr1
  rcases hsh with ⟨rfl, rfl, rfl⟩ | ⟨a1, a2, a3, a4, a5, a6, rfl, rfl, rfl⟩
  · go_wp2_with fail
    refine bodyPost_ret (v := .tuple #[.agg #[.slice none 0 0, .nilFunc, .nilFunc], .int .i64 E]) (by simp [results, Tryz.results20, go_sem, *]) rfl ⟨_, _, _, E, rfl, ?_, ?_⟩
    · exact HST.out _ _ _ _ _ ⟨w.heap.size + 1, 2, none⟩ _ (by show w.heap.size + 1 < w.heap.size + 3; omega) (HST.out _ _ _ _ _ ⟨w.heap.size + 1, 1, none⟩ _ (by show w.heap.size + 1 < w.heap.size + 3; omega) (HST.out _ _ _ _ _ ⟨w.heap.size + 1, 0, none⟩ _ (by show w.heap.size + 1 < w.heap.size + 3; omega) HR.out))
    · exact ((HB.out.setCell (p := ⟨w.heap.size + 1, 0, none⟩) (by show w.heap.size ≤ w.heap.size + 1; omega) _).setCell (p := ⟨w.heap.size + 1, 1, none⟩) (by show w.heap.size ≤ w.heap.size + 1; omega) _).setCell (p := ⟨w.heap.size + 1, 2, none⟩) (by show w.heap.size ≤ w.heap.size + 1; omega) _
  · go_wp2_with fail
    refine bodyPost_ret (v := .tuple #[.agg #[.slice a1 a2 a3, .func (.func a4) #[] #[], .func (.func a5) #[] a6], .int .i64 E]) (by simp [results, Tryz.results20, go_sem, *]) rfl ⟨_, _, _, E, rfl, ?_, ?_⟩
    · exact HST.out _ _ _ _ _ ⟨w.heap.size + 1, 2, none⟩ _ (by show w.heap.size + 1 < w.heap.size + 3; omega) (HST.out _ _ _ _ _ ⟨w.heap.size + 1, 1, none⟩ _ (by show w.heap.size + 1 < w.heap.size + 3; omega) (HST.out _ _ _ _ _ ⟨w.heap.size + 1, 0, none⟩ _ (by show w.heap.size + 1 < w.heap.size + 3; omega) HR.out))
    · exact ((HB.out.setCell (p := ⟨w.heap.size + 1, 0, none⟩) (by show w.heap.size ≤ w.heap.size + 1; omega) _).setCell (p := ⟨w.heap.size + 1, 1, none⟩) (by show w.heap.size ≤ w.heap.size + 1; omega) _).setCell (p := ⟨w.heap.size + 1, 2, none⟩) (by show w.heap.size ≤ w.heap.size + 1; omega) _

set_option maxRecDepth 100000 in
set_option maxHeartbeats 2000000 in
theorem sof_4_bad (w : World) (N k : Int) (ws : Value) (hE : resChk N k ≠ 0) :
    Calls Tryz.prog 20 #[.agg #[.int .i64 4, .int .i64 N, .int .i64 k, ws]] w fun e w' => e = badTask (resChk N k) ∧ Below w.heap.size w w' := by
  have q : (resChk N k != 0) = true := by simpa using hE
  obtain ⟨E, hEE⟩ : ∃ E, E = resChk N k := ⟨_, rfl⟩
  rw [← hEE] at q ⊢
  have HEE := Lib.hid hEE
  clear hE hEE
  go_enter Tryz.func20, Tryz.ntmps20
  go_wp2_with fail
  refine (smany_any _ _ _).mono ?_
  rintro e w1 ⟨rfl, rfl⟩
  rw [← HEE.out]
  go_wp2_with fail
  refine bodyPost_ret (v := .tuple #[.agg #[.slice none 0 0, .nilFunc, .nilFunc], .int .i64 E]) (by simp [results, Tryz.results20, go_sem]) rfl ⟨rfl, ?_⟩
  exact (((Below.refl _ _).alloc (Nat.le_refl _) _).alloc (by simp) _).alloc (by simp; omega) _

set_option maxRecDepth 100000 in
set_option maxHeartbeats 2000000 in
theorem sof_5_bad (w : World) (N k : Int) (ws : Value) (hE : resChk N k ≠ 0) :
    Calls Tryz.prog 20 #[.agg #[.int .i64 5, .int .i64 N, .int .i64 k, ws]] w fun e w' => e = badTask (resChk N k) ∧ Below w.heap.size w w' := by
  have q : (resChk N k != 0) = true := by simpa using hE
  obtain ⟨E, hEE⟩ : ∃ E, E = resChk N k := ⟨_, rfl⟩
  rw [← hEE] at q ⊢
  have HEE := Lib.hid hEE
  clear hE hEE
  go_enter Tryz.func20, Tryz.ntmps20
  go_wp2_with fail
  refine (smany_any _ _ _).mono ?_
  rintro e w1 ⟨rfl, rfl⟩
  rw [← HEE.out]
  go_wp2_with fail
  refine bodyPost_ret (v := .tuple #[.agg #[.slice none 0 0, .nilFunc, .nilFunc], .int .i64 E]) (by simp [results, Tryz.results20, go_sem]) rfl ⟨rfl, ?_⟩
  exact (((Below.refl _ _).alloc (Nat.le_refl _) _).alloc (by simp) _).alloc (by simp; omega) _

set_option maxRecDepth 100000 in
set_option maxHeartbeats 2000000 in
theorem sof_3_bad (w : World) (N k : Int) (ws : Value) (hE : resChk N 0 ≠ 0) :
    Calls Tryz.prog 20 #[.agg #[.int .i64 3, .int .i64 N, .int .i64 k, ws]] w fun e w' => e = badTask (resChk N 0) ∧ Below w.heap.size w w' := by
  have q : (resChk N 0 != 0) = true := by simpa using hE
  obtain ⟨E, hEE⟩ : ∃ E, E = resChk N 0 := ⟨_, rfl⟩
  rw [← hEE] at q ⊢
  have HEE := Lib.hid hEE
  clear hE hEE
  go_enter Tryz.func20, Tryz.ntmps20
  go_wp2_with fail
  refine (smany_any _ _ _).mono ?_
  rintro e w1 ⟨rfl, rfl⟩
  rw [← HEE.out]
  go_wp2_with fail
  refine bodyPost_ret (v := .tuple #[.agg #[.slice none 0 0, .nilFunc, .nilFunc], .int .i64 E]) (by simp [results, Tryz.results20, go_sem]) rfl ⟨rfl, ?_⟩
  exact (((Below.refl _ _).alloc (Nat.le_refl _) _).alloc (by simp) _).alloc (by simp; omega) _

theorem row_setBelow {w : World} {B : Nat} {e : TypeId} {sz : Nat} {v : Value} {n : Nat} {xs : List Value} {p : Addr} {u : Value} (h : w.ownsRow B e sz v n xs) (hp : p.block < B) : (w.setCell p u).ownsRow B e sz v n xs :=
  row_kept h fun g hg => Below.heap_setCell _ _ _ _ (by have := (h.lt g hg).1; omega)

set_option maxRecDepth 100000 in
set_option maxHeartbeats 2000000 in
theorem sof_4_ok (w : World) (N : Nat) (k : Nat) (ws : Value) (hN : N ≤ 256) (hk : k ≤ N) :
    Calls Tryz.prog 20 #[.agg #[.int .i64 4, .int .i64 (N : Int), .int .i64 (k : Int), ws]] w fun e w' => ∃ sa cap b, e = .returned (.tuple #[.agg #[.slice sa k cap, .func (.func 47) #[] #[], .func (.func 102) #[] #[.pointer (some ⟨b, 0, none⟩)]], .int .i64 0]) ∧ w'.ownsRow w.heap.size 48 1 (.slice sa k cap) k (u64s (zsN (dnL N k))) ∧
      w'.heap[b]? = some (.cells #[.func (.func 57) #[] #[.pointer (some ⟨w.heap.size, 0, none⟩), .pointer (some ⟨w.heap.size + 1 + 1, 0, none⟩)]] 95 (0, 0)) ∧ w'.heap[w.heap.size]? = some (.cells #[.int .i64 4, .int .i64 (N : Int), .int .i64 (k : Int), ws] 24 (0, 0)) ∧ w'.heap[w.heap.size + 1 + 1]? = some (.cells #[.int .i64 (k : Int)] 3 (0, 0)) ∧ Below w.heap.size w w' := by
  have hc : resChk (N : Int) (k : Int) = 0 := resChk_zero.2 (by omega)
  have HK := Lib.hid hk
  have HC := Lib.hid hc
  clear hc
  have u1 : IntKind.i64.wrap ((N : Int) - (k : Int)) = (N : Int) - (k : Int) := by rw [IntKind.wrap_i64]; omega
  have u2 : IntKind.i64.wrap ((N : Int) - (k : Int) + 1) = (N : Int) - (k : Int) + 1 := by rw [IntKind.wrap_i64]; omega
  clear hk
  go_enter Tryz.func20, Tryz.ntmps20
  go_wp2_with fail
  refine (smany_any _ _ _).mono ?_
  rintro e w1 ⟨rfl, rfl⟩
  rw [HC.out]
  go_wp2_with fail
  have hm : ∀ i : Nat, i < k ↔ (N : Int) - (k : Int) + 1 ≤ (N : Int) - (i : Int) := by intro i; omega
  refine (sdown_any _ N ((N : Int) - (k : Int) + 1) k hN (by have := HK.out; omega) (by omega) HK.out hm).mono ?_
  rintro e w1 ⟨sl, cl, rfl, ho, hb⟩
  clear hm
  have hr0 : w1.heap[w.heap.size]? = some (.cells #[.int .i64 4, .int .i64 (N : Int), .int .i64 (k : Int), ws] 24 (0, 0)) := (hb.block _ (by simp; omega)).trans (heap_up (heap_up (heap_at rfl)))
  have hr2 : w1.heap[w.heap.size + 1 + 1]? = some (.cells #[.int .i64 (k : Int)] 3 (0, 0)) := (hb.block _ (by simp)).trans (heap_at (by simp))
  have HO := Lib.hid (row_mono ho (B' := w.heap.size + 3) (by simp))
  have HB := Lib.hid (((((Below.refl w.heap.size w).alloc (Nat.le_refl _) (.cells #[.int .i64 4, .int .i64 (N : Int), .int .i64 (k : Int), ws] 24)).alloc (by simp) (.cells #[.slice none 0 0, .nilFunc, .nilFunc] 52)).alloc (by simp; omega) (.cells #[.int .i64 (k : Int)] 3)).trans (hb.mono (by simp; omega)))
  have hr1 : w1.heap[w.heap.size + 1]? = some (.cells #[.slice none 0 0, .nilFunc, .nilFunc] 52 (0, 0)) := (hb.block _ (by simp)).trans (heap_up (heap_at (by simp)))
  have hsz : w.heap.size + 3 ≤ w1.heap.size := by have := hb.size; simpa using this
  have HR1a := Lib.hid hr1; have HSZ := Lib.hid hsz
  have HR0 := Lib.hid hr0; have HR2 := Lib.hid hr2
  clear ho hb hr0 hr1 hr2 hsz
  go_wp2_with fail
  refine (srow_any _ _ _ _ _ _).mono ?_
  rintro e w2 ⟨rfl, hb1, hb2⟩
  have hr2 : w2.heap[w.heap.size + 1]? = some (.cells #[.slice none 0 0, .nilFunc, .nilFunc] 52 (0, 0)) := (hb2.block _ (by have := HSZ.out; omega)).trans HR1a.out
  have y0 : w2.cell? ⟨w.heap.size + 1, 0, none⟩ = some (.slice none 0 0) := cell_of hr2 0 rfl
  have y1 : w2.cell? ⟨w.heap.size + 1, 1, none⟩ = some .nilFunc := cell_of hr2 1 rfl
  have y2 : w2.cell? ⟨w.heap.size + 1, 2, none⟩ = some .nilFunc := cell_of hr2 2 rfl
  have yf : ∀ j, w2.frozen? ⟨w.heap.size + 1, j, none⟩ = false := fun j => frozen_of hr2 j
  have HR1 := Lib.hid hb1; have HB2 := Lib.hid hb2
  clear hr2
  clear hb1 hb2
  go_wp2_with fail
  have z := HSZ.out
  refine bodyPost_ret (v := .tuple #[.agg #[.slice sl k cl, .func (.func 47) #[] #[], .func (.func 102) #[] #[.pointer (some ⟨w1.heap.size, 0, none⟩)]], .int .i64 0]) (by simp [results, Tryz.results20, go_sem, *]) rfl ⟨sl, cl, w1.heap.size, rfl, ?_, ?_, ?_, ?_, ?_⟩
  · exact row_mono (row_setBelow (row_setBelow (row_setBelow (row_chg HO.out (Chg.of_below (S := fun _ => False) HB2.out) (fun _ _ h => h)) (p := ⟨w.heap.size + 1, 0, none⟩) (by show w.heap.size + 1 < w.heap.size + 3; omega)) (p := ⟨w.heap.size + 1, 1, none⟩) (by show w.heap.size + 1 < w.heap.size + 3; omega)) (p := ⟨w.heap.size + 1, 2, none⟩) (by show w.heap.size + 1 < w.heap.size + 3; omega)) (by omega)
  · rw [Below.heap_setCell _ _ _ _ (by show w1.heap.size ≠ w.heap.size + 1; omega), Below.heap_setCell _ _ _ _ (by show w1.heap.size ≠ w.heap.size + 1; omega), Below.heap_setCell _ _ _ _ (by show w1.heap.size ≠ w.heap.size + 1; omega)]
    exact HR1.out
  · rw [Below.heap_setCell _ _ _ _ (by show w.heap.size ≠ w.heap.size + 1; omega), Below.heap_setCell _ _ _ _ (by show w.heap.size ≠ w.heap.size + 1; omega), Below.heap_setCell _ _ _ _ (by show w.heap.size ≠ w.heap.size + 1; omega)]
    exact (HB2.out.block _ (by omega)).trans HR0.out
  · rw [Below.heap_setCell _ _ _ _ (by show w.heap.size + 1 + 1 ≠ w.heap.size + 1; omega), Below.heap_setCell _ _ _ _ (by show w.heap.size + 1 + 1 ≠ w.heap.size + 1; omega), Below.heap_setCell _ _ _ _ (by show w.heap.size + 1 + 1 ≠ w.heap.size + 1; omega)]
    exact (HB2.out.block _ (by omega)).trans HR2.out
  · exact (((HB.out.trans (HB2.out.mono (by omega))).setCell (p := ⟨w.heap.size + 1, 0, none⟩) (by show w.heap.size ≤ w.heap.size + 1; omega) _).setCell (p := ⟨w.heap.size + 1, 1, none⟩) (by show w.heap.size ≤ w.heap.size + 1; omega) _).setCell (p := ⟨w.heap.size + 1, 2, none⟩) (by show w.heap.size ≤ w.heap.size + 1; omega) _

set_option maxRecDepth 100000 in
set_option maxHeartbeats 2000000 in
theorem sof_3_ok (w : World) (N : Nat) (k : Int) (ws : Value) (hN : N ≤ 256) :
    Calls Tryz.prog 20 #[.agg #[.int .i64 3, .int .i64 (N : Int), .int .i64 k, ws]] w fun e w' => ∃ sa cap b, e = .returned (.tuple #[.agg #[.slice sa (N - 1) cap, .func (.func 47) #[] #[], .func (.func 102) #[] #[.pointer (some ⟨b, 0, none⟩)]], .int .i64 0]) ∧ w'.ownsRow w.heap.size 48 1 (.slice sa (N - 1) cap) (N - 1) (u64s (zsN (dnL N (N - 1)))) ∧
      w'.heap[b]? = some (.cells #[.func (.func 55) #[] #[.pointer (some ⟨w.heap.size, 0, none⟩)]] 95 (0, 0)) ∧ w'.heap[w.heap.size]? = some (.cells #[.int .i64 3, .int .i64 (N : Int), .int .i64 k, ws] 24 (0, 0)) ∧ w'.heap[w.heap.size + 1 + 1]? = some (.cells #[.int .i64 0] 3 (0, 0)) ∧ Below w.heap.size w w' := by
  have hc : resChk (N : Int) 0 = 0 := resChk_zero.2 (by omega)
  have HC := Lib.hid hc
  clear hc
  go_enter Tryz.func20, Tryz.ntmps20
  go_wp2_with fail
  refine (smany_any _ _ _).mono ?_
  rintro e w1 ⟨rfl, rfl⟩
  rw [HC.out]
  go_wp2_with fail
  have hm : ∀ i : Nat, i < N - 1 ↔ (2 : Int) ≤ (N : Int) - (i : Int) := by intro i; omega
  refine (sdown_any _ N 2 (N - 1) hN (by omega) (by omega) (by omega) hm).mono ?_
  rintro e w1 ⟨sl, cl, rfl, ho, hb⟩
  clear hm
  have hr0 : w1.heap[w.heap.size]? = some (.cells #[.int .i64 3, .int .i64 (N : Int), .int .i64 k, ws] 24 (0, 0)) := (hb.block _ (by simp; omega)).trans (heap_up (heap_up (heap_at rfl)))
  have hr2 : w1.heap[w.heap.size + 1 + 1]? = some (.cells #[.int .i64 0] 3 (0, 0)) := (hb.block _ (by simp)).trans (heap_at (by simp))
  have HO := Lib.hid (row_mono ho (B' := w.heap.size + 3) (by simp))
  have HB := Lib.hid (((((Below.refl w.heap.size w).alloc (Nat.le_refl _) (.cells #[.int .i64 3, .int .i64 (N : Int), .int .i64 k, ws] 24)).alloc (by simp) (.cells #[.slice none 0 0, .nilFunc, .nilFunc] 52)).alloc (by simp; omega) (.cells #[.int .i64 0] 3)).trans (hb.mono (by simp; omega)))
  have hr1 : w1.heap[w.heap.size + 1]? = some (.cells #[.slice none 0 0, .nilFunc, .nilFunc] 52 (0, 0)) := (hb.block _ (by simp)).trans (heap_up (heap_at (by simp)))
  have hsz : w.heap.size + 3 ≤ w1.heap.size := by have := hb.size; simpa using this
  have HR1a := Lib.hid hr1; have HSZ := Lib.hid hsz
  have HR0 := Lib.hid hr0; have HR2 := Lib.hid hr2
  clear ho hb hr0 hr1 hr2 hsz
  go_wp2_with fail
  refine (srow_any _ _ _ _ _ _).mono ?_
  rintro e w2 ⟨rfl, hb1, hb2⟩
  have hr2 : w2.heap[w.heap.size + 1]? = some (.cells #[.slice none 0 0, .nilFunc, .nilFunc] 52 (0, 0)) := (hb2.block _ (by have := HSZ.out; omega)).trans HR1a.out
  have y0 : w2.cell? ⟨w.heap.size + 1, 0, none⟩ = some (.slice none 0 0) := cell_of hr2 0 rfl
  have y1 : w2.cell? ⟨w.heap.size + 1, 1, none⟩ = some .nilFunc := cell_of hr2 1 rfl
  have y2 : w2.cell? ⟨w.heap.size + 1, 2, none⟩ = some .nilFunc := cell_of hr2 2 rfl
  have yf : ∀ j, w2.frozen? ⟨w.heap.size + 1, j, none⟩ = false := fun j => frozen_of hr2 j
  have HR1 := Lib.hid hb1; have HB2 := Lib.hid hb2
  clear hr2
  clear hb1 hb2
  go_wp2_with fail
  have z := HSZ.out
  refine bodyPost_ret (v := .tuple #[.agg #[.slice sl (N - 1) cl, .func (.func 47) #[] #[], .func (.func 102) #[] #[.pointer (some ⟨w1.heap.size, 0, none⟩)]], .int .i64 0]) (by simp [results, Tryz.results20, go_sem, *]) rfl ⟨sl, cl, w1.heap.size, rfl, ?_, ?_, ?_, ?_, ?_⟩
  · exact row_mono (row_setBelow (row_setBelow (row_setBelow (row_chg HO.out (Chg.of_below (S := fun _ => False) HB2.out) (fun _ _ h => h)) (p := ⟨w.heap.size + 1, 0, none⟩) (by show w.heap.size + 1 < w.heap.size + 3; omega)) (p := ⟨w.heap.size + 1, 1, none⟩) (by show w.heap.size + 1 < w.heap.size + 3; omega)) (p := ⟨w.heap.size + 1, 2, none⟩) (by show w.heap.size + 1 < w.heap.size + 3; omega)) (by omega)
  · rw [Below.heap_setCell _ _ _ _ (by show w1.heap.size ≠ w.heap.size + 1; omega), Below.heap_setCell _ _ _ _ (by show w1.heap.size ≠ w.heap.size + 1; omega), Below.heap_setCell _ _ _ _ (by show w1.heap.size ≠ w.heap.size + 1; omega)]
    exact HR1.out
  · rw [Below.heap_setCell _ _ _ _ (by show w.heap.size ≠ w.heap.size + 1; omega), Below.heap_setCell _ _ _ _ (by show w.heap.size ≠ w.heap.size + 1; omega), Below.heap_setCell _ _ _ _ (by show w.heap.size ≠ w.heap.size + 1; omega)]
    exact (HB2.out.block _ (by omega)).trans HR0.out
  · rw [Below.heap_setCell _ _ _ _ (by show w.heap.size + 1 + 1 ≠ w.heap.size + 1; omega), Below.heap_setCell _ _ _ _ (by show w.heap.size + 1 + 1 ≠ w.heap.size + 1; omega), Below.heap_setCell _ _ _ _ (by show w.heap.size + 1 + 1 ≠ w.heap.size + 1; omega)]
    exact (HB2.out.block _ (by omega)).trans HR2.out
  · exact (((HB.out.trans (HB2.out.mono (by omega))).setCell (p := ⟨w.heap.size + 1, 0, none⟩) (by show w.heap.size ≤ w.heap.size + 1; omega) _).setCell (p := ⟨w.heap.size + 1, 1, none⟩) (by show w.heap.size ≤ w.heap.size + 1; omega) _).setCell (p := ⟨w.heap.size + 1, 2, none⟩) (by show w.heap.size ≤ w.heap.size + 1; omega) _

set_option maxRecDepth 100000 in
set_option maxHeartbeats 2000000 in
theorem sof_5_ok (w : World) (N : Nat) (k : Nat) (ws : Value) (hN : N ≤ 256) (hk : k ≤ N) :
    Calls Tryz.prog 20 #[.agg #[.int .i64 5, .int .i64 (N : Int), .int .i64 (k : Int), ws]] w fun e w' => ∃ sa cap b, e = .returned (.tuple #[.agg #[.slice sa (N - k) cap, .func (.func 47) #[] #[], .func (.func 102) #[] #[.pointer (some ⟨b, 0, none⟩)]], .int .i64 0]) ∧ w'.ownsRow w.heap.size 48 1 (.slice sa (N - k) cap) (N - k) (u64s (zsN (upL (k + 1) (N - k)))) ∧
      w'.heap[b]? = some (.cells #[.func (.func 60) #[] #[.pointer (some ⟨w.heap.size, 0, none⟩), .pointer (some ⟨w.heap.size + 1 + 1, 0, none⟩)]] 95 (0, 0)) ∧ w'.heap[w.heap.size]? = some (.cells #[.int .i64 5, .int .i64 (N : Int), .int .i64 (k : Int), ws] 24 (0, 0)) ∧ w'.heap[w.heap.size + 1 + 1]? = some (.cells #[.int .i64 (k : Int)] 3 (0, 0)) ∧ Below w.heap.size w w' := by
  have hc : resChk (N : Int) (k : Int) = 0 := resChk_zero.2 (by omega)
  have HK := Lib.hid hk
  have HC := Lib.hid hc
  clear hc
  have u1 : IntKind.i64.wrap ((k : Int) + 1) = (k : Int) + 1 := by rw [IntKind.wrap_i64]; omega
  clear hk
  go_enter Tryz.func20, Tryz.ntmps20
  go_wp2_with fail
  refine (smany_any _ _ _).mono ?_
  rintro e w1 ⟨rfl, rfl⟩
  rw [HC.out]
  go_wp2_with fail
  have hm : k + 1 + (N - k) = N + 1 := by have := HK.out; omega
  refine (sup_any _ (k + 1) N (N - k) (by have := HK.out; omega) hN hm).mono ?_
  rintro e w1 ⟨sl, cl, rfl, ho, hb⟩
  clear hm
  have hr0 : w1.heap[w.heap.size]? = some (.cells #[.int .i64 5, .int .i64 (N : Int), .int .i64 (k : Int), ws] 24 (0, 0)) := (hb.block _ (by simp; omega)).trans (heap_up (heap_up (heap_at rfl)))
  have hr2 : w1.heap[w.heap.size + 1 + 1]? = some (.cells #[.int .i64 (k : Int)] 3 (0, 0)) := (hb.block _ (by simp)).trans (heap_at (by simp))
  have HO := Lib.hid (row_mono ho (B' := w.heap.size + 3) (by simp))
  have HB := Lib.hid (((((Below.refl w.heap.size w).alloc (Nat.le_refl _) (.cells #[.int .i64 5, .int .i64 (N : Int), .int .i64 (k : Int), ws] 24)).alloc (by simp) (.cells #[.slice none 0 0, .nilFunc, .nilFunc] 52)).alloc (by simp; omega) (.cells #[.int .i64 (k : Int)] 3)).trans (hb.mono (by simp; omega)))
  have hr1 : w1.heap[w.heap.size + 1]? = some (.cells #[.slice none 0 0, .nilFunc, .nilFunc] 52 (0, 0)) := (hb.block _ (by simp)).trans (heap_up (heap_at (by simp)))
  have hsz : w.heap.size + 3 ≤ w1.heap.size := by have := hb.size; simpa using this
  have HR1a := Lib.hid hr1; have HSZ := Lib.hid hsz
  have HR0 := Lib.hid hr0; have HR2 := Lib.hid hr2
  clear ho hb hr0 hr1 hr2 hsz
  go_wp2_with fail
  refine (srow_any _ _ _ _ _ _).mono ?_
  rintro e w2 ⟨rfl, hb1, hb2⟩
  have hr2 : w2.heap[w.heap.size + 1]? = some (.cells #[.slice none 0 0, .nilFunc, .nilFunc] 52 (0, 0)) := (hb2.block _ (by have := HSZ.out; omega)).trans HR1a.out
  have y0 : w2.cell? ⟨w.heap.size + 1, 0, none⟩ = some (.slice none 0 0) := cell_of hr2 0 rfl
  have y1 : w2.cell? ⟨w.heap.size + 1, 1, none⟩ = some .nilFunc := cell_of hr2 1 rfl
  have y2 : w2.cell? ⟨w.heap.size + 1, 2, none⟩ = some .nilFunc := cell_of hr2 2 rfl
  have yf : ∀ j, w2.frozen? ⟨w.heap.size + 1, j, none⟩ = false := fun j => frozen_of hr2 j
  have HR1 := Lib.hid hb1; have HB2 := Lib.hid hb2
  clear hr2
  clear hb1 hb2
  go_wp2_with fail
  have z := HSZ.out
  refine bodyPost_ret (v := .tuple #[.agg #[.slice sl (N - k) cl, .func (.func 47) #[] #[], .func (.func 102) #[] #[.pointer (some ⟨w1.heap.size, 0, none⟩)]], .int .i64 0]) (by simp [results, Tryz.results20, go_sem, *]) rfl ⟨sl, cl, w1.heap.size, rfl, ?_, ?_, ?_, ?_, ?_⟩
  · exact row_mono (row_setBelow (row_setBelow (row_setBelow (row_chg HO.out (Chg.of_below (S := fun _ => False) HB2.out) (fun _ _ h => h)) (p := ⟨w.heap.size + 1, 0, none⟩) (by show w.heap.size + 1 < w.heap.size + 3; omega)) (p := ⟨w.heap.size + 1, 1, none⟩) (by show w.heap.size + 1 < w.heap.size + 3; omega)) (p := ⟨w.heap.size + 1, 2, none⟩) (by show w.heap.size + 1 < w.heap.size + 3; omega)) (by omega)
  · rw [Below.heap_setCell _ _ _ _ (by show w1.heap.size ≠ w.heap.size + 1; omega), Below.heap_setCell _ _ _ _ (by show w1.heap.size ≠ w.heap.size + 1; omega), Below.heap_setCell _ _ _ _ (by show w1.heap.size ≠ w.heap.size + 1; omega)]
    exact HR1.out
  · rw [Below.heap_setCell _ _ _ _ (by show w.heap.size ≠ w.heap.size + 1; omega), Below.heap_setCell _ _ _ _ (by show w.heap.size ≠ w.heap.size + 1; omega), Below.heap_setCell _ _ _ _ (by show w.heap.size ≠ w.heap.size + 1; omega)]
    exact (HB2.out.block _ (by omega)).trans HR0.out
  · rw [Below.heap_setCell _ _ _ _ (by show w.heap.size + 1 + 1 ≠ w.heap.size + 1; omega), Below.heap_setCell _ _ _ _ (by show w.heap.size + 1 + 1 ≠ w.heap.size + 1; omega), Below.heap_setCell _ _ _ _ (by show w.heap.size + 1 + 1 ≠ w.heap.size + 1; omega)]
    exact (HB2.out.block _ (by omega)).trans HR2.out
  · exact (((HB.out.trans (HB2.out.mono (by omega))).setCell (p := ⟨w.heap.size + 1, 0, none⟩) (by show w.heap.size ≤ w.heap.size + 1; omega) _).setCell (p := ⟨w.heap.size + 1, 1, none⟩) (by show w.heap.size ≤ w.heap.size + 1; omega) _).setCell (p := ⟨w.heap.size + 1, 2, none⟩) (by show w.heap.size ≤ w.heap.size + 1; omega) _

end Go.Proofs.YtcoohepkmhpdkaaGreat

namespace Go.Proofs.YtcoohepkmhpdkaaGreat
open Go.RowKit
set_option linter.unusedVariables false
set_option linter.unusedSimpArgs false

/-- what is wrong with an ask -/
def askE (K N k : Int) (ws : List Nat) : Int :=
  if K = 1 ∨ K = 2 then (if ws.length ≠ 1 then 1 else if ws = [0] then 8 else 0)
  else if K = 3 then resChk N 0 else if K = 4 ∨ K = 5 then resChk N k else if K = 6 then aliE ws else 6
/-- the limits of an ask -/
def askL (K N k : Int) (ws : List Nat) : List Nat :=
  if askE K N k ws ≠ 0 then [] else if K = 1 ∨ K = 2 then ws else if K = 3 then dnL N.toNat (N.toNat - 1) else if K = 4 then dnL N.toNat k.toNat
  else if K = 5 then upL (k.toNat + 1) (N.toNat - k.toNat) else [ws.length, ws.sum]

theorem TaskShape.mk (a : Option Addr) (n c F1 F2 : Nat) (caps : Array Value) : TaskShape (.slice a n c) (.func (.func F1) #[] #[]) (.func (.func F2) #[] caps) := .inr ⟨a, n, c, F1, F2, caps, rfl, rfl, rfl⟩

/-- what of answers -/
def OfQ (w : World) (K N k : Int) (ws : List Nat) (e : Ending) (w' : World) : Prop :=
  ∃ sl f g, e = .returned (.tuple #[.agg #[sl, f, g], .int .i64 (askE K N k ws)]) ∧ TaskShape sl f g ∧
    w'.ownsRow w.heap.size 48 1 sl (askL K N k ws).length (u64s (zsN (askL K N k ws))) ∧ Below w.heap.size w w'

theorem OfQ.bad {w : World} {K N k : Int} {ws : List Nat} {e : Ending} {w' : World} (E : Int) (he : e = badTask E) (hE : askE K N k ws = E) (h0 : E ≠ 0) (hb : Below w.heap.size w w') : OfQ w K N k ws e w' := by
  have hL : askL K N k ws = [] := by unfold askL; rw [if_pos (by rw [hE]; exact h0)]
  refine ⟨_, _, _, ?_, .inl ⟨rfl, rfl, rfl⟩, ?_, hb⟩
  · rw [he, hE]; rfl
  · rw [hL]; exact World.ownsRow_nil _ _ _ _

theorem sof_any1 (w : World) (N k : Int) (sa : Option Addr) (n cap : Nat) (ws : List Nat) (h : Rd w 1 (.slice sa n cap) n (u64s (zsN ws))) :
    Calls Tryz.prog 20 #[.agg #[.int .i64 1, .int .i64 N, .int .i64 k, .slice sa n cap]] w (OfQ w 1 N k ws) := by
  have hln : ws.length = n := by have := h.len_u64; rw [zsN_len] at this; exact this.symm
  refine (sof_1 w N k sa n cap (fun sl f g E w' => E = askE 1 N k ws ∧ TaskShape sl f g ∧ w'.ownsRow (w.heap.size + 3) 48 1 sl (askL 1 N k ws).length (u64s (zsN (askL 1 N k ws)))) (fun sl f g E w2 p v hp hr => ⟨hr.1, hr.2.1, row_setBelow hr.2.2 hp⟩) ?_).mono ?_
  · intro w1 hb hs
    by_cases h1 : n = 1
    · subst h1
      obtain ⟨x, rfl⟩ : ∃ x, ws = [x] := List.length_eq_one_iff.1 hln
      by_cases h0 : x = 0
      · subst h0
        refine (ssingle_zero w1 1 N k sa cap _ _ (h.below hb)).mono ?_
        rintro e w' ⟨rfl, hb'⟩
        exact ⟨_, _, _, 8, rfl, .inl ⟨rfl, rfl, rfl⟩, ⟨by simp [askE], .inl ⟨rfl, rfl, rfl⟩, by simpa [askE, askL, zsN, u64s] using World.ownsRow_nil _ _ _ _⟩, hb'⟩
      · refine (ssingle_ok w1 1 N k sa cap x _ _ (h.below hb) (by omega)).mono ?_
        rintro e w' ⟨g, b1, b2, rfl, ho, -, -, -, -, hb'⟩
        exact ⟨_, _, _, 0, rfl, TaskShape.mk _ _ _ _ _ _, ⟨by simp [askE, h0], TaskShape.mk _ _ _ _ _ _, by have := row_mono ho (B' := w.heap.size + 3) (by omega); simpa [askE, askL, h0] using this⟩, hb'⟩
    · refine (ssingle_len w1 1 N k sa n cap _ _ h1).mono ?_
      rintro e w' ⟨rfl, hb'⟩
      have hl : ws.length ≠ 1 := by omega
      exact ⟨_, _, _, 1, rfl, .inl ⟨rfl, rfl, rfl⟩, ⟨by simp [askE, hl], .inl ⟨rfl, rfl, rfl⟩, by simpa [askE, askL, hl, zsN, u64s] using World.ownsRow_nil _ _ _ _⟩, hb'⟩
  · rintro e w' ⟨sl, f, g, E, rfl, ⟨rfl, sh, ho⟩, hb⟩
    exact ⟨sl, f, g, rfl, sh, row_mono ho (by omega), hb⟩

theorem sof_any2 (w : World) (N k : Int) (sa : Option Addr) (n cap : Nat) (ws : List Nat) (h : Rd w 1 (.slice sa n cap) n (u64s (zsN ws))) :
    Calls Tryz.prog 20 #[.agg #[.int .i64 2, .int .i64 N, .int .i64 k, .slice sa n cap]] w (OfQ w 2 N k ws) := by
  have hln : ws.length = n := by have := h.len_u64; rw [zsN_len] at this; exact this.symm
  refine (sof_2 w N k sa n cap (fun sl f g E w' => E = askE 2 N k ws ∧ TaskShape sl f g ∧ w'.ownsRow (w.heap.size + 3) 48 1 sl (askL 2 N k ws).length (u64s (zsN (askL 2 N k ws)))) (fun sl f g E w2 p v hp hr => ⟨hr.1, hr.2.1, row_setBelow hr.2.2 hp⟩) ?_).mono ?_
  · intro w1 hb hs
    by_cases h1 : n = 1
    · subst h1
      obtain ⟨x, rfl⟩ : ∃ x, ws = [x] := List.length_eq_one_iff.1 hln
      by_cases h0 : x = 0
      · subst h0
        refine (ssingle_zero w1 2 N k sa cap _ _ (h.below hb)).mono ?_
        rintro e w' ⟨rfl, hb'⟩
        exact ⟨_, _, _, 8, rfl, .inl ⟨rfl, rfl, rfl⟩, ⟨by simp [askE], .inl ⟨rfl, rfl, rfl⟩, by simpa [askE, askL, zsN, u64s] using World.ownsRow_nil _ _ _ _⟩, hb'⟩
      · refine (ssingle_ok w1 2 N k sa cap x _ _ (h.below hb) (by omega)).mono ?_
        rintro e w' ⟨g, b1, b2, rfl, ho, -, -, -, -, hb'⟩
        exact ⟨_, _, _, 0, rfl, TaskShape.mk _ _ _ _ _ _, ⟨by simp [askE, h0], TaskShape.mk _ _ _ _ _ _, by have := row_mono ho (B' := w.heap.size + 3) (by omega); simpa [askE, askL, h0] using this⟩, hb'⟩
    · refine (ssingle_len w1 2 N k sa n cap _ _ h1).mono ?_
      rintro e w' ⟨rfl, hb'⟩
      have hl : ws.length ≠ 1 := by omega
      exact ⟨_, _, _, 1, rfl, .inl ⟨rfl, rfl, rfl⟩, ⟨by simp [askE, hl], .inl ⟨rfl, rfl, rfl⟩, by simpa [askE, askL, hl, zsN, u64s] using World.ownsRow_nil _ _ _ _⟩, hb'⟩
  · rintro e w' ⟨sl, f, g, E, rfl, ⟨rfl, sh, ho⟩, hb⟩
    exact ⟨sl, f, g, rfl, sh, row_mono ho (by omega), hb⟩

theorem sof_any6 (w : World) (N k : Int) (sa : Option Addr) (n cap : Nat) (ws : List Nat) (h : Rd w 1 (.slice sa n cap) n (u64s (zsN ws))) (hw : W64 ws) (hn : n ≤ 17592186043904) :
    Calls Tryz.prog 20 #[.agg #[.int .i64 6, .int .i64 N, .int .i64 k, .slice sa n cap]] w (OfQ w 6 N k ws) := by
  have hln : ws.length = n := by have := h.len_u64; rw [zsN_len] at this; exact this.symm
  have hE : askE 6 N k ws = aliE ws := by simp [askE]
  refine (sof_6 w N k sa n cap (fun sl f g E w' => E = askE 6 N k ws ∧ TaskShape sl f g ∧ w'.ownsRow (w.heap.size + 3) 48 1 sl (askL 6 N k ws).length (u64s (zsN (askL 6 N k ws)))) (fun sl f g E w2 p v hp hr => ⟨hr.1, hr.2.1, row_setBelow hr.2.2 hp⟩) ?_).mono ?_
  · intro w1 hb hs
    by_cases h0 : aliE ws = 0
    · refine (sweigh_ok w1 6 N k sa n cap ws (h.below hb) hw h0).mono ?_
      rintro e w' ⟨g, b1, bt, bb, ba, rfl, ho, -, -, -, -, -, -, hb'⟩
      exact ⟨_, _, _, 0, rfl, TaskShape.mk _ _ _ _ _ _, ⟨by rw [hE, h0], TaskShape.mk _ _ _ _ _ _, by have := row_mono ho (B' := w.heap.size + 3) (by omega); simpa [askL, hE, h0, hln] using this⟩, hb'⟩
    · refine (sweigh_bad w1 6 N k sa n cap ws (h.below hb) hw hn h0).mono ?_
      rintro e w' ⟨rfl, hb'⟩
      exact ⟨_, _, _, aliE ws, rfl, .inl ⟨rfl, rfl, rfl⟩, ⟨hE.symm, .inl ⟨rfl, rfl, rfl⟩, by simpa [askL, hE, h0, zsN, u64s] using World.ownsRow_nil _ _ _ _⟩, hb'⟩
  · rintro e w' ⟨sl, f, g, E, rfl, ⟨rfl, sh, ho⟩, hb⟩
    exact ⟨sl, f, g, rfl, sh, row_mono ho (by omega), hb⟩

theorem sof_any (w : World) (K N k : Int) (sa : Option Addr) (n cap : Nat) (ws : List Nat) (h : Rd w 1 (.slice sa n cap) n (u64s (zsN ws))) (hw : W64 ws) (hn : n ≤ 17592186043904) :
    Calls Tryz.prog 20 #[.agg #[.int .i64 K, .int .i64 N, .int .i64 k, .slice sa n cap]] w (OfQ w K N k ws) := by
  by_cases h1 : K = 1
  · subst h1; exact sof_any1 w N k sa n cap ws h
  by_cases h2 : K = 2
  · subst h2; exact sof_any2 w N k sa n cap ws h
  by_cases h6 : K = 6
  · subst h6; exact sof_any6 w N k sa n cap ws h hw hn
  by_cases h3 : K = 3
  · subst h3
    have hE : askE 3 N k ws = resChk N 0 := by simp [askE]
    by_cases h0 : resChk N 0 = 0
    · obtain ⟨a, b, c, d⟩ := resChk_zero.1 h0
      obtain ⟨M, rfl⟩ : ∃ M : Nat, N = (M : Int) := ⟨N.toNat, by omega⟩
      refine (sof_3_ok w M k _ (by omega)).mono ?_
      rintro e w' ⟨sl, cl, b, rfl, ho, -, -, -, hb⟩
      exact ⟨_, _, _, by rw [hE, h0], TaskShape.mk _ _ _ _ _ _, by simpa [askL, hE, h0, dnL_len] using ho, hb⟩
    · exact (sof_3_bad w N k _ h0).mono fun e w' q => OfQ.bad _ q.1 hE h0 q.2
  by_cases h4 : K = 4
  · subst h4
    have hE : askE 4 N k ws = resChk N k := by simp [askE]
    by_cases h0 : resChk N k = 0
    · obtain ⟨a, b, c, d⟩ := resChk_zero.1 h0
      obtain ⟨M, rfl⟩ : ∃ M : Nat, N = (M : Int) := ⟨N.toNat, by omega⟩
      obtain ⟨m, rfl⟩ : ∃ m : Nat, k = (m : Int) := ⟨k.toNat, by omega⟩
      refine (sof_4_ok w M m _ (by omega) (by omega)).mono ?_
      rintro e w' ⟨sl, cl, b, rfl, ho, -, -, -, hb⟩
      exact ⟨_, _, _, by rw [hE, h0], TaskShape.mk _ _ _ _ _ _, by simpa [askL, hE, h0, dnL_len] using ho, hb⟩
    · exact (sof_4_bad w N k _ h0).mono fun e w' q => OfQ.bad _ q.1 hE h0 q.2
  by_cases h5 : K = 5
  · subst h5
    have hE : askE 5 N k ws = resChk N k := by simp [askE]
    by_cases h0 : resChk N k = 0
    · obtain ⟨a, b, c, d⟩ := resChk_zero.1 h0
      obtain ⟨M, rfl⟩ : ∃ M : Nat, N = (M : Int) := ⟨N.toNat, by omega⟩
      obtain ⟨m, rfl⟩ : ∃ m : Nat, k = (m : Int) := ⟨k.toNat, by omega⟩
      refine (sof_5_ok w M m _ (by omega) (by omega)).mono ?_
      rintro e w' ⟨sl, cl, b, rfl, ho, -, -, -, hb⟩
      exact ⟨_, _, _, by rw [hE, h0], TaskShape.mk _ _ _ _ _ _, by simpa [askL, hE, h0, upL_len] using ho, hb⟩
    · exact (sof_5_bad w N k _ h0).mono fun e w' q => OfQ.bad _ q.1 hE h0 q.2
  exact (sof_kind w K N k _ h1 h2 h3 h4 h5 h6).mono fun e w' q => OfQ.bad 6 q.1 (by simp [askE, *]) (by decide) q.2

end Go.Proofs.YtcoohepkmhpdkaaGreat

namespace Go.Proofs.YtcoohepkmhpdkaaGreat
open Go.RowKit
set_option linter.unusedVariables false
set_option linter.unusedSimpArgs false

set_option maxRecDepth 100000 in
set_option maxHeartbeats 2000000 in
theorem slimits_any (w : World) (K N k : Int) (sa : Option Addr) (n cap : Nat) (ws : List Nat) (h : Rd w 1 (.slice sa n cap) n (u64s (zsN ws))) (hw : W64 ws) (hn : n ≤ 17592186043904) :
    Calls Tryz.prog 45 #[.agg #[.int .i64 K, .int .i64 N, .int .i64 k, .slice sa n cap]] w fun e w' => ∃ sl, e = .returned sl ∧ w'.ownsRow w.heap.size 48 1 sl (askL K N k ws).length (u64s (zsN (askL K N k ws))) ∧ Below w.heap.size w w' := by
  have C := Lib.hid (fun w1 (hb : Below w.heap.size w w1) => sof_any w1 K N k sa n cap ws (h.below hb) hw hn)
  clear h hw hn
  go_enter Tryz.func45, Tryz.ntmps45
  go_wp2_with fail
  refine (C.out _ (by first | exact ((Below.refl _ _).alloc (Nat.le_refl _) _) | exact ((Below.refl _ _).alloc (Nat.le_refl _) _).alloc (by simp) _)).mono ?_
  rintro e w1 ⟨sl, f, g, rfl, sh, ho, hb⟩
  have HO := Lib.hid (row_mono ho (B' := w.heap.size) (by simp))
  have HB := Lib.hid (((Below.refl w.heap.size w).alloc (Nat.le_refl _) (.cells #[.int .i64 K, .int .i64 N, .int .i64 k, .slice sa n cap] 24)).trans (hb.mono (by simp)))
  clear ho hb
  rcases sh with ⟨rfl, rfl, rfl⟩ | ⟨a1, a2, a3, a4, a5, a6, rfl, rfl, rfl⟩
  · go_wp2_with fail
    refine bodyPost_ret (v := .slice none 0 0) (by simp [results, Tryz.results45, go_sem]) rfl ⟨_, rfl, HO.out.alloc _, HB.out.alloc HB.out.size _⟩
  · go_wp2_with fail
    refine bodyPost_ret (v := .slice a1 a2 a3) (by simp [results, Tryz.results45, go_sem]) rfl ⟨_, rfl, HO.out.alloc _, HB.out.alloc HB.out.size _⟩

set_option maxRecDepth 100000 in
set_option maxHeartbeats 2000000 in
theorem sdraws_any (w : World) (K N k : Int) (sa : Option Addr) (n cap : Nat) (ws : List Nat) (h : Rd w 1 (.slice sa n cap) n (u64s (zsN ws))) (hw : W64 ws) (hn : n ≤ 17592186043904) :
    Calls Tryz.prog 19 #[.agg #[.int .i64 K, .int .i64 N, .int .i64 k, .slice sa n cap]] w fun e w' => e = .returned (.int .i64 ((askL K N k ws).length : Int)) ∧ Below w.heap.size w w' := by
  have C := Lib.hid (fun w1 (hb : Below w.heap.size w w1) => slimits_any w1 K N k sa n cap ws (h.below hb) hw hn)
  clear h hw hn
  go_enter Tryz.func19, Tryz.ntmps19
  go_wp2_with fail
  refine (C.out _ (by first | exact Below.refl _ _ | exact ((Below.refl _ _).alloc (Nat.le_refl _) _))).mono ?_
  rintro e w1 ⟨sl, rfl, ho, hb⟩
  have hb0 : Below w.heap.size w w1 := by
    first
    | exact hb
    | exact (((Below.refl w.heap.size w).alloc (Nat.le_refl _) (.cells #[.int .i64 K, .int .i64 N, .int .i64 k, .slice sa n cap] 24)).trans (hb.mono (by simp)))
  obtain ⟨a1, a3, rfl⟩ : ∃ a c, sl = .slice a (askL K N k ws).length c := by
    obtain ⟨-, -, a, c, hv, -⟩ := rd_of_row ho
    exact ⟨a, c, hv⟩
  have HB := Lib.hid hb0
  clear ho hb hb0
  go_wp2_with fail
  refine bodyPost_ret (v := .int .i64 ((askL K N k ws).length : Int)) (by simp [results, Tryz.results19, go_sem]) rfl ⟨rfl, HB.out⟩

end Go.Proofs.YtcoohepkmhpdkaaGreat

namespace Go.Proofs.YtcoohepkmhpdkaaGreat
open Go.RowKit
set_option linter.unusedVariables false
set_option linter.unusedSimpArgs false

set_option maxRecDepth 100000 in
set_option maxHeartbeats 2000000 in
theorem chk46_6 (w : World) (N k : Int) (sa : Option Addr) (n cap : Nat) (ws : List Nat) (h : Rd w 1 (.slice sa n cap) n (u64s (zsN ws))) (hw : W64 ws) :
    Calls Tryz.prog 24 #[.int .i64 6, .int .i64 N, .int .i64 k, .slice sa n cap] w fun e w' => e = .returned (.int .i64 (aliE ws)) ∧ w = w' := by
  have C := Lib.hid (chk43_any w (.slice sa n cap) n ws h hw)
  clear h hw
  go_enter Tryz.func24, Tryz.ntmps24
  go_wp2_with fail
  refine C.out.mono ?_
  rintro e w1 ⟨rfl, rfl⟩
  go_wp2_with fail
  go_ret
  exact ⟨rfl, rfl⟩

set_option maxRecDepth 100000 in
set_option maxHeartbeats 2000000 in
theorem chk46_3 (w : World) (N k : Int) (v : Value) :
    Calls Tryz.prog 24 #[.int .i64 3, .int .i64 N, .int .i64 k, v] w fun e w' => e = .returned (.int .i64 (resChk N 0)) ∧ w = w' := by
  go_enter Tryz.func24, Tryz.ntmps24
  go_wp2_with fail
  refine (refchk_any _ _ _).mono ?_
  rintro e w1 ⟨rfl, rfl⟩
  go_wp2_with fail
  go_ret
  exact ⟨rfl, rfl⟩

set_option maxRecDepth 100000 in
set_option maxHeartbeats 2000000 in
theorem chk46_45 (w : World) (K N k : Int) (v : Value) (hK : K = 4 ∨ K = 5) :
    Calls Tryz.prog 24 #[.int .i64 K, .int .i64 N, .int .i64 k, v] w fun e w' => e = .returned (.int .i64 (resChk N k)) ∧ w = w' := by
  rcases hK with rfl | rfl
  · go_enter Tryz.func24, Tryz.ntmps24
    go_wp2_with fail
    refine (refchk_any _ _ _).mono ?_
    rintro e w1 ⟨rfl, rfl⟩
    go_wp2_with fail
    go_ret
    exact ⟨rfl, rfl⟩
  · go_enter Tryz.func24, Tryz.ntmps24
    go_wp2_with fail
    refine (refchk_any _ _ _).mono ?_
    rintro e w1 ⟨rfl, rfl⟩
    go_wp2_with fail
    go_ret
    exact ⟨rfl, rfl⟩

set_option maxRecDepth 100000 in
set_option maxHeartbeats 2000000 in
theorem chk46_else (w : World) (K N k : Int) (v : Value) (h1 : K ≠ 1) (h2 : K ≠ 2) (h3 : K ≠ 3) (h4 : K ≠ 4) (h5 : K ≠ 5) (h6 : K ≠ 6) :
    Calls Tryz.prog 24 #[.int .i64 K, .int .i64 N, .int .i64 k, v] w fun e w' => e = .returned (.int .i64 6) ∧ w = w' := by
  have q1 : (K == 1) = false := by simpa using h1
  have q2 : (K == 2) = false := by simpa using h2
  have q3 : (K == 3) = false := by simpa using h3
  have q4 : (K == 4) = false := by simpa using h4
  have q5 : (K == 5) = false := by simpa using h5
  have q6 : (K == 6) = false := by simpa using h6
  clear h1 h2 h3 h4 h5 h6
  go_enter Tryz.func24, Tryz.ntmps24
  go_wp2
  go_ret
  exact ⟨rfl, rfl⟩

set_option maxRecDepth 100000 in
set_option maxHeartbeats 2000000 in
theorem chk46_1 (w : World) (N k : Int) (sa : Option Addr) (n cap : Nat) (ws : List Nat) (h : Rd w 1 (.slice sa n cap) n (u64s (zsN ws))) :
    Calls Tryz.prog 24 #[.int .i64 1, .int .i64 N, .int .i64 k, .slice sa n cap] w fun e w' => e = .returned (.int .i64 (askE 1 N k ws)) ∧ w = w' := by
  have hln : ws.length = n := by have := h.len_u64; rw [zsN_len] at this; exact this.symm
  by_cases h1 : n = 1
  · subst h1
    obtain ⟨x, rfl⟩ : ∃ x, ws = [x] := List.length_eq_one_iff.1 hln
    obtain ⟨b, off, rfl, hc⟩ := h.at (by omega)
    have x0 : w.cell? ⟨b, off, none⟩ = some (.int .u64 (x : Int)) := hc 0 _ rfl
    have lb := World.block_lt_of_cell? w _ x0
    clear hc h hln
    by_cases h0 : x = 0
    · subst h0
      have e1 : askE 1 N k [0] = 8 := by simp [askE]
      rw [e1]; clear e1
      have x0 : w.cell? ⟨b, off, none⟩ = some (.int .u64 0) := x0
      go_enter Tryz.func24, Tryz.ntmps24
      go_wp2
      go_ret
      exact ⟨rfl, rfl⟩
    · have e1 : askE 1 N k [x] = 0 := by simp [askE, h0]
      rw [e1]; clear e1
      have q : ((x : Int) == 0) = false := by simp; omega
      clear h0
      go_enter Tryz.func24, Tryz.ntmps24
      go_wp2
      go_ret
      exact ⟨rfl, rfl⟩
  · have hl : ws.length ≠ 1 := by omega
    have e1 : askE 1 N k ws = 1 := by simp [askE, hl]
    rw [e1]; clear e1 h hln hl
    have q : ((n : Int) != 1) = true := by simp; omega
    go_enter Tryz.func24, Tryz.ntmps24
    go_wp2
    go_ret
    exact ⟨rfl, rfl⟩

set_option maxRecDepth 100000 in
set_option maxHeartbeats 2000000 in
theorem chk46_2 (w : World) (N k : Int) (sa : Option Addr) (n cap : Nat) (ws : List Nat) (h : Rd w 1 (.slice sa n cap) n (u64s (zsN ws))) :
    Calls Tryz.prog 24 #[.int .i64 2, .int .i64 N, .int .i64 k, .slice sa n cap] w fun e w' => e = .returned (.int .i64 (askE 2 N k ws)) ∧ w = w' := by
  have hln : ws.length = n := by have := h.len_u64; rw [zsN_len] at this; exact this.symm
  by_cases h1 : n = 1
  · subst h1
    obtain ⟨x, rfl⟩ : ∃ x, ws = [x] := List.length_eq_one_iff.1 hln
    obtain ⟨b, off, rfl, hc⟩ := h.at (by omega)
    have x0 : w.cell? ⟨b, off, none⟩ = some (.int .u64 (x : Int)) := hc 0 _ rfl
    have lb := World.block_lt_of_cell? w _ x0
    clear hc h hln
    by_cases h0 : x = 0
    · subst h0
      have e1 : askE 2 N k [0] = 8 := by simp [askE]
      rw [e1]; clear e1
      have x0 : w.cell? ⟨b, off, none⟩ = some (.int .u64 0) := x0
      go_enter Tryz.func24, Tryz.ntmps24
      go_wp2
      go_ret
      exact ⟨rfl, rfl⟩
    · have e1 : askE 2 N k [x] = 0 := by simp [askE, h0]
      rw [e1]; clear e1
      have q : ((x : Int) == 0) = false := by simp; omega
      clear h0
      go_enter Tryz.func24, Tryz.ntmps24
      go_wp2
      go_ret
      exact ⟨rfl, rfl⟩
  · have hl : ws.length ≠ 1 := by omega
    have e1 : askE 2 N k ws = 1 := by simp [askE, hl]
    rw [e1]; clear e1 h hln hl
    have q : ((n : Int) != 1) = true := by simp; omega
    go_enter Tryz.func24, Tryz.ntmps24
    go_wp2
    go_ret
    exact ⟨rfl, rfl⟩

theorem chk46_any (w : World) (K N k : Int) (sa : Option Addr) (n cap : Nat) (ws : List Nat) (h : Rd w 1 (.slice sa n cap) n (u64s (zsN ws))) (hw : W64 ws) :
    Calls Tryz.prog 24 #[.int .i64 K, .int .i64 N, .int .i64 k, .slice sa n cap] w fun e w' => e = .returned (.int .i64 (askE K N k ws)) ∧ w = w' := by
  by_cases h1 : K = 1
  · subst h1; exact chk46_1 w N k sa n cap ws h
  by_cases h2 : K = 2
  · subst h2; exact chk46_2 w N k sa n cap ws h
  by_cases h3 : K = 3
  · subst h3; have e1 : askE 3 N k ws = resChk N 0 := by simp [askE]
    rw [e1]; exact chk46_3 w N k _
  by_cases h45 : K = 4 ∨ K = 5
  · have e1 : askE K N k ws = resChk N k := by simp [askE, *]
    rw [e1]; exact chk46_45 w K N k _ h45
  by_cases h6 : K = 6
  · subst h6; have e1 : askE 6 N k ws = aliE ws := by simp [askE]
    rw [e1]; exact chk46_6 w N k sa n cap ws h hw
  have e1 : askE K N k ws = 6 := by simp [askE, *]
  rw [e1]; exact chk46_else w K N k _ h1 h2 h3 (fun h => h45 (.inl h)) (fun h => h45 (.inr h)) h6

end Go.Proofs.YtcoohepkmhpdkaaGreat
