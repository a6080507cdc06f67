/-
  What the sampler's tasks do with a tape: the closures of sampler.
  The sampler's of, with what its task does; Do.
  sampler.Do: what any tape tells of any ask.
-/
import Derived.Test.YtcoohepkmhpdkaaGreatSmp7
import Derived.Test.YtcoohepkmhpdkaaGreatMTake
import Derived.Test.YtcoohepkmhpdkaaGreatATake
import Derived.Test.YtcoohepkmhpdkaaGreatHTake
import Derived.Test.YtcoohepkmhpdkaaGreatRvTake
import Derived.Laws.EntriesVeiled
namespace Go.Proofs.YtcoohepkmhpdkaaGreat
open Go.RowKit
set_option linter.unusedVariables false
set_option linter.unusedSimpArgs false

/-- a number as a word -/
def wrapU (x : Int) : Int := IntKind.u64.wrap x

/-- what is told of a list out of a list: numbers, and how many words came -/
def RowQ (R : Option (List Int × Nat)) (W : World) (B b : Nat) (wv tv : Value) (l : List Nat) (e : Ending) (w' : World) : Prop :=
  TkE R (fun r => (∃ sp m cp sd nd cd, e = .returned (.tuple #[.slice sp m cp, .slice sd nd cd, .int .i64 0]) ∧ Rd w' 1 (.slice sp m cp) m (i64s r.1)) ∧ TapeTo W w' B b wv tv (zsN l) r.2 W.heap.size)
    (e = .returned (.tuple #[.slice none 0 0, .slice none 0 0, .int .i64 7]) ∧ TapeTo W w' B b wv tv (zsN l) l.length W.heap.size)
/-- what is told of a task -/
def DoQ (R : Option (List Int × Nat)) (W : World) (B b : Nat) (wv tv : Value) (l : List Nat) (e : Ending) (w' : World) : Prop :=
  TkE R (fun r => (∃ sp m cp, e = .returned (.tuple #[.slice sp m cp, .int .i64 0]) ∧ Rd w' 1 (.slice sp m cp) m (u64s r.1)) ∧ TapeTo W w' B b wv tv (zsN l) r.2 W.heap.size)
    (e = .returned (.tuple #[.slice none 0 0, .int .i64 7]) ∧ TapeTo W w' B b wv tv (zsN l) l.length W.heap.size)

theorem TapeTo.below {W w1 w2 : World} {B b : Nat} {wv tv : Value} {l : List Int} {k S : Nat} (h : TapeTo W w1 B b wv tv l k S) (hb : Below w1.heap.size w1 w2) : TapeTo W w2 B b wv tv l k S := by
  obtain ⟨⟨tv4, h6, h7⟩, h8⟩ := h
  exact ⟨⟨tv4, h6.below hb, h7⟩, h8.trans (Chg.of_below hb)⟩

set_option maxRecDepth 100000 in
set_option maxHeartbeats 2000000 in
theorem swords_any (w : World) (sa : Option Addr) (n cap : Nat) (xs : List Int) (h : Rd w 1 (.slice sa n cap) n (i64s xs)) (hn : n ≤ 100000) :
    Calls Tryz.prog 103 #[.slice sa n cap] w fun e w' => ∃ so co, e = .returned (.slice so n co) ∧ w'.ownsRow w.heap.size 48 1 (.slice so n co) n (u64s (xs.map wrapU)) ∧ Below w.heap.size w w' ∧ (n = 0 → e = .returned (.slice none 0 0)) := by
  obtain rfl := h.len_i64
  have HR := Lib.hid h
  clear h
  go_enter Tryz.func103, Tryz.ntmps103
  go_wp2
  go_loopw [3, 8] (fun s3 i wr => ∃ (k : Nat) (so : Option Addr) (co : Nat), k ≤ xs.length ∧ i = .int .i64 (k : Int) ∧ s3 = .slice so k co ∧ Hid (wr.ownsRow w.heap.size 48 1 (.slice so k co) k (u64s ((xs.take k).map wrapU))) ∧ Hid (Below w.heap.size w wr) ∧ Hid (k = 0 → so = none ∧ co = 0)) (fun _ i _ => xs.length - (intOf i).toNat)
  case atStart => exact ⟨0, none, 0, Nat.zero_le _, rfl, rfl, World.ownsRow_nil _ _ _ _, Below.refl _ _, Lib.hid fun _ => ⟨rfl, rfl⟩⟩
  case round =>
    obtain ⟨k, so, co, hk, rfl, rfl, HO, HB, HZ⟩ := hrel
    by_cases hlt : k < xs.length
    · obtain ⟨b0, o0, rfl, hc0⟩ := (HR.out.below HB.out).at (by omega)
      have x0 := hc0 k _ (i64s_at xs k hlt)
      have hs : (xs.take (k + 1)).map wrapU = (xs.take k).map wrapU ++ [wrapU (xs.getD k 0)] := by
        rw [List.take_succ_eq_append_getElem hlt, List.map_append]
        simp [List.getD, List.getElem?_eq_getElem hlt]
      have hy : wrapU (xs.getD k 0) = IntKind.u64.wrap (xs.getD k 0) := rfl
      generalize xs.getD k 0 = x at *
      obtain ⟨y, hyy⟩ : ∃ y, y = wrapU x := ⟨_, rfl⟩
      rw [← hyy] at hs hy
      have e1 : IntKind.u64.wrap x = y := hy.symm
      have HS := Lib.hid hs
      have h0 := HO.out
      generalize (xs.take k).map wrapU = acc at *
      have H0 := Lib.hid h0
      clear hs hy hyy hc0 h0
      go_wp2_with (at_builtin; refine app_u64 _ rfl _ _ rfl w.heap.size _ _ _ rfl H0.out _ _ rfl ?qg ?qn ?qb ?_)
      case qg => rfl
      case qn => omega
      case qb => exact HB.out.size
      intro v' w1 hown hchg hfresh
      obtain ⟨so', co', rfl⟩ := (rd_of_row hown).form
      rw [← u64s_snoc, ← HS.out] at hown
      have HO1 := Lib.hid hown; have HC1 := Lib.hid hchg
      clear hown hchg hfresh
      go_wp2_with fail
      go_roundw
      case rel => exact ⟨k + 1, so', co', by omega, by go_num, rfl, HO1, HB.out.trans (HC1.out.below HB.out.size fun i hi => (H0.out.lt i hi).1), Lib.hid fun h => by omega⟩
      case measure => simp [intOf]; omega
    · obtain rfl : k = xs.length := by omega
      have hO := HO.out
      rw [List.take_length] at hO
      have HO' := Lib.hid hO
      clear hO
      go_wp2_with fail
      go_ret
      refine ⟨so, co, rfl, HO'.out, HB.out, fun h => ?_⟩
      obtain ⟨rfl, rfl⟩ := HZ.out h
      rw [h]
      rfl

set_option maxRecDepth 100000 in
set_option maxHeartbeats 4000000 in
theorem srow1_any (W : World) (B b b1 F : Nat) (caps : Array Value) (wv tv : Value) (l : List Nat) (R : Option (List Int × Nat)) (hF : ∀ args w, (callFunc F args).run Tryz.prog w = .ok (.enter F args) w)
    (hb : W.heap[b1]? = some (.cells #[.func (.func F) #[] caps] 95 (0, 0))) (hR : ∀ r, R = some r → r.1.length ≤ 100000)
    (C : Calls Tryz.prog F (#[.pointer (some ⟨b, 0, none⟩)] ++ caps) W (RowQ R W B b wv tv l)) :
    Calls Tryz.prog 102 #[.pointer (some ⟨b, 0, none⟩), .pointer (some ⟨b1, 0, none⟩)] W (DoQ (R.map fun r => (r.1.map wrapU, r.2)) W B b wv tv l) := by
  have c0 : W.cell? ⟨b1, 0, none⟩ = some (.func (.func F) #[] caps) := cell_of hb 0 rfl
  have HC := Lib.hid C; have HRR := Lib.hid hR
  clear hb C hR
  go_enter Tryz.func102, Tryz.ntmps102
  go_wp2_with fail
  cases R with
  | none =>
    refine HC.out.mono ?_
    rintro e w1 ⟨rfl, ht⟩
    have HT := Lib.hid ht
    clear ht
    have C2 := Lib.hid (swords_any w1 none 0 0 [] (Rd.nil _ _) (by omega))
    go_wp2_with fail
    refine C2.out.mono ?_
    rintro e w2 ⟨so, co, -, -, hb2, he⟩
    obtain rfl := he trivial
    have HB2 := Lib.hid hb2
    clear hb2 he
    go_wp2_with fail
    go_ret2
    exact ⟨rfl, HT.out.below HB2.out⟩
  | some r =>
    refine HC.out.mono ?_
    rintro e w1 ⟨⟨sp, m, cp, sd, nd, cd, rfl, hr⟩, ht⟩
    have hlen := hr.len_i64
    have C2 := Lib.hid (swords_any w1 sp m cp r.1 hr (by rw [hlen]; exact HRR.out r rfl))
    have HT := Lib.hid ht
    clear ht hr hlen
    go_wp2_with fail
    refine C2.out.mono ?_
    rintro e w2 ⟨so, co, rfl, ho, hb2, -⟩
    have HB2 := Lib.hid hb2; have HO := Lib.hid ho
    clear hb2 ho
    go_wp2_with fail
    go_ret2
    exact ⟨⟨so, m, co, rfl, rd_of_row HO.out⟩, HT.out.below HB2.out⟩

/-- what is told of one draw -/
def DrwQ (R : Option Drw) (W : World) (B b : Nat) (wv tv : Value) (l : List Nat) (e : Ending) (w' : World) : Prop :=
  TkE R (fun d => e = .returned (.tuple #[.agg #[.int .u64 (d.1 : Int), .int .u64 (d.2.1 : Int), .int .i64 (d.2.2 : Int)], .int .i64 0]) ∧ TapeTo W w' B b wv tv (zsN l) d.2.2 W.heap.size)
    (e = .returned (.tuple #[.agg #[.int .u64 0, .int .u64 0, .int .i64 0], .int .i64 7]) ∧ TapeTo W w' B b wv tv (zsN l) l.length W.heap.size)

set_option maxRecDepth 100000 in
set_option maxHeartbeats 4000000 in
theorem ssing1_any (W : World) (B b b1 b2 F x : Nat) (wv tv : Value) (l : List Nat) (R : Option Drw) (hF : ∀ args w, (callFunc F args).run Tryz.prog w = .ok (.enter F args) w)
    (hb1 : W.heap[b1]? = some (.cells #[.func (.func F) #[] #[]] 92 (0, 0))) (hb2 : W.heap[b2]? = some (.cells #[.int .u64 (x : Int)] 48 (0, 0)))
    (C : Calls Tryz.prog F #[.pointer (some ⟨b, 0, none⟩), .int .u64 (x : Int)] W (DrwQ R W B b wv tv l)) :
    Calls Tryz.prog 92 #[.pointer (some ⟨b, 0, none⟩), .pointer (some ⟨b1, 0, none⟩), .pointer (some ⟨b2, 0, none⟩)] W (DoQ (R.map fun d => ([(d.1 : Int)], d.2.2)) W B b wv tv l) := by
  have c0 : W.cell? ⟨b1, 0, none⟩ = some (.func (.func F) #[] #[]) := cell_of hb1 0 rfl
  have c1 : W.cell? ⟨b2, 0, none⟩ = some (.int .u64 (x : Int)) := cell_of hb2 0 rfl
  have HC := Lib.hid C
  clear hb1 hb2 C
  go_enter Tryz.func92, Tryz.ntmps92
  go_wp2_with fail
  cases R with
  | none =>
    refine HC.out.mono ?_
    rintro e w1 ⟨rfl, ht⟩
    have HT := Lib.hid ht
    clear ht
    go_wp2_with fail
    go_ret2
    exact ⟨rfl, HT.out.below ((Below.refl _ _).alloc (Nat.le_refl _) _)⟩
  | some d =>
    obtain ⟨d1, d2, d3⟩ := d
    refine HC.out.mono ?_
    rintro e w1 ⟨rfl, ht⟩
    have HT := Lib.hid ht
    clear ht
    go_wp2_with fail
    go_ret2
    refine ⟨⟨_, 1, 1, rfl, ?_⟩, HT.out.below (((Below.refl _ _).alloc (Nat.le_refl _) _).alloc (by simp) _)⟩
    exact rd_new _ #[.int .u64 (d1 : Int)] _ 1 1 rfl (by decide) _ 1 (by simp) (Nat.le_refl _)


set_option maxRecDepth 100000 in
set_option maxHeartbeats 4000000 in
theorem sof1_any (W : World) (B b b1 n : Nat) (wv tv : Value) (l : List Nat) (K k ws : Value) (ht : TapeAt W B b wv tv (zsN l) 0) (hl : l.length < 50000) (hw : W64 l) (hn : n ≤ 256)
    (hb : W.heap[b1]? = some (.cells #[K, .int .i64 (n : Int), k, ws] 24 (0, 0))) :
    Calls Tryz.prog 55 #[.pointer (some ⟨b, 0, none⟩), .pointer (some ⟨b1, 0, none⟩)] W (RowQ ((rowN l (limH n)).map fun r => (permL (choD n r.1), r.2)) W B b wv tv l) := by
  have c0 : W.cell? ⟨b1, 1, none⟩ = some (.int .i64 (n : Int)) := cell_of hb 1 rfl
  have C := Lib.hid (htake_any W B b wv tv l 0 n ht hl hw hn)
  change Hid (Calls _ _ _ _ fun e w' => TkE (rowN l (limH n)) _ _) at C
  clear ht hl hw hn hb
  generalize rowN l (limH n) = R at *
  go_enter Tryz.func55, Tryz.ntmps55
  go_wp2_with fail
  cases R with
  | none =>
    refine C.out.mono ?_
    rintro e w1 ⟨rfl, ht⟩
    have HT := Lib.hid ht
    clear ht
    go_wp2_with fail
    go_ret3
    exact ⟨rfl, HT.out⟩
  | some r =>
    refine C.out.mono ?_
    rintro e w1 ⟨⟨sp, cp, sd, cd, rfl, ho, -⟩, ht⟩
    have HT := Lib.hid ht; have HO := Lib.hid (rd_of_row ho)
    clear ht ho
    go_wp2_with fail
    go_ret3
    exact ⟨⟨sp, n, cp, sd, _, cd, rfl, HO.out⟩, HT.out⟩

set_option maxRecDepth 100000 in
set_option maxHeartbeats 4000000 in
theorem sof2_any (W : World) (B b b1 b2 n m : Nat) (wv tv : Value) (l : List Nat) (K k ws : Value) (ht : TapeAt W B b wv tv (zsN l) 0) (hl : l.length < 50000) (hw : W64 l) (hm : m ≤ n) (hn : n ≤ 256)
    (hb : W.heap[b1]? = some (.cells #[K, .int .i64 (n : Int), k, ws] 24 (0, 0))) (hb2 : W.heap[b2]? = some (.cells #[.int .i64 (m : Int)] 3 (0, 0))) :
    Calls Tryz.prog 57 #[.pointer (some ⟨b, 0, none⟩), .pointer (some ⟨b1, 0, none⟩), .pointer (some ⟨b2, 0, none⟩)] W (RowQ ((rowN l (limS n m)).map fun r => (pickL n (numsI r.1), r.2)) W B b wv tv l) := by
  have c0 : W.cell? ⟨b1, 1, none⟩ = some (.int .i64 (n : Int)) := cell_of hb 1 rfl
  have c1 : W.cell? ⟨b2, 0, none⟩ = some (.int .i64 (m : Int)) := cell_of hb2 0 rfl
  have C := Lib.hid (stake_any W B b wv tv l 0 n m ht hl hw hm hn)
  change Hid (Calls _ _ _ _ fun e w' => TkE (rowN l (limS n m)) _ _) at C
  clear ht hl hw hm hn hb hb2
  generalize rowN l (limS n m) = R at *
  go_enter Tryz.func57, Tryz.ntmps57
  go_wp2_with fail
  cases R with
  | none =>
    refine C.out.mono ?_
    rintro e w1 ⟨rfl, ht⟩
    have HT := Lib.hid ht
    clear ht
    go_wp2_with fail
    go_ret3
    exact ⟨rfl, HT.out⟩
  | some r =>
    refine C.out.mono ?_
    rintro e w1 ⟨⟨sp, cp, sd, cd, rfl, ho, -⟩, ht⟩
    have HT := Lib.hid ht; have HO := Lib.hid ho
    clear ht ho
    go_wp2_with fail
    go_ret3
    exact ⟨⟨sp, m, cp, sd, _, cd, rfl, HO.out⟩, HT.out⟩

set_option maxRecDepth 100000 in
set_option maxHeartbeats 4000000 in
theorem sof3_any (W : World) (B b b1 b2 n m : Nat) (wv tv : Value) (l : List Nat) (K k ws : Value) (ht : TapeAt W B b wv tv (zsN l) 0) (hl : l.length < 50000) (hw : W64 l) (hm : m ≤ n) (hn : n ≤ 256)
    (hb : W.heap[b1]? = some (.cells #[K, .int .i64 (n : Int), k, ws] 24 (0, 0))) (hb2 : W.heap[b2]? = some (.cells #[.int .i64 (m : Int)] 3 (0, 0))) :
    Calls Tryz.prog 60 #[.pointer (some ⟨b, 0, none⟩), .pointer (some ⟨b1, 0, none⟩), .pointer (some ⟨b2, 0, none⟩)] W (RowQ ((rowN l (limR n m)).map fun r => (slotsL m (numsI r.1), r.2)) W B b wv tv l) := by
  have c0 : W.cell? ⟨b1, 1, none⟩ = some (.int .i64 (n : Int)) := cell_of hb 1 rfl
  have c1 : W.cell? ⟨b2, 0, none⟩ = some (.int .i64 (m : Int)) := cell_of hb2 0 rfl
  have C := Lib.hid (rvtake_any W B b wv tv l 0 n m ht hl hw hm hn)
  change Hid (Calls _ _ _ _ fun e w' => TkE (rowN l (limR n m)) _ _) at C
  clear ht hl hw hm hn hb hb2
  generalize rowN l (limR n m) = R at *
  go_enter Tryz.func60, Tryz.ntmps60
  go_wp2_with fail
  cases R with
  | none =>
    refine C.out.mono ?_
    rintro e w1 ⟨rfl, ht⟩
    have HT := Lib.hid ht
    clear ht
    go_wp2_with fail
    go_ret3
    exact ⟨rfl, HT.out⟩
  | some r =>
    refine C.out.mono ?_
    rintro e w1 ⟨⟨sp, cp, sd, cd, rfl, ho, -⟩, ht⟩
    have HT := Lib.hid ht; have HO := Lib.hid (rd_of_row ho)
    clear ht ho
    go_wp2_with fail
    go_ret3
    exact ⟨⟨sp, m, cp, sd, _, cd, rfl, HO.out⟩, HT.out⟩

set_option maxRecDepth 100000 in
set_option maxHeartbeats 4000000 in
theorem sweigh1_any (W : World) (B b b1 B1 n T : Nat) (wv tv : Value) (l : List Nat) (sb sl : Option Addr) (cb cl : Nat) (bl : List Nat) (al : List Int) (ht : TapeAt W B b wv tv (zsN l) 0) (hl : l.length < 50000) (hw : W64 l) (g : TabG T n bl al)
    (hb : W.heap[b1]? = some (.cells #[.int .u64 (T : Int), .slice sb n cb, .slice sl n cl] 73 (0, 0)))
    (hrb : W.ownsRow B1 48 1 (.slice sb n cb) n (u64s (zsN bl))) (hra : W.ownsRow B1 3 1 (.slice sl n cl) n (i64s al)) (nb : ∀ g, (Value.slice sb n cb).ownBlock = some g → ¬ tapeBlocks b tv g) (na : ∀ g, (Value.slice sl n cl).ownBlock = some g → ¬ tapeBlocks b tv g) :
    Calls Tryz.prog 100 #[.pointer (some ⟨b, 0, none⟩), .pointer (some ⟨b1, 0, none⟩)] W (RowQ ((rowN l [n, T]).map fun r => ([telA bl al (r.1.getD 0 dwZ).1 (r.1.getD 1 dwZ).1], r.2)) W B b wv tv l) := by
  have c0 : W.cell? ⟨b1, 0, none⟩ = some (.int .u64 (T : Int)) := cell_of hb 0 rfl
  have c1 : W.cell? ⟨b1, 1, none⟩ = some (.slice sb n cb) := cell_of hb 1 rfl
  have c2 : W.cell? ⟨b1, 2, none⟩ = some (.slice sl n cl) := cell_of hb 2 rfl
  have C := Lib.hid (atake_any W B b B1 wv tv l 0 T n sb sl cb cl bl al ht hl hw g hrb hra nb na)
  change Hid (Calls _ _ _ _ (ATkQ W B b wv tv l T n bl al (rowN l [n, T]))) at C
  clear ht hl hw hb hrb hra nb na g
  generalize rowN l [n, T] = R at *
  go_enter Tryz.func100, Tryz.ntmps100
  go_wp2_with fail
  cases R with
  | none =>
    refine C.out.mono ?_
    rintro e w1 ⟨rfl, ht⟩
    have HT := Lib.hid ht
    clear ht
    go_wp2_with fail
    go_ret3
    exact ⟨rfl, HT.out⟩
  | some r =>
    refine C.out.mono ?_
    rintro e w1 ⟨⟨sd, cd, rfl⟩, ht⟩
    have HT := Lib.hid ht
    clear ht
    obtain ⟨t, hte⟩ : ∃ t, t = telA bl al (r.1.getD 0 dwZ).1 (r.1.getD 1 dwZ).1 := ⟨_, rfl⟩
    rw [← hte]
    have HTE := Lib.hid hte
    clear hte
    go_wp2_with fail
    go_ret3
    refine ⟨⟨_, 1, 1, sd, 2, cd, rfl, ?_⟩, HT.out.below ((Below.refl _ _).alloc (Nat.le_refl _) _)⟩
    show Rd _ 1 _ 1 (i64s [telA bl al (r.1.getD 0 dwZ).1 (r.1.getD 1 dwZ).1])
    rw [← HTE.out]
    exact rd_new _ #[.int .i64 t] _ 1 1 rfl (by decide) _ 1 (by simp) (Nat.le_refl _)

end Go.Proofs.YtcoohepkmhpdkaaGreat

namespace Go.Proofs.YtcoohepkmhpdkaaGreat
open Go.RowKit
set_option linter.unusedVariables false
set_option linter.unusedSimpArgs false

/-- what a tape tells of an ask that may be: numbers, how many words came -/
def askD (l : List Nat) (K N k : Int) (ws : List Nat) : Option (List Int × Nat) :=
  if K = 1 then (takeN (ws.getD 0 0) 0 l).map fun d => ([(d.1 : Int)], d.2.2)
  else if K = 2 then (takeM (ws.getD 0 0) 0 l).map fun d => ([(d.1 : Int)], d.2.2)
  else if K = 3 then (rowN l (limH N.toNat)).map fun r => ((permL (choD N.toNat r.1)).map wrapU, r.2)
  else if K = 4 then (rowN l (limS N.toNat k.toNat)).map fun r => ((pickL N.toNat (numsI r.1)).map wrapU, r.2)
  else if K = 5 then (rowN l (limR N.toNat k.toNat)).map fun r => ((slotsL k.toNat (numsI r.1)).map wrapU, r.2)
  else (rowN l [ws.length, ws.sum]).map fun r => ([telA (aliF ws).bl (aliF ws).al (r.1.getD 0 dwZ).1 (r.1.getD 1 dwZ).1].map wrapU, r.2)

/-- a task does with every tape that was there ahead of it what the ask says -/
def DoesIt (S : Nat) (w' : World) (K N k : Int) (ws : List Nat) (g : Value) : Prop :=
  ∃ (F : Nat) (caps : Array Value), g = .func (.func F) #[] caps ∧ (∀ args w, (callFunc F args).run Tryz.prog w = .ok (.enter F args) w) ∧
    ∀ (w2 : World) (B b : Nat) (wv tv : Value) (l : List Nat), Below w'.heap.size w' w2 → TapeAt w2 B b wv tv (zsN l) 0 → (∀ x, tapeBlocks b tv x → x < S) → l.length < 50000 → W64 l →
      Calls Tryz.prog F (#[.pointer (some ⟨b, 0, none⟩)] ++ caps) w2 (DoQ (askD l K N k ws) w2 B b wv tv l)

theorem ent_ltake (args : Array Value) (w : World) : (callFunc 48 args).run Tryz.prog w = .ok (.enter 48 args) w :=
  enters Tryz.func48 (by kernel_rfl) (by kernel_rfl) args w
theorem ent_mtake (args : Array Value) (w : World) : (callFunc 50 args).run Tryz.prog w = .ok (.enter 50 args) w :=
  enters Tryz.func50 (by kernel_rfl) (by kernel_rfl) args w
theorem ent_single1 (args : Array Value) (w : World) : (callFunc 92 args).run Tryz.prog w = .ok (.enter 92 args) w :=
  enters Tryz.func92 (by kernel_rfl) (by kernel_rfl) args w
theorem ent_row1 (args : Array Value) (w : World) : (callFunc 102 args).run Tryz.prog w = .ok (.enter 102 args) w :=
  enters Tryz.func102 (by kernel_rfl) (by kernel_rfl) args w
theorem ent_of1 (args : Array Value) (w : World) : (callFunc 55 args).run Tryz.prog w = .ok (.enter 55 args) w :=
  enters Tryz.func55 (by kernel_rfl) (by kernel_rfl) args w
theorem ent_of2 (args : Array Value) (w : World) : (callFunc 57 args).run Tryz.prog w = .ok (.enter 57 args) w :=
  enters Tryz.func57 (by kernel_rfl) (by kernel_rfl) args w
theorem ent_of3 (args : Array Value) (w : World) : (callFunc 60 args).run Tryz.prog w = .ok (.enter 60 args) w :=
  enters Tryz.func60 (by kernel_rfl) (by kernel_rfl) args w
theorem ent_weigh1 (args : Array Value) (w : World) : (callFunc 100 args).run Tryz.prog w = .ok (.enter 100 args) w :=
  enters Tryz.func100 (by kernel_rfl) (by kernel_rfl) args w

/-- what of answers where nothing is wrong -/
def OfD (w : World) (K N k : Int) (ws : List Nat) (e : Ending) (w' : World) : Prop :=
  ∃ a n c f g, e = .returned (.tuple #[.agg #[.slice a n c, f, g], .int .i64 0]) ∧ f = (if K = 2 then tkMsk else tkLem) ∧
    w'.ownsRow w.heap.size 48 1 (.slice a n c) n (u64s (zsN (askL K N k ws))) ∧ n = (askL K N k ws).length ∧ DoesIt w.heap.size w' K N k ws g ∧ Below w.heap.size w w'

theorem keptB {w w2 : World} {g : Nat} {o : Obj} (h : w.heap[g]? = some o) (hb : Below w.heap.size w w2) : w2.heap[g]? = some o := (hb.block _ (block_lt h)).trans h
theorem setB_kept {w : World} {p : Addr} {v : Value} {g : Nat} {o : Obj} (h : w.heap[g]? = some o) (hne : g ≠ p.block) : (w.setCell p v).heap[g]? = some o := (Below.heap_setCell _ _ _ _ hne).trans h

theorem rowN_len {l ns : List Nat} {r : List Drw × Nat} (h : rowN l ns = some r) : r.1.length = ns.length := by
  have := rowA_len h
  simpa using this

theorem sof_do1 (w : World) (N k : Int) (sa : Option Addr) (n cap : Nat) (ws : List Nat) (h : Rd w 1 (.slice sa n cap) n (u64s (zsN ws))) (hw : W64 ws) (h0 : askE 1 N k ws = 0) :
    Calls Tryz.prog 20 #[.agg #[.int .i64 1, .int .i64 N, .int .i64 k, .slice sa n cap]] w (OfD w 1 N k ws) := by
  have hln : ws.length = n := by have := h.len_u64; rw [zsN_len] at this; exact this.symm
  have h1 : ws.length = 1 := by
    by_cases hh : ws.length = 1
    · exact hh
    · simp [askE, hh] at h0
  obtain rfl : n = 1 := by omega
  obtain ⟨x, rfl⟩ : ∃ x, ws = [x] := List.length_eq_one_iff.1 hln
  have hx : 0 < x := by
    rcases Nat.eq_zero_or_pos x with hh | hh
    · subst hh; simp [askE] at h0
    · exact hh
  have hx2 : x < 2 ^ 64 := hw x (List.mem_singleton.2 rfl)
  have hL : askL 1 N k [x] = [x] := by simp [askL, h0]
  refine (sof_1 w N k sa 1 cap (fun sl f g E w' => E = 0 ∧ ∃ gg b1 b2 : Nat, sl = .slice (some ⟨gg, 0, none⟩) 1 1 ∧ f = tkLem ∧ g = .func (.func 92) #[] #[.pointer (some ⟨b1, 0, none⟩), .pointer (some ⟨b2, 0, none⟩)] ∧
      w'.ownsRow (w.heap.size + 3) 48 1 (.slice (some ⟨gg, 0, none⟩) 1 1) 1 (u64s (zsN [x])) ∧ w'.heap[b1]? = some (.cells #[.func (.func 48) #[] #[]] 92 (0, 0)) ∧ w'.heap[b2]? = some (.cells #[.int .u64 (x : Int)] 48 (0, 0)) ∧ w.heap.size + 3 ≤ b1 ∧ w.heap.size + 3 ≤ b2)
      (fun sl f g E w2 p v hp hr => ?_) ?_).mono ?_
  · obtain ⟨rfl, gg, b1, b2, e1, e2, e3, ho, k1, k2, l1, l2⟩ := hr
    exact ⟨rfl, gg, b1, b2, e1, e2, e3, row_setBelow ho hp, setB_kept k1 (by omega), setB_kept k2 (by omega), l1, l2⟩
  · intro w1 hb hs
    refine (ssingle_ok w1 1 N k sa cap x _ _ (h.below hb) hx).mono ?_
    rintro e w' ⟨g, b1, b2, rfl, ho, k1, k2, l1, l2, hb'⟩
    exact ⟨_, _, _, 0, rfl, TaskShape.mk _ _ _ _ _ _, ⟨rfl, g, b1, b2, rfl, rfl, rfl, row_mono ho (by omega), k1, k2, by omega, by omega⟩, hb'⟩
  · rintro e w' ⟨sl, f, g, E, rfl, ⟨rfl, gg, b1, b2, rfl, rfl, rfl, ho, k1, k2, l1, l2⟩, hb⟩
    refine ⟨_, _, _, _, _, rfl, by simp, by rw [hL]; exact row_mono ho (by omega), by rw [hL]; rfl, ⟨92, _, rfl, ent_single1, ?_⟩, hb⟩
    intro w2 B b wv tv l hb2 ht hS hl hwl
    have hD : askD l 1 N k [x] = (takeN x 0 l).map fun d => ([(d.1 : Int)], d.2.2) := by simp [askD]
    rw [hD]
    refine ssing1_any w2 B b b1 b2 48 x wv tv l (takeN x 0 l) ent_ltake (keptB k1 hb2) (keptB k2 hb2) ?_
    refine (ltake_any w2 B b wv tv l 0 x ht hl hwl hx hx2).mono ?_
    intro e w3 hh
    rw [List.drop_zero] at hh
    unfold DrwQ TkE
    cases htk : takeN x 0 l with
    | none => rw [htk] at hh; exact hh
    | some d => rw [htk] at hh; simpa using hh

theorem sof_do2 (w : World) (N k : Int) (sa : Option Addr) (n cap : Nat) (ws : List Nat) (h : Rd w 1 (.slice sa n cap) n (u64s (zsN ws))) (hw : W64 ws) (h0 : askE 2 N k ws = 0) :
    Calls Tryz.prog 20 #[.agg #[.int .i64 2, .int .i64 N, .int .i64 k, .slice sa n cap]] w (OfD w 2 N k ws) := by
  have hln : ws.length = n := by have := h.len_u64; rw [zsN_len] at this; exact this.symm
  have h1 : ws.length = 1 := by
    by_cases hh : ws.length = 1
    · exact hh
    · simp [askE, hh] at h0
  obtain rfl : n = 1 := by omega
  obtain ⟨x, rfl⟩ : ∃ x, ws = [x] := List.length_eq_one_iff.1 hln
  have hx : 0 < x := by
    rcases Nat.eq_zero_or_pos x with hh | hh
    · subst hh; simp [askE] at h0
    · exact hh
  have hx2 : x < 2 ^ 64 := hw x (List.mem_singleton.2 rfl)
  have hL : askL 2 N k [x] = [x] := by simp [askL, h0]
  refine (sof_2 w N k sa 1 cap (fun sl f g E w' => E = 0 ∧ ∃ gg b1 b2 : Nat, sl = .slice (some ⟨gg, 0, none⟩) 1 1 ∧ f = tkMsk ∧ g = .func (.func 92) #[] #[.pointer (some ⟨b1, 0, none⟩), .pointer (some ⟨b2, 0, none⟩)] ∧
      w'.ownsRow (w.heap.size + 3) 48 1 (.slice (some ⟨gg, 0, none⟩) 1 1) 1 (u64s (zsN [x])) ∧ w'.heap[b1]? = some (.cells #[.func (.func 50) #[] #[]] 92 (0, 0)) ∧ w'.heap[b2]? = some (.cells #[.int .u64 (x : Int)] 48 (0, 0)) ∧ w.heap.size + 3 ≤ b1 ∧ w.heap.size + 3 ≤ b2)
      (fun sl f g E w2 p v hp hr => ?_) ?_).mono ?_
  · obtain ⟨rfl, gg, b1, b2, e1, e2, e3, ho, k1, k2, l1, l2⟩ := hr
    exact ⟨rfl, gg, b1, b2, e1, e2, e3, row_setBelow ho hp, setB_kept k1 (by omega), setB_kept k2 (by omega), l1, l2⟩
  · intro w1 hb hs
    refine (ssingle_ok w1 2 N k sa cap x _ _ (h.below hb) hx).mono ?_
    rintro e w' ⟨g, b1, b2, rfl, ho, k1, k2, l1, l2, hb'⟩
    exact ⟨_, _, _, 0, rfl, TaskShape.mk _ _ _ _ _ _, ⟨rfl, g, b1, b2, rfl, rfl, rfl, row_mono ho (by omega), k1, k2, by omega, by omega⟩, hb'⟩
  · rintro e w' ⟨sl, f, g, E, rfl, ⟨rfl, gg, b1, b2, rfl, rfl, rfl, ho, k1, k2, l1, l2⟩, hb⟩
    refine ⟨_, _, _, _, _, rfl, by simp, by rw [hL]; exact row_mono ho (by omega), by rw [hL]; rfl, ⟨92, _, rfl, ent_single1, ?_⟩, hb⟩
    intro w2 B b wv tv l hb2 ht hS hl hwl
    have hD : askD l 2 N k [x] = (takeM x 0 l).map fun d => ([(d.1 : Int)], d.2.2) := by simp [askD]
    rw [hD]
    refine ssing1_any w2 B b b1 b2 50 x wv tv l (takeM x 0 l) ent_mtake (keptB k1 hb2) (keptB k2 hb2) ?_
    refine (mtake_any w2 B b wv tv l 0 x ht hl hwl hx hx2).mono ?_
    intro e w3 hh
    rw [List.drop_zero] at hh
    unfold DrwQ TkE
    cases htk : takeM x 0 l with
    | none => rw [htk] at hh; exact hh
    | some d => rw [htk] at hh; simpa using hh

theorem sof_do3 (w : World) (N k : Int) (ws : List Nat) (v : Value) (h0 : askE 3 N k ws = 0) :
    Calls Tryz.prog 20 #[.agg #[.int .i64 3, .int .i64 N, .int .i64 k, v]] w (OfD w 3 N k ws) := by
  have hE : askE 3 N k ws = resChk N 0 := by simp [askE]
  have h0' := h0
  rw [hE] at h0'
  obtain ⟨a, b, c, d⟩ := resChk_zero.1 h0'
  obtain ⟨M, rfl⟩ : ∃ M : Nat, N = (M : Int) := ⟨N.toNat, by omega⟩
  have hL : askL 3 M k ws = dnL M (M - 1) := by simp [askL, h0]
  refine (sof_3_ok w M k v (by omega)).mono ?_
  rintro e w' ⟨sl, cl, bx, rfl, ho, k1, k2, -, hb⟩
  refine ⟨_, _, _, _, _, rfl, by simp [tkLem], by rw [hL]; exact ho, by rw [hL, dnL_len], ⟨102, _, rfl, ent_row1, ?_⟩, hb⟩
  intro w2 B b wv tv l hb2 ht hS hl hwl
  have hD : askD l 3 M k ws = ((rowN l (limH M)).map fun r => (permL (choD M r.1), r.2)).map fun r => (r.1.map wrapU, r.2) := by
    simp only [askD, Option.map_map]
    simp
    rfl
  rw [hD]
  refine srow1_any w2 B b bx 55 _ wv tv l _ ent_of1 (keptB k1 hb2) ?_ (sof1_any w2 B b _ M wv tv l _ _ _ ht hl hwl (by omega) (keptB k2 hb2))
  intro r hr
  cases hrow : rowN l (limH M) with
  | none => rw [hrow] at hr; cases hr
  | some q =>
    rw [hrow] at hr
    simp only [Option.map_some, Option.some.injEq] at hr
    subst hr
    rw [permL_len]
    unfold choD
    rw [choH_len]
    omega

theorem sof_do4 (w : World) (N k : Int) (ws : List Nat) (v : Value) (h0 : askE 4 N k ws = 0) :
    Calls Tryz.prog 20 #[.agg #[.int .i64 4, .int .i64 N, .int .i64 k, v]] w (OfD w 4 N k ws) := by
  have hE : askE 4 N k ws = resChk N k := by simp [askE]
  have h0' := h0
  rw [hE] at h0'
  obtain ⟨a, b, c, d⟩ := resChk_zero.1 h0'
  obtain ⟨M, rfl⟩ : ∃ M : Nat, N = (M : Int) := ⟨N.toNat, by omega⟩
  obtain ⟨m, rfl⟩ : ∃ m : Nat, k = (m : Int) := ⟨k.toNat, by omega⟩
  have hL : askL 4 M m ws = dnL M m := by simp [askL, h0]
  refine (sof_4_ok w M m v (by omega) (by omega)).mono ?_
  rintro e w' ⟨sl, cl, bx, rfl, ho, k1, k2, k3, hb⟩
  refine ⟨_, _, _, _, _, rfl, by simp [tkLem], by rw [hL]; exact ho, by rw [hL, dnL_len], ⟨102, _, rfl, ent_row1, ?_⟩, hb⟩
  intro w2 B b wv tv l hb2 ht hS hl hwl
  have hD : askD l 4 M m ws = ((rowN l (limS M m)).map fun r => (pickL M (numsI r.1), r.2)).map fun r => (r.1.map wrapU, r.2) := by
    simp only [askD, Option.map_map]
    simp
    rfl
  rw [hD]
  refine srow1_any w2 B b bx 57 _ wv tv l _ ent_of2 (keptB k1 hb2) ?_ (sof2_any w2 B b _ _ M m wv tv l _ _ _ ht hl hwl (by omega) (by omega) (keptB k2 hb2) (keptB k3 hb2))
  intro r hr
  cases hrow : rowN l (limS M m) with
  | none => rw [hrow] at hr; cases hr
  | some q =>
    have hq := rowN_len hrow
    rw [limS_len] at hq
    rw [hrow] at hr
    simp only [Option.map_some, Option.some.injEq] at hr
    subst hr
    unfold pickL
    rw [pickR_len, numsI_len]
    omega

theorem sof_do5 (w : World) (N k : Int) (ws : List Nat) (v : Value) (h0 : askE 5 N k ws = 0) :
    Calls Tryz.prog 20 #[.agg #[.int .i64 5, .int .i64 N, .int .i64 k, v]] w (OfD w 5 N k ws) := by
  have hE : askE 5 N k ws = resChk N k := by simp [askE]
  have h0' := h0
  rw [hE] at h0'
  obtain ⟨a, b, c, d⟩ := resChk_zero.1 h0'
  obtain ⟨M, rfl⟩ : ∃ M : Nat, N = (M : Int) := ⟨N.toNat, by omega⟩
  obtain ⟨m, rfl⟩ : ∃ m : Nat, k = (m : Int) := ⟨k.toNat, by omega⟩
  have hL : askL 5 M m ws = upL (m + 1) (M - m) := by simp [askL, h0]
  refine (sof_5_ok w M m v (by omega) (by omega)).mono ?_
  rintro e w' ⟨sl, cl, bx, rfl, ho, k1, k2, k3, hb⟩
  refine ⟨_, _, _, _, _, rfl, by simp [tkLem], by rw [hL]; exact ho, by rw [hL, upL_len], ⟨102, _, rfl, ent_row1, ?_⟩, hb⟩
  intro w2 B b wv tv l hb2 ht hS hl hwl
  have hD : askD l 5 M m ws = ((rowN l (limR M m)).map fun r => (slotsL m (numsI r.1), r.2)).map fun r => (r.1.map wrapU, r.2) := by
    simp only [askD, Option.map_map]
    simp
    rfl
  rw [hD]
  refine srow1_any w2 B b bx 60 _ wv tv l _ ent_of3 (keptB k1 hb2) ?_ (sof3_any w2 B b _ _ M m wv tv l _ _ _ ht hl hwl (by omega) (by omega) (keptB k2 hb2) (keptB k3 hb2))
  intro r hr
  cases hrow : rowN l (limR M m) with
  | none => rw [hrow] at hr; cases hr
  | some q =>
    rw [hrow] at hr
    simp only [Option.map_some, Option.some.injEq] at hr
    subst hr
    rw [slotsL_len]
    omega

theorem sof_do6 (w : World) (N k : Int) (sa : Option Addr) (n cap : Nat) (ws : List Nat) (h : Rd w 1 (.slice sa n cap) n (u64s (zsN ws))) (hw : W64 ws) (h0 : askE 6 N k ws = 0) :
    Calls Tryz.prog 20 #[.agg #[.int .i64 6, .int .i64 N, .int .i64 k, .slice sa n cap]] w (OfD w 6 N k ws) := by
  have hln : ws.length = n := by have := h.len_u64; rw [zsN_len] at this; exact this.symm
  have hE : askE 6 N k ws = aliE ws := by simp [askE]
  have h0' := h0
  rw [hE] at h0'
  have hG := aliF_right h0'
  have hL : askL 6 N k ws = [n, ws.sum] := by simp [askL, h0, hln]
  refine (sof_6 w N k sa n cap (fun sl f g E w' => E = 0 ∧ ∃ gg b1 bt bb ba : Nat, sl = .slice (some ⟨gg, 0, none⟩) 2 2 ∧ f = tkLem ∧ g = .func (.func 102) #[] #[.pointer (some ⟨b1, 0, none⟩)] ∧
      w'.ownsRow (w.heap.size + 3) 48 1 (.slice (some ⟨gg, 0, none⟩) 2 2) 2 (u64s (zsN [n, ws.sum])) ∧ w'.heap[b1]? = some (.cells #[.func (.func 100) #[] #[.pointer (some ⟨bt, 0, none⟩)]] 95 (0, 0)) ∧
      w'.heap[bt]? = some (.cells #[.int .u64 (ws.sum : Int), .slice (some ⟨bb, 0, none⟩) n n, .slice (some ⟨ba, 0, none⟩) n n] 73 (0, 0)) ∧ w'.ownsRow (w.heap.size + 3) 48 1 (.slice (some ⟨bb, 0, none⟩) n n) n (u64s (zsN (aliF ws).bl)) ∧ w'.ownsRow (w.heap.size + 3) 3 1 (.slice (some ⟨ba, 0, none⟩) n n) n (i64s (aliF ws).al) ∧ w.heap.size + 3 ≤ b1 ∧ w.heap.size + 3 ≤ bt)
      (fun sl f g E w2 p v hp hr => ?_) ?_).mono ?_
  · obtain ⟨rfl, gg, b1, bt, bb, ba, e1, e2, e3, ho, k1, k2, r1, r2, l1, l2⟩ := hr
    exact ⟨rfl, gg, b1, bt, bb, ba, e1, e2, e3, row_setBelow ho hp, setB_kept k1 (by omega), setB_kept k2 (by omega), row_setBelow r1 hp, row_setBelow r2 hp, l1, l2⟩
  · intro w1 hb hs
    refine (sweigh_ok w1 6 N k sa n cap ws (h.below hb) hw h0').mono ?_
    rintro e w' ⟨g, b1, bt, bb, ba, rfl, ho, k1, k2, r1, r2, l1, l2, hb'⟩
    exact ⟨_, _, _, 0, rfl, TaskShape.mk _ _ _ _ _ _, ⟨rfl, g, b1, bt, bb, ba, rfl, rfl, rfl, row_mono ho (by omega), k1, k2, row_mono r1 (by omega), row_mono r2 (by omega), by omega, by omega⟩, hb'⟩
  · rintro e w' ⟨sl, f, g, E, rfl, ⟨rfl, gg, b1, bt, bb, ba, rfl, rfl, rfl, ho, k1, k2, r1, r2, l1, l2⟩, hb⟩
    refine ⟨_, _, _, _, _, rfl, by simp, by rw [hL]; exact row_mono ho (by omega), by rw [hL]; rfl, ⟨102, _, rfl, ent_row1, ?_⟩, hb⟩
    intro w2 B b wv tv l hb2 ht hS hl hwl
    rw [hln] at hG
    have hD : askD l 6 N k ws = ((rowN l [n, ws.sum]).map fun r => ([telA (aliF ws).bl (aliF ws).al (r.1.getD 0 dwZ).1 (r.1.getD 1 dwZ).1], r.2)).map fun r => (r.1.map wrapU, r.2) := by
      simp only [askD, Option.map_map, hln]
      simp
      rfl
    rw [hD]
    have x1 : ∀ g, (Value.slice (some ⟨bb, 0, none⟩) n n).ownBlock = some g → ¬ tapeBlocks b tv g := fun g hg hx => by have := hS g hx; have := (r1.lt g hg).1; omega
    have x2 : ∀ g, (Value.slice (some ⟨ba, 0, none⟩) n n).ownBlock = some g → ¬ tapeBlocks b tv g := fun g hg hx => by have := hS g hx; have := (r2.lt g hg).1; omega
    have c1 := row_chg r1 (Chg.of_below (S := fun _ => False) hb2) (fun _ _ h => h)
    have c2 := row_chg r2 (Chg.of_below (S := fun _ => False) hb2) (fun _ _ h => h)
    refine srow1_any w2 B b b1 100 _ wv tv l _ ent_weigh1 (keptB k1 hb2) ?_ (sweigh1_any w2 B b bt _ n ws.sum wv tv l _ _ _ _ _ _ ht hl hwl hG (keptB k2 hb2) c1 c2 x1 x2)
    intro r hr
    cases hrow : rowN l [n, ws.sum] with
    | none => rw [hrow] at hr; cases hr
    | some q =>
      rw [hrow] at hr
      simp only [Option.map_some, Option.some.injEq] at hr
      subst hr
      simp

theorem sof_do (w : World) (K N k : Int) (sa : Option Addr) (n cap : Nat) (ws : List Nat) (h : Rd w 1 (.slice sa n cap) n (u64s (zsN ws))) (hw : W64 ws) (h0 : askE K N k ws = 0) :
    Calls Tryz.prog 20 #[.agg #[.int .i64 K, .int .i64 N, .int .i64 k, .slice sa n cap]] w (OfD w K N k ws) := by
  by_cases h1 : K = 1
  · subst h1; exact sof_do1 w N k sa n cap ws h hw h0
  by_cases h2 : K = 2
  · subst h2; exact sof_do2 w N k sa n cap ws h hw h0
  by_cases h3 : K = 3
  · subst h3; exact sof_do3 w N k ws _ h0
  by_cases h4 : K = 4
  · subst h4; exact sof_do4 w N k ws _ h0
  by_cases h5 : K = 5
  · subst h5; exact sof_do5 w N k ws _ h0
  by_cases h6 : K = 6
  · subst h6; exact sof_do6 w N k sa n cap ws h hw h0
  · exfalso
    simp [askE, h1, h2, h3, h4, h5, h6] at h0

end Go.Proofs.YtcoohepkmhpdkaaGreat

namespace Go.Proofs.YtcoohepkmhpdkaaGreat
open Go.RowKit
set_option linter.unusedVariables false
set_option linter.unusedSimpArgs false

/-- what Do answers, of an ask that may be -/
def SDoQ (R : Option (List Int × Nat)) (W : World) (b : Nat) (tv : Value) (l : List Nat) (e : Ending) (w' : World) : Prop :=
  TkE R (fun r => ∃ sp m cp, e = .returned (.tuple #[.slice sp m cp, .int .i64 (r.2 : Int), .int .i64 0]) ∧ Rd w' 1 (.slice sp m cp) m (u64s r.1))
    (e = .returned (.tuple #[.slice none 0 0, .int .i64 (l.length : Int), .int .i64 7])) ∧ Chg (tapeBlocks b tv) W w'

theorem tape_lt {W : World} {B b : Nat} {wv tv : Value} {l : List Int} {k : Nat} (h : TapeAt W B b wv tv l k) : ∀ x, tapeBlocks b tv x → x < W.heap.size := fun x hx => by
  rcases hx with rfl | hx
  · exact block_lt h.2.2.1
  · exact (h.2.2.2.2.1.lt x hx).2

set_option maxRecDepth 100000 in
set_option maxHeartbeats 4000000 in
theorem sdo_ok (W : World) (B b : Nat) (wv tv : Value) (l : List Nat) (ht : TapeAt W B b wv tv (zsN l) 0) (hl : l.length < 50000) (hwl : W64 l)
    (K N k : Int) (sa : Option Addr) (n cap : Nat) (ws : List Nat) (h : Rd W 1 (.slice sa n cap) n (u64s (zsN ws))) (hw : W64 ws) (h0 : askE K N k ws = 0) :
    Calls Tryz.prog 6 #[.pointer (some ⟨b, 0, none⟩), .agg #[.int .i64 K, .int .i64 N, .int .i64 k, .slice sa n cap]] W (SDoQ (askD l K N k ws) W b tv l) := by
  have C := Lib.hid (fun w1 (hb : Below W.heap.size W w1) => sof_do w1 K N k sa n cap ws (h.below hb) hw h0)
  have HT := Lib.hid ht; have HWL := Lib.hid hwl
  obtain ⟨R, hR⟩ : ∃ R, R = askD l K N k ws := ⟨_, rfl⟩
  rw [← hR]
  have HRR := Lib.hid hR
  clear ht hwl h hw h0 hR
  go_enter Tryz.func6, Tryz.ntmps6
  go_wp2_with fail
  refine (C.out _ ((Below.refl _ _).alloc (Nat.le_refl _) _)).mono ?_
  rintro e w1 ⟨ta, tn, tc, f, g, rfl, hf, ho, -, ⟨F, caps, rfl, hent, hdo⟩, hb⟩
  obtain ⟨F1, rfl⟩ : ∃ F1, f = .func (.func F1) #[] #[] := by
    rw [hf]
    split
    · exact ⟨_, rfl⟩
    · exact ⟨_, rfl⟩
  have hb1 : Below W.heap.size W w1 := ((Below.refl W.heap.size W).alloc (Nat.le_refl _) (.cells #[.int .i64 K, .int .i64 N, .int .i64 k, .slice sa n cap] 24)).trans (hb.mono (by simp))
  have HB1 := Lib.hid hb1; have HDO := Lib.hid hdo
  clear hf ho hb hb1 hdo C
  go_wp2_with fail
  have hbl := HB1.out.alloc HB1.out.size (.cells #[.slice ta tn tc, .func (.func F1) #[] #[], .func (.func F) #[] caps] 52)
  obtain ⟨w2, hw2⟩ : ∃ w2, w2 = w1.alloc (.cells #[.slice ta tn tc, .func (.func F1) #[] #[], .func (.func F) #[] caps] 52) := ⟨_, rfl⟩
  rw [← hw2] at hbl ⊢
  have ht2 := HT.out.below hbl
  have C1 := Lib.hid (used_any w2 B b wv tv (zsN l) 0 ht2 (by rw [zsN_len]; exact hl))
  have hlt : ∀ x, tapeBlocks b tv x → x < (W.alloc (.cells #[.int .i64 K, .int .i64 N, .int .i64 k, .slice sa n cap] 24)).heap.size := fun x hx => by
    have := tape_lt HT.out x hx
    simp; omega
  have C2 := HDO.out w2 B b wv tv l (by rw [hw2]; exact (Below.refl _ _).alloc (Nat.le_refl _) _) ht2 hlt hl HWL.out
  rw [← HRR.out] at C2
  have HC2 := Lib.hid C2; have HBL := Lib.hid hbl
  have hbk : w2.heap[w1.heap.size]? = some (.cells #[.slice ta tn tc, .func (.func F1) #[] #[], .func (.func F) #[] caps] 52 (0, 0)) := by rw [hw2]; exact heap_at rfl
  have c2 : w2.cell? ⟨w1.heap.size, 2, none⟩ = some (.func (.func F) #[] caps) := cell_of hbk 2 rfl
  clear hw2 hbl ht2 hlt C2 hbk HDO
  refine C1.out.mono ?_
  rintro e w3 ⟨rfl, rfl⟩
  go_wp2_with fail
  cases R with
  | none =>
    refine HC2.out.mono ?_
    rintro e w4 ⟨rfl, ⟨tv4, h6, h7⟩, h8⟩
    have C3 := used_any w4 B b wv tv4 (zsN l) l.length h6 (by rw [zsN_len]; exact hl)
    have HC3 := Lib.hid C3; have H8 := Lib.hid h8
    have hll : l.length ≤ 50000 := by omega
    clear h6 h7 h8 C3 HC2
    go_wp2_with fail
    refine HC3.out.mono ?_
    rintro e w5 ⟨rfl, rfl⟩
    go_wp2_with fail
    go_ret3
    exact ⟨rfl, (Chg.of_below HBL.out).trans' H8.out (fun i hi _ => hi)⟩
  | some r =>
    refine HC2.out.mono ?_
    rintro e w4 ⟨⟨sp, m, cp, rfl, hr⟩, ⟨tv4, h6, h7⟩, h8⟩
    have C3 := used_any w4 B b wv tv4 (zsN l) r.2 h6 (by rw [zsN_len]; exact hl)
    have hk4 : r.2 ≤ 50000 := by have := h6.1; rw [zsN_len] at this; omega
    obtain ⟨r1, r2⟩ := r
    simp only at hk4 C3 hr
    have HC3 := Lib.hid C3; have H8 := Lib.hid h8; have HRD := Lib.hid hr
    clear h6 h7 h8 C3 hr HC2
    go_wp2_with fail
    refine HC3.out.mono ?_
    rintro e w5 ⟨rfl, rfl⟩
    go_wp2_with fail
    go_ret3
    exact ⟨⟨sp, m, cp, rfl, HRD.out⟩, (Chg.of_below HBL.out).trans' H8.out (fun i hi _ => hi)⟩

set_option maxRecDepth 100000 in
set_option maxHeartbeats 4000000 in
theorem sdo_bad (W : World) (v : Value) (K N k : Int) (sa : Option Addr) (n cap : Nat) (ws : List Nat) (h : Rd W 1 (.slice sa n cap) n (u64s (zsN ws))) (hw : W64 ws) (hn : n ≤ 17592186043904) (h0 : askE K N k ws ≠ 0) :
    Calls Tryz.prog 6 #[v, .agg #[.int .i64 K, .int .i64 N, .int .i64 k, .slice sa n cap]] W fun e w' => e = .returned (.tuple #[.slice none 0 0, .int .i64 0, .int .i64 (askE K N k ws)]) ∧ Below W.heap.size W w' := by
  have C := Lib.hid (fun w1 (hb : Below W.heap.size W w1) => sof_any w1 K N k sa n cap ws (h.below hb) hw hn)
  obtain ⟨E, hE⟩ : ∃ E, E = askE K N k ws := ⟨_, rfl⟩
  rw [← hE] at h0 ⊢
  have q : (E != 0) = true := by simpa using h0
  have HE := Lib.hid hE
  clear h hw hn hE h0
  go_enter Tryz.func6, Tryz.ntmps6
  go_wp2_with fail
  refine (C.out _ ((Below.refl _ _).alloc (Nat.le_refl _) _)).mono ?_
  rintro e w1 ⟨sl, f, g, rfl, sh, -, hb⟩
  rw [← HE.out]
  have HB := Lib.hid (((Below.refl W.heap.size W).alloc (Nat.le_refl _) (.cells #[.int .i64 K, .int .i64 N, .int .i64 k, .slice sa n cap] 24)).trans (hb.mono (by simp)))
  clear hb
  rcases sh with ⟨rfl, rfl, rfl⟩ | ⟨a1, a2, a3, a4, a5, a6, rfl, rfl, rfl⟩
  all_goals
    go_wp2_with fail
    go_ret3
    exact ⟨rfl, HB.out.alloc HB.out.size _⟩

end Go.Proofs.YtcoohepkmhpdkaaGreat
